/- What the proof of this claim stands on, part 12. -/
import Derived.Test.YtehagcggdepajaaGreatAmZ11
/- AM: contracts: what the statements' own helpers do with items, messages, nodes. -/
namespace Go.AM
set_option linter.unusedSimpArgs false
set_option linter.unusedVariables false
set_option maxRecDepth 8000
set_option maxHeartbeats 0
theorem law_SameItems (xs ys : List Item) (hl : xs.length ≤ cap) : Den PP 44 [itemsD xs, itemsD ys] [] (.bool (decide (xs = ys))) [] := by
  refine den_of [] [] is_gimmallaw0_SameItems ?_
  simp -implicitDefEqProofs [c_gimmallaw0_SameItems, itemsD]
  refine condC_split (fun h => ?_) (fun h => ?_)
  · simp -implicitDefEqProofs
    grind
  have hlen : xs.length = ys.length := by simp at h; omega
  simp -implicitDefEqProofs
  refine list_rule xs (fun i rest => fun ⟨fr, bs⟩ => bs = [] ∧ fr 0 = .sl (xs.map Item.row) xs.length ∧ fr 1 = .sl (ys.map Item.row) ys.length ∧ fr 5 = .int .i64 i ∧ (rest = ys.drop i ↔ xs = ys))
    (fun ⟨fr, bs⟩ => bs = [] ∧ xs = ys) (fun ⟨fr, bs⟩ => fr 4 = .bool false ∧ ¬ xs = ys) c_gimmallaw0_SameItems_L0.eq_1 ?_ ?_ ?_ ?_ ?_
  · exact ⟨rfl, rfl, rfl, rfl, by simp⟩
  · rintro i ⟨fr, bs⟩ hi ⟨rfl, h0, h1, h5, he⟩
    simp -implicitDefEqProofs [*]
    grind
  · rintro i a rest ⟨fr, bs⟩ hlt hget hg hd hd2 ⟨rfl, h0, h1, h5, he⟩
    have hlt' : (i : Int) < xs.length := by omega
    have hlt2 : i < ys.length := by omega
    have hlt3 : (i : Int) < ys.length := by omega
    have hw := wrap_next (n := i) (by unfold cap at hl; omega)
    rw [List.drop_eq_getElem_cons hlt2] at he
    generalize hy : ys[i] = b at he
    simp -implicitDefEqProofs [h0, h1, h5, hlt, hlt', hlt2, hlt3, hget, hg, hy, Item.row, EQS]
    repeat' ((first | with_reducible refine gOps_dec (fun _ => ?_) (fun _ => ?_) | with_reducible refine gOps_ndec (fun _ => ?_) (fun _ => ?_) | (with_reducible refine gOps_and (fun hq => ?_) (fun hq => ?_) <;> (try simp at hq)) | (with_reducible refine gOps_or (fun hq => ?_) (fun hq => ?_) <;> (try simp at hq)) | (with_reducible refine gOps_not (fun hq => ?_) (fun hq => ?_) <;> (try simp at hq)) | (with_reducible refine gOps_split (fun hq => ?_) (fun hq => ?_) <;> (try simp at hq)) | with_reducible refine condC_dec (fun _ => ?_) (fun _ => ?_) | with_reducible refine condC_ndec (fun _ => ?_) (fun _ => ?_) | (with_reducible refine condC_and (fun hq => ?_) (fun hq => ?_) <;> (try simp at hq)) | (with_reducible refine condC_or (fun hq => ?_) (fun hq => ?_) <;> (try simp at hq)) | (with_reducible refine condC_not (fun hq => ?_) (fun hq => ?_) <;> (try simp at hq)) | (with_reducible refine condC_split (fun hq => ?_) (fun hq => ?_) <;> (try simp at hq)) | refine appK2_if (by omega) ?_ | refine pureV_if (by omega) ?_) <;> simp -implicitDefEqProofs [*, EQS, hw, Item.row])
    all_goals (obtain ⟨_, _, _, _, _⟩ := a; obtain ⟨_, _, _, _, _⟩ := b; grind)
  · rintro ⟨fr, bs⟩ ⟨rfl, h6⟩
    simp -implicitDefEqProofs [*]
  · rintro ⟨fr, bs⟩ h
    simp -implicitDefEqProofs [h.1, h.2]
theorem law_SameTolds (xs ys : List Told) (hl : xs.length ≤ cap) : Den PP 99 [toldsD xs, toldsD ys] [] (.bool (decide (xs = ys))) [] := by
  refine den_of [] [] is_gimmallaw0_SameTolds ?_
  simp -implicitDefEqProofs [c_gimmallaw0_SameTolds, toldsD]
  refine condC_split (fun h => ?_) (fun h => ?_)
  · simp -implicitDefEqProofs
    grind
  have hlen : xs.length = ys.length := by simp at h; omega
  simp -implicitDefEqProofs
  refine list_rule xs (fun i rest => fun ⟨fr, bs⟩ => bs = [] ∧ fr 0 = .sl (xs.map Told.row) xs.length ∧ fr 1 = .sl (ys.map Told.row) ys.length ∧ fr 5 = .int .i64 i ∧ (rest = ys.drop i ↔ xs = ys))
    (fun ⟨fr, bs⟩ => bs = [] ∧ xs = ys) (fun ⟨fr, bs⟩ => fr 4 = .bool false ∧ ¬ xs = ys) c_gimmallaw0_SameTolds_L0.eq_1 ?_ ?_ ?_ ?_ ?_
  · exact ⟨rfl, rfl, rfl, rfl, by simp⟩
  · rintro i ⟨fr, bs⟩ hi ⟨rfl, h0, h1, h5, he⟩
    simp -implicitDefEqProofs [*]
    grind
  · rintro i a rest ⟨fr, bs⟩ hlt hget hg hd hd2 ⟨rfl, h0, h1, h5, he⟩
    have hlt' : (i : Int) < xs.length := by omega
    have hlt2 : i < ys.length := by omega
    have hlt3 : (i : Int) < ys.length := by omega
    have hw := wrap_next (n := i) (by unfold cap at hl; omega)
    rw [List.drop_eq_getElem_cons hlt2] at he
    generalize hy : ys[i] = b at he
    simp -implicitDefEqProofs [h0, h1, h5, hlt, hlt', hlt2, hlt3, hget, hg, hy, Told.row, EQS]
    repeat' ((first | with_reducible refine gOps_dec (fun _ => ?_) (fun _ => ?_) | with_reducible refine gOps_ndec (fun _ => ?_) (fun _ => ?_) | (with_reducible refine gOps_and (fun hq => ?_) (fun hq => ?_) <;> (try simp at hq)) | (with_reducible refine gOps_or (fun hq => ?_) (fun hq => ?_) <;> (try simp at hq)) | (with_reducible refine gOps_not (fun hq => ?_) (fun hq => ?_) <;> (try simp at hq)) | (with_reducible refine gOps_split (fun hq => ?_) (fun hq => ?_) <;> (try simp at hq)) | with_reducible refine condC_dec (fun _ => ?_) (fun _ => ?_) | with_reducible refine condC_ndec (fun _ => ?_) (fun _ => ?_) | (with_reducible refine condC_and (fun hq => ?_) (fun hq => ?_) <;> (try simp at hq)) | (with_reducible refine condC_or (fun hq => ?_) (fun hq => ?_) <;> (try simp at hq)) | (with_reducible refine condC_not (fun hq => ?_) (fun hq => ?_) <;> (try simp at hq)) | (with_reducible refine condC_split (fun hq => ?_) (fun hq => ?_) <;> (try simp at hq)) | refine appK2_if (by omega) ?_ | refine pureV_if (by omega) ?_) <;> simp -implicitDefEqProofs [*, EQS, hw, Told.row])
    all_goals (obtain ⟨_, _, _⟩ := a; obtain ⟨_, _, _⟩ := b; grind)
  · rintro ⟨fr, bs⟩ ⟨rfl, h6⟩
    simp -implicitDefEqProofs [*]
  · rintro ⟨fr, bs⟩ h
    simp -implicitDefEqProofs [h.1, h.2]
theorem law_SameMsg (a b : Msg) (hl : a.ids.length ≤ cap) : Den PP 34 [msgD a, msgD b] [] (.bool (decide (a = b))) [] := by
  have h1 := law_SameInts a.ids b.ids hl
  simp only [intsD] at h1
  refine den_of [] [] is_gimmallaw0_SameMsg ?_
  simp -implicitDefEqProofs [c_gimmallaw0_SameMsg, msgD, Msg.row, intsD, EQS]
  repeat' ((first | refine callThen_of (by first | exact h1) ?_ | with_reducible refine gOps_dec (fun _ => ?_) (fun _ => ?_) | with_reducible refine gOps_ndec (fun _ => ?_) (fun _ => ?_) | (with_reducible refine gOps_and (fun hq => ?_) (fun hq => ?_) <;> (try simp at hq)) | (with_reducible refine gOps_or (fun hq => ?_) (fun hq => ?_) <;> (try simp at hq)) | (with_reducible refine gOps_not (fun hq => ?_) (fun hq => ?_) <;> (try simp at hq)) | (with_reducible refine gOps_split (fun hq => ?_) (fun hq => ?_) <;> (try simp at hq)) | with_reducible refine condC_dec (fun _ => ?_) (fun _ => ?_) | with_reducible refine condC_ndec (fun _ => ?_) (fun _ => ?_) | (with_reducible refine condC_and (fun hq => ?_) (fun hq => ?_) <;> (try simp at hq)) | (with_reducible refine condC_or (fun hq => ?_) (fun hq => ?_) <;> (try simp at hq)) | (with_reducible refine condC_not (fun hq => ?_) (fun hq => ?_) <;> (try simp at hq)) | (with_reducible refine condC_split (fun hq => ?_) (fun hq => ?_) <;> (try simp at hq)) | refine appK2_if (by omega) ?_ | refine pureV_if (by omega) ?_) <;> simp -implicitDefEqProofs [*, EQS])
  all_goals (obtain ⟨_, _, _, _, _, ⟨_, _, _, _, _⟩, _⟩ := a; obtain ⟨_, _, _, _, _, ⟨_, _, _, _, _⟩, _⟩ := b; grind)
theorem law_SameMsgs (xs ys : List Msg) (hl : xs.length ≤ cap16) (hi : ∀ m ∈ xs, m.ids.length ≤ cap) : Den PP 31 [msgsD xs, msgsD ys] [] (.bool (decide (xs = ys))) [] := by
  refine den_of [] [] is_gimmallaw0_SameMsgs ?_
  simp -implicitDefEqProofs [c_gimmallaw0_SameMsgs, msgsD]
  refine condC_split (fun h => ?_) (fun h => ?_)
  · simp -implicitDefEqProofs
    grind
  have hlen : xs.length = ys.length := by simp at h; omega
  simp -implicitDefEqProofs
  refine list_rule xs (fun i rest => fun ⟨fr, bs⟩ => bs = [] ∧ fr 0 = .sl (xs.map Msg.row) xs.length ∧ fr 1 = .sl (ys.map Msg.row) ys.length ∧ fr 5 = .int .i64 i ∧ (rest = ys.drop i ↔ xs = ys))
    (fun ⟨fr, bs⟩ => bs = [] ∧ xs = ys) (fun ⟨fr, bs⟩ => fr 4 = .bool false ∧ ¬ xs = ys) c_gimmallaw0_SameMsgs_L0.eq_1 ?_ ?_ ?_ ?_ ?_
  · exact ⟨rfl, rfl, rfl, rfl, by simp⟩
  · rintro i ⟨fr, bs⟩ hi ⟨rfl, h0, h1, h5, he⟩
    simp -implicitDefEqProofs [*]
    grind
  · rintro i a rest ⟨fr, bs⟩ hlt hget hg hd hd2 ⟨rfl, h0, h1, h5, he⟩
    have hlt' : (i : Int) < xs.length := by omega
    have hlt2 : i < ys.length := by omega
    have hlt3 : (i : Int) < ys.length := by omega
    have hw := wrap_next (n := i) (by unfold cap16 at hl; omega)
    rw [List.drop_eq_getElem_cons hlt2] at he
    generalize hy : ys[i] = b at he
    obtain ⟨e, hab⟩ : ∃ e, decide (a = b) = e := ⟨_, rfl⟩
    have c1 := law_SameMsg a b (hi a (List.mem_of_getElem? hget))
    rw [hab] at c1
    simp only [msgD, Msg.row] at c1
    simp -implicitDefEqProofs [h0, h1, h5, hlt, hlt', hlt2, hlt3, hget, hg, hy, Msg.row, EQS]
    repeat' ((first | refine callThen_of (by first | exact c1) ?_ | with_reducible refine gOps_dec (fun _ => ?_) (fun _ => ?_) | with_reducible refine gOps_ndec (fun _ => ?_) (fun _ => ?_) | (with_reducible refine gOps_and (fun hq => ?_) (fun hq => ?_) <;> (try simp at hq)) | (with_reducible refine gOps_or (fun hq => ?_) (fun hq => ?_) <;> (try simp at hq)) | (with_reducible refine gOps_not (fun hq => ?_) (fun hq => ?_) <;> (try simp at hq)) | (with_reducible refine gOps_split (fun hq => ?_) (fun hq => ?_) <;> (try simp at hq)) | with_reducible refine condC_dec (fun _ => ?_) (fun _ => ?_) | with_reducible refine condC_ndec (fun _ => ?_) (fun _ => ?_) | (with_reducible refine condC_and (fun hq => ?_) (fun hq => ?_) <;> (try simp at hq)) | (with_reducible refine condC_or (fun hq => ?_) (fun hq => ?_) <;> (try simp at hq)) | (with_reducible refine condC_not (fun hq => ?_) (fun hq => ?_) <;> (try simp at hq)) | (with_reducible refine condC_split (fun hq => ?_) (fun hq => ?_) <;> (try simp at hq)) | refine appK2_if (by omega) ?_ | refine pureV_if (by omega) ?_) <;> simp -implicitDefEqProofs [*, EQS, hw, Msg.row])
    all_goals (by_cases hq : a = b <;> grind)
  · rintro ⟨fr, bs⟩ ⟨rfl, h6⟩
    simp -implicitDefEqProofs [*]
  · rintro ⟨fr, bs⟩ h
    simp -implicitDefEqProofs [h.1, h.2]
theorem law_SameNode (x y : Node) (hs : x.small) : Den PP 30 [nodeD x, nodeD y] [] (.bool (decide (x = y))) [] := by
  have c1 := law_SameView x.view y.view hs.1
  have c2 := law_SameItems x.items y.items (by have := hs.2.1; unfold cap; omega)
  have c3 := law_SameTolds x.log y.log (by have := hs.2.2; unfold cap; omega)
  simp only [viewD, View.cells, peersD, intsD, itemsD, toldsD] at c1 c2 c3
  refine den_of [] [] is_gimmallaw0_SameNode ?_
  simp -implicitDefEqProofs [c_gimmallaw0_SameNode, nodeD, Node.cells, peersD, intsD, itemsD, toldsD]
  refine gOps_split (fun h => ?_) (fun h => ?_)
  all_goals simp -implicitDefEqProofs [h]
  all_goals repeat' ((first | refine callThen_of (by first | exact c1 | exact c2 | exact c3) ?_ | with_reducible refine gOps_dec (fun _ => ?_) (fun _ => ?_) | with_reducible refine gOps_ndec (fun _ => ?_) (fun _ => ?_) | (with_reducible refine gOps_and (fun hq => ?_) (fun hq => ?_) <;> (try simp at hq)) | (with_reducible refine gOps_or (fun hq => ?_) (fun hq => ?_) <;> (try simp at hq)) | (with_reducible refine gOps_not (fun hq => ?_) (fun hq => ?_) <;> (try simp at hq)) | (with_reducible refine gOps_split (fun hq => ?_) (fun hq => ?_) <;> (try simp at hq)) | with_reducible refine condC_dec (fun _ => ?_) (fun _ => ?_) | with_reducible refine condC_ndec (fun _ => ?_) (fun _ => ?_) | (with_reducible refine condC_and (fun hq => ?_) (fun hq => ?_) <;> (try simp at hq)) | (with_reducible refine condC_or (fun hq => ?_) (fun hq => ?_) <;> (try simp at hq)) | (with_reducible refine condC_not (fun hq => ?_) (fun hq => ?_) <;> (try simp at hq)) | (with_reducible refine condC_split (fun hq => ?_) (fun hq => ?_) <;> (try simp at hq)) | refine appK2_if (by omega) ?_ | refine pureV_if (by omega) ?_) <;> simp -implicitDefEqProofs [*])
  all_goals (obtain ⟨_, _, _, _⟩ := x; obtain ⟨_, _, _, _⟩ := y; grind)
theorem law_CopyNode (x : Node) (hs : x.small) : Den PP 26 [nodeD x] [] (.agg [.bool x.up, .int .i64 x.view.id, .ref 0 0 x.view.peers.length, .ref 1 0 x.view.passive.length, .ref 2 0 x.items.length, .ref 3 0 x.log.length])
    [⟨x.view.peers.map Peer.row, 2, .mut⟩, ⟨x.view.passive.map irow, 1, .mut⟩, ⟨x.items.map Item.row, 5, .mut⟩, ⟨x.log.map Told.row, 3, .mut⟩] := by
  have c1 := law_CopyView x.view hs.1
  simp only [viewD, View.cells, peersD, intsD] at c1
  obtain ⟨⟨h1, h2⟩, h3, h4⟩ := hs
  unfold cap16 at h1
  unfold cap at h2
  refine den_of [5] [] is_gimmallaw0_CopyNode ?_
  simp -implicitDefEqProofs [c_gimmallaw0_CopyNode, nodeD, Node.cells, peersD, intsD, itemsD, toldsD]
  repeat' ((first | refine callThen_of (by first | exact c1) ?_ | with_reducible refine gOps_dec (fun _ => ?_) (fun _ => ?_) | with_reducible refine gOps_ndec (fun _ => ?_) (fun _ => ?_) | (with_reducible refine gOps_and (fun hq => ?_) (fun hq => ?_) <;> (try simp at hq)) | (with_reducible refine gOps_or (fun hq => ?_) (fun hq => ?_) <;> (try simp at hq)) | (with_reducible refine gOps_not (fun hq => ?_) (fun hq => ?_) <;> (try simp at hq)) | (with_reducible refine gOps_split (fun hq => ?_) (fun hq => ?_) <;> (try simp at hq)) | with_reducible refine condC_dec (fun _ => ?_) (fun _ => ?_) | with_reducible refine condC_ndec (fun _ => ?_) (fun _ => ?_) | (with_reducible refine condC_and (fun hq => ?_) (fun hq => ?_) <;> (try simp at hq)) | (with_reducible refine condC_or (fun hq => ?_) (fun hq => ?_) <;> (try simp at hq)) | (with_reducible refine condC_not (fun hq => ?_) (fun hq => ?_) <;> (try simp at hq)) | (with_reducible refine condC_split (fun hq => ?_) (fun hq => ?_) <;> (try simp at hq)) | refine appK2_if (by omega) ?_ | refine pureV_if (by omega) ?_) <;> simp -implicitDefEqProofs [*])
theorem law_SpoilInts_nil : Den PP 103 [.nil] [] (.tup []) [] := by
  refine den_of [] [] is_gimmallaw0_SpoilInts ?_
  simp -implicitDefEqProofs [c_gimmallaw0_SpoilInts]
  refine loop_rule 0 (fun _ ⟨fr, bs⟩ => bs = [] ∧ fr 0 = .nil ∧ fr 2 = .int .i64 0) (fun ⟨fr, bs⟩ => bs = []) (fun _ => False) c_gimmallaw0_SpoilInts_L0.eq_1 ?_ ?_ ?_ ?_ ?_
  · exact ⟨rfl, rfl, rfl⟩
  · rintro ⟨fr, bs⟩ ⟨rfl, h0, h2⟩
    simp -implicitDefEqProofs [h0, h2]
  · rintro m ⟨fr, bs⟩ ⟨rfl, h0, h2⟩
    simp -implicitDefEqProofs [h0, h2]
  · rintro ⟨fr, bs⟩ rfl
    simp -implicitDefEqProofs
  · rintro ⟨fr, bs⟩ h
    exact h.elim
end Go.AM
/- AM: contracts: what the statements' helpers do with slices. -/
namespace Go.AM
set_option linter.unusedSimpArgs false
set_option linter.unusedVariables false
set_option maxRecDepth 8000
set_option maxHeartbeats 0
def spoilInt (a : Int) : Int := IntKind.wrap .i64 (-9 - a)
theorem spoil_Int (xs : List Int) (hl : xs.length ≤ cap16) : Den PP 103 [.ref 0 0 xs.length] [⟨xs.map irow, 1, .mut⟩] (.tup []) [⟨(xs.map spoilInt).map irow, 1, .mut⟩] := by
  unfold cap16 at hl
  refine den_of [] [] is_gimmallaw0_SpoilInts ?_
  simp -implicitDefEqProofs [c_gimmallaw0_SpoilInts]
  refine list_rule xs (fun i rest => fun ⟨fr, bs⟩ => ∃ done, bs = [⟨(done ++ rest).map irow, 1, .mut⟩] ∧ done.length = i ∧ done ++ rest.map spoilInt = xs.map spoilInt ∧ fr 0 = .ref 0 0 xs.length ∧ fr 2 = .int .i64 i)
    (fun ⟨fr, bs⟩ => bs = [⟨(xs.map spoilInt).map irow, 1, .mut⟩]) (fun ⟨fr, bs⟩ => False) c_gimmallaw0_SpoilInts_L0.eq_1 ?_ ?_ ?_ ?_ ?_
  · exact ⟨[], rfl, rfl, rfl, rfl, rfl⟩
  · rintro i ⟨fr, bs⟩ hi ⟨done, rfl, hd, he, h0, h2⟩
    simp -implicitDefEqProofs [h0, h2, hi]
    simp at he
    simp [he]
  · rintro i a rest ⟨fr, bs⟩ hlt hget hg hd hd2 ⟨done, rfl, hdl, he, h0, h2⟩
    have hlt' : (i : Int) < xs.length := by omega
    have hw := wrap_next (n := i) (by omega)
    have h3 : ∀ (A B : List (List D)) r, A.length = i → (A ++ r :: B)[i]? = some r := by intro A B r h; simp [← h]
    have h4 : ∀ (A B : List (List D)) r r', A.length = i → (A ++ r' :: B).set i r = A ++ r :: B := by intro A B r r' h; simp [← h]
    simp -implicitDefEqProofs [h0, h2, hlt', h3, h4, hdl, irow, hw, reach, downTo]
    exact ⟨done ++ [spoilInt a], by first | (simp [irow, spoilInt]; done) | (simp [irow, spoilInt]; rfl), by simp [hdl], by simpa using he⟩
  · rintro ⟨fr, bs⟩ rfl
    try simp -implicitDefEqProofs
  · rintro ⟨fr, bs⟩ h
    exact h.elim
def spoilPeer (a : Peer) : Peer := { a with missed := (IntKind.wrap .i64 (BitVec.ofInt IntKind.i64.bits a.missed ^^^ BitVec.ofInt IntKind.i64.bits 90).toNat) }
theorem spoil_Peer (xs : List Peer) (hl : xs.length ≤ cap16) : Den PP 177 [.ref 0 0 xs.length] [⟨xs.map Peer.row, 2, .mut⟩] (.tup []) [⟨(xs.map spoilPeer).map Peer.row, 2, .mut⟩] := by
  unfold cap16 at hl
  refine den_of [] [] is_gimmallaw0_SpoilPeers ?_
  simp -implicitDefEqProofs [c_gimmallaw0_SpoilPeers]
  refine list_rule xs (fun i rest => fun ⟨fr, bs⟩ => ∃ done, bs = [⟨(done ++ rest).map Peer.row, 2, .mut⟩] ∧ done.length = i ∧ done ++ rest.map spoilPeer = xs.map spoilPeer ∧ fr 0 = .ref 0 0 xs.length ∧ fr 2 = .int .i64 i)
    (fun ⟨fr, bs⟩ => bs = [⟨(xs.map spoilPeer).map Peer.row, 2, .mut⟩]) (fun ⟨fr, bs⟩ => False) c_gimmallaw0_SpoilPeers_L0.eq_1 ?_ ?_ ?_ ?_ ?_
  · exact ⟨[], rfl, rfl, rfl, rfl, rfl⟩
  · rintro i ⟨fr, bs⟩ hi ⟨done, rfl, hd, he, h0, h2⟩
    simp -implicitDefEqProofs [h0, h2, hi]
    simp at he
    simp [he]
  · rintro i a rest ⟨fr, bs⟩ hlt hget hg hd hd2 ⟨done, rfl, hdl, he, h0, h2⟩
    have hlt' : (i : Int) < xs.length := by omega
    have hw := wrap_next (n := i) (by omega)
    have h3 : ∀ (A B : List (List D)) r, A.length = i → (A ++ r :: B)[i]? = some r := by intro A B r h; simp [← h]
    have h4 : ∀ (A B : List (List D)) r r', A.length = i → (A ++ r' :: B).set i r = A ++ r :: B := by intro A B r r' h; simp [← h]
    simp -implicitDefEqProofs [h0, h2, hlt', h3, h4, hdl, Peer.row, hw, reach, downTo]
    exact ⟨done ++ [spoilPeer a], by first | (simp [Peer.row, spoilPeer]; done) | (simp [Peer.row, spoilPeer]; rfl), by simp [hdl], by simpa using he⟩
  · rintro ⟨fr, bs⟩ rfl
    try simp -implicitDefEqProofs
  · rintro ⟨fr, bs⟩ h
    exact h.elim
def spoilItem (a : Item) : Item := { a with value := (IntKind.wrap .i64 (BitVec.ofInt IntKind.i64.bits a.value ^^^ BitVec.ofInt IntKind.i64.bits 90).toNat) }
theorem spoil_Item (xs : List Item) (hl : xs.length ≤ cap16) : Den PP 101 [.ref 0 0 xs.length] [⟨xs.map Item.row, 5, .mut⟩] (.tup []) [⟨(xs.map spoilItem).map Item.row, 5, .mut⟩] := by
  unfold cap16 at hl
  refine den_of [] [] is_gimmallaw0_SpoilItems ?_
  simp -implicitDefEqProofs [c_gimmallaw0_SpoilItems]
  refine list_rule xs (fun i rest => fun ⟨fr, bs⟩ => ∃ done, bs = [⟨(done ++ rest).map Item.row, 5, .mut⟩] ∧ done.length = i ∧ done ++ rest.map spoilItem = xs.map spoilItem ∧ fr 0 = .ref 0 0 xs.length ∧ fr 2 = .int .i64 i)
    (fun ⟨fr, bs⟩ => bs = [⟨(xs.map spoilItem).map Item.row, 5, .mut⟩]) (fun ⟨fr, bs⟩ => False) c_gimmallaw0_SpoilItems_L0.eq_1 ?_ ?_ ?_ ?_ ?_
  · exact ⟨[], rfl, rfl, rfl, rfl, rfl⟩
  · rintro i ⟨fr, bs⟩ hi ⟨done, rfl, hd, he, h0, h2⟩
    simp -implicitDefEqProofs [h0, h2, hi]
    simp at he
    simp [he]
  · rintro i a rest ⟨fr, bs⟩ hlt hget hg hd hd2 ⟨done, rfl, hdl, he, h0, h2⟩
    have hlt' : (i : Int) < xs.length := by omega
    have hw := wrap_next (n := i) (by omega)
    have h3 : ∀ (A B : List (List D)) r, A.length = i → (A ++ r :: B)[i]? = some r := by intro A B r h; simp [← h]
    have h4 : ∀ (A B : List (List D)) r r', A.length = i → (A ++ r' :: B).set i r = A ++ r :: B := by intro A B r r' h; simp [← h]
    simp -implicitDefEqProofs [h0, h2, hlt', h3, h4, hdl, Item.row, hw, reach, downTo]
    exact ⟨done ++ [spoilItem a], by first | (simp [Item.row, spoilItem]; done) | (simp [Item.row, spoilItem]; rfl), by simp [hdl], by simpa using he⟩
  · rintro ⟨fr, bs⟩ rfl
    try simp -implicitDefEqProofs
  · rintro ⟨fr, bs⟩ h
    exact h.elim
def spoilTold (a : Told) : Told := { a with value := (IntKind.wrap .i64 (BitVec.ofInt IntKind.i64.bits a.value ^^^ BitVec.ofInt IntKind.i64.bits 90).toNat) }
theorem spoil_Told (xs : List Told) (hl : xs.length ≤ cap16) : Den PP 102 [.ref 0 0 xs.length] [⟨xs.map Told.row, 3, .mut⟩] (.tup []) [⟨(xs.map spoilTold).map Told.row, 3, .mut⟩] := by
  unfold cap16 at hl
  refine den_of [] [] is_gimmallaw0_SpoilTolds ?_
  simp -implicitDefEqProofs [c_gimmallaw0_SpoilTolds]
  refine list_rule xs (fun i rest => fun ⟨fr, bs⟩ => ∃ done, bs = [⟨(done ++ rest).map Told.row, 3, .mut⟩] ∧ done.length = i ∧ done ++ rest.map spoilTold = xs.map spoilTold ∧ fr 0 = .ref 0 0 xs.length ∧ fr 2 = .int .i64 i)
    (fun ⟨fr, bs⟩ => bs = [⟨(xs.map spoilTold).map Told.row, 3, .mut⟩]) (fun ⟨fr, bs⟩ => False) c_gimmallaw0_SpoilTolds_L0.eq_1 ?_ ?_ ?_ ?_ ?_
  · exact ⟨[], rfl, rfl, rfl, rfl, rfl⟩
  · rintro i ⟨fr, bs⟩ hi ⟨done, rfl, hd, he, h0, h2⟩
    simp -implicitDefEqProofs [h0, h2, hi]
    simp at he
    simp [he]
  · rintro i a rest ⟨fr, bs⟩ hlt hget hg hd hd2 ⟨done, rfl, hdl, he, h0, h2⟩
    have hlt' : (i : Int) < xs.length := by omega
    have hw := wrap_next (n := i) (by omega)
    have h3 : ∀ (A B : List (List D)) r, A.length = i → (A ++ r :: B)[i]? = some r := by intro A B r h; simp [← h]
    have h4 : ∀ (A B : List (List D)) r r', A.length = i → (A ++ r' :: B).set i r = A ++ r :: B := by intro A B r r' h; simp [← h]
    simp -implicitDefEqProofs [h0, h2, hlt', h3, h4, hdl, Told.row, hw, reach, downTo]
    exact ⟨done ++ [spoilTold a], by first | (simp [Told.row, spoilTold]; done) | (simp [Told.row, spoilTold]; rfl), by simp [hdl], by simpa using he⟩
  · rintro ⟨fr, bs⟩ rfl
    try simp -implicitDefEqProofs
  · rintro ⟨fr, bs⟩ h
    exact h.elim
end Go.AM
/- AM: contracts: the document's best, its put; what a node takes. -/
namespace Go.AM
set_option linter.unusedSimpArgs false
set_option linter.unusedVariables false
set_option maxRecDepth 8000
set_option maxHeartbeats 0
def newerR (a b : Item) : Bool × Int := if verMay a.count a.writer && verMay b.count b.writer then (decide (b.count < a.count) || decide (a.count = b.count) && decide (b.writer < a.writer), 0) else (false, 300)
theorem ref_Newer (a b : Item) : Den PP 107 [.agg [.int .i64 a.count, .int .i64 a.writer], .agg [.int .i64 b.count, .int .i64 b.writer]] [] (.tup [.bool (newerR a b).1, .int .i64 (newerR a b).2]) [] := by
  refine den_of [] [] is_gimmalref1_Newer ?_
  simp -implicitDefEqProofs [c_gimmalref1_Newer]
  repeat' ((first | refine callThen_of (by first | exact ref_VersionMay _ _) ?_ | with_reducible refine gOps_dec (fun _ => ?_) (fun _ => ?_) | with_reducible refine gOps_ndec (fun _ => ?_) (fun _ => ?_) | (with_reducible refine gOps_and (fun hq => ?_) (fun hq => ?_) <;> (try simp at hq)) | (with_reducible refine gOps_or (fun hq => ?_) (fun hq => ?_) <;> (try simp at hq)) | (with_reducible refine gOps_not (fun hq => ?_) (fun hq => ?_) <;> (try simp at hq)) | (with_reducible refine gOps_split (fun hq => ?_) (fun hq => ?_) <;> (try simp at hq)) | with_reducible refine condC_dec (fun _ => ?_) (fun _ => ?_) | with_reducible refine condC_ndec (fun _ => ?_) (fun _ => ?_) | (with_reducible refine condC_and (fun hq => ?_) (fun hq => ?_) <;> (try simp at hq)) | (with_reducible refine condC_or (fun hq => ?_) (fun hq => ?_) <;> (try simp at hq)) | (with_reducible refine condC_not (fun hq => ?_) (fun hq => ?_) <;> (try simp at hq)) | (with_reducible refine condC_split (fun hq => ?_) (fun hq => ?_) <;> (try simp at hq)) | refine appK2_if (by omega) ?_ | refine pureV_if (by omega) ?_) <;> simp -implicitDefEqProofs [*, newerR])
def bestR (a b : Item) : Item × Int := if itemMay a && (itemMay b && decide (a.key = b.key)) then (bestI a b, 0) else (zeroItem, 400)
theorem ref_Best (a b : Item) : Den PP 36 [.agg a.row, .agg b.row] [] (.tup [.agg (bestR a b).1.row, .int .i64 (bestR a b).2]) [] := by
  have c1 := ref_ItemMay a
  have c2 := ref_ItemMay b
  have c3 := ref_Newer a b
  have hv : itemMay a = true → itemMay b = true → newerR a b = (decide (b.count < a.count) || decide (a.count = b.count) && decide (b.writer < a.writer), 0) := by
    intro h1 h2
    simp only [itemMay, Bool.and_eq_true] at h1 h2
    simp [newerR, h1.1.2, h2.1.2]
  have hg1 : itemMay a = true → a.gone = true → a.value = 0 := by
    intro h1 h2
    simp [itemMay, h2] at h1
    exact h1.2
  have hg2 : itemMay b = true → b.gone = true → b.value = 0 := by
    intro h1 h2
    simp [itemMay, h2] at h1
    exact h1.2
  have hbr : bestR a b = if itemMay a && (itemMay b && decide (a.key = b.key)) then (bestI a b, 0) else (zeroItem, 400) := rfl
  obtain ⟨A, hA⟩ : ∃ A, itemMay a = A := ⟨_, rfl⟩
  obtain ⟨B, hB⟩ : ∃ B, itemMay b = B := ⟨_, rfl⟩
  rw [hA] at c1 hv hg1 hbr
  rw [hB] at c2 hv hg2 hbr
  obtain ⟨r, hr⟩ : ∃ r, bestR a b = r := ⟨_, rfl⟩
  obtain ⟨nr, hnr⟩ : ∃ nr, newerR a b = nr := ⟨_, rfl⟩
  rw [hr] at hbr ⊢
  rw [hnr] at hv c3
  obtain ⟨ak, ac, aw, av, ag⟩ := a
  obtain ⟨bk, bc, bw, bv, bg⟩ := b
  simp only [Item.row] at c1 c2 c3 hv hg1 hg2 hbr ⊢
  clear hA hB hr hnr
  refine den_of [] [] is_gimmalref1_Best ?_
  cases ag <;> cases bg
  all_goals
    simp -implicitDefEqProofs [c_gimmalref1_Best, EQS]
    repeat' (first | (refine callThen_of (by first | exact c1 | exact c2 | exact c3) ?_; simp -implicitDefEqProofs [*, EQS]) | (with_reducible refine gOps_dec (fun _ => ?_) (fun _ => ?_) <;> simp -implicitDefEqProofs [*, EQS]) | (with_reducible refine gOps_ndec (fun _ => ?_) (fun _ => ?_) <;> simp -implicitDefEqProofs [*, EQS]) | (with_reducible refine gOps_and (fun hq => ?_) (fun hq => ?_) <;> (try simp at hq) <;> simp -implicitDefEqProofs [*, EQS]) | (with_reducible refine gOps_or (fun hq => ?_) (fun hq => ?_) <;> (try simp at hq) <;> simp -implicitDefEqProofs [*, EQS]) | (with_reducible refine gOps_not (fun hq => ?_) (fun hq => ?_) <;> (try simp at hq) <;> simp -implicitDefEqProofs [*, EQS]) | (with_reducible refine gOps_split (fun hq => ?_) (fun hq => ?_) <;> (try simp at hq) <;> simp -implicitDefEqProofs [*, EQS]) | (with_reducible refine condC_dec (fun _ => ?_) (fun _ => ?_) <;> simp -implicitDefEqProofs [*, EQS]) | (with_reducible refine condC_ndec (fun _ => ?_) (fun _ => ?_) <;> simp -implicitDefEqProofs [*, EQS]) | (with_reducible refine condC_and (fun hq => ?_) (fun hq => ?_) <;> (try simp at hq) <;> simp -implicitDefEqProofs [*, EQS]) | (with_reducible refine condC_or (fun hq => ?_) (fun hq => ?_) <;> (try simp at hq) <;> simp -implicitDefEqProofs [*, EQS]) | (with_reducible refine condC_not (fun hq => ?_) (fun hq => ?_) <;> (try simp at hq) <;> simp -implicitDefEqProofs [*, EQS]) | (with_reducible refine condC_split (fun hq => ?_) (fun hq => ?_) <;> (try simp at hq) <;> simp -implicitDefEqProofs [*, EQS]) | (refine appK2_if (by omega) ?_; simp -implicitDefEqProofs [*, EQS]) | (refine pureV_if (by omega) ?_; simp -implicitDefEqProofs [*, EQS]))
    all_goals (subst hbr; simp [bestI, better, zeroItem] <;> grind)
def inv_Put (is : List Item) (x : Item) (i : Nat) (rest : List Item) : St → Prop := fun ⟨fr, bs⟩ => ∃ acc inn, bs = [⟨[x.row], 5, .box⟩, ⟨[], 5, .mut⟩, ⟨acc.map Item.row, 5, .mut⟩] ∧ acc.length ≤ 2 * i ∧ acc ++ putG x inn rest = putG x false is ∧ fr 0 = itemsD is ∧ fr 3 = .ptr 0 0 0 ∧ fr 6 = .ref 2 0 acc.length ∧ fr 7 = .bool inn ∧ fr 8 = .int .i64 i
def end_Put (is : List Item) (x : Item) : St → Prop := fun ⟨fr, bs⟩ => ∃ acc inn, bs = [⟨[x.row], 5, .box⟩, ⟨[], 5, .mut⟩, ⟨acc.map Item.row, 5, .mut⟩] ∧ acc.length ≤ 2 * is.length ∧ acc ++ putG x inn [] = putG x false is ∧ fr 3 = .ptr 0 0 0 ∧ fr 6 = .ref 2 0 acc.length ∧ fr 7 = .bool inn
theorem ref_PutStore (is : List Item) (x : Item) (hl : is.length ≤ cap16) : Den PP 174 [itemsD is, .agg x.row] [] (.tup [.ref 0 0 (putR is x).1.length, .int .i64 (putR is x).2]) [⟨(putR is x).1.map Item.row, 5, .mut⟩] := by
  have c1 := ref_StoreMay is hl
  have c2 := ref_ItemMay x
  simp only [itemsD, Item.row] at c1 c2
  refine den_of [] [] is_gimmalref1_PutStore ?_
  obtain ⟨r, hr⟩ : ∃ r, putR is x = r := ⟨_, rfl⟩
  have hr' := hr
  unfold putR at hr'
  rw [hr]
  cases hm : storeMay is with
  | false =>
    rw [hm] at hr' c1
    simp at hr'
    subst hr'
    simp -implicitDefEqProofs [c_gimmalref1_PutStore, itemsD, Item.row]
    repeat' ((first | refine callThen_of (by first | exact c1) ?_ | with_reducible refine gOps_dec (fun _ => ?_) (fun _ => ?_) | with_reducible refine gOps_ndec (fun _ => ?_) (fun _ => ?_) | (with_reducible refine gOps_and (fun hq => ?_) (fun hq => ?_) <;> (try simp at hq)) | (with_reducible refine gOps_or (fun hq => ?_) (fun hq => ?_) <;> (try simp at hq)) | (with_reducible refine gOps_not (fun hq => ?_) (fun hq => ?_) <;> (try simp at hq)) | (with_reducible refine gOps_split (fun hq => ?_) (fun hq => ?_) <;> (try simp at hq)) | with_reducible refine condC_dec (fun _ => ?_) (fun _ => ?_) | with_reducible refine condC_ndec (fun _ => ?_) (fun _ => ?_) | (with_reducible refine condC_and (fun hq => ?_) (fun hq => ?_) <;> (try simp at hq)) | (with_reducible refine condC_or (fun hq => ?_) (fun hq => ?_) <;> (try simp at hq)) | (with_reducible refine condC_not (fun hq => ?_) (fun hq => ?_) <;> (try simp at hq)) | (with_reducible refine condC_split (fun hq => ?_) (fun hq => ?_) <;> (try simp at hq)) | refine appK2_if (by omega) ?_ | refine pureV_if (by omega) ?_) <;> simp -implicitDefEqProofs [*])
  | true =>
    cases hx : itemMay x with
    | false =>
      rw [hm, hx] at hr'
      rw [hm] at c1
      rw [hx] at c2
      simp at hr'
      subst hr'
      simp -implicitDefEqProofs [c_gimmalref1_PutStore, itemsD, Item.row]
      repeat' ((first | refine callThen_of (by first | exact c1 | exact c2) ?_ | with_reducible refine gOps_dec (fun _ => ?_) (fun _ => ?_) | with_reducible refine gOps_ndec (fun _ => ?_) (fun _ => ?_) | (with_reducible refine gOps_and (fun hq => ?_) (fun hq => ?_) <;> (try simp at hq)) | (with_reducible refine gOps_or (fun hq => ?_) (fun hq => ?_) <;> (try simp at hq)) | (with_reducible refine gOps_not (fun hq => ?_) (fun hq => ?_) <;> (try simp at hq)) | (with_reducible refine gOps_split (fun hq => ?_) (fun hq => ?_) <;> (try simp at hq)) | with_reducible refine condC_dec (fun _ => ?_) (fun _ => ?_) | with_reducible refine condC_ndec (fun _ => ?_) (fun _ => ?_) | (with_reducible refine condC_and (fun hq => ?_) (fun hq => ?_) <;> (try simp at hq)) | (with_reducible refine condC_or (fun hq => ?_) (fun hq => ?_) <;> (try simp at hq)) | (with_reducible refine condC_not (fun hq => ?_) (fun hq => ?_) <;> (try simp at hq)) | (with_reducible refine condC_split (fun hq => ?_) (fun hq => ?_) <;> (try simp at hq)) | refine appK2_if (by omega) ?_ | refine pureV_if (by omega) ?_) <;> simp -implicitDefEqProofs [*])
    | true =>
      rw [hm, hx] at hr'
      rw [hm] at c1
      rw [hx] at c2
      simp only [Bool.and_self, if_true] at hr'
      obtain ⟨hall, hris, hlen⟩ := (storeMay_iff is).1 hm
      rw [← putG_eq x is hris] at hr'
      simp -implicitDefEqProofs [c_gimmalref1_PutStore, itemsD, Item.row]
      repeat' ((first | refine callThen_of (by first | exact c1 | exact c2) ?_ | with_reducible refine gOps_dec (fun _ => ?_) (fun _ => ?_) | with_reducible refine gOps_ndec (fun _ => ?_) (fun _ => ?_) | (with_reducible refine gOps_and (fun hq => ?_) (fun hq => ?_) <;> (try simp at hq)) | (with_reducible refine gOps_or (fun hq => ?_) (fun hq => ?_) <;> (try simp at hq)) | (with_reducible refine gOps_not (fun hq => ?_) (fun hq => ?_) <;> (try simp at hq)) | (with_reducible refine gOps_split (fun hq => ?_) (fun hq => ?_) <;> (try simp at hq)) | with_reducible refine condC_dec (fun _ => ?_) (fun _ => ?_) | with_reducible refine condC_ndec (fun _ => ?_) (fun _ => ?_) | (with_reducible refine condC_and (fun hq => ?_) (fun hq => ?_) <;> (try simp at hq)) | (with_reducible refine condC_or (fun hq => ?_) (fun hq => ?_) <;> (try simp at hq)) | (with_reducible refine condC_not (fun hq => ?_) (fun hq => ?_) <;> (try simp at hq)) | (with_reducible refine condC_split (fun hq => ?_) (fun hq => ?_) <;> (try simp at hq)) | refine appK2_if (by omega) ?_ | refine pureV_if (by omega) ?_) <;> simp -implicitDefEqProofs [*])
      refine list_rule is (inv_Put is x) (end_Put is x) (fun ⟨fr, bs⟩ => False) c_gimmalref1_PutStore_L0.eq_1 ?_ ?_ ?_ ?_ ?_
      · exact ⟨[], false, rfl, by simp, rfl, rfl, rfl, rfl, rfl, rfl⟩
      · rintro i ⟨fr, bs⟩ hi ⟨acc, inn, rfl, hal, he, h0, h3, h6, h7, h8⟩
        simp -implicitDefEqProofs [h0, h3, h6, h7, h8, hi, itemsD]
        exact ⟨acc, inn, rfl, by simpa [hi] using hal, he, by simp [h3], by simp [h6], by simp [h7]⟩
      · rintro i a rest ⟨fr, bs⟩ hlt hget hg hd hd2 ⟨acc, inn, rfl, hal, he, h0, h3, h6, h7, h8⟩
        have hlt' : (i : Int) < is.length := by omega
        have hw := wrap_next (n := i) (by omega)
        have ham := hall a (List.mem_of_getElem? hget)
        have c3 := ref_Best a x
        have c4 : a.key = x.key → Den PP 36 [.agg [.int .i64 x.key, .int .i64 a.count, .int .i64 a.writer, .int .i64 a.value, .bool a.gone], .agg [.int .i64 x.key, .int .i64 x.count, .int .i64 x.writer, .int .i64 x.value, .bool x.gone]] [] (.tup [.agg (bestI a x).row, .int .i64 0]) [] := by
          intro h
          simp only [bestR, ham, hx, Bool.true_and, Item.row, h, decide_true, if_true] at c3
          exact c3
        clear c3
        simp only [putG] at he
        have hbo : ∀ b : Bool, (inn = b) → True := fun _ _ => trivial
        clear hbo
        simp -implicitDefEqProofs [h0, h3, h6, h7, h8, hlt, hlt', hget, hg, itemsD, Item.row]
        repeat' ((first | refine callThen_of (by first | exact c4 (by assumption)) ?_ | with_reducible refine gOps_dec (fun _ => ?_) (fun _ => ?_) | with_reducible refine gOps_ndec (fun _ => ?_) (fun _ => ?_) | (with_reducible refine gOps_and (fun hq => ?_) (fun hq => ?_) <;> (try simp at hq)) | (with_reducible refine gOps_or (fun hq => ?_) (fun hq => ?_) <;> (try simp at hq)) | (with_reducible refine gOps_not (fun hq => ?_) (fun hq => ?_) <;> (try simp at hq)) | (with_reducible refine gOps_split (fun hq => ?_) (fun hq => ?_) <;> (try simp at hq)) | with_reducible refine condC_dec (fun _ => ?_) (fun _ => ?_) | with_reducible refine condC_ndec (fun _ => ?_) (fun _ => ?_) | (with_reducible refine condC_and (fun hq => ?_) (fun hq => ?_) <;> (try simp at hq)) | (with_reducible refine condC_or (fun hq => ?_) (fun hq => ?_) <;> (try simp at hq)) | (with_reducible refine condC_not (fun hq => ?_) (fun hq => ?_) <;> (try simp at hq)) | (with_reducible refine condC_split (fun hq => ?_) (fun hq => ?_) <;> (try simp at hq)) | refine appK2_if (by omega) ?_ | refine pureV_if (by omega) ?_) <;> simp -implicitDefEqProofs [*, itemsD, Item.row, hw, Fits])
        all_goals
          refine ⟨acc ++ ((if inn = false ∧ x.key < a.key then [x] else []) ++ (if a.key = x.key then [bestI a x] else [a])), inn || decide (x.key < a.key) || decide (a.key = x.key), ?_⟩
          simp [*, Item.row]
          grind
      · rintro ⟨fr, bs⟩ ⟨acc, inn, rfl, hal, he, h3, h6, h7⟩
        simp only [putG] at he
        generalize hG : putG x false is = G at *
        clear hr
        simp -implicitDefEqProofs [h3, h6, h7]
        repeat' ((first | with_reducible refine gOps_dec (fun _ => ?_) (fun _ => ?_) | with_reducible refine gOps_ndec (fun _ => ?_) (fun _ => ?_) | (with_reducible refine gOps_and (fun hq => ?_) (fun hq => ?_) <;> (try simp at hq)) | (with_reducible refine gOps_or (fun hq => ?_) (fun hq => ?_) <;> (try simp at hq)) | (with_reducible refine gOps_not (fun hq => ?_) (fun hq => ?_) <;> (try simp at hq)) | (with_reducible refine gOps_split (fun hq => ?_) (fun hq => ?_) <;> (try simp at hq)) | with_reducible refine condC_dec (fun _ => ?_) (fun _ => ?_) | with_reducible refine condC_ndec (fun _ => ?_) (fun _ => ?_) | (with_reducible refine condC_and (fun hq => ?_) (fun hq => ?_) <;> (try simp at hq)) | (with_reducible refine condC_or (fun hq => ?_) (fun hq => ?_) <;> (try simp at hq)) | (with_reducible refine condC_not (fun hq => ?_) (fun hq => ?_) <;> (try simp at hq)) | (with_reducible refine condC_split (fun hq => ?_) (fun hq => ?_) <;> (try simp at hq)) | refine appK2_if (by omega) ?_ | refine pureV_if (by omega) ?_) <;> simp -implicitDefEqProofs [*, Item.row, Fits])
        all_goals (subst hr'; grind [Item.row])
      · rintro ⟨fr, bs⟩ h
        exact h.elim
end Go.AM
/- AM: contracts: the best of two, a store's item, its put. -/
namespace Go.AM
set_option linter.unusedSimpArgs false
set_option linter.unusedVariables false
set_option maxRecDepth 8000
set_option maxHeartbeats 0
theorem version_Newer (a b : Item) : Den PP 230 [.agg [.int .i64 a.count, .int .i64 a.writer], .agg [.int .i64 b.count, .int .i64 b.writer]] [] (.tup [.bool (newerR a b).1, .int .i64 (newerR a b).2]) [] := by
  refine den_of [] [] is_version_Newer ?_
  simp -implicitDefEqProofs [c_version_Newer]
  repeat' ((first | refine callThen_of (by first | exact version_May _ _) ?_ | with_reducible refine gOps_dec (fun _ => ?_) (fun _ => ?_) | with_reducible refine gOps_ndec (fun _ => ?_) (fun _ => ?_) | (with_reducible refine gOps_and (fun hq => ?_) (fun hq => ?_) <;> (try simp at hq)) | (with_reducible refine gOps_or (fun hq => ?_) (fun hq => ?_) <;> (try simp at hq)) | (with_reducible refine gOps_not (fun hq => ?_) (fun hq => ?_) <;> (try simp at hq)) | (with_reducible refine gOps_split (fun hq => ?_) (fun hq => ?_) <;> (try simp at hq)) | with_reducible refine condC_dec (fun _ => ?_) (fun _ => ?_) | with_reducible refine condC_ndec (fun _ => ?_) (fun _ => ?_) | (with_reducible refine condC_and (fun hq => ?_) (fun hq => ?_) <;> (try simp at hq)) | (with_reducible refine condC_or (fun hq => ?_) (fun hq => ?_) <;> (try simp at hq)) | (with_reducible refine condC_not (fun hq => ?_) (fun hq => ?_) <;> (try simp at hq)) | (with_reducible refine condC_split (fun hq => ?_) (fun hq => ?_) <;> (try simp at hq)) | refine appK2_if (by omega) ?_ | refine pureV_if (by omega) ?_) <;> simp -implicitDefEqProofs [*, newerR])
theorem item_better (a b : Item) (ha : verMay a.count a.writer = true) (hb : verMay b.count b.writer = true) : Den PP 196 [.mem a.row, .mem b.row] [] (.bool (better a b)) [] := by
  have c1 := version_Newer a b
  simp only [newerR, ha, hb, Bool.and_self, if_true] at c1
  obtain ⟨ak, ac, aw, av, ag⟩ := a
  obtain ⟨bk, bc, bw, bv, bg⟩ := b
  simp only [Item.row, better] at c1 ⊢
  clear ha hb
  refine den_of [] [] is_item_better ?_
  by_cases h1 : ac = bc
  · subst h1
    by_cases h2 : aw = bw
    · subst h2
      clear c1
      cases ag <;> cases bg
      all_goals simp -implicitDefEqProofs [c_item_better, EQS]
    · have h3 : decide (bw < aw) = (decide (bw < aw) || false) := by simp
      simp -implicitDefEqProofs [c_item_better, EQS, h2]
      simp at c1
      refine callThen_of c1 ?_
      simp -implicitDefEqProofs [EQS, h2]
  · simp -implicitDefEqProofs [c_item_better, EQS, h1]
    simp [h1] at c1
    refine callThen_of c1 ?_
    simp -implicitDefEqProofs [EQS, h1]
theorem item_Best (a b : Item) : Den PP 127 [.agg a.row, .agg b.row] [] (.tup [.agg (bestR a b).1.row, .int .i64 (bestR a b).2]) [] := by
  have c1 := item_May a
  have c2 := item_May b
  have c3 := fun h1 h2 => item_better a b h1 h2
  have hv : itemMay a = true → verMay a.count a.writer = true := by
    intro h; simp only [itemMay, Bool.and_eq_true] at h; exact h.1.2
  have hw : itemMay b = true → verMay b.count b.writer = true := by
    intro h; simp only [itemMay, Bool.and_eq_true] at h; exact h.1.2
  have hbr : bestR a b = if itemMay a && (itemMay b && decide (a.key = b.key)) then (bestI a b, 0) else (zeroItem, 400) := rfl
  obtain ⟨A, hA⟩ : ∃ A, itemMay a = A := ⟨_, rfl⟩
  obtain ⟨B, hB⟩ : ∃ B, itemMay b = B := ⟨_, rfl⟩
  rw [hA] at c1 hv hbr
  rw [hB] at c2 hw hbr
  obtain ⟨r, hr⟩ : ∃ r, bestR a b = r := ⟨_, rfl⟩
  rw [hr] at hbr ⊢
  unfold bestI at hbr
  obtain ⟨q, hq⟩ : ∃ q, better a b = q := ⟨_, rfl⟩
  rw [hq] at c3 hbr
  obtain ⟨ak, ac, aw, av, ag⟩ := a
  obtain ⟨bk, bc, bw, bv, bg⟩ := b
  simp only [Item.row] at c1 c2 c3 hv hw hbr ⊢
  clear hA hB hr hq
  refine den_of [] [] is_item_Best ?_
  cases A <;> cases B
  case true.true =>
    have c3' := c3 (hv rfl) (hw rfl)
    clear c3 hv hw
    by_cases hk : ak = bk
    · subst hk
      cases q
      all_goals
        simp at hbr
        subst hbr
        simp -implicitDefEqProofs [c_item_Best]
        repeat' ((first | refine callThen_of (by first | exact c1 | exact c2 | exact c3') ?_ | with_reducible refine gOps_dec (fun _ => ?_) (fun _ => ?_) | with_reducible refine gOps_ndec (fun _ => ?_) (fun _ => ?_) | (with_reducible refine gOps_and (fun hq => ?_) (fun hq => ?_) <;> (try simp at hq)) | (with_reducible refine gOps_or (fun hq => ?_) (fun hq => ?_) <;> (try simp at hq)) | (with_reducible refine gOps_not (fun hq => ?_) (fun hq => ?_) <;> (try simp at hq)) | (with_reducible refine gOps_split (fun hq => ?_) (fun hq => ?_) <;> (try simp at hq)) | with_reducible refine condC_dec (fun _ => ?_) (fun _ => ?_) | with_reducible refine condC_ndec (fun _ => ?_) (fun _ => ?_) | (with_reducible refine condC_and (fun hq => ?_) (fun hq => ?_) <;> (try simp at hq)) | (with_reducible refine condC_or (fun hq => ?_) (fun hq => ?_) <;> (try simp at hq)) | (with_reducible refine condC_not (fun hq => ?_) (fun hq => ?_) <;> (try simp at hq)) | (with_reducible refine condC_split (fun hq => ?_) (fun hq => ?_) <;> (try simp at hq)) | refine appK2_if (by omega) ?_ | refine pureV_if (by omega) ?_) <;> simp -implicitDefEqProofs [*])
    · simp [hk] at hbr
      subst hbr
      simp -implicitDefEqProofs [c_item_Best, zeroItem]
      repeat' ((first | refine callThen_of (by first | exact c1 | exact c2) ?_ | with_reducible refine gOps_dec (fun _ => ?_) (fun _ => ?_) | with_reducible refine gOps_ndec (fun _ => ?_) (fun _ => ?_) | (with_reducible refine gOps_and (fun hq => ?_) (fun hq => ?_) <;> (try simp at hq)) | (with_reducible refine gOps_or (fun hq => ?_) (fun hq => ?_) <;> (try simp at hq)) | (with_reducible refine gOps_not (fun hq => ?_) (fun hq => ?_) <;> (try simp at hq)) | (with_reducible refine gOps_split (fun hq => ?_) (fun hq => ?_) <;> (try simp at hq)) | with_reducible refine condC_dec (fun _ => ?_) (fun _ => ?_) | with_reducible refine condC_ndec (fun _ => ?_) (fun _ => ?_) | (with_reducible refine condC_and (fun hq => ?_) (fun hq => ?_) <;> (try simp at hq)) | (with_reducible refine condC_or (fun hq => ?_) (fun hq => ?_) <;> (try simp at hq)) | (with_reducible refine condC_not (fun hq => ?_) (fun hq => ?_) <;> (try simp at hq)) | (with_reducible refine condC_split (fun hq => ?_) (fun hq => ?_) <;> (try simp at hq)) | refine appK2_if (by omega) ?_ | refine pureV_if (by omega) ?_) <;> simp -implicitDefEqProofs [*, hk])
  all_goals
    clear c3 hv hw
    simp at hbr
    subst hbr
    simp -implicitDefEqProofs [c_item_Best, zeroItem]
    repeat' ((first | refine callThen_of (by first | exact c1 | exact c2) ?_ | with_reducible refine gOps_dec (fun _ => ?_) (fun _ => ?_) | with_reducible refine gOps_ndec (fun _ => ?_) (fun _ => ?_) | (with_reducible refine gOps_and (fun hq => ?_) (fun hq => ?_) <;> (try simp at hq)) | (with_reducible refine gOps_or (fun hq => ?_) (fun hq => ?_) <;> (try simp at hq)) | (with_reducible refine gOps_not (fun hq => ?_) (fun hq => ?_) <;> (try simp at hq)) | (with_reducible refine gOps_split (fun hq => ?_) (fun hq => ?_) <;> (try simp at hq)) | with_reducible refine condC_dec (fun _ => ?_) (fun _ => ?_) | with_reducible refine condC_ndec (fun _ => ?_) (fun _ => ?_) | (with_reducible refine condC_and (fun hq => ?_) (fun hq => ?_) <;> (try simp at hq)) | (with_reducible refine condC_or (fun hq => ?_) (fun hq => ?_) <;> (try simp at hq)) | (with_reducible refine condC_not (fun hq => ?_) (fun hq => ?_) <;> (try simp at hq)) | (with_reducible refine condC_split (fun hq => ?_) (fun hq => ?_) <;> (try simp at hq)) | refine appK2_if (by omega) ?_ | refine pureV_if (by omega) ?_) <;> simp -implicitDefEqProofs [*])
theorem store_byKey (x : Item) (k : Int) : Den PP 126 [.agg x.row, .int .i64 k] [] (.int .i64 (keyC k x)) [] := by
  refine den_of [] [] is_store_byKey ?_
  simp -implicitDefEqProofs [c_store_byKey, Item.row, keyC]
  repeat' ((first | refine callThen_of (by first | exact cmp_Compare _ _) ?_ | with_reducible refine gOps_dec (fun _ => ?_) (fun _ => ?_) | with_reducible refine gOps_ndec (fun _ => ?_) (fun _ => ?_) | (with_reducible refine gOps_and (fun hq => ?_) (fun hq => ?_) <;> (try simp at hq)) | (with_reducible refine gOps_or (fun hq => ?_) (fun hq => ?_) <;> (try simp at hq)) | (with_reducible refine gOps_not (fun hq => ?_) (fun hq => ?_) <;> (try simp at hq)) | (with_reducible refine gOps_split (fun hq => ?_) (fun hq => ?_) <;> (try simp at hq)) | with_reducible refine condC_dec (fun _ => ?_) (fun _ => ?_) | with_reducible refine condC_ndec (fun _ => ?_) (fun _ => ?_) | (with_reducible refine condC_and (fun hq => ?_) (fun hq => ?_) <;> (try simp at hq)) | (with_reducible refine condC_or (fun hq => ?_) (fun hq => ?_) <;> (try simp at hq)) | (with_reducible refine condC_not (fun hq => ?_) (fun hq => ?_) <;> (try simp at hq)) | (with_reducible refine condC_split (fun hq => ?_) (fun hq => ?_) <;> (try simp at hq)) | refine appK2_if (by omega) ?_ | refine pureV_if (by omega) ?_) <;> simp -implicitDefEqProofs [*])
theorem store_Get (is : List Item) (k : Int) (hl : is.length ≤ cap16) : Den PP 130 [itemsD is, .int .i64 k] [] (.tup [.agg (getR is k).1.row, .bool (getR is k).2]) [] := by
  have c1 := store_May is hl
  have c2 := fun h => bsearch_Item is 126 k (keyC k) (fun x _ => store_byKey x k) (by unfold cap; unfold cap16 at hl; omega) h
  simp only [itemsD] at c1
  refine den_of [] [] is_store_Get ?_
  simp -implicitDefEqProofs [c_store_Get, itemsD]
  refine callThen_of c1 ?_
  simp -implicitDefEqProofs
  refine condC_not (fun h1 => ?_) (fun h1 => ?_)
  rotate_left
  · simp -implicitDefEqProofs [h1, getR, zeroItem, Item.row]
  obtain ⟨hm, hr, h16⟩ := (storeMay_iff is).1 h1
  have hg := getS_at hr k
  have hat := fun h => atC_true (c := keyC k) (xs := is) h
  have c3 := c2 (mono_key hr k)
  clear c2 c1
  generalize atC (keyC k) is = A at *
  generalize posC (keyC k) is = p at *
  simp -implicitDefEqProofs [h1]
  refine callThen_of c3 ?_
  cases A with
  | false =>
    simp -implicitDefEqProofs [h1, hg, getR, zeroItem, Item.row]
  | true =>
    obtain ⟨hlt, x, hx, hx0⟩ := hat rfl
    have hlt' : (p : Int) < is.length := by omega
    simp at hg
    rw [hx] at hg
    have hxr : (is.map Item.row)[p]? = some x.row := by simp [hx]
    have hx2 : is[p] = x := by simpa [hlt] using hx
    simp -implicitDefEqProofs [h1, hg, getR, hlt', hlt, hx2, Item.row]
theorem ref_GetStore (is : List Item) (k : Int) (hl : is.length ≤ cap16) : Den PP 19 [itemsD is, .int .i64 k] [] (.tup [.agg (getR is k).1.row, .bool (getR is k).2]) [] := by
  have c1 := ref_StoreMay is hl
  simp only [itemsD] at c1
  unfold cap16 at hl
  refine den_of [] [] is_gimmalref1_GetStore ?_
  simp -implicitDefEqProofs [c_gimmalref1_GetStore, itemsD]
  obtain ⟨r, hr⟩ : ∃ r, getR is k = r := ⟨_, rfl⟩
  rw [hr]
  unfold getR at hr
  obtain ⟨S, hS⟩ : ∃ S, storeMay is = S := ⟨_, rfl⟩
  rw [hS] at hr c1
  refine list_rule is (fun i rest => fun ⟨fr, bs⟩ => bs = [⟨[zeroItem.row], 5, .box⟩] ∧ fr 0 = itemsD is ∧ fr 1 = .int .i64 k ∧ fr 4 = .ptr 0 0 0 ∧ fr 6 = .int .i64 i ∧ (S = true → getS is k = getS rest k))
    (fun ⟨fr, bs⟩ => bs = [⟨[zeroItem.row], 5, .box⟩] ∧ fr 4 = .ptr 0 0 0 ∧ (S = true → getS is k = none)) (fun ⟨fr, bs⟩ => bs = [⟨[r.1.row], 5, .box⟩] ∧ fr 4 = .ptr 0 0 0 ∧ fr 5 = .bool r.2) c_gimmalref1_GetStore_L0.eq_1 ?_ ?_ ?_ ?_ ?_
  · exact ⟨by simp [zeroItem, Item.row], rfl, rfl, rfl, rfl, fun _ => rfl⟩
  · rintro i ⟨fr, bs⟩ hi ⟨rfl, h0, h1, h4, h6, he⟩
    simp -implicitDefEqProofs [h0, h1, h4, h6, hi, itemsD]
    simpa [getS] using he
  · rintro i a rest ⟨fr, bs⟩ hlt hget hg hd hd2 ⟨rfl, h0, h1, h4, h6, he⟩
    have hlt' : (i : Int) < is.length := by omega
    have hw := wrap_next (n := i) (by omega)
    rw [getS_cons] at he
    simp -implicitDefEqProofs [h0, h1, h4, h6, hlt', itemsD]
    refine callThen_of c1 ?_
    cases S with
    | false =>
      simp -implicitDefEqProofs [h0, h1, h4, h6]
    | true =>
      simp only [forall_const] at he
      by_cases hk : a.key = k
      · rw [if_pos hk] at he
        rw [he] at hr
        simp at hr
        subst hr
        simp -implicitDefEqProofs [h0, h1, h4, h6, hlt, hlt', hget, hg, itemsD, hk, Item.row]
      · rw [if_neg hk] at he
        clear hr
        simp -implicitDefEqProofs [h0, h1, h4, h6, hlt, hlt', hget, hg, itemsD, hk, Item.row]
        exact ⟨hw, he⟩
  · rintro ⟨fr, bs⟩ ⟨rfl, h4, he⟩
    simp -implicitDefEqProofs [h4]
    cases S with
    | false => simp at hr; subst hr; simp [zeroItem, Item.row]
    | true => rw [he rfl] at hr; simp at hr; subst hr; simp [zeroItem, Item.row]
  · rintro ⟨fr, bs⟩ ⟨rfl, h4, h5⟩
    simp -implicitDefEqProofs [h4, h5, Item.row]
end Go.AM
/- AM: contracts: a store's put. -/
namespace Go.AM
set_option linter.unusedSimpArgs false
set_option linter.unusedVariables false
set_option maxRecDepth 8000
set_option maxHeartbeats 0
theorem row_still (i : Item) : ∀ d ∈ i.row, d.still = true := by
  intro d hd
  simp [Item.row] at hd
  rcases hd with rfl | rfl | rfl | rfl | rfl <;> rfl
theorem store_Put (is : List Item) (x : Item) (hl : is.length ≤ cap16) : Den PP 43 [itemsD is, .agg x.row] [] (.tup [.ref 0 0 (putR is x).1.length, .int .i64 (putR is x).2]) [⟨(putR is x).1.map Item.row, 5, .mut⟩] := by
  have c1 := store_May is hl
  have c0 := item_May x
  have c2 := fun h : is.length ≤ 16 => clone_Item (is.map Item.row) (by intro r hr; obtain ⟨a, _, rfl⟩ := List.mem_map.1 hr; exact ⟨rfl, rfl⟩) (by simp; omega)
  have c3 := fun h => bsearch_Item is 126 x.key (keyC x.key) (fun y _ => store_byKey y x.key) (by unfold cap; unfold cap16 at hl; omega) h
  obtain ⟨r, hr⟩ : ∃ r, putR is x = r := ⟨_, rfl⟩
  have hr' := hr
  unfold putR at hr'
  rw [hr]
  clear hr
  simp only [itemsD, Item.row, List.length_map] at c0 c1 c2
  refine den_ofG [18, 26] [26] [26] [] (fun _ h => absurd h List.not_mem_nil) is_store_Put ?_
  simp -implicitDefEqProofs [c_store_Put, itemsD, Item.row]
  refine callThen_of c1 ?_
  simp -implicitDefEqProofs
  cases h1 : storeMay is with
  | false =>
    rw [h1] at hr'
    simp at hr'
    subst hr'
    simp -implicitDefEqProofs
  | true =>
  cases h2 : itemMay x with
  | false =>
    rw [h2] at hr' c0
    simp at hr'
    subst hr'
    simp -implicitDefEqProofs
    repeat' ((first | refine callThen_of (by first | exact c0) ?_ | with_reducible refine gOps_dec (fun _ => ?_) (fun _ => ?_) | with_reducible refine gOps_ndec (fun _ => ?_) (fun _ => ?_) | (with_reducible refine gOps_and (fun hq => ?_) (fun hq => ?_) <;> (try simp at hq)) | (with_reducible refine gOps_or (fun hq => ?_) (fun hq => ?_) <;> (try simp at hq)) | (with_reducible refine gOps_not (fun hq => ?_) (fun hq => ?_) <;> (try simp at hq)) | (with_reducible refine gOps_split (fun hq => ?_) (fun hq => ?_) <;> (try simp at hq)) | with_reducible refine condC_dec (fun _ => ?_) (fun _ => ?_) | with_reducible refine condC_ndec (fun _ => ?_) (fun _ => ?_) | (with_reducible refine condC_and (fun hq => ?_) (fun hq => ?_) <;> (try simp at hq)) | (with_reducible refine condC_or (fun hq => ?_) (fun hq => ?_) <;> (try simp at hq)) | (with_reducible refine condC_not (fun hq => ?_) (fun hq => ?_) <;> (try simp at hq)) | (with_reducible refine condC_split (fun hq => ?_) (fun hq => ?_) <;> (try simp at hq)) | refine appK2_if (by omega) ?_ | refine pureV_if (by omega) ?_) <;> simp -implicitDefEqProofs [*])
  | true =>
  obtain ⟨hm, hri, h16⟩ := (storeMay_iff is).1 h1
  rw [h1, h2] at hr'
  rw [h2] at c0
  have hlen := putS_length x is hri
  have hg := getS_at hri x.key
  obtain ⟨hp1, hp2⟩ := putS_at x is
  have hat := fun h => atC_true (c := keyC x.key) (xs := is) h
  have hple := posC_le (keyC x.key) is
  have c4 := c3 (mono_key hri x.key)
  clear c3
  generalize atC (keyC x.key) is = A at *
  generalize posC (keyC x.key) is = p at *
  simp -implicitDefEqProofs
  refine callThen_of c0 ?_
  simp -implicitDefEqProofs
  refine callThen_of (c2 h16) ?_
  simp -implicitDefEqProofs [downTo]
  refine callThen_of c4 ?_
  simp -implicitDefEqProofs [downTo]
  cases A with
  | true =>
    obtain ⟨hlt, y, hy, hy0⟩ := hat rfl
    have hmy := hm y (List.mem_of_getElem? hy)
    have hky : y.key = x.key := by simpa [keyC, cmpI_eq] using hy0
    have c5 := item_Best y x
    have hbr : bestR y x = (bestI y x, 0) := by simp [bestR, hmy, h2, hky]
    have hput := hp1 y hy rfl
    rw [hbr] at c5
    have hr2 : r = (is.set p (bestI y x), 0) := by
      rw [← hr', hput]
      simp [h16]
    subst hr2
    have hlt' : (p : Int) < is.length := by omega
    have hy2 : is[p] = y := by simpa [hlt] using hy
    generalize bestI y x = b at *
    simp only [Item.row] at c5
    clear hr' hput hbr hg hp1 hp2 hat hlen c4 hm hri
    simp -implicitDefEqProofs [hlt, hlt', hy2, Item.row]
    refine callThen_of c5 ?_
    simp -implicitDefEqProofs [hlt, hlt', hy2, Item.row]
  | false =>
    have hput := hp2 rfl
    simp at hg
    rw [hg] at hlen
    simp at hlen
    rw [hput] at hr' hlen
    by_cases h5 : is.length = 16
    · have hr2 : r = ([], 501) := by
        rw [← hr']
        simp [h5]
      subst hr2
      clear hr' hput hg hp1 hp2 hat hlen c4 hm hri
      simp -implicitDefEqProofs [h5]
    · have hr2 : r = (insL is p x, 0) := by
        rw [← hr']
        simp
        omega
      subst hr2
      clear hr' hput hg hp1 hp2 hat hlen c4 hm hri
      have h5' : ¬ (is.length : Int) = 16 := by omega
      simp -implicitDefEqProofs [h5']
      refine giveThen_of rfl (by simp) (by simp) (by simp) (insert_Item (is.map Item.row) x.row p (by simp [Item.row]) (StillR.map _ _ fun a _ => row_still a) (by intro r hr; rw [List.mem_singleton.1 hr]; exact ⟨rfl, rfl⟩) (row_still x) (by simpa using hple) (by simp; omega)) ?_
      rw [← insL_map]
      simp -implicitDefEqProofs [downTo]
end Go.AM
/- AM: contracts: what chapter 9's statements build on. -/
namespace Go.AM
set_option linter.unusedSimpArgs false
set_option linter.unusedVariables false
set_option maxRecDepth 8000
set_option maxHeartbeats 0
end Go.AM
/- AM: contracts: the document's nodes and sharing; chapter 18's helpers. -/
namespace Go.AM
set_option linter.unusedSimpArgs false
set_option linter.unusedVariables false
set_option maxRecDepth 8000
set_option maxHeartbeats 0
theorem ref_NodeMay (x : Node) (hs : x.small) : Den PP 71 [nodeD x] [] (.bool (nodeMay x)) [] := by
  obtain ⟨h1, h2, h3⟩ := hs
  have c1 := ref_ViewMay' x.view h1
  have c2 := ref_StoreMay x.items (by unfold cap16; omega)
  obtain ⟨A, hA⟩ : ∃ A, x.log.any toldOdd = A := ⟨_, rfl⟩
  simp only [viewD, View.cells, peersD, intsD, itemsD, toldsD] at c1 c2
  obtain ⟨hp, hq⟩ := h1
  unfold cap16 at hp
  unfold cap at hq
  have w1 : IntKind.wrap .i64 ((x.view.peers.length : Int) + x.view.passive.length) = x.view.peers.length + x.view.passive.length := wrap_in (by omega) (by omega)
  have w2 : IntKind.wrap .i64 ((x.view.peers.length : Int) + x.view.passive.length + x.items.length) = x.view.peers.length + x.view.passive.length + x.items.length := wrap_in (by omega) (by omega)
  have w3 : IntKind.wrap .i64 ((x.view.peers.length : Int) + x.view.passive.length + x.items.length + x.log.length) = x.view.peers.length + x.view.passive.length + x.items.length + x.log.length := wrap_in (by omega) (by omega)
  refine den_of [] [] is_gimmalref16_NodeMay ?_
  cases hu : x.up with
  | false =>
    have hm : nodeMay x = (emptyN x && place x.view.id) := by
      cases he : emptyN x with
      | false => simp [nodeMay, hu, he]
      | true =>
        simp only [emptyN, decide_eq_true_eq] at he
        have e1 : x.view.peers = [] := List.eq_nil_of_length_eq_zero (by omega)
        have e2 : x.view.passive = [] := List.eq_nil_of_length_eq_zero (by omega)
        have e3 : x.items = [] := List.eq_nil_of_length_eq_zero (by omega)
        have e4 : x.log = [] := List.eq_nil_of_length_eq_zero (by omega)
        simp [nodeMay, emptyN, hu, e1, e2, e3, e4, viewMay, peersMay, peersOk, passiveMay, ups, storeMay, itemsOk]
    simp -implicitDefEqProofs [c_gimmalref16_NodeMay, nodeD, Node.cells, peersD, intsD, itemsD, toldsD, hu]
    repeat' ((first | refine callThen_of (by first | exact ref_PlaceMay _) ?_ | with_reducible refine gOps_dec (fun _ => ?_) (fun _ => ?_) | with_reducible refine gOps_ndec (fun _ => ?_) (fun _ => ?_) | (with_reducible refine gOps_and (fun hq => ?_) (fun hq => ?_) <;> (try simp at hq)) | (with_reducible refine gOps_or (fun hq => ?_) (fun hq => ?_) <;> (try simp at hq)) | (with_reducible refine gOps_not (fun hq => ?_) (fun hq => ?_) <;> (try simp at hq)) | (with_reducible refine gOps_split (fun hq => ?_) (fun hq => ?_) <;> (try simp at hq)) | with_reducible refine condC_dec (fun _ => ?_) (fun _ => ?_) | with_reducible refine condC_ndec (fun _ => ?_) (fun _ => ?_) | (with_reducible refine condC_and (fun hq => ?_) (fun hq => ?_) <;> (try simp at hq)) | (with_reducible refine condC_or (fun hq => ?_) (fun hq => ?_) <;> (try simp at hq)) | (with_reducible refine condC_not (fun hq => ?_) (fun hq => ?_) <;> (try simp at hq)) | (with_reducible refine condC_split (fun hq => ?_) (fun hq => ?_) <;> (try simp at hq)) | refine appK2_if (by omega) ?_ | refine pureV_if (by omega) ?_) <;> simp -implicitDefEqProofs [*, w1, w2, w3])
    all_goals grind [emptyN]
  | true =>
    simp -implicitDefEqProofs [c_gimmalref16_NodeMay, nodeD, Node.cells, peersD, intsD, itemsD, toldsD, hu]
    refine list_rule x.log (fun i rest => fun ⟨fr, bs⟩ => bs = [⟨[x.cells], 6, .box⟩] ∧ fr 1 = .ptr 0 0 0 ∧ fr 3 = .int .i64 i ∧ rest.any toldOdd = A)
      (fun ⟨fr, bs⟩ => bs = [⟨[x.cells], 6, .box⟩] ∧ fr 1 = .ptr 0 0 0 ∧ A = false) (fun ⟨fr, bs⟩ => fr 2 = .bool false ∧ A = true) c_gimmalref16_NodeMay_L0.eq_1 ?_ ?_ ?_ ?_ ?_
    · refine ⟨?_, rfl, rfl, hA⟩
      simp [Node.cells, hu, peersD, intsD, itemsD, toldsD]
    · rintro i ⟨fr, bs⟩ hi ⟨rfl, h1, h3, he⟩
      simp -implicitDefEqProofs [h1, h3, hi, Node.cells, toldsD]
      simpa using he.symm
    · rintro i a rest ⟨fr, bs⟩ hlt hget hg hd hd2 ⟨rfl, h1, h3, he⟩
      have hlt' : (i : Int) < x.log.length := by omega
      have hw := wrap_next (n := i) (by omega)
      have hodd : toldOdd a = (!byte a.key || !byte a.value || (!a.has && !decide (a.value = 0))) := rfl
      simp -implicitDefEqProofs [h1, h3, hlt, hlt', hget, hg, Node.cells, peersD, intsD, itemsD, toldsD, Told.row]
      repeat' ((first | refine callThen_of (by first | exact ref16_byteMay _) ?_ | with_reducible refine gOps_dec (fun _ => ?_) (fun _ => ?_) | with_reducible refine gOps_ndec (fun _ => ?_) (fun _ => ?_) | (with_reducible refine gOps_and (fun hq => ?_) (fun hq => ?_) <;> (try simp at hq)) | (with_reducible refine gOps_or (fun hq => ?_) (fun hq => ?_) <;> (try simp at hq)) | (with_reducible refine gOps_not (fun hq => ?_) (fun hq => ?_) <;> (try simp at hq)) | (with_reducible refine gOps_split (fun hq => ?_) (fun hq => ?_) <;> (try simp at hq)) | with_reducible refine condC_dec (fun _ => ?_) (fun _ => ?_) | with_reducible refine condC_ndec (fun _ => ?_) (fun _ => ?_) | (with_reducible refine condC_and (fun hq => ?_) (fun hq => ?_) <;> (try simp at hq)) | (with_reducible refine condC_or (fun hq => ?_) (fun hq => ?_) <;> (try simp at hq)) | (with_reducible refine condC_not (fun hq => ?_) (fun hq => ?_) <;> (try simp at hq)) | (with_reducible refine condC_split (fun hq => ?_) (fun hq => ?_) <;> (try simp at hq)) | refine appK2_if (by omega) ?_ | refine pureV_if (by omega) ?_) <;> simp -implicitDefEqProofs [*, Node.cells, peersD, intsD, itemsD, toldsD, Told.row, hw])
      all_goals grind
    · rintro ⟨fr, bs⟩ ⟨rfl, h1, he⟩
      simp -implicitDefEqProofs [h1, he, Node.cells, peersD, intsD, itemsD, toldsD]
      repeat' ((first | refine callThen_of (by first | exact c1 | exact c2) ?_ | with_reducible refine gOps_dec (fun _ => ?_) (fun _ => ?_) | with_reducible refine gOps_ndec (fun _ => ?_) (fun _ => ?_) | (with_reducible refine gOps_and (fun hq => ?_) (fun hq => ?_) <;> (try simp at hq)) | (with_reducible refine gOps_or (fun hq => ?_) (fun hq => ?_) <;> (try simp at hq)) | (with_reducible refine gOps_not (fun hq => ?_) (fun hq => ?_) <;> (try simp at hq)) | (with_reducible refine gOps_split (fun hq => ?_) (fun hq => ?_) <;> (try simp at hq)) | with_reducible refine condC_dec (fun _ => ?_) (fun _ => ?_) | with_reducible refine condC_ndec (fun _ => ?_) (fun _ => ?_) | (with_reducible refine condC_and (fun hq => ?_) (fun hq => ?_) <;> (try simp at hq)) | (with_reducible refine condC_or (fun hq => ?_) (fun hq => ?_) <;> (try simp at hq)) | (with_reducible refine condC_not (fun hq => ?_) (fun hq => ?_) <;> (try simp at hq)) | (with_reducible refine condC_split (fun hq => ?_) (fun hq => ?_) <;> (try simp at hq)) | refine appK2_if (by omega) ?_ | refine pureV_if (by omega) ?_) <;> simp -implicitDefEqProofs [*])
      all_goals simp only [nodeMay, hA, he, hu]
      all_goals grind
    · rintro ⟨fr, bs⟩ h
      simp -implicitDefEqProofs [h.1, h.2, nodeMay, hA]
theorem ref_upMay (x : Node) (hs : x.small) : Den PP 91 [nodeD x] [] (.bool (nodeUp x)) [] := by
  have c1 := ref_NodeMay x hs
  simp only [nodeD, Node.cells, peersD, intsD, itemsD, toldsD] at c1
  refine den_of [] [] is_gimmalref16_upMay ?_
  cases hu : x.up
  all_goals
    rw [hu] at c1
    simp -implicitDefEqProofs [c_gimmalref16_upMay, nodeD, Node.cells, peersD, intsD, itemsD, toldsD, hu]
    repeat' ((first | refine callThen_of (by first | exact c1) ?_ | with_reducible refine gOps_dec (fun _ => ?_) (fun _ => ?_) | with_reducible refine gOps_ndec (fun _ => ?_) (fun _ => ?_) | (with_reducible refine gOps_and (fun hq => ?_) (fun hq => ?_) <;> (try simp at hq)) | (with_reducible refine gOps_or (fun hq => ?_) (fun hq => ?_) <;> (try simp at hq)) | (with_reducible refine gOps_not (fun hq => ?_) (fun hq => ?_) <;> (try simp at hq)) | (with_reducible refine gOps_split (fun hq => ?_) (fun hq => ?_) <;> (try simp at hq)) | with_reducible refine condC_dec (fun _ => ?_) (fun _ => ?_) | with_reducible refine condC_ndec (fun _ => ?_) (fun _ => ?_) | (with_reducible refine condC_and (fun hq => ?_) (fun hq => ?_) <;> (try simp at hq)) | (with_reducible refine condC_or (fun hq => ?_) (fun hq => ?_) <;> (try simp at hq)) | (with_reducible refine condC_not (fun hq => ?_) (fun hq => ?_) <;> (try simp at hq)) | (with_reducible refine condC_split (fun hq => ?_) (fun hq => ?_) <;> (try simp at hq)) | refine appK2_if (by omega) ?_ | refine pureV_if (by omega) ?_) <;> simp -implicitDefEqProofs [*])
    all_goals simp [nodeUp, hu]
def spoilM (m : Msg) : Msg := { m with kind := IntKind.wrap .i64 (BitVec.ofInt IntKind.i64.bits m.kind ^^^ BitVec.ofInt IntKind.i64.bits 90).toNat }
theorem law_SpoilMsgs (ms : List Msg) (hl : ms.length ≤ cap16) : Den PP 33 [.ref 0 0 ms.length] [⟨ms.map Msg.row0, 11, .mut⟩] (.tup []) [⟨(ms.map spoilM).map Msg.row0, 11, .mut⟩] := by
  unfold cap16 at hl
  refine den_of [] [] is_gimmallaw0_SpoilMsgs ?_
  simp -implicitDefEqProofs [c_gimmallaw0_SpoilMsgs]
  refine list_rule ms (fun i rest => fun ⟨fr, bs⟩ => ∃ done, bs = [⟨(done ++ rest).map Msg.row0, 11, .mut⟩] ∧ done.length = i ∧ done ++ rest.map spoilM = ms.map spoilM ∧ fr 0 = .ref 0 0 ms.length ∧ fr 2 = .int .i64 i)
    (fun ⟨fr, bs⟩ => bs = [⟨(ms.map spoilM).map Msg.row0, 11, .mut⟩]) (fun ⟨fr, bs⟩ => False) c_gimmallaw0_SpoilMsgs_L0.eq_1 ?_ ?_ ?_ ?_ ?_
  · exact ⟨[], rfl, rfl, rfl, rfl, rfl⟩
  · rintro i ⟨fr, bs⟩ hi ⟨done, rfl, hd, he, h0, h2⟩
    simp -implicitDefEqProofs [h0, h2, hi]
    simp at he
    simp [he]
  · rintro i a rest ⟨fr, bs⟩ hlt hget hg hd hd2 ⟨done, rfl, hdl, he, h0, h2⟩
    have hlt' : (i : Int) < ms.length := by omega
    have hw := wrap_next (n := i) (by omega)
    have h3 : ∀ r, (done.map Msg.row0 ++ r :: rest.map Msg.row0)[i]? = some r := by intro r; simp [← hdl]
    have h4 : ∀ r r', (done.map Msg.row0 ++ r' :: rest.map Msg.row0).set i r = done.map Msg.row0 ++ r :: rest.map Msg.row0 := by intro r r'; simp [← hdl]
    simp -implicitDefEqProofs [h0, h2, hlt', h3, Msg.row0]
    refine callThen_of law_SpoilInts_nil ?_
    simp -implicitDefEqProofs [h0, h2, hlt', h3, h4, Msg.row0, hw, reach, downTo]
    exact ⟨done ++ [spoilM a], by simp [Msg.row0, spoilM]; rfl, by simp [hdl], by simpa using he⟩
  · rintro ⟨fr, bs⟩ rfl
    simp -implicitDefEqProofs
  · rintro ⟨fr, bs⟩ h
    exact h.elim
end Go.AM
/- AM: what is handed in, told. -/
namespace Go.AM
set_option linter.unusedSimpArgs false
set_option linter.unusedVariables false
set_option maxRecDepth 8000
theorem tell_int {n : Nat} {cs : List D} (h : Tell TT (n + 1) 3 cs) : ∃ x, cs = [.int .i64 x] ∧ in64 x := by
  simp [Tell] at h
  obtain ⟨x, rfl, hx⟩ := h
  exact ⟨x, rfl, wf64 hx⟩
theorem tell_bool {n : Nat} {cs : List D} (h : Tell TT (n + 1) 4 cs) : ∃ x, cs = [.bool x] := by
  simpa [Tell] using h
theorem tell_ints {n : Nat} {cs : List D} (h : Tell TT (n + 2) 36 cs) : ∃ xs : List Int, cs = [intsD xs] ∧ xs.length * 8 ≤ 140737488351232 ∧ ∀ x ∈ xs, in64 x := by
  unfold Tell at h
  simp at h
  obtain ⟨rows, rfl, hl, hr⟩ := h
  obtain ⟨xs, rfl, hx⟩ := rows_of (f := irow) (Q := in64) rows fun r h => by
    obtain ⟨x, rfl, hx⟩ := tell_int (hr r h)
    exact ⟨x, rfl, hx⟩
  exact ⟨xs, by simp [intsD], by simpa using hl, hx⟩
theorem tell_Peer {n : Nat} {cs : List D} (h : Tell TT (n + 2) 204 cs) : ∃ p : Peer, cs = p.row ∧ in64 p.id ∧ in64 p.missed := by
  unfold Tell at h
  simp [Tell.TellFs] at h
  obtain ⟨a, b, rfl, h1, h2⟩ := h
  obtain ⟨x, rfl, hx⟩ := tell_int h1
  obtain ⟨y, rfl, hy⟩ := tell_int h2
  exact ⟨⟨x, y⟩, rfl, hx, hy⟩
theorem tell_peers {n : Nat} {cs : List D} (h : Tell TT (n + 3) 35 cs) : ∃ ps : List Peer, cs = [peersD ps] ∧ ps.length * 16 ≤ 140737488351232 ∧ ∀ p ∈ ps, in64 p.id ∧ in64 p.missed := by
  unfold Tell at h
  simp at h
  obtain ⟨rows, rfl, hl, hr⟩ := h
  obtain ⟨xs, rfl, hx⟩ := rows_of (f := Peer.row) (Q := fun p => in64 p.id ∧ in64 p.missed) rows fun r h => tell_Peer (hr r h)
  exact ⟨xs, by simp [peersD], by simpa using hl, hx⟩
def View.tame (v : View) : Prop := v.peers.length * 16 ≤ 140737488351232 ∧ v.passive.length * 8 ≤ 140737488351232 ∧ in64 v.id ∧ (∀ p ∈ v.peers, in64 p.id ∧ in64 p.missed) ∧ ∀ x ∈ v.passive, in64 x
theorem View.tame.small {v : View} (h : v.tame) : v.small := by
  obtain ⟨h1, h2, _⟩ := h
  unfold View.small cap16 cap
  omega
theorem tell_View {n : Nat} {cs : List D} (h : Tell TT (n + 4) 38 cs) : ∃ v : View, cs = v.cells ∧ v.tame := by
  unfold Tell at h
  simp [Tell.TellFs] at h
  obtain ⟨a, r, rfl, h1, b, c, rfl, h2, h3⟩ := h
  obtain ⟨x, rfl, hx⟩ := tell_int h1
  obtain ⟨ps, rfl, hp, hp2⟩ := tell_peers h2
  obtain ⟨xs, rfl, hq, hq2⟩ := tell_ints h3
  exact ⟨⟨x, ps, xs⟩, rfl, hp, hq, hx, hp2, hq2⟩
theorem tell_Version {n : Nat} {cs : List D} (h : Tell TT (n + 2) 44 cs) : ∃ c w : Int, cs = [.int .i64 c, .int .i64 w] ∧ in64 c ∧ in64 w := by
  unfold Tell at h
  simp [Tell.TellFs] at h
  obtain ⟨a, b, rfl, h1, h2⟩ := h
  obtain ⟨x, rfl, hx⟩ := tell_int h1
  obtain ⟨y, rfl, hy⟩ := tell_int h2
  exact ⟨x, y, rfl, hx, hy⟩
def Item.tame (i : Item) : Prop := in64 i.key ∧ in64 i.count ∧ in64 i.writer ∧ in64 i.value
theorem tell_Item {n : Nat} {cs : List D} (h : Tell TT (n + 3) 46 cs) : ∃ i : Item, cs = i.row ∧ i.tame := by
  unfold Tell at h
  simp [Tell.TellFs] at h
  obtain ⟨a, r1, rfl, h1, b, r2, rfl, h2, c, d, rfl, h3, h4⟩ := h
  obtain ⟨x, rfl, hx⟩ := tell_int h1
  obtain ⟨y, z, rfl, hy, hz⟩ := tell_Version h2
  obtain ⟨u, rfl, hu⟩ := tell_int h3
  obtain ⟨g, rfl⟩ := tell_bool h4
  exact ⟨⟨x, y, z, u, g⟩, rfl, hx, hy, hz, hu⟩
theorem tell_items {n : Nat} {cs : List D} (h : Tell TT (n + 4) 39 cs) : ∃ is : List Item, cs = [itemsD is] ∧ is.length * 40 ≤ 140737488351232 ∧ ∀ i ∈ is, i.tame := by
  unfold Tell at h
  simp at h
  obtain ⟨rows, rfl, hl, hr⟩ := h
  obtain ⟨xs, rfl, hx⟩ := rows_of (f := Item.row) (Q := Item.tame) rows fun r h => tell_Item (hr r h)
  exact ⟨xs, by simp [itemsD], by simpa using hl, hx⟩
theorem tell_Told {n : Nat} {cs : List D} (h : Tell TT (n + 2) 61 cs) : ∃ t : Told, cs = t.row ∧ in64 t.key ∧ in64 t.value := by
  unfold Tell at h
  simp [Tell.TellFs] at h
  obtain ⟨a, r1, rfl, h1, b, c, rfl, h2, h3⟩ := h
  obtain ⟨x, rfl, hx⟩ := tell_int h1
  obtain ⟨g, rfl⟩ := tell_bool h2
  obtain ⟨u, rfl, hu⟩ := tell_int h3
  exact ⟨⟨x, g, u⟩, rfl, hx, hu⟩
theorem tell_tolds {n : Nat} {cs : List D} (h : Tell TT (n + 3) 40 cs) : ∃ ts : List Told, cs = [toldsD ts] ∧ ts.length * 24 ≤ 140737488351232 ∧ ∀ t ∈ ts, in64 t.key ∧ in64 t.value := by
  unfold Tell at h
  simp at h
  obtain ⟨rows, rfl, hl, hr⟩ := h
  obtain ⟨xs, rfl, hx⟩ := rows_of (f := Told.row) (Q := fun t => in64 t.key ∧ in64 t.value) rows fun r h => tell_Told (hr r h)
  exact ⟨xs, by simp [toldsD], by simpa using hl, hx⟩
def Node.tame (x : Node) : Prop := x.view.tame ∧ x.items.length * 40 ≤ 140737488351232 ∧ (∀ i ∈ x.items, i.tame) ∧ x.log.length * 24 ≤ 140737488351232 ∧ ∀ t ∈ x.log, in64 t.key ∧ in64 t.value
theorem Node.tame.small {x : Node} (h : x.tame) : x.small := ⟨h.1.small, h.2.1, h.2.2.2.1⟩
theorem tell_Node {n : Nat} {cs : List D} (h : Tell TT (n + 5) 42 cs) : ∃ x : Node, cs = x.cells ∧ x.tame := by
  unfold Tell at h
  simp [Tell.TellFs] at h
  obtain ⟨a, r1, rfl, h1, b, r2, rfl, h2, c, d, rfl, h3, h4⟩ := h
  obtain ⟨u, rfl⟩ := tell_bool h1
  obtain ⟨v, rfl, hv⟩ := tell_View h2
  obtain ⟨is, rfl, h5, h6⟩ := tell_items h3
  obtain ⟨ts, rfl, h7, h8⟩ := tell_tolds h4
  exact ⟨⟨u, v, is, ts⟩, rfl, hv, h5, h6, h7, h8⟩
theorem arg_Node {n : Nat} {d : D} (h : TellArg TT (n + 5) 42 d) : ∃ x : Node, d = nodeD x ∧ x.tame := by
  simp [TellArg] at h
  obtain ⟨cs, rfl, h⟩ := h
  obtain ⟨v, rfl, hv⟩ := tell_Node h
  exact ⟨v, rfl, hv⟩
theorem arg_Item {n : Nat} {d : D} (h : TellArg TT (n + 3) 46 d) : ∃ x : Item, d = .agg x.row ∧ x.tame := by
  simp [TellArg] at h
  obtain ⟨cs, rfl, h⟩ := h
  obtain ⟨v, rfl, hv⟩ := tell_Item h
  exact ⟨v, rfl, hv⟩
theorem arg_items {n : Nat} {d : D} (h : TellArg TT (n + 4) 39 d) : ∃ x : List Item, d = itemsD x ∧ x.length * 40 ≤ 140737488351232 ∧ ∀ i ∈ x, i.tame := by
  simp [TellArg] at h
  obtain ⟨xs, hx, h2⟩ := tell_items h
  simp at hx
  exact ⟨xs, hx, h2⟩
theorem arg_ints {n : Nat} {d : D} (h : TellArg TT (n + 2) 36 d) : ∃ x : List Int, d = intsD x ∧ x.length * 8 ≤ 140737488351232 ∧ ∀ i ∈ x, in64 i := by
  simp [TellArg] at h
  obtain ⟨xs, hx, h2⟩ := tell_ints h
  simp at hx
  exact ⟨xs, hx, h2⟩
theorem arg_peers {n : Nat} {d : D} (h : TellArg TT (n + 3) 35 d) : ∃ x : List Peer, d = peersD x ∧ x.length * 16 ≤ 140737488351232 ∧ ∀ p ∈ x, in64 p.id ∧ in64 p.missed := by
  simp [TellArg] at h
  obtain ⟨xs, hx, h2⟩ := tell_peers h
  simp at hx
  exact ⟨xs, hx, h2⟩
theorem arg_bool {n : Nat} {d : D} (h : TellArg TT (n + 1) 4 d) : ∃ x, d = .bool x ∧ True := by
  simp [TellArg] at h
  obtain ⟨x, hx⟩ := tell_bool h
  simp at hx
  exact ⟨x, hx, trivial⟩
theorem arg_int {n : Nat} {d : D} (h : TellArg TT (n + 1) 3 d) : ∃ x, d = .int .i64 x ∧ in64 x := by
  simp [TellArg] at h
  obtain ⟨x, hx, h2⟩ := tell_int h
  simp at hx
  exact ⟨x, hx, h2⟩
theorem arg_View {n : Nat} {d : D} (h : TellArg TT (n + 4) 38 d) : ∃ v : View, d = viewD v ∧ v.tame := by
  simp [TellArg] at h
  obtain ⟨cs, rfl, h⟩ := h
  obtain ⟨v, rfl, hv⟩ := tell_View h
  exact ⟨v, rfl, hv⟩
end Go.AM
/- Plain law: stores: put twice, in another row. -/
namespace Go.AM
set_option linter.unusedSimpArgs false
set_option linter.unusedVariables false

end Go.AM
namespace Go.AM
end Go.AM
/- AM: contracts: a node is copied, takes an item. -/
namespace Go.AM
set_option linter.unusedSimpArgs false
set_option linter.unusedVariables false
set_option maxRecDepth 8000
set_option maxHeartbeats 0
theorem fit_of {α : Type} {f : α → List D} {n : Nat} (h : ∀ a, (f a).length = n ∧ (f a).all D.isCell = true) (xs : List α) : Fits n (xs.map f) := by
  intro r hr
  obtain ⟨a, _, rfl⟩ := List.mem_map.1 hr
  exact h a
theorem view_Copy (v : View) (hs : v.small) : Den PP 110 [viewD v] [] (.agg [.int .i64 v.id, .ref 0 0 v.peers.length, .ref 1 0 v.passive.length]) [⟨v.peers.map Peer.row, 2, .mut⟩, ⟨v.passive.map irow, 1, .mut⟩] := by
  obtain ⟨h1, h2⟩ := hs
  unfold cap16 at h1
  unfold cap at h2
  have c1 := clone_Peer (v.peers.map Peer.row) (fit_of (f := Peer.row) (n := 2) (fun _ => ⟨rfl, rfl⟩) _) (by simp; omega)
  have c2 := clone_int (v.passive.map irow) (fit_of (f := irow) (n := 1) (fun _ => ⟨rfl, rfl⟩) _) (by simp; omega)
  simp only [List.length_map] at c1 c2
  refine den_of [5, 8] [] is_view_Copy ?_
  simp -implicitDefEqProofs [c_view_Copy, viewD, View.cells, peersD, intsD]
  refine callThen_of c1 ?_
  simp -implicitDefEqProofs [downTo]
  refine callThen_of c2 ?_
  simp -implicitDefEqProofs [downTo]
def copyD (x : Node) : D := .agg [.bool x.up, .int .i64 x.view.id, .ref 0 0 x.view.peers.length, .ref 1 0 x.view.passive.length, .ref 2 0 x.items.length, .ref 3 0 x.log.length]
def nodeB (x : Node) : List Blk := [⟨x.view.peers.map Peer.row, 2, .mut⟩, ⟨x.view.passive.map irow, 1, .mut⟩, ⟨x.items.map Item.row, 5, .mut⟩, ⟨x.log.map Told.row, 3, .mut⟩]
theorem node_Copy (x : Node) (hs : x.small) : Den PP 86 [nodeD x] [] (copyD x) (nodeB x) := by
  have c1 := view_Copy x.view hs.1
  obtain ⟨⟨h1, h2⟩, h3, h4⟩ := hs
  unfold cap16 at h1
  unfold cap at h2
  have c2 := clone_Item (x.items.map Item.row) (fit_of (f := Item.row) (n := 5) (fun _ => ⟨rfl, rfl⟩) _) (by simp; omega)
  have c3 := clone_Told (x.log.map Told.row) (fit_of (f := Told.row) (n := 3) (fun _ => ⟨rfl, rfl⟩) _) (by simp; omega)
  simp only [List.length_map, viewD, View.cells, peersD, intsD] at c1 c2 c3
  unfold copyD nodeB
  refine den_of [5, 8, 11] [] is_node_Copy ?_
  simp -implicitDefEqProofs [c_node_Copy, nodeD, Node.cells, peersD, intsD, itemsD, toldsD]
  refine callThen_of c1 ?_
  simp -implicitDefEqProofs [downTo]
  refine callThen_of c2 ?_
  simp -implicitDefEqProofs [downTo]
  refine callThen_of c3 ?_
  simp -implicitDefEqProofs [downTo]
theorem ref_copyNode (x : Node) (hs : x.small) : Den PP 94 [nodeD x] [] (copyD x) (nodeB x) := by
  obtain ⟨⟨h1, h2⟩, h3, h4⟩ := hs
  unfold cap16 at h1
  unfold cap at h2
  have f1 : Fits 2 (x.view.peers.map Peer.row) := fit_of (f := Peer.row) (n := 2) (fun _ => ⟨rfl, rfl⟩) _
  have f2 : Fits 1 (x.view.passive.map irow) := fit_of (f := irow) (n := 1) (fun _ => ⟨rfl, rfl⟩) _
  have f3 : Fits 5 (x.items.map Item.row) := fit_of (f := Item.row) (n := 5) (fun _ => ⟨rfl, rfl⟩) _
  have f4 : Fits 3 (x.log.map Told.row) := fit_of (f := Told.row) (n := 3) (fun _ => ⟨rfl, rfl⟩) _
  have t1 : List.take x.view.peers.length (x.view.peers.map Peer.row) = x.view.peers.map Peer.row := List.take_of_length_le (by simp)
  have t2 : List.take x.view.passive.length (x.view.passive.map irow) = x.view.passive.map irow := List.take_of_length_le (by simp)
  have t3 : List.take x.items.length (x.items.map Item.row) = x.items.map Item.row := List.take_of_length_le (by simp)
  have t4 : List.take x.log.length (x.log.map Told.row) = x.log.map Told.row := List.take_of_length_le (by simp)
  unfold copyD nodeB
  refine den_of [] [] is_gimmalref16_copyNode ?_
  simp -implicitDefEqProofs [c_gimmalref16_copyNode, nodeD, Node.cells, peersD, intsD, itemsD, toldsD, t1, t2, t3, t4, f1, f2, f3, f4]
  repeat' ((first | refine callThen_of (by first | exact ring_Place _ | exact den_nrm (ring_Place _) | exact den_nrm (by simpa using ring_Place _)) ?_ | with_reducible refine gOps_dec (fun _ => ?_) (fun _ => ?_) | with_reducible refine gOps_ndec (fun _ => ?_) (fun _ => ?_) | (with_reducible refine gOps_and (fun hq => ?_) (fun hq => ?_) <;> (try simp at hq)) | (with_reducible refine gOps_or (fun hq => ?_) (fun hq => ?_) <;> (try simp at hq)) | (with_reducible refine gOps_not (fun hq => ?_) (fun hq => ?_) <;> (try simp at hq)) | (with_reducible refine gOps_split (fun hq => ?_) (fun hq => ?_) <;> (try simp at hq)) | with_reducible refine condC_dec (fun _ => ?_) (fun _ => ?_) | with_reducible refine condC_ndec (fun _ => ?_) (fun _ => ?_) | (with_reducible refine condC_and (fun hq => ?_) (fun hq => ?_) <;> (try simp at hq)) | (with_reducible refine condC_or (fun hq => ?_) (fun hq => ?_) <;> (try simp at hq)) | (with_reducible refine condC_not (fun hq => ?_) (fun hq => ?_) <;> (try simp at hq)) | (with_reducible refine condC_split (fun hq => ?_) (fun hq => ?_) <;> (try simp at hq)) | refine appK2_if (by omega) ?_ | refine pureV_if (by omega) ?_) <;> simp -implicitDefEqProofs [*, t1, t2, t3, t4, f1, f2, f3, f4])
def takeI (x : Node) (i : Item) : Node := if (putR x.items i).2 = 0 then { x with items := (putR x.items i).1 } else x
theorem take_Item (x : Node) (i : Item) (hs : x.small) (h : (nodeUp x && itemMay i) = true) : Den PP 42 [nodeD x, .agg i.row] [] (.tup [copyD (takeI x i), .int .i64 0]) (nodeB (takeI x i)) := by
  have c1 := node_Up x hs
  have c2 := item_May i
  have c3 := node_Copy x hs
  have c4 := store_Put x.items i (by have := hs.2.1; unfold cap16; omega)
  rw [Bool.and_eq_true] at h
  obtain ⟨h1, h2⟩ := h
  rw [h1] at c1
  rw [h2] at c2
  unfold takeI
  generalize putR x.items i = r at *
  obtain ⟨is, e⟩ := r
  simp only [nodeD, Node.cells, peersD, intsD, itemsD, toldsD, Item.row, copyD, nodeB] at c1 c2 c3 c4 ⊢
  clear h1 h2
  refine den_of [19, 24] [] is_take_Item ?_
  by_cases he : e = 0
  · subst he
    simp -implicitDefEqProofs [c_take_Item, nodeD, Node.cells, peersD, intsD, itemsD, toldsD, Item.row]
    refine callThen_of c1 ?_
    simp -implicitDefEqProofs
    refine callThen_of c2 ?_
    simp -implicitDefEqProofs
    refine callThen_of c3 ?_
    simp -implicitDefEqProofs [downTo]
    refine callThen_of c4 ?_
    simp -implicitDefEqProofs [downTo]
  · simp -implicitDefEqProofs [c_take_Item, nodeD, Node.cells, peersD, intsD, itemsD, toldsD, Item.row]
    refine callThen_of c1 ?_
    simp -implicitDefEqProofs
    refine callThen_of c2 ?_
    simp -implicitDefEqProofs
    refine callThen_of c3 ?_
    simp -implicitDefEqProofs [downTo]
    refine callThen_of c4 ?_
    simp -implicitDefEqProofs [downTo, he]
end Go.AM
/- AM: contracts: the document's take; a node spoiled. -/
namespace Go.AM
set_option linter.unusedSimpArgs false
set_option linter.unusedVariables false
set_option maxRecDepth 8000
set_option maxHeartbeats 0
theorem ref_Take (x : Node) (i : Item) (hs : x.small) (h : (nodeUp x && itemMay i) = true) : Den PP 95 [nodeD x, .agg i.row] [] (.tup [copyD (takeI x i), .int .i64 0]) (nodeB (takeI x i)) := by
  have c1 := ref_upMay x hs
  have c2 := ref_ItemMay i
  have c3 := ref_copyNode x hs
  have c4 := ref_PutStore x.items i (by have := hs.2.1; unfold cap16; omega)
  rw [Bool.and_eq_true] at h
  obtain ⟨h1, h2⟩ := h
  rw [h1] at c1
  rw [h2] at c2
  unfold takeI
  generalize putR x.items i = r at *
  obtain ⟨is, e⟩ := r
  simp only [nodeD, Node.cells, peersD, intsD, itemsD, toldsD, Item.row, copyD, nodeB] at c1 c2 c3 c4 ⊢
  clear h1 h2
  refine den_of [19, 24] [] is_gimmalref16_Take ?_
  by_cases he : e = 0
  · subst he
    simp -implicitDefEqProofs [c_gimmalref16_Take, nodeD, Node.cells, peersD, intsD, itemsD, toldsD, Item.row]
    refine callThen_of c1 ?_
    simp -implicitDefEqProofs
    refine callThen_of c2 ?_
    simp -implicitDefEqProofs
    refine callThen_of c3 ?_
    simp -implicitDefEqProofs [downTo]
    refine callThen_of c4 ?_
    simp -implicitDefEqProofs [downTo]
  · simp -implicitDefEqProofs [c_gimmalref16_Take, nodeD, Node.cells, peersD, intsD, itemsD, toldsD, Item.row]
    refine callThen_of c1 ?_
    simp -implicitDefEqProofs
    refine callThen_of c2 ?_
    simp -implicitDefEqProofs
    refine callThen_of c3 ?_
    simp -implicitDefEqProofs [downTo]
    refine callThen_of c4 ?_
    simp -implicitDefEqProofs [downTo, he]
theorem law_SpoilPeers_nil : Den PP 177 [.nil] [] (.tup []) [] := by
  refine den_of [] [] is_gimmallaw0_SpoilPeers ?_
  simp -implicitDefEqProofs [c_gimmallaw0_SpoilPeers]
  refine loop_rule 0 (fun _ ⟨fr, bs⟩ => bs = [] ∧ fr 0 = .nil ∧ fr 2 = .int .i64 0) (fun ⟨fr, bs⟩ => bs = []) (fun _ => False) c_gimmallaw0_SpoilPeers_L0.eq_1 ?_ ?_ ?_ ?_ ?_
  · exact ⟨rfl, rfl, rfl⟩
  · rintro ⟨fr, bs⟩ ⟨rfl, h0, h2⟩
    simp -implicitDefEqProofs [h0, h2]
  · rintro m ⟨fr, bs⟩ ⟨rfl, h0, h2⟩
    simp -implicitDefEqProofs [h0, h2]
  · rintro ⟨fr, bs⟩ rfl
    simp -implicitDefEqProofs
  · rintro ⟨fr, bs⟩ h
    exact h.elim
theorem law_SpoilItems_nil : Den PP 101 [.nil] [] (.tup []) [] := by
  refine den_of [] [] is_gimmallaw0_SpoilItems ?_
  simp -implicitDefEqProofs [c_gimmallaw0_SpoilItems]
  refine loop_rule 0 (fun _ ⟨fr, bs⟩ => bs = [] ∧ fr 0 = .nil ∧ fr 2 = .int .i64 0) (fun ⟨fr, bs⟩ => bs = []) (fun _ => False) c_gimmallaw0_SpoilItems_L0.eq_1 ?_ ?_ ?_ ?_ ?_
  · exact ⟨rfl, rfl, rfl⟩
  · rintro ⟨fr, bs⟩ ⟨rfl, h0, h2⟩
    simp -implicitDefEqProofs [h0, h2]
  · rintro m ⟨fr, bs⟩ ⟨rfl, h0, h2⟩
    simp -implicitDefEqProofs [h0, h2]
  · rintro ⟨fr, bs⟩ rfl
    simp -implicitDefEqProofs
  · rintro ⟨fr, bs⟩ h
    exact h.elim
theorem law_SpoilTolds_nil : Den PP 102 [.nil] [] (.tup []) [] := by
  refine den_of [] [] is_gimmallaw0_SpoilTolds ?_
  simp -implicitDefEqProofs [c_gimmallaw0_SpoilTolds]
  refine loop_rule 0 (fun _ ⟨fr, bs⟩ => bs = [] ∧ fr 0 = .nil ∧ fr 2 = .int .i64 0) (fun ⟨fr, bs⟩ => bs = []) (fun _ => False) c_gimmallaw0_SpoilTolds_L0.eq_1 ?_ ?_ ?_ ?_ ?_
  · exact ⟨rfl, rfl, rfl⟩
  · rintro ⟨fr, bs⟩ ⟨rfl, h0, h2⟩
    simp -implicitDefEqProofs [h0, h2]
  · rintro m ⟨fr, bs⟩ ⟨rfl, h0, h2⟩
    simp -implicitDefEqProofs [h0, h2]
  · rintro ⟨fr, bs⟩ rfl
    simp -implicitDefEqProofs
  · rintro ⟨fr, bs⟩ h
    exact h.elim
theorem law_SpoilView_nil (i : Int) : Den PP 100 [.agg [.int .i64 i, .nil, .nil]] [] (.tup []) [] := by
  refine den_of [] [3, 6] is_gimmallaw0_SpoilView ?_
  simp -implicitDefEqProofs [c_gimmallaw0_SpoilView]
  refine lendThen_frame [] rfl (by decide) (by simp) law_SpoilPeers_nil (by simp) (by simp [lentBs]) ?_
  simp -implicitDefEqProofs [framed]
  refine lendThen_frame [] rfl (by decide) (by simp) law_SpoilInts_nil (by simp) (by simp [lentBs]) ?_
  simp -implicitDefEqProofs [framed]
theorem law_SpoilView (v : View) (hs : v.peers.length ≤ cap16) (hp : v.passive.length ≤ cap16) : Den PP 100 [.agg [.int .i64 v.id, .ref 0 0 v.peers.length, .ref 1 0 v.passive.length]] [⟨v.peers.map Peer.row, 2, .mut⟩, ⟨v.passive.map irow, 1, .mut⟩] (.tup []) [⟨(v.peers.map spoilPeer).map Peer.row, 2, .mut⟩, ⟨(v.passive.map spoilInt).map irow, 1, .mut⟩] := by
  have s1 := spoil_Peer v.peers hs
  have s2 := spoil_Int v.passive hp
  refine den_of [] [3, 6] is_gimmallaw0_SpoilView ?_
  simp -implicitDefEqProofs [c_gimmallaw0_SpoilView]
  refine lendThen_frame [0] rfl (by decide) (by simp) s1 (by simp) (by simp [lentBs]) ?_
  simp -implicitDefEqProofs [framed]
  refine lendThen_frame [1] rfl (by decide) (by simp) s2 (by simp) (by simp [lentBs]) ?_
  simp -implicitDefEqProofs [framed]
theorem law_SpoilNode_nil (u : Bool) (i : Int) : Den PP 32 [.agg [.bool u, .int .i64 i, .nil, .nil, .nil, .nil]] [] (.tup []) [] := by
  refine den_of [] [3, 6, 9] is_gimmallaw0_SpoilNode ?_
  simp -implicitDefEqProofs [c_gimmallaw0_SpoilNode]
  refine lendThen_frame [] rfl (by decide) (by simp) (law_SpoilView_nil i) (by simp) (by simp [lentBs]) ?_
  simp -implicitDefEqProofs [framed]
  refine lendThen_frame [] rfl (by decide) (by simp) law_SpoilItems_nil (by simp) (by simp [lentBs]) ?_
  simp -implicitDefEqProofs [framed]
  refine lendThen_frame [] rfl (by decide) (by simp) law_SpoilTolds_nil (by simp) (by simp [lentBs]) ?_
  simp -implicitDefEqProofs [framed]
def spoilN (x : Node) : Node := ⟨x.up, ⟨x.view.id, x.view.peers.map spoilPeer, x.view.passive.map spoilInt⟩, x.items.map spoilItem, x.log.map spoilTold⟩
theorem law_SpoilNode (x : Node) (h1 : x.view.peers.length ≤ cap16) (h2 : x.view.passive.length ≤ cap16) (h3 : x.items.length ≤ cap16) (h4 : x.log.length ≤ cap16) : Den PP 32 [copyD x] (nodeB x) (.tup []) (nodeB (spoilN x)) := by
  have s1 := law_SpoilView x.view h1 h2
  have s2 := spoil_Item x.items h3
  have s3 := spoil_Told x.log h4
  unfold copyD nodeB spoilN
  refine den_of [] [3, 6, 9] is_gimmallaw0_SpoilNode ?_
  simp -implicitDefEqProofs [c_gimmallaw0_SpoilNode]
  refine lendThen_frame [0, 1] rfl (by decide) (by simp) s1 (by simp) (by simp [lentBs]) ?_
  simp -implicitDefEqProofs [framed]
  refine lendThen_frame [2] rfl (by decide) (by simp) s2 (by simp) (by simp [lentBs]) ?_
  simp -implicitDefEqProofs [framed]
  refine lendThen_frame [3] rfl (by decide) (by simp) s3 (by simp) (by simp [lentBs]) ?_
  simp -implicitDefEqProofs [framed]
end Go.AM
/- AM: chapter 20's statements: Takes. -/
namespace Go.AM
set_option linter.unusedSimpArgs false
set_option linter.unusedVariables false
set_option maxRecDepth 8000
set_option maxHeartbeats 0
def itT (k c : Int) : Item := ⟨k, c, 1, c % 256, false⟩
def nodeT : Node := ⟨true, ⟨100, [⟨101, 2⟩, ⟨200, 0⟩, ⟨90, 1⟩], [7]⟩, [⟨95, 1, 1, 1, false⟩, ⟨99, 3, 1, 3, false⟩, ⟨250, 2, 1, 2, false⟩], []⟩
theorem small_nodeT : nodeT.small := by unfold Node.small View.small cap16 cap; decide
theorem nodeUp_parts {x : Node} (h : nodeUp x = true) : x.up = true ∧ viewMay x.view = true ∧ storeMay x.items = true ∧ x.log.length ≤ 64 ∧ x.log.any toldOdd = false := by
  simp only [nodeUp, nodeMay, Bool.and_eq_true, decide_eq_true_eq, Bool.not_eq_true'] at h
  exact ⟨h.1, h.2.1.1.1.2, h.2.1.1.2, h.2.1.2, h.2.2⟩
theorem nodeUp_of {x : Node} (h1 : x.up = true) (h2 : viewMay x.view = true) (h3 : storeMay x.items = true) (h4 : x.log.length ≤ 64) (h5 : x.log.any toldOdd = false) : nodeUp x = true := by
  simp [nodeUp, nodeMay, h1, h2, h3, h4, h5]
theorem takeI_up {x : Node} {i : Item} (h : nodeUp x = true) : nodeUp (takeI x i) = true := by
  obtain ⟨h1, h2, h3, h4, h5⟩ := nodeUp_parts h
  unfold takeI
  split
  · rename_i h6
    obtain ⟨_, _, h7, h8⟩ := putR_may h6
    rw [h7]
    exact nodeUp_of h1 h2 h8 h4 h5
  · exact h
theorem nodeUp_small {x : Node} (h : nodeUp x = true) : x.view.peers.length ≤ 16 ∧ x.view.passive.length ≤ 16 ∧ x.items.length ≤ 16 ∧ x.log.length ≤ 64 := by
  obtain ⟨h1, h2, h3, h4, h5⟩ := nodeUp_parts h
  have h6 := (viewMay_parts h2).2.2.1
  have h7 := ((storeMay_iff _).1 h3).2.2
  omega
theorem nodeUp_small2 {x : Node} (h : nodeUp x = true) : x.small := by
  obtain ⟨h1, h2, h3, h4⟩ := nodeUp_small h
  unfold Node.small View.small cap16 cap
  omega
end Go.AM
/- AM: contracts: what a node was told is noted. -/
namespace Go.AM
set_option linter.unusedSimpArgs false
set_option linter.unusedVariables false
set_option maxRecDepth 8000
set_option maxHeartbeats 0
def toldOf (key : Int) (i : Item) (has : Bool) : Told := ⟨key, has && !i.gone, if has && !i.gone then i.value else 0⟩
theorem ask_note (x : Node) (key : Int) (i : Item) (has : Bool) (hs : x.small) (hl : x.log.length ≤ 64) : Den PP 131 [nodeD x, .int .i64 key, .agg i.row, .bool has] [] (.agg [.bool x.up, .int .i64 x.view.id, .ref 0 0 x.view.peers.length, .ref 1 0 x.view.passive.length, .ref 2 0 x.items.length, .ref 3 (x.log.length + 1 - 64) (x.log.length + 1 - (x.log.length + 1 - 64))])
    [⟨x.view.peers.map Peer.row, 2, .mut⟩, ⟨x.view.passive.map irow, 1, .mut⟩, ⟨x.items.map Item.row, 5, .mut⟩, ⟨(x.log ++ [toldOf key i has]).map Told.row, 3, .mut⟩] := by
  have c1 := node_Copy x hs
  obtain ⟨ik, ic, iw, iv, ig⟩ := i
  simp only [nodeD, Node.cells, peersD, intsD, itemsD, toldsD, Item.row, copyD, nodeB] at c1 ⊢
  have hm : (if IntKind.wrap .i64 ((x.log.length : Int) + 1 - 64) < 0 then 0 else IntKind.wrap .i64 ((x.log.length : Int) + 1 - 64)) = ((x.log.length + 1 - 64 : Nat) : Int) := by
    rw [wrap_in (by omega) (by omega)]; split <;> omega
  refine den_of [12] [] is_ask_note ?_
  cases has <;> cases ig
  all_goals
    simp -implicitDefEqProofs [c_ask_note]
    refine callThen_of c1 ?_
    simp -implicitDefEqProofs [downTo]
  case false.false | false.true | true.true =>
    refine ⟨by simp [Fits], ?_⟩
    repeat' ((first | refine callThen_of (by first | exact ring_Place _ | exact den_nrm (ring_Place _) | exact den_nrm (by simpa using ring_Place _)) ?_ | with_reducible refine gOps_dec (fun _ => ?_) (fun _ => ?_) | with_reducible refine gOps_ndec (fun _ => ?_) (fun _ => ?_) | (with_reducible refine gOps_and (fun hq => ?_) (fun hq => ?_) <;> (try simp at hq)) | (with_reducible refine gOps_or (fun hq => ?_) (fun hq => ?_) <;> (try simp at hq)) | (with_reducible refine gOps_not (fun hq => ?_) (fun hq => ?_) <;> (try simp at hq)) | (with_reducible refine gOps_split (fun hq => ?_) (fun hq => ?_) <;> (try simp at hq)) | with_reducible refine condC_dec (fun _ => ?_) (fun _ => ?_) | with_reducible refine condC_ndec (fun _ => ?_) (fun _ => ?_) | (with_reducible refine condC_and (fun hq => ?_) (fun hq => ?_) <;> (try simp at hq)) | (with_reducible refine condC_or (fun hq => ?_) (fun hq => ?_) <;> (try simp at hq)) | (with_reducible refine condC_not (fun hq => ?_) (fun hq => ?_) <;> (try simp at hq)) | (with_reducible refine condC_split (fun hq => ?_) (fun hq => ?_) <;> (try simp at hq)) | refine appK2_if (by omega) ?_ | refine pureV_if (by omega) ?_) <;> simp -implicitDefEqProofs [*, downTo])
    simp -implicitDefEqProofs [minL, minF, hm]
    refine outK_slice (x.log.length + 1 - 64) (x.log.length + 1) (by simp; rfl) rfl (by simp [boundD, hm]) (by first | rfl | omega | (simp [boundD]; done) | (simp [boundD]; omega) | (simp; done) | (simp; omega) | (simp [*]; done) | (simp [*]; omega)) (by omega) (by first | rfl | omega | (simp [boundD]; done) | (simp [boundD]; omega) | (simp; done) | (simp; omega) | (simp [*]; done) | (simp [*]; omega)) rfl (by first | rfl | omega | (simp [boundD]; done) | (simp [boundD]; omega) | (simp; done) | (simp; omega) | (simp [*]; done) | (simp [*]; omega)) ?_
    simp -implicitDefEqProofs [toldOf, Told.row]
  case true.false =>
    repeat' apply And.intro
    all_goals try (simp [Fits]; done)
    all_goals
      repeat' ((first | refine callThen_of (by first | exact ring_Place _ | exact den_nrm (ring_Place _) | exact den_nrm (by simpa using ring_Place _)) ?_ | with_reducible refine gOps_dec (fun _ => ?_) (fun _ => ?_) | with_reducible refine gOps_ndec (fun _ => ?_) (fun _ => ?_) | (with_reducible refine gOps_and (fun hq => ?_) (fun hq => ?_) <;> (try simp at hq)) | (with_reducible refine gOps_or (fun hq => ?_) (fun hq => ?_) <;> (try simp at hq)) | (with_reducible refine gOps_not (fun hq => ?_) (fun hq => ?_) <;> (try simp at hq)) | (with_reducible refine gOps_split (fun hq => ?_) (fun hq => ?_) <;> (try simp at hq)) | with_reducible refine condC_dec (fun _ => ?_) (fun _ => ?_) | with_reducible refine condC_ndec (fun _ => ?_) (fun _ => ?_) | (with_reducible refine condC_and (fun hq => ?_) (fun hq => ?_) <;> (try simp at hq)) | (with_reducible refine condC_or (fun hq => ?_) (fun hq => ?_) <;> (try simp at hq)) | (with_reducible refine condC_not (fun hq => ?_) (fun hq => ?_) <;> (try simp at hq)) | (with_reducible refine condC_split (fun hq => ?_) (fun hq => ?_) <;> (try simp at hq)) | refine appK2_if (by omega) ?_ | refine pureV_if (by omega) ?_) <;> simp -implicitDefEqProofs [*, downTo])
      simp -implicitDefEqProofs [minL, minF, hm]
      refine outK_slice (x.log.length + 1 - 64) (x.log.length + 1) (by simp; rfl) rfl (by simp [boundD, hm]) (by first | rfl | omega | (simp [boundD]; done) | (simp [boundD]; omega) | (simp; done) | (simp; omega) | (simp [*]; done) | (simp [*]; omega)) (by omega) (by first | rfl | omega | (simp [boundD]; done) | (simp [boundD]; omega) | (simp; done) | (simp; omega) | (simp [*]; done) | (simp [*]; omega)) rfl (by first | rfl | omega | (simp [boundD]; done) | (simp [boundD]; omega) | (simp; done) | (simp; omega) | (simp [*]; done) | (simp [*]; omega)) ?_
      simp -implicitDefEqProofs [toldOf, Told.row]
end Go.AM
/- AM: contracts: messages that may be. -/
namespace Go.AM
set_option linter.unusedSimpArgs false
set_option linter.unusedVariables false
set_option maxRecDepth 8000
set_option maxHeartbeats 0
theorem ref_MsgMay (m : Msg) (hl : m.ids.length ≤ cap) : Den PP 92 [msgD m] [] (.bool (msgMay m)) [] := by
  obtain ⟨kind, from_, to, ids, key, ⟨ik, ic, iw, iv, ig⟩, has⟩ := m
  have c1 := ref_placesMay ids hl
  obtain ⟨A, hA⟩ : ∃ A, ids.all place = A := ⟨_, rfl⟩
  rw [hA] at c1
  simp only [intsD] at c1
  refine den_of [] [] is_gimmalref1_MsgMay ?_
  simp -implicitDefEqProofs [c_gimmalref1_MsgMay, msgD, Msg.row, intsD, EQS]
  repeat' ((first | refine callThen_of (by first | exact c1 | exact ref_ItemMay_raw _ _ _ _ _ | exact ref_PlaceMay _) ?_ | with_reducible refine gOps_dec (fun _ => ?_) (fun _ => ?_) | with_reducible refine gOps_ndec (fun _ => ?_) (fun _ => ?_) | (with_reducible refine gOps_and (fun hq => ?_) (fun hq => ?_) <;> (try simp at hq)) | (with_reducible refine gOps_or (fun hq => ?_) (fun hq => ?_) <;> (try simp at hq)) | (with_reducible refine gOps_not (fun hq => ?_) (fun hq => ?_) <;> (try simp at hq)) | (with_reducible refine gOps_split (fun hq => ?_) (fun hq => ?_) <;> (try simp at hq)) | with_reducible refine condC_dec (fun _ => ?_) (fun _ => ?_) | with_reducible refine condC_ndec (fun _ => ?_) (fun _ => ?_) | (with_reducible refine condC_and (fun hq => ?_) (fun hq => ?_) <;> (try simp at hq)) | (with_reducible refine condC_or (fun hq => ?_) (fun hq => ?_) <;> (try simp at hq)) | (with_reducible refine condC_not (fun hq => ?_) (fun hq => ?_) <;> (try simp at hq)) | (with_reducible refine condC_split (fun hq => ?_) (fun hq => ?_) <;> (try simp at hq)) | refine appK2_if (by omega) ?_ | refine pureV_if (by omega) ?_) <;> simp -implicitDefEqProofs [*, EQS])
  all_goals (simp only [msgMay, hA, zeroItem, Item.mk.injEq]; first | (simp [*]; done) | (simp [*]; grind) | grind)
def noneM (ids : List Int) (key : Int) (i : Item) (has : Bool) : Bool := decide (ids.length = 0) && decide (key = 0) && decide (i = zeroItem) && !has
theorem msg_none_raw (kind f t key ik ic iw iv : Int) (ig has : Bool) (ids : List Int) : Den PP 169 [.agg [.int .i64 kind, .int .i64 f, .int .i64 t, .sl (ids.map irow) ids.length, .int .i64 key, .int .i64 ik, .int .i64 ic, .int .i64 iw, .int .i64 iv, .bool ig, .bool has]] [] (.bool (noneM ids key ⟨ik, ic, iw, iv, ig⟩ has)) [] := by
  refine den_of [] [] is_msg_none ?_
  simp -implicitDefEqProofs [c_msg_none, EQS]
  repeat' ((first | with_reducible refine gOps_dec (fun _ => ?_) (fun _ => ?_) | with_reducible refine gOps_ndec (fun _ => ?_) (fun _ => ?_) | (with_reducible refine gOps_and (fun hq => ?_) (fun hq => ?_) <;> (try simp at hq)) | (with_reducible refine gOps_or (fun hq => ?_) (fun hq => ?_) <;> (try simp at hq)) | (with_reducible refine gOps_not (fun hq => ?_) (fun hq => ?_) <;> (try simp at hq)) | (with_reducible refine gOps_split (fun hq => ?_) (fun hq => ?_) <;> (try simp at hq)) | with_reducible refine condC_dec (fun _ => ?_) (fun _ => ?_) | with_reducible refine condC_ndec (fun _ => ?_) (fun _ => ?_) | (with_reducible refine condC_and (fun hq => ?_) (fun hq => ?_) <;> (try simp at hq)) | (with_reducible refine condC_or (fun hq => ?_) (fun hq => ?_) <;> (try simp at hq)) | (with_reducible refine condC_not (fun hq => ?_) (fun hq => ?_) <;> (try simp at hq)) | (with_reducible refine condC_split (fun hq => ?_) (fun hq => ?_) <;> (try simp at hq)) | refine appK2_if (by omega) ?_ | refine pureV_if (by omega) ?_) <;> simp -implicitDefEqProofs [*, EQS])
  all_goals (simp only [noneM, zeroItem, Item.mk.injEq]; first | (simp [*]; done) | (simp [*]; grind) | grind)
theorem msg_none_nil (kind f t key ik ic iw iv : Int) (ig has : Bool) : Den PP 169 [.agg [.int .i64 kind, .int .i64 f, .int .i64 t, .nil, .int .i64 key, .int .i64 ik, .int .i64 ic, .int .i64 iw, .int .i64 iv, .bool ig, .bool has]] [] (.bool (noneM [] key ⟨ik, ic, iw, iv, ig⟩ has)) [] := by
  refine den_of [] [] is_msg_none ?_
  simp -implicitDefEqProofs [c_msg_none, EQS]
  repeat' ((first | with_reducible refine gOps_dec (fun _ => ?_) (fun _ => ?_) | with_reducible refine gOps_ndec (fun _ => ?_) (fun _ => ?_) | (with_reducible refine gOps_and (fun hq => ?_) (fun hq => ?_) <;> (try simp at hq)) | (with_reducible refine gOps_or (fun hq => ?_) (fun hq => ?_) <;> (try simp at hq)) | (with_reducible refine gOps_not (fun hq => ?_) (fun hq => ?_) <;> (try simp at hq)) | (with_reducible refine gOps_split (fun hq => ?_) (fun hq => ?_) <;> (try simp at hq)) | with_reducible refine condC_dec (fun _ => ?_) (fun _ => ?_) | with_reducible refine condC_ndec (fun _ => ?_) (fun _ => ?_) | (with_reducible refine condC_and (fun hq => ?_) (fun hq => ?_) <;> (try simp at hq)) | (with_reducible refine condC_or (fun hq => ?_) (fun hq => ?_) <;> (try simp at hq)) | (with_reducible refine condC_not (fun hq => ?_) (fun hq => ?_) <;> (try simp at hq)) | (with_reducible refine condC_split (fun hq => ?_) (fun hq => ?_) <;> (try simp at hq)) | refine appK2_if (by omega) ?_ | refine pureV_if (by omega) ?_) <;> simp -implicitDefEqProofs [*, EQS])
  all_goals (simp only [noneM, zeroItem, Item.mk.injEq]; first | (simp [*]; done) | (simp [*]; grind) | grind)
theorem msg_May (m : Msg) (hl : m.ids.length ≤ cap) : Den PP 85 [msgD m] [] (.bool (msgMay m)) [] := by
  obtain ⟨kind, from_, to, ids, key, ⟨ik, ic, iw, iv, ig⟩, has⟩ := m
  have c1 := ring_Places ids hl
  obtain ⟨A, hA⟩ : ∃ A, ids.all place = A := ⟨_, rfl⟩
  rw [hA] at c1
  simp only [intsD] at c1
  refine den_of [] [] is_msg_May ?_
  simp -implicitDefEqProofs [c_msg_May, msgD, Msg.row, intsD, EQS]
  repeat' ((first | refine callThen_of (by first | exact c1 | exact item_May_raw _ _ _ _ _ | exact ring_Place _ | exact msg_none_raw _ _ _ _ _ _ _ _ _ _ _ | exact msg_none_nil _ _ _ _ _ _ _ _ _ _ | exact den_nrm (msg_none_nil _ _ _ _ _ _ _ _ _ _) | exact den_nrm (by simpa using msg_none_nil _ _ _ _ _ _ _ _ _ _)) ?_ | with_reducible refine gOps_dec (fun _ => ?_) (fun _ => ?_) | with_reducible refine gOps_ndec (fun _ => ?_) (fun _ => ?_) | (with_reducible refine gOps_and (fun hq => ?_) (fun hq => ?_) <;> (try simp at hq)) | (with_reducible refine gOps_or (fun hq => ?_) (fun hq => ?_) <;> (try simp at hq)) | (with_reducible refine gOps_not (fun hq => ?_) (fun hq => ?_) <;> (try simp at hq)) | (with_reducible refine gOps_split (fun hq => ?_) (fun hq => ?_) <;> (try simp at hq)) | with_reducible refine condC_dec (fun _ => ?_) (fun _ => ?_) | with_reducible refine condC_ndec (fun _ => ?_) (fun _ => ?_) | (with_reducible refine condC_and (fun hq => ?_) (fun hq => ?_) <;> (try simp at hq)) | (with_reducible refine condC_or (fun hq => ?_) (fun hq => ?_) <;> (try simp at hq)) | (with_reducible refine condC_not (fun hq => ?_) (fun hq => ?_) <;> (try simp at hq)) | (with_reducible refine condC_split (fun hq => ?_) (fun hq => ?_) <;> (try simp at hq)) | refine appK2_if (by omega) ?_ | refine pureV_if (by omega) ?_) <;> simp -implicitDefEqProofs [*, EQS])
  all_goals (try simp only [noneM, zeroItem, Item.mk.injEq] at *)
  all_goals (simp only [msgMay, hA, zeroItem, Item.mk.injEq]; first | (simp [*]; done) | (simp [*]; grind) | grind)
end Go.AM
/- Plain law: a store takes items twice. -/
namespace Go.AM
set_option linter.unusedSimpArgs false
set_option linter.unusedVariables false

end Go.AM
/- AM: chapter 20's statements: TakeTwice, TakeBest. -/
namespace Go.AM
set_option linter.unusedSimpArgs false
set_option linter.unusedVariables false
set_option maxRecDepth 8000
set_option maxHeartbeats 0
def zeroNode : Node := ⟨false, ⟨0, [], []⟩, [], []⟩
theorem small_zero : zeroNode.small := by unfold Node.small View.small cap16 cap zeroNode; simp
end Go.AM
/- AM: contracts: asking, answering, being told; the document's. -/
namespace Go.AM
set_option linter.unusedSimpArgs false
set_option linter.unusedVariables false
set_option maxRecDepth 8000
set_option maxHeartbeats 0
def noteD (x : Node) (pre xs : List Told) : D := .agg [.bool x.up, .int .i64 x.view.id, .ref 0 0 x.view.peers.length, .ref 1 0 x.view.passive.length, .ref 2 0 x.items.length, .ref 3 pre.length xs.length]
def noteB (x : Node) (pre xs : List Told) : List Blk := [⟨x.view.peers.map Peer.row, 2, .mut⟩, ⟨x.view.passive.map irow, 1, .mut⟩, ⟨x.items.map Item.row, 5, .mut⟩, ⟨(pre ++ xs).map Told.row, 3, .mut⟩]
def logPre (x : Node) (t : Told) : List Told := (x.log ++ [t]).take (x.log.length + 1 - 64)
def logOf (x : Node) (t : Told) : List Told := (x.log ++ [t]).drop (x.log.length + 1 - 64)
theorem log_len (x : Node) (t : Told) : (logPre x t).length = x.log.length + 1 - 64 ∧ (logOf x t).length = x.log.length + 1 - (x.log.length + 1 - 64) ∧ logPre x t ++ logOf x t = x.log ++ [t] := by
  unfold logPre logOf
  refine ⟨by simp; omega, by simp, List.take_append_drop _ _⟩
theorem ask_note' (x : Node) (key : Int) (i : Item) (has : Bool) (hs : x.small) (hl : x.log.length ≤ 64) : Den PP 131 [nodeD x, .int .i64 key, .agg i.row, .bool has] [] (noteD x (logPre x (toldOf key i has)) (logOf x (toldOf key i has))) (noteB x (logPre x (toldOf key i has)) (logOf x (toldOf key i has))) := by
  have := ask_note x key i has hs hl
  obtain ⟨h1, h2, h3⟩ := log_len x (toldOf key i has)
  unfold noteD noteB
  rw [h1, h2, h3]
  exact this
theorem ref_noted (x : Node) (key : Int) (i : Item) (has : Bool) (hs : x.small) (hl : x.log.length ≤ 64) : Den PP 175 [nodeD x, .int .i64 key, .agg i.row, .bool has] [] (noteD x (logPre x (toldOf key i has)) (logOf x (toldOf key i has))) (noteB x (logPre x (toldOf key i has)) (logOf x (toldOf key i has))) := by
  have c1 := ref_copyNode x hs
  obtain ⟨h1, h2, h3⟩ := log_len x (toldOf key i has)
  unfold noteD noteB
  rw [h1, h2, h3]
  clear h1 h2 h3
  obtain ⟨ik, ic, iw, iv, ig⟩ := i
  simp only [nodeD, Node.cells, peersD, intsD, itemsD, toldsD, Item.row, copyD, nodeB] at c1 ⊢
  refine den_of [13] [] is_gimmalref16_noted ?_
  by_cases h64 : x.log.length = 64
  · have w : (64 : Int) < (x.log.length : Int) + 1 := by omega
    have w2 : 64 < x.log.length + 1 := by omega
    cases has <;> cases ig
    all_goals
      simp -implicitDefEqProofs [c_gimmalref16_noted]
      refine callThen_of c1 ?_
      simp -implicitDefEqProofs [downTo]
      repeat' ((first | with_reducible refine gOps_dec (fun _ => ?_) (fun _ => ?_) | with_reducible refine gOps_ndec (fun _ => ?_) (fun _ => ?_) | (with_reducible refine gOps_and (fun hq => ?_) (fun hq => ?_) <;> (try simp at hq)) | (with_reducible refine gOps_or (fun hq => ?_) (fun hq => ?_) <;> (try simp at hq)) | (with_reducible refine gOps_not (fun hq => ?_) (fun hq => ?_) <;> (try simp at hq)) | (with_reducible refine gOps_split (fun hq => ?_) (fun hq => ?_) <;> (try simp at hq)) | with_reducible refine condC_dec (fun _ => ?_) (fun _ => ?_) | with_reducible refine condC_ndec (fun _ => ?_) (fun _ => ?_) | (with_reducible refine condC_and (fun hq => ?_) (fun hq => ?_) <;> (try simp at hq)) | (with_reducible refine condC_or (fun hq => ?_) (fun hq => ?_) <;> (try simp at hq)) | (with_reducible refine condC_not (fun hq => ?_) (fun hq => ?_) <;> (try simp at hq)) | (with_reducible refine condC_split (fun hq => ?_) (fun hq => ?_) <;> (try simp at hq)) | refine appK2_if (by omega) ?_ | refine pureV_if (by omega) ?_) <;> simp -implicitDefEqProofs [*, w, w2])
      refine ⟨by simp [Fits], ?_⟩
      refine outK_slice 1 65 (by simp; rfl) rfl (by first | rfl | omega | (simp [boundD]; done) | (simp [boundD]; omega) | (simp; done) | (simp; omega) | (simp [*]; done) | (simp [*]; omega)) (by first | rfl | omega | (simp [boundD]; done) | (simp [boundD]; omega) | (simp; done) | (simp; omega) | (simp [*]; done) | (simp [*]; omega)) (by omega) (by first | rfl | omega | (simp [boundD]; done) | (simp [boundD]; omega) | (simp; done) | (simp; omega) | (simp [*]; done) | (simp [*]; omega)) rfl (by first | rfl | omega | (simp [boundD]; done) | (simp [boundD]; omega) | (simp; done) | (simp; omega) | (simp [*]; done) | (simp [*]; omega)) ?_
      simp -implicitDefEqProofs [toldOf, Told.row, h64]
  · have w : ¬ (64 : Int) < (x.log.length : Int) + 1 := by omega
    have w2 : x.log.length + 1 - 64 = 0 := by omega
    have w3 : x.log.length - 63 = 0 := by omega
    cases has <;> cases ig
    all_goals
      simp -implicitDefEqProofs [c_gimmalref16_noted]
      refine callThen_of c1 ?_
      simp -implicitDefEqProofs [downTo]
      repeat' ((first | with_reducible refine gOps_dec (fun _ => ?_) (fun _ => ?_) | with_reducible refine gOps_ndec (fun _ => ?_) (fun _ => ?_) | (with_reducible refine gOps_and (fun hq => ?_) (fun hq => ?_) <;> (try simp at hq)) | (with_reducible refine gOps_or (fun hq => ?_) (fun hq => ?_) <;> (try simp at hq)) | (with_reducible refine gOps_not (fun hq => ?_) (fun hq => ?_) <;> (try simp at hq)) | (with_reducible refine gOps_split (fun hq => ?_) (fun hq => ?_) <;> (try simp at hq)) | with_reducible refine condC_dec (fun _ => ?_) (fun _ => ?_) | with_reducible refine condC_ndec (fun _ => ?_) (fun _ => ?_) | (with_reducible refine condC_and (fun hq => ?_) (fun hq => ?_) <;> (try simp at hq)) | (with_reducible refine condC_or (fun hq => ?_) (fun hq => ?_) <;> (try simp at hq)) | (with_reducible refine condC_not (fun hq => ?_) (fun hq => ?_) <;> (try simp at hq)) | (with_reducible refine condC_split (fun hq => ?_) (fun hq => ?_) <;> (try simp at hq)) | refine appK2_if (by omega) ?_ | refine pureV_if (by omega) ?_) <;> simp -implicitDefEqProofs [*, w])
      refine ⟨by simp [Fits], ?_⟩
      repeat' ((first | with_reducible refine gOps_dec (fun _ => ?_) (fun _ => ?_) | with_reducible refine gOps_ndec (fun _ => ?_) (fun _ => ?_) | (with_reducible refine gOps_and (fun hq => ?_) (fun hq => ?_) <;> (try simp at hq)) | (with_reducible refine gOps_or (fun hq => ?_) (fun hq => ?_) <;> (try simp at hq)) | (with_reducible refine gOps_not (fun hq => ?_) (fun hq => ?_) <;> (try simp at hq)) | (with_reducible refine gOps_split (fun hq => ?_) (fun hq => ?_) <;> (try simp at hq)) | with_reducible refine condC_dec (fun _ => ?_) (fun _ => ?_) | with_reducible refine condC_ndec (fun _ => ?_) (fun _ => ?_) | (with_reducible refine condC_and (fun hq => ?_) (fun hq => ?_) <;> (try simp at hq)) | (with_reducible refine condC_or (fun hq => ?_) (fun hq => ?_) <;> (try simp at hq)) | (with_reducible refine condC_not (fun hq => ?_) (fun hq => ?_) <;> (try simp at hq)) | (with_reducible refine condC_split (fun hq => ?_) (fun hq => ?_) <;> (try simp at hq)) | refine appK2_if (by omega) ?_ | refine pureV_if (by omega) ?_) <;> simp -implicitDefEqProofs [*, w, w2, w3, toldOf, Told.row])
def toB (x : Node) (m : Msg) (kind : Int) : Bool := nodeUp x && (msgMay m && (decide (m.kind = kind) && decide (m.to = x.view.id)))
theorem ask_to (x : Node) (m : Msg) (kind : Int) (hs : x.small) (hl : m.ids.length ≤ cap) : Den PP 129 [.mem x.cells, .mem m.row, .int .i64 kind] [] (.bool (toB x m kind)) [] := by
  have c1 := node_Up x hs
  have c2 := msg_May m hl
  unfold toB
  generalize nodeUp x = U at *
  generalize msgMay m = M at *
  simp only [nodeD, Node.cells, peersD, intsD, itemsD, toldsD, Item.row, msgD, Msg.row] at c1 c2 ⊢
  refine den_of [] [] is_ask_to ?_
  cases U <;> cases M
  all_goals
    simp -implicitDefEqProofs [c_ask_to]
    repeat' ((first | refine callThen_of (by first | exact c1 | exact c2) ?_ | with_reducible refine gOps_dec (fun _ => ?_) (fun _ => ?_) | with_reducible refine gOps_ndec (fun _ => ?_) (fun _ => ?_) | (with_reducible refine gOps_and (fun hq => ?_) (fun hq => ?_) <;> (try simp at hq)) | (with_reducible refine gOps_or (fun hq => ?_) (fun hq => ?_) <;> (try simp at hq)) | (with_reducible refine gOps_not (fun hq => ?_) (fun hq => ?_) <;> (try simp at hq)) | (with_reducible refine gOps_split (fun hq => ?_) (fun hq => ?_) <;> (try simp at hq)) | with_reducible refine condC_dec (fun _ => ?_) (fun _ => ?_) | with_reducible refine condC_ndec (fun _ => ?_) (fun _ => ?_) | (with_reducible refine condC_and (fun hq => ?_) (fun hq => ?_) <;> (try simp at hq)) | (with_reducible refine condC_or (fun hq => ?_) (fun hq => ?_) <;> (try simp at hq)) | (with_reducible refine condC_not (fun hq => ?_) (fun hq => ?_) <;> (try simp at hq)) | (with_reducible refine condC_split (fun hq => ?_) (fun hq => ?_) <;> (try simp at hq)) | refine appK2_if (by omega) ?_ | refine pureV_if (by omega) ?_) <;> simp -implicitDefEqProofs [*])
  all_goals (first | (simp [*]; done) | grind)
theorem nodeUp_log {x : Node} (h : nodeUp x = true) : x.log.length ≤ 64 := (nodeUp_parts h).2.2.2.1
def tellOf (x : Node) (m : Msg) : Msg := ⟨3, x.view.id, m.from_, [], m.key, (getR x.items m.key).1, (getR x.items m.key).2⟩
theorem ask_Answer_ok (x : Node) (m : Msg) (hs : x.small) (hl : m.ids.length ≤ cap) (h : toB x m 2 = true) : Den PP 45 [nodeD x, msgD m] [] (.tup [.ref 0 0 1, .int .i64 0]) [⟨[tellOf x m].map Msg.row0, 11, .mut⟩] := by
  have c1 := ask_to x m 2 hs hl
  have c4 := store_Get x.items m.key (by have := hs.2.1; unfold cap16; omega)
  rw [h] at c1
  unfold tellOf
  generalize getR x.items m.key = r at *
  obtain ⟨⟨ik, ic, iw, iv, ig⟩, g2⟩ := r
  simp only [nodeD, Node.cells, peersD, intsD, itemsD, toldsD, Item.row, msgD, Msg.row, Msg.row0, List.map_cons, List.map_nil] at c1 c4 ⊢
  clear h
  refine den_of [] [] is_ask_Answer ?_
  simp -implicitDefEqProofs [c_ask_Answer]
  repeat' ((first | refine callThen_of (by first | exact c1 | exact c4) ?_ | with_reducible refine gOps_dec (fun _ => ?_) (fun _ => ?_) | with_reducible refine gOps_ndec (fun _ => ?_) (fun _ => ?_) | (with_reducible refine gOps_and (fun hq => ?_) (fun hq => ?_) <;> (try simp at hq)) | (with_reducible refine gOps_or (fun hq => ?_) (fun hq => ?_) <;> (try simp at hq)) | (with_reducible refine gOps_not (fun hq => ?_) (fun hq => ?_) <;> (try simp at hq)) | (with_reducible refine gOps_split (fun hq => ?_) (fun hq => ?_) <;> (try simp at hq)) | with_reducible refine condC_dec (fun _ => ?_) (fun _ => ?_) | with_reducible refine condC_ndec (fun _ => ?_) (fun _ => ?_) | (with_reducible refine condC_and (fun hq => ?_) (fun hq => ?_) <;> (try simp at hq)) | (with_reducible refine condC_or (fun hq => ?_) (fun hq => ?_) <;> (try simp at hq)) | (with_reducible refine condC_not (fun hq => ?_) (fun hq => ?_) <;> (try simp at hq)) | (with_reducible refine condC_split (fun hq => ?_) (fun hq => ?_) <;> (try simp at hq)) | refine appK2_if (by omega) ?_ | refine pureV_if (by omega) ?_) <;> simp -implicitDefEqProofs [*, downTo])
  repeat' apply And.intro
  all_goals repeat' ((first | with_reducible refine gOps_dec (fun _ => ?_) (fun _ => ?_) | with_reducible refine gOps_ndec (fun _ => ?_) (fun _ => ?_) | (with_reducible refine gOps_and (fun hq => ?_) (fun hq => ?_) <;> (try simp at hq)) | (with_reducible refine gOps_or (fun hq => ?_) (fun hq => ?_) <;> (try simp at hq)) | (with_reducible refine gOps_not (fun hq => ?_) (fun hq => ?_) <;> (try simp at hq)) | (with_reducible refine gOps_split (fun hq => ?_) (fun hq => ?_) <;> (try simp at hq)) | with_reducible refine condC_dec (fun _ => ?_) (fun _ => ?_) | with_reducible refine condC_ndec (fun _ => ?_) (fun _ => ?_) | (with_reducible refine condC_and (fun hq => ?_) (fun hq => ?_) <;> (try simp at hq)) | (with_reducible refine condC_or (fun hq => ?_) (fun hq => ?_) <;> (try simp at hq)) | (with_reducible refine condC_not (fun hq => ?_) (fun hq => ?_) <;> (try simp at hq)) | (with_reducible refine condC_split (fun hq => ?_) (fun hq => ?_) <;> (try simp at hq)) | refine appK2_if (by omega) ?_ | refine pureV_if (by omega) ?_) <;> simp -implicitDefEqProofs [*, downTo])
theorem ref_Answer_ok (x : Node) (m : Msg) (hs : x.small) (hl : m.ids.length ≤ cap) (h : toB x m 2 = true) : Den PP 96 [nodeD x, msgD m] [] (.tup [.ref 0 0 1, .int .i64 0]) [⟨[tellOf x m].map Msg.row0, 11, .mut⟩] := by
  have c1 := ref_upMay x hs
  have c2 := ref_MsgMay m hl
  have c4 := ref_GetStore x.items m.key (by have := hs.2.1; unfold cap16; omega)
  unfold toB at h
  simp only [Bool.and_eq_true, decide_eq_true_eq] at h
  obtain ⟨h1, h2, h3, h4⟩ := h
  rw [h1] at c1
  rw [h2] at c2
  clear h1 h2
  unfold tellOf
  generalize getR x.items m.key = r at *
  obtain ⟨⟨ik, ic, iw, iv, ig⟩, g2⟩ := r
  simp only [nodeD, Node.cells, peersD, intsD, itemsD, toldsD, Item.row, msgD, Msg.row, Msg.row0, List.map_cons, List.map_nil, h3, h4] at c1 c2 c4 ⊢
  refine den_of [] [] is_gimmalref16_Answer ?_
  simp -implicitDefEqProofs [c_gimmalref16_Answer]
  repeat' ((first | refine callThen_of (by first | exact c1 | exact c2 | exact c4) ?_ | with_reducible refine gOps_dec (fun _ => ?_) (fun _ => ?_) | with_reducible refine gOps_ndec (fun _ => ?_) (fun _ => ?_) | (with_reducible refine gOps_and (fun hq => ?_) (fun hq => ?_) <;> (try simp at hq)) | (with_reducible refine gOps_or (fun hq => ?_) (fun hq => ?_) <;> (try simp at hq)) | (with_reducible refine gOps_not (fun hq => ?_) (fun hq => ?_) <;> (try simp at hq)) | (with_reducible refine gOps_split (fun hq => ?_) (fun hq => ?_) <;> (try simp at hq)) | with_reducible refine condC_dec (fun _ => ?_) (fun _ => ?_) | with_reducible refine condC_ndec (fun _ => ?_) (fun _ => ?_) | (with_reducible refine condC_and (fun hq => ?_) (fun hq => ?_) <;> (try simp at hq)) | (with_reducible refine condC_or (fun hq => ?_) (fun hq => ?_) <;> (try simp at hq)) | (with_reducible refine condC_not (fun hq => ?_) (fun hq => ?_) <;> (try simp at hq)) | (with_reducible refine condC_split (fun hq => ?_) (fun hq => ?_) <;> (try simp at hq)) | refine appK2_if (by omega) ?_ | refine pureV_if (by omega) ?_) <;> simp -implicitDefEqProofs [*, downTo])
  repeat' apply And.intro
  all_goals repeat' ((first | with_reducible refine gOps_dec (fun _ => ?_) (fun _ => ?_) | with_reducible refine gOps_ndec (fun _ => ?_) (fun _ => ?_) | (with_reducible refine gOps_and (fun hq => ?_) (fun hq => ?_) <;> (try simp at hq)) | (with_reducible refine gOps_or (fun hq => ?_) (fun hq => ?_) <;> (try simp at hq)) | (with_reducible refine gOps_not (fun hq => ?_) (fun hq => ?_) <;> (try simp at hq)) | (with_reducible refine gOps_split (fun hq => ?_) (fun hq => ?_) <;> (try simp at hq)) | with_reducible refine condC_dec (fun _ => ?_) (fun _ => ?_) | with_reducible refine condC_ndec (fun _ => ?_) (fun _ => ?_) | (with_reducible refine condC_and (fun hq => ?_) (fun hq => ?_) <;> (try simp at hq)) | (with_reducible refine condC_or (fun hq => ?_) (fun hq => ?_) <;> (try simp at hq)) | (with_reducible refine condC_not (fun hq => ?_) (fun hq => ?_) <;> (try simp at hq)) | (with_reducible refine condC_split (fun hq => ?_) (fun hq => ?_) <;> (try simp at hq)) | refine appK2_if (by omega) ?_ | refine pureV_if (by omega) ?_) <;> simp -implicitDefEqProofs [*, downTo])
def mT (m : Msg) : Told := toldOf m.key m.item m.has
theorem ask_Told_ok (x : Node) (m : Msg) (hs : x.small) (hl : m.ids.length ≤ cap) (h : toB x m 3 = true) : Den PP 46 [nodeD x, msgD m] [] (.tup [noteD x (logPre x (mT m)) (logOf x (mT m)), .int .i64 0]) (noteB x (logPre x (mT m)) (logOf x (mT m))) := by
  have c1 := ask_to x m 3 hs hl
  rw [h] at c1
  unfold toB at h
  simp only [Bool.and_eq_true, decide_eq_true_eq] at h
  have c5 := ask_note' x m.key m.item m.has hs (nodeUp_log h.1)
  clear h
  unfold mT
  generalize logPre x (toldOf m.key m.item m.has) = pre at *
  generalize logOf x (toldOf m.key m.item m.has) = xs at *
  simp only [nodeD, Node.cells, peersD, intsD, itemsD, toldsD, Item.row, msgD, Msg.row, noteD, noteB] at c1 c5 ⊢
  refine den_of [16] [] is_ask_Told ?_
  simp -implicitDefEqProofs [c_ask_Told]
  repeat' ((first | refine callThen_of (by first | exact c1 | exact c5) ?_ | with_reducible refine gOps_dec (fun _ => ?_) (fun _ => ?_) | with_reducible refine gOps_ndec (fun _ => ?_) (fun _ => ?_) | (with_reducible refine gOps_and (fun hq => ?_) (fun hq => ?_) <;> (try simp at hq)) | (with_reducible refine gOps_or (fun hq => ?_) (fun hq => ?_) <;> (try simp at hq)) | (with_reducible refine gOps_not (fun hq => ?_) (fun hq => ?_) <;> (try simp at hq)) | (with_reducible refine gOps_split (fun hq => ?_) (fun hq => ?_) <;> (try simp at hq)) | with_reducible refine condC_dec (fun _ => ?_) (fun _ => ?_) | with_reducible refine condC_ndec (fun _ => ?_) (fun _ => ?_) | (with_reducible refine condC_and (fun hq => ?_) (fun hq => ?_) <;> (try simp at hq)) | (with_reducible refine condC_or (fun hq => ?_) (fun hq => ?_) <;> (try simp at hq)) | (with_reducible refine condC_not (fun hq => ?_) (fun hq => ?_) <;> (try simp at hq)) | (with_reducible refine condC_split (fun hq => ?_) (fun hq => ?_) <;> (try simp at hq)) | refine appK2_if (by omega) ?_ | refine pureV_if (by omega) ?_) <;> simp -implicitDefEqProofs [*, downTo])
theorem ref_Told_ok (x : Node) (m : Msg) (hs : x.small) (hl : m.ids.length ≤ cap) (h : toB x m 3 = true) : Den PP 97 [nodeD x, msgD m] [] (.tup [noteD x (logPre x (mT m)) (logOf x (mT m)), .int .i64 0]) (noteB x (logPre x (mT m)) (logOf x (mT m))) := by
  have c1 := ref_upMay x hs
  have c2 := ref_MsgMay m hl
  unfold toB at h
  simp only [Bool.and_eq_true, decide_eq_true_eq] at h
  obtain ⟨h1, h2, h3, h4⟩ := h
  have c5 := ref_noted x m.key m.item m.has hs (nodeUp_log h1)
  rw [h1] at c1
  rw [h2] at c2
  clear h1 h2
  unfold mT
  generalize logPre x (toldOf m.key m.item m.has) = pre at *
  generalize logOf x (toldOf m.key m.item m.has) = xs at *
  simp only [nodeD, Node.cells, peersD, intsD, itemsD, toldsD, Item.row, msgD, Msg.row, noteD, noteB, h3, h4] at c1 c2 c5 ⊢
  refine den_of [35] [] is_gimmalref16_Told ?_
  simp -implicitDefEqProofs [c_gimmalref16_Told]
  repeat' ((first | refine callThen_of (by first | exact c1 | exact c2 | exact c5) ?_ | with_reducible refine gOps_dec (fun _ => ?_) (fun _ => ?_) | with_reducible refine gOps_ndec (fun _ => ?_) (fun _ => ?_) | (with_reducible refine gOps_and (fun hq => ?_) (fun hq => ?_) <;> (try simp at hq)) | (with_reducible refine gOps_or (fun hq => ?_) (fun hq => ?_) <;> (try simp at hq)) | (with_reducible refine gOps_not (fun hq => ?_) (fun hq => ?_) <;> (try simp at hq)) | (with_reducible refine gOps_split (fun hq => ?_) (fun hq => ?_) <;> (try simp at hq)) | with_reducible refine condC_dec (fun _ => ?_) (fun _ => ?_) | with_reducible refine condC_ndec (fun _ => ?_) (fun _ => ?_) | (with_reducible refine condC_and (fun hq => ?_) (fun hq => ?_) <;> (try simp at hq)) | (with_reducible refine condC_or (fun hq => ?_) (fun hq => ?_) <;> (try simp at hq)) | (with_reducible refine condC_not (fun hq => ?_) (fun hq => ?_) <;> (try simp at hq)) | (with_reducible refine condC_split (fun hq => ?_) (fun hq => ?_) <;> (try simp at hq)) | refine appK2_if (by omega) ?_ | refine pureV_if (by omega) ?_) <;> simp -implicitDefEqProofs [*, downTo])
end Go.AM
/- Plain law: peers: one is heard, all age. -/
namespace Go.AM
set_option linter.unusedSimpArgs false
set_option linter.unusedVariables false

def PeerOk (base last : Int) (p : Peer) : Prop := place p.id = true ∧ 0 ≤ p.missed ∧ p.missed < 3 ∧ last < far base p.id
theorem peersOk_iff {base : Int} : ∀ (ps : List Peer) (last : Int), peersOk base last ps = true ↔ (∀ p ∈ ps, PeerOk base last p) ∧ ps.Pairwise (fun p q => far base p.id < far base q.id) := by
  intro ps
  induction ps with
  | nil => intro last; simp [peersOk]
  | cons p ps ih =>
    intro last
    simp only [peersOk, Bool.and_eq_true, decide_eq_true_eq, ih, List.mem_cons, List.pairwise_cons, PeerOk]
    constructor
    · rintro ⟨⟨⟨⟨h1, h2⟩, h3⟩, h4⟩, h5, h6⟩
      refine ⟨?_, fun q hq => (h5 q hq).2.2.2, h6⟩
      rintro q (rfl | hq)
      · exact ⟨h1, h2, h3, h4⟩
      · obtain ⟨a, b, c, d⟩ := h5 q hq
        exact ⟨a, b, c, by omega⟩
    · rintro ⟨h1, h2, h3⟩
      obtain ⟨a, b, c, d⟩ := h1 p (.inl rfl)
      refine ⟨⟨⟨⟨a, b⟩, c⟩, d⟩, fun q hq => ?_, h3⟩
      obtain ⟨a', b', c', d'⟩ := h1 q (.inr hq)
      exact ⟨a', b', c', h2 q hq⟩
theorem peersMay_iff {base : Int} {ps : List Peer} : peersMay base ps = true ↔ place base = true ∧ ps.length ≤ 16 ∧ (∀ p ∈ ps, PeerOk base 0 p) ∧ ps.Pairwise (fun p q => far base p.id < far base q.id) := by
  simp only [peersMay, Bool.and_eq_true, decide_eq_true_eq, peersOk_iff]
  constructor
  · rintro ⟨⟨a, b⟩, c⟩; exact ⟨a, b, c⟩
  · rintro ⟨a, b, c⟩; exact ⟨⟨a, b⟩, c⟩

theorem hearG_true (base id : Int) : ∀ ps : List Peer, hearG base id true ps = ps.filter fun p => !decide (p.id = id) := by
  intro ps
  induction ps with
  | nil => rfl
  | cons p ps ih =>
    simp only [hearG, Bool.true_or, ih]
    by_cases h : p.id = id <;> simp [h]
theorem hearG_far (base id : Int) (p : Peer) (ps : List Peer) (h : far base id ≤ far base p.id) : hearG base id false (p :: ps) = ⟨id, 0⟩ :: (p :: ps).filter fun p => !decide (p.id = id) := by
  simp only [hearG, h, decide_true, Bool.or_true, hearG_true]
  by_cases h2 : p.id = id <;> simp [h2]
theorem hearG_near (base id : Int) (p : Peer) (ps : List Peer) (h : ¬ far base id ≤ far base p.id) : hearG base id false (p :: ps) = p :: hearG base id false ps := by
  have : p.id ≠ id := by intro e; rw [e] at h; omega
  simp [hearG, h, this]
theorem hearG_filter (base id : Int) : ∀ ps : List Peer, (hearG base id false ps).filter (fun p => !decide (p.id = id)) = ps.filter fun p => !decide (p.id = id) := by
  intro ps
  induction ps with
  | nil => simp [hearG]
  | cons p ps ih =>
    by_cases h : far base id ≤ far base p.id
    · rw [hearG_far _ _ _ _ h]
      simp
    · rw [hearG_near _ _ _ _ h]
      have : p.id ≠ id := by intro e; rw [e] at h; omega
      simp [this, ih]
theorem hearG_zero (base id : Int) : ∀ (ps : List Peer) (q : Peer), q ∈ hearG base id false ps → q.id = id → q = ⟨id, 0⟩ := by
  intro ps
  induction ps with
  | nil => intro q hq _; simpa [hearG] using hq
  | cons p ps ih =>
    intro q hq e
    by_cases h : far base id ≤ far base p.id
    · rw [hearG_far _ _ _ _ h] at hq
      rcases List.mem_cons.1 hq with h1 | h1
      · exact h1
      · have := (List.mem_filter.1 h1).2
        simp [e] at this
    · rw [hearG_near _ _ _ _ h] at hq
      rcases List.mem_cons.1 hq with h1 | h1
      · subst h1
        rw [e] at h
        omega
      · exact ih q h1 e
theorem hearG_in (base id : Int) : ∀ (ps : List Peer) (q : Peer), q ∈ hearG base id false ps → q = ⟨id, 0⟩ ∨ q ∈ ps := by
  intro ps
  induction ps with
  | nil => intro q hq; exact .inl (by simpa [hearG] using hq)
  | cons p ps ih =>
    intro q hq
    by_cases h : far base id ≤ far base p.id
    · rw [hearG_far _ _ _ _ h] at hq
      rcases List.mem_cons.1 hq with h1 | h1
      · exact .inl h1
      · exact .inr (List.mem_filter.1 h1).1
    · rw [hearG_near _ _ _ _ h] at hq
      rcases List.mem_cons.1 hq with h1 | h1
      · exact .inr (by simp [h1])
      · rcases ih q h1 with h2 | h2
        · exact .inl h2
        · exact .inr (List.mem_cons_of_mem _ h2)
theorem hearG_length (base id : Int) : ∀ ps : List Peer, (hearG base id false ps).length = (ps.filter fun p => !decide (p.id = id)).length + 1 := by
  intro ps
  induction ps with
  | nil => rfl
  | cons p ps ih =>
    by_cases h : far base id ≤ far base p.id
    · rw [hearG_far _ _ _ _ h]
      simp
    · rw [hearG_near _ _ _ _ h]
      have : p.id ≠ id := by intro e; rw [e] at h; omega
      simp [this, ih]
theorem hearG_has (base id : Int) (ps : List Peer) : ∃ q ∈ hearG base id false ps, q.id = id := by
  have h := (hearG_mem base id ps false id).2 (.inr ⟨rfl, rfl⟩)
  simpa using h
theorem hearG_pair {base id : Int} (hb : place base = true) (hid : place id = true) : ∀ ps : List Peer, (∀ p ∈ ps, place p.id = true) → ps.Pairwise (fun p q => far base p.id < far base q.id) → (hearG base id false ps).Pairwise (fun p q => far base p.id < far base q.id) := by
  intro ps
  induction ps with
  | nil => intro _ _; simp [hearG]
  | cons p ps ih =>
    intro hp hr
    by_cases h : far base id ≤ far base p.id
    · rw [hearG_far _ _ _ _ h, List.pairwise_cons]
      refine ⟨fun q hq => ?_, hr.filter _⟩
      obtain ⟨h1, h2⟩ := List.mem_filter.1 hq
      have h3 : far base p.id ≤ far base q.id := by
        rcases List.mem_cons.1 h1 with h4 | h4
        · subst h4; omega
        · have := (List.pairwise_cons.1 hr).1 q h4
          omega
      have h5 : far base q.id ≠ far base id := by
        intro e
        have := (far_inj hb (hp q h1) hid).1 e
        simp [this] at h2
      show far base id < far base q.id
      omega
    · rw [hearG_near _ _ _ _ h, List.pairwise_cons]
      refine ⟨fun q hq => ?_, ih (fun q hq => hp q (List.mem_cons_of_mem _ hq)) (List.pairwise_cons.1 hr).2⟩
      rcases hearG_in base id ps q hq with h1 | h1
      · subst h1
        show far base p.id < far base id
        omega
      · exact (List.pairwise_cons.1 hr).1 q h1
theorem findAt_cons (base : Int) (p : Peer) (ps : List Peer) (id : Int) : findAt base (p :: ps) id = if far base p.id < far base id then findAt base ps id + 1 else 0 := by
  unfold findAt
  rw [List.takeWhile_cons]
  by_cases h : far base p.id < far base id <;> simp [h]
theorem peerIs_cons (base : Int) (p : Peer) (ps : List Peer) (id : Int) : peerIs base (p :: ps) id = if far base p.id < far base id then peerIs base ps id else decide (far base p.id = far base id) := by
  unfold peerIs
  rw [findAt_cons]
  by_cases h : far base p.id < far base id <;> simp [h, isFar]
theorem hearG_at {base id : Int} (hb : place base = true) (hid : place id = true) : ∀ ps : List Peer, (∀ p ∈ ps, place p.id = true) → ps.Pairwise (fun p q => far base p.id < far base q.id) →
    (peerIs base ps id = true → findAt base ps id < ps.length ∧ (∃ m, ps[findAt base ps id]? = some ⟨id, m⟩) ∧ hearG base id false ps = ps.set (findAt base ps id) ⟨id, 0⟩) ∧ (peerIs base ps id = false → hearG base id false ps = insL ps (findAt base ps id) ⟨id, 0⟩) := by
  intro ps
  induction ps with
  | nil => intro _ _; exact ⟨fun h => by simp [peerIs, findAt, isFar] at h, fun _ => rfl⟩
  | cons p ps ih =>
    intro hp hr
    have hr' := (List.pairwise_cons.1 hr).2
    obtain ⟨i1, i2⟩ := ih (fun q hq => hp q (List.mem_cons_of_mem _ hq)) hr'
    rw [peerIs_cons, findAt_cons]
    have hno : ∀ q ∈ ps, far base id ≤ far base p.id → q.id ≠ id := by
      intro q hq h e
      have := (List.pairwise_cons.1 hr).1 q hq
      rw [e] at this
      omega
    by_cases h : far base p.id < far base id
    · rw [if_pos h, if_pos h, hearG_near _ _ _ _ (by omega)]
      refine ⟨fun h1 => ?_, fun h1 => ?_⟩
      · obtain ⟨a, b, c⟩ := i1 h1
        exact ⟨by simp; omega, by simpa using b, by simp [c]⟩
      · rw [i2 h1]
        simp [insL]
    · rw [if_neg h, if_neg h, hearG_far _ _ _ _ (by omega)]
      have hf : ps.filter (fun p => !decide (p.id = id)) = ps := by
        rw [List.filter_eq_self]
        intro q hq
        have := hno q hq (by omega)
        simp [this]
      refine ⟨fun h1 => ?_, fun h1 => ?_⟩
      · have e : p.id = id := (far_inj hb (hp p (by simp)) hid).1 (by simpa using h1)
        obtain ⟨pi, pm⟩ := p
        simp only at e
        subst e
        refine ⟨by simp, ⟨pm, rfl⟩, ?_⟩
        simp [hf]
      · have e : p.id ≠ id := by
          intro e
          rw [e] at h1
          simp at h1
        simp [e, hf, insL]
end Go.AM
/- AM: contracts: peers: one is heard, all age. -/
namespace Go.AM
set_option linter.unusedSimpArgs false
set_option linter.unusedVariables false
set_option maxRecDepth 8000
set_option maxHeartbeats 0
theorem peer_still (p : Peer) : ∀ d ∈ p.row, d.still = true := by
  intro d hd
  simp [Peer.row] at hd
  rcases hd with rfl | rfl <;> rfl
theorem peers_Heard (base : Int) (ps : List Peer) (id : Int) (hl : ps.length ≤ cap16) : Den PP 192 [.int .i64 base, peersD ps, .int .i64 id] [] (.tup [.ref 0 0 (refHeard base ps id).1.length, .int .i64 (refHeard base ps id).2]) [⟨(refHeard base ps id).1.map Peer.row, 2, .mut⟩] := by
  have c1 := peers_May base ps (cap_of hl)
  have c0 := ring_Place id
  have c2 := fun h : ps.length ≤ 16 => clone_Peer (ps.map Peer.row) (by intro r hr; obtain ⟨a, _, rfl⟩ := List.mem_map.1 hr; exact ⟨rfl, rfl⟩) (by simp; omega)
  have c3 := fun h => peers_Find base ps id (cap_of hl) h
  obtain ⟨r, hr⟩ : ∃ r, refHeard base ps id = r := ⟨_, rfl⟩
  have hr' := hr
  unfold refHeard at hr'
  rw [peersMay_eq] at hr'
  rw [hr]
  clear hr
  simp only [peersD, List.length_map] at c1 c2 c3
  refine den_ofG [26, 34] [34] [34] [] (fun _ h => absurd h List.not_mem_nil) is_peers_Heard ?_
  simp -implicitDefEqProofs [c_peers_Heard, peersD]
  refine callThen_of c1 ?_
  simp -implicitDefEqProofs
  cases h1 : peersMay base ps with
  | false =>
    rw [h1] at hr'
    simp at hr'
    subst hr'
    simp -implicitDefEqProofs
  | true =>
  cases h2 : place id with
  | false =>
    rw [h2] at hr' c0
    simp at hr'
    subst hr'
    simp -implicitDefEqProofs
    repeat' ((first | refine callThen_of (by first | exact c0) ?_ | with_reducible refine gOps_dec (fun _ => ?_) (fun _ => ?_) | with_reducible refine gOps_ndec (fun _ => ?_) (fun _ => ?_) | (with_reducible refine gOps_and (fun hq => ?_) (fun hq => ?_) <;> (try simp at hq)) | (with_reducible refine gOps_or (fun hq => ?_) (fun hq => ?_) <;> (try simp at hq)) | (with_reducible refine gOps_not (fun hq => ?_) (fun hq => ?_) <;> (try simp at hq)) | (with_reducible refine gOps_split (fun hq => ?_) (fun hq => ?_) <;> (try simp at hq)) | with_reducible refine condC_dec (fun _ => ?_) (fun _ => ?_) | with_reducible refine condC_ndec (fun _ => ?_) (fun _ => ?_) | (with_reducible refine condC_and (fun hq => ?_) (fun hq => ?_) <;> (try simp at hq)) | (with_reducible refine condC_or (fun hq => ?_) (fun hq => ?_) <;> (try simp at hq)) | (with_reducible refine condC_not (fun hq => ?_) (fun hq => ?_) <;> (try simp at hq)) | (with_reducible refine condC_split (fun hq => ?_) (fun hq => ?_) <;> (try simp at hq)) | refine appK2_if (by omega) ?_ | refine pureV_if (by omega) ?_) <;> simp -implicitDefEqProofs [*])
  | true =>
  rw [h1, h2] at hr'
  rw [h2] at c0
  by_cases h3 : id = base
  · simp [h3] at hr'
    subst hr'
    simp -implicitDefEqProofs
    repeat' ((first | refine callThen_of (by first | exact c0) ?_ | with_reducible refine gOps_dec (fun _ => ?_) (fun _ => ?_) | with_reducible refine gOps_ndec (fun _ => ?_) (fun _ => ?_) | (with_reducible refine gOps_and (fun hq => ?_) (fun hq => ?_) <;> (try simp at hq)) | (with_reducible refine gOps_or (fun hq => ?_) (fun hq => ?_) <;> (try simp at hq)) | (with_reducible refine gOps_not (fun hq => ?_) (fun hq => ?_) <;> (try simp at hq)) | (with_reducible refine gOps_split (fun hq => ?_) (fun hq => ?_) <;> (try simp at hq)) | with_reducible refine condC_dec (fun _ => ?_) (fun _ => ?_) | with_reducible refine condC_ndec (fun _ => ?_) (fun _ => ?_) | (with_reducible refine condC_and (fun hq => ?_) (fun hq => ?_) <;> (try simp at hq)) | (with_reducible refine condC_or (fun hq => ?_) (fun hq => ?_) <;> (try simp at hq)) | (with_reducible refine condC_not (fun hq => ?_) (fun hq => ?_) <;> (try simp at hq)) | (with_reducible refine condC_split (fun hq => ?_) (fun hq => ?_) <;> (try simp at hq)) | refine appK2_if (by omega) ?_ | refine pureV_if (by omega) ?_) <;> simp -implicitDefEqProofs [*, h3])
  obtain ⟨hb, h16, hp, hd⟩ := peersMay_iff.1 h1
  obtain ⟨ha1, ha2⟩ := hearG_at hb h2 ps (fun p hp' => (hp p hp').1) hd
  have hlen := hearG_length base id ps
  have hple := findAt_le base ps id
  have c4 := c3 (peersMay_rowed h1)
  clear c3
  generalize peerIs base ps id = A at *
  generalize findAt base ps id = p at *
  have h3' : (id == base) = false := by simpa using h3
  simp only [h3', Bool.not_false, Bool.and_self, if_true] at hr'
  simp -implicitDefEqProofs
  refine callThen_of c0 ?_
  simp -implicitDefEqProofs [h3]
  refine callThen_of (c2 h16) ?_
  simp -implicitDefEqProofs [downTo]
  refine callThen_of c4 ?_
  simp -implicitDefEqProofs [downTo]
  cases A with
  | true =>
    obtain ⟨hlt, ⟨m, hy⟩, hput⟩ := ha1 rfl
    have hr2 : r = (ps.set p ⟨id, 0⟩, 0) := by
      rw [← hr', hput]
      simp [h16]
    subst hr2
    have hlt' : (p : Int) < ps.length := by omega
    have hy2 : ps[p] = ⟨id, m⟩ := by simpa [hlt] using hy
    clear hr' hput ha1 ha2 hlen c4 hp hd
    simp -implicitDefEqProofs [hlt, hlt', hy2, Peer.row]
  | false =>
    have hput := ha2 rfl
    rw [hput] at hr' hlen
    simp only [insL_length] at hr' hlen
    by_cases h5 : ps.length = 16
    · have hr2 : r = ([], 701) := by
        rw [← hr']
        simp [h5]
      subst hr2
      clear hr' hput ha1 ha2 hlen c4 hp hd
      simp -implicitDefEqProofs [h5]
    · have hr2 : r = (insL ps p ⟨id, 0⟩, 0) := by
        rw [← hr', if_pos (by omega)]
      subst hr2
      clear hr' hput ha1 ha2 hlen c4 hp hd
      have h5' : ¬ (ps.length : Int) = 16 := by omega
      simp -implicitDefEqProofs [h5']
      refine giveThen_of rfl (by simp) (by simp) (by simp) (insert_Peer (ps.map Peer.row) (Peer.row ⟨id, 0⟩) p (by simp [Peer.row]) (StillR.map _ _ fun a _ => peer_still a) (by intro r hr; rw [List.mem_singleton.1 hr]; exact ⟨rfl, rfl⟩) (peer_still _) (by simpa using hple) (by simp; omega)) ?_
      rw [← insL_map]
      simp -implicitDefEqProofs [downTo]
end Go.AM
/- Plain law: peers heard in a row stand in the row of distances. -/
namespace Go.AM
set_option linter.unusedSimpArgs false
set_option linter.unusedVariables false

end Go.AM
/- Plain law: greetings. -/
namespace Go.AM
set_option linter.unusedSimpArgs false
set_option linter.unusedVariables false

def knowsV (v : View) (x : Int) : Bool := (v.peers.map Peer.id).contains x || v.passive.contains x
def roomV (v : View) (x : Int) : Bool := knowsV v x || decide (v.peers.length + v.passive.length < 16)
def knownV (v : View) (x : Int) : View := if roomV v x then ⟨v.id, hearG v.id x false v.peers, v.passive.filter fun y => !decide (y = x)⟩ else v
def tellV (v : View) (x : Int) : View := if !decide (x = v.id) && !knowsV v x then knownV v x else v
def helloV (v : View) (a : Int) (ids : List Int) : View := ids.foldl tellV (knownV v a)
def helloOk (v : View) (a : Int) (ids : List Int) : Bool := viewMay v && (place a && (!decide (a = v.id) && (decide (ids.length ≤ 16) && ids.all place)))

theorem viewMay_of {v : View} (h1 : peersMay v.id v.peers = true) (h2 : passiveMay v.passive = true) (h3 : v.peers.length + v.passive.length ≤ 16) (h4 : ∀ x ∈ v.passive, x ≠ v.id ∧ x ∉ v.peers.map Peer.id) : viewMay v = true := by
  simp only [viewMay, Bool.and_eq_true, decide_eq_true_eq, Bool.not_eq_true']
  refine ⟨⟨⟨h1, h2⟩, h3⟩, ?_⟩
  rw [List.any_eq_false]
  intro x hx
  simp only [oddIn, Bool.or_eq_true, not_or]
  rw [peerIs_mem h1 (passiveMay_places h2 x hx)]
  have := h4 x hx
  simpa using this
theorem knowsV_iff (v : View) (x : Int) : knowsV v x = true ↔ (∃ q ∈ v.peers, q.id = x) ∨ x ∈ v.passive := by
  simp [knowsV]
theorem hearG_mem_iff {b x : Int} {ps : List Peer} (q : Peer) : q ∈ hearG b x false ps ↔ q = ⟨x, 0⟩ ∨ (q ∈ ps ∧ q.id ≠ x) := by
  have hf := hearG_filter b x ps
  constructor
  · intro h
    by_cases he : q.id = x
    · exact .inl (hearG_zero b x ps q h he)
    · rcases hearG_in b x ps q h with h' | h'
      · exact .inl h'
      · exact .inr ⟨h', he⟩
  · rintro (rfl | ⟨h, he⟩)
    · obtain ⟨q, hq, hi⟩ := hearG_has b x ps
      rw [← hearG_zero b x ps q hq hi]
      exact hq
    · have : q ∈ (hearG b x false ps).filter fun p => !decide (p.id = x) := by rw [hf]; simp [h, he]
      exact (List.mem_filter.1 this).1
theorem knownV_id (v : View) (x : Int) : (knownV v x).id = v.id := by
  unfold knownV; split <;> rfl
theorem knownV_no {v : View} {x : Int} (h : roomV v x = false) : knownV v x = v := by
  unfold knownV; rw [if_neg (by simp [h])]
theorem knownV_peers {v : View} {x : Int} (h : roomV v x = true) (q : Peer) : q ∈ (knownV v x).peers ↔ q = ⟨x, 0⟩ ∨ (q ∈ v.peers ∧ q.id ≠ x) := by
  unfold knownV; rw [if_pos h]; exact hearG_mem_iff q
theorem knownV_passive {v : View} {x : Int} (h : roomV v x = true) (y : Int) : y ∈ (knownV v x).passive ↔ y ∈ v.passive ∧ y ≠ x := by
  unfold knownV; rw [if_pos h]; simp
theorem tellV_id (v : View) (x : Int) : (tellV v x).id = v.id := by
  unfold tellV; split
  · exact knownV_id v x
  · rfl

def sizeV (v : View) : Nat := v.peers.length + v.passive.length
theorem filter_len_peers {b : Int} {ps : List Peer} (h : peersMay b ps = true) {x : Int} : (ps.filter fun p => !decide (p.id = x)).length + (if (∃ q ∈ ps, q.id = x) then 1 else 0) = ps.length := by
  obtain ⟨hb, _, h1, h2⟩ := peersMay_iff.1 h
  clear h h1
  induction ps with
  | nil => simp
  | cons p ps ih =>
    have hp := (List.pairwise_cons.1 h2).1
    have ih := ih (by first | assumption | (rename_i hlen; simp at hlen; omega)) (List.pairwise_cons.1 h2).2
    by_cases he : p.id = x
    · have hno : ¬ ∃ q ∈ ps, q.id = x := by
        rintro ⟨q, hq, hqx⟩
        have := hp q hq
        rw [he, hqx] at this
        omega
      rw [if_neg hno] at ih
      rw [if_pos ⟨p, by simp, he⟩]
      simp [he]
      simpa using ih
    · have : (∃ q ∈ p :: ps, q.id = x) ↔ ∃ q ∈ ps, q.id = x := by simp [he]
      simp only [this]
      simp [he]
      omega
theorem passive_len {xs : List Int} (h : passiveMay xs = true) (x : Int) : (xs.filter fun y => !decide (y = x)).length + (if x ∈ xs then 1 else 0) = xs.length := by
  by_cases hx : x ∈ xs
  · rw [if_pos hx, ← filter_one ((passiveMay_iff xs).1 h).1 hx]
  · rw [if_neg hx, filter_out hx]; rfl
theorem knownV_size {v : View} {x : Int} (hv : viewMay v = true) (h : roomV v x = true) : sizeV (knownV v x) = if knowsV v x then sizeV v else sizeV v + 1 := by
  obtain ⟨h1, h2, h3, h4⟩ := viewMay_parts hv
  have e1 := filter_len_peers h1 (x := x)
  have e2 := passive_len h2 x
  have e3 := hearG_length v.id x v.peers
  have hk := knowsV_iff v x
  unfold sizeV knownV
  rw [if_pos h]
  simp only
  by_cases hp : ∃ q ∈ v.peers, q.id = x
  · have hnx : x ∉ v.passive := by
      intro hx
      obtain ⟨q, hq, hqx⟩ := hp
      exact (h4 x hx).2 (List.mem_map.2 ⟨q, hq, hqx⟩)
    rw [if_pos hp] at e1
    rw [if_neg hnx] at e2
    rw [if_pos (hk.2 (.inl hp))]
    omega
  · rw [if_neg hp] at e1
    by_cases hx : x ∈ v.passive
    · rw [if_pos hx] at e2
      rw [if_pos (hk.2 (.inr hx))]
      omega
    · rw [if_neg hx] at e2
      have : ¬ knowsV v x = true := by rw [hk]; simp [hp, hx]
      rw [if_neg this]
      omega
theorem knownV_may {v : View} {x : Int} (hv : viewMay v = true) (hx : place x = true) (hn : x ≠ v.id) : viewMay (knownV v x) = true ∧ (roomV v x = true → refHeard v.id v.peers x = (hearG v.id x false v.peers, 0)) := by
  cases hr : roomV v x with
  | false => rw [knownV_no hr]; exact ⟨hv, by simp⟩
  | true =>
    have hsz := knownV_size hv hr
    obtain ⟨h1, h2, h3, h4⟩ := viewMay_parts hv
    obtain ⟨hb, _, hok, hpw⟩ := peersMay_iff.1 h1
    have hle : sizeV (knownV v x) ≤ 16 := by
      rw [hsz]
      unfold roomV at hr
      split
      · exact h3
      · rename_i hk
        simp [hk] at hr
        unfold sizeV
        omega
    have hpm : peersMay v.id (hearG v.id x false v.peers) = true := by
      rw [peersMay_iff]
      refine ⟨hb, ?_, ?_, hearG_pair hb hx v.peers (fun p hp => (hok p hp).1) hpw⟩
      · have : (knownV v x).peers = hearG v.id x false v.peers := by unfold knownV; rw [if_pos hr]
        unfold sizeV at hle
        rw [this] at hle
        omega
      · intro p hp
        rcases hearG_mem_iff (b := v.id) p |>.1 hp with rfl | ⟨hp, _⟩
        · refine ⟨hx, by simp, by simp, ?_⟩
          have := far_range hb hx
          have := mt (far_zero hb hx).1 hn
          simp only
          omega
        · exact hok p hp
    have hpeers : (knownV v x).peers = hearG v.id x false v.peers := by unfold knownV; rw [if_pos hr]
    refine ⟨viewMay_of ?_ ?_ hle ?_, fun _ => ?_⟩
    · rw [hpeers, knownV_id]; exact hpm
    · unfold knownV; rw [if_pos hr]; exact passiveMay_filter h2
    · intro y hy
      rw [knownV_passive hr] at hy
      have := h4 y hy.1
      refine ⟨by rw [knownV_id]; exact this.1, ?_⟩
      intro hm
      obtain ⟨q, hq, hqy⟩ := List.mem_map.1 hm
      rw [knownV_peers hr] at hq
      rcases hq with rfl | ⟨hq, _⟩
      · exact hy.2 hqy.symm
      · exact this.2 (List.mem_map.2 ⟨q, hq, hqy⟩)
    · have hl : (hearG v.id x false v.peers).length ≤ 16 := (peersMay_iff.1 hpm).2.1
      unfold refHeard
      rw [peersMay_eq, h1, hx]
      simp [hn, hl]
theorem tellV_may {v : View} {x : Int} (hv : viewMay v = true) (hx : place x = true) : viewMay (tellV v x) = true := by
  unfold tellV
  split
  · rename_i h
    simp only [Bool.and_eq_true, Bool.not_eq_true', decide_eq_false_iff_not] at h
    exact (knownV_may hv hx h.1).1
  · exact hv
theorem tells_may : ∀ (ids : List Int) (v : View), viewMay v = true → (∀ x ∈ ids, place x = true) → viewMay (ids.foldl tellV v) = true ∧ (ids.foldl tellV v).id = v.id := by
  intro ids
  induction ids with
  | nil => intro v hv _; exact ⟨hv, rfl⟩
  | cons x ids ih =>
    intro v hv hp
    obtain ⟨a, b⟩ := ih (tellV v x) (tellV_may hv (hp x (by simp))) (fun y hy => hp y (by simp [hy]))
    exact ⟨a, by rw [List.foldl_cons, b, tellV_id]⟩
theorem helloOk_parts {v : View} {a : Int} {ids : List Int} (h : helloOk v a ids = true) : viewMay v = true ∧ place a = true ∧ a ≠ v.id ∧ ids.length ≤ 16 ∧ ∀ x ∈ ids, place x = true := by
  simp only [helloOk, Bool.and_eq_true, Bool.not_eq_true', decide_eq_false_iff_not, decide_eq_true_eq, List.all_eq_true] at h
  exact ⟨h.1, h.2.1, h.2.2.1, h.2.2.2.1, h.2.2.2.2⟩
theorem helloV_may {v : View} {a : Int} {ids : List Int} (h : helloOk v a ids = true) : viewMay (helloV v a ids) = true ∧ (helloV v a ids).id = v.id := by
  obtain ⟨h1, h2, h3, h4, h5⟩ := helloOk_parts h
  obtain ⟨a, b⟩ := tells_may ids _ (knownV_may h1 h2 h3).1 h5
  exact ⟨a, by unfold helloV; rw [b, knownV_id]⟩

end Go.AM
/- AM: contracts: one is heard, of a view that is lent. -/
namespace Go.AM
set_option linter.unusedSimpArgs false
set_option linter.unusedVariables false
set_option maxRecDepth 8000
set_option maxHeartbeats 0
theorem slices_Index_int (xs : List Int) (y : Int) (hl : xs.length ≤ cap) : Den PP 229 [intsD xs, .int .i64 y] [] (.int .i64 (fIdx (fun x => decide (y = x)) 0 xs)) [] := by
  unfold cap at hl
  refine den_of [] [] is_slices_Index_int_int ?_
  simp -implicitDefEqProofs [c_slices_Index_int_int, intsD]
  refine anyLoop_of (xs.length + 1) ?_
  have key : ∀ (Q : Ex → St → Prop) (r : Int) (hQ1 : ∀ fr, r = -1 → Q .normal ⟨fr, []⟩) (hQ2 : ∀ fr bs, fr 4 = .int .i64 r → Q .ret ⟨fr, bs⟩) (rest : List Int) (i : Nat) (fr : Nat → D), xs.drop i = rest → i ≤ xs.length →
      fr 0 = .sl (xs.map irow) xs.length → fr 1 = .int .i64 y → fr 7 = .int .i64 xs.length → fr 8 = .int .i64 i → fIdx (fun x => decide (y = x)) i rest = r → sLoop (cf 0 [] []) 0 c_slices_Index_int_int_L0 (blockQ 0 Q) (rest.length + 1) ⟨fr, []⟩ := by
    intro Q r hQ1 hQ2 rest
    induction rest with
    | nil =>
      intro i fr e hi h0 h1 h7 h8 hm
      refine sLoop_body c_slices_Index_int_int_L0.eq_1 ?_
      have hi' := drop_nil e hi
      simp -implicitDefEqProofs [h0, h1, h7, h8, hi']
      exact hQ1 _ hm.symm
    | cons x rest ih =>
      intro i fr e hi h0 h1 h7 h8 hm
      refine sLoop_body c_slices_Index_int_int_L0.eq_1 ?_
      obtain ⟨hlt, hget, hd, hlen⟩ := drop_cons e
      have hlt' : (i : Int) < xs.length := by omega
      have hw := wrap_next (show i ≤ 140737488355328 by omega)
      simp only [fIdx] at hm
      simp -implicitDefEqProofs [h0, h1, h7, h8, hlt', hget, irow]
      refine condC_dec (fun h2 => ?_) (fun h2 => ?_)
      all_goals simp -implicitDefEqProofs [h2, h0, h1, h7, h8, hw]
      · exact hQ2 _ _ (by rw [← hm]; simp [h2])
      · exact ih (i + 1) _ hd (by omega) (by simp [h0]) (by simp [h1]) (by simp [h7]) (by simp) (by rw [← hm]; simp [h2])
  refine key _ (fIdx (fun x => decide (y = x)) 0 xs) (fun fr h => ?_) (fun fr bs h => ?_) xs 0 _ rfl (Nat.zero_le _) rfl rfl rfl rfl rfl
  · simp -implicitDefEqProofs [h]
  · simp -implicitDefEqProofs [h]
theorem slices_Contains_int (xs : List Int) (y : Int) (hl : xs.length ≤ cap) : Den PP 194 [intsD xs, .int .i64 y] [] (.bool (xs.contains y)) [] := by
  have c1 := slices_Index_int xs y hl
  have e := fIdx_any (fun x => decide (y = x)) xs 0
  have e2 : xs.contains y = xs.any fun x => decide (y = x) := by
    rw [Bool.eq_iff_iff]
    simp
  rw [e2]
  simp only [intsD] at c1 ⊢
  refine den_of [] [] is_slices_Contains_int_int ?_
  simp -implicitDefEqProofs [c_slices_Contains_int_int]
  refine callThen_of c1 ?_
  simp -implicitDefEqProofs [← e]
theorem view_Passive (v : View) (id : Int) (hl : v.passive.length ≤ cap) : Den PP 122 [.mem v.cells, .int .i64 id] [] (.bool (v.passive.contains id)) [] := by
  have c1 := slices_Contains_int v.passive id hl
  simp only [intsD, View.cells, peersD] at c1 ⊢
  generalize v.passive.contains id = B at *
  refine den_of [] [] is_view_Passive ?_
  simp -implicitDefEqProofs [c_view_Passive]
  repeat' ((first | refine callThen_of (by first | exact c1) ?_ | with_reducible refine gOps_dec (fun _ => ?_) (fun _ => ?_) | with_reducible refine gOps_ndec (fun _ => ?_) (fun _ => ?_) | (with_reducible refine gOps_and (fun hq => ?_) (fun hq => ?_) <;> (try simp at hq)) | (with_reducible refine gOps_or (fun hq => ?_) (fun hq => ?_) <;> (try simp at hq)) | (with_reducible refine gOps_not (fun hq => ?_) (fun hq => ?_) <;> (try simp at hq)) | (with_reducible refine gOps_split (fun hq => ?_) (fun hq => ?_) <;> (try simp at hq)) | with_reducible refine condC_dec (fun _ => ?_) (fun _ => ?_) | with_reducible refine condC_ndec (fun _ => ?_) (fun _ => ?_) | (with_reducible refine condC_and (fun hq => ?_) (fun hq => ?_) <;> (try simp at hq)) | (with_reducible refine condC_or (fun hq => ?_) (fun hq => ?_) <;> (try simp at hq)) | (with_reducible refine condC_not (fun hq => ?_) (fun hq => ?_) <;> (try simp at hq)) | (with_reducible refine condC_split (fun hq => ?_) (fun hq => ?_) <;> (try simp at hq)) | refine appK2_if (by omega) ?_ | refine pureV_if (by omega) ?_) <;> simp -implicitDefEqProofs [*])
theorem hello_room (v : View) (h1 : v.peers.length ≤ 16) (h2 : v.passive.length ≤ 16) : Den PP 190 [.mem v.cells] [] (.bool (decide (v.peers.length + v.passive.length < 16))) [] := by
  have w : IntKind.wrap .i64 ((v.peers.length : Int) + v.passive.length) = v.peers.length + v.passive.length := wrap_in (by omega) (by omega)
  have e : decide (v.peers.length + v.passive.length < 16) = decide ((v.peers.length : Int) + v.passive.length < 16) := by
    rw [decide_eq_decide]; omega
  rw [e]
  simp only [View.cells, peersD, intsD]
  refine den_of [] [] is_hello_room ?_
  simp -implicitDefEqProofs [c_hello_room, w]
def viewBox (v : View) (p q : Nat) : Blk := ⟨[[.int .i64 v.id, .ref p 0 v.peers.length, .ref q 0 v.passive.length]], 3, .box⟩
def psB (v : View) : Blk := ⟨v.peers.map Peer.row, 2, .mut⟩
def xsB (v : View) : Blk := ⟨v.passive.map irow, 1, .mut⟩
theorem hello_heard (v : View) (id : Int) (hv : viewMay v = true) (hp : place id = true) (hn : id ≠ v.id) : Den PP 120 [.ptr 0 0 0, .int .i64 id] [viewBox v 1 2, psB v, xsB v] (.tup [])
    (if roomV v id then [viewBox (knownV v id) 3 4, ⟨v.peers.map Peer.row, 2, .app⟩, ⟨v.passive.map irow, 1, .app⟩, psB (knownV v id), xsB (knownV v id)] else [viewBox v 1 2, psB v, xsB v]) := by
  obtain ⟨p1, p2, p3, p4⟩ := viewMay_parts hv
  have c1 := view_Peer v id (by unfold cap; omega) (peersMay_rowed p1)
  rw [peerIs_mem p1 hp] at c1
  have c2 := view_Passive v id (by unfold cap; omega)
  have c3 := hello_room v (by omega) (by omega)
  have c4 := passive_Without v.passive id (by unfold cap; omega)
  rw [show withoutP v.passive id = (v.passive.filter fun y => !decide (y = id), 0) by simp [withoutP, p2, hp]] at c4
  have c5 := peers_Heard v.id v.peers id (by unfold cap16; omega)
  have hk := (knownV_may hv hp hn).2
  have hkv : roomV v id = true → knownV v id = ⟨v.id, hearG v.id id false v.peers, v.passive.filter fun y => !decide (y = id)⟩ := by intro h; unfold knownV; rw [if_pos h]
  unfold viewBox psB xsB
  cases hr : roomV v id with
  | false =>
    clear hk hkv c4 c5
    simp only [Bool.false_eq_true, if_false]
    simp only [roomV, knowsV] at hr
    generalize (v.peers.map Peer.id).contains id = A at *
    generalize v.passive.contains id = B at *
    generalize decide (v.peers.length + v.passive.length < 16) = R at *
    simp only [View.cells, peersD, intsD] at c1 c2 c3
    clear p1 p2 p3 p4 hv hp hn
    simp only [Bool.or_eq_false_iff] at hr
    obtain ⟨⟨rfl, rfl⟩, rfl⟩ := hr
    refine den_of [27, 43] [] is_hello_heard ?_
    simp -implicitDefEqProofs [c_hello_heard]
    repeat' ((first | refine callThen_of (by first | exact c1 | exact c2 | exact c3) ?_ | with_reducible refine gOps_dec (fun _ => ?_) (fun _ => ?_) | with_reducible refine gOps_ndec (fun _ => ?_) (fun _ => ?_) | (with_reducible refine gOps_and (fun hq => ?_) (fun hq => ?_) <;> (try simp at hq)) | (with_reducible refine gOps_or (fun hq => ?_) (fun hq => ?_) <;> (try simp at hq)) | (with_reducible refine gOps_not (fun hq => ?_) (fun hq => ?_) <;> (try simp at hq)) | (with_reducible refine gOps_split (fun hq => ?_) (fun hq => ?_) <;> (try simp at hq)) | with_reducible refine condC_dec (fun _ => ?_) (fun _ => ?_) | with_reducible refine condC_ndec (fun _ => ?_) (fun _ => ?_) | (with_reducible refine condC_and (fun hq => ?_) (fun hq => ?_) <;> (try simp at hq)) | (with_reducible refine condC_or (fun hq => ?_) (fun hq => ?_) <;> (try simp at hq)) | (with_reducible refine condC_not (fun hq => ?_) (fun hq => ?_) <;> (try simp at hq)) | (with_reducible refine condC_split (fun hq => ?_) (fun hq => ?_) <;> (try simp at hq)) | refine appK2_if (by omega) ?_ | refine pureV_if (by omega) ?_) <;> simp -implicitDefEqProofs [*, downTo])
  | true =>
    simp only [if_true]
    rw [hkv hr]
    rw [hk hr] at c5
    clear hk hkv
    simp only [roomV, knowsV] at hr
    generalize hearG v.id id false v.peers = ps at *
    generalize (v.passive.filter fun y => !decide (y = id)) = xs at *
    generalize (v.peers.map Peer.id).contains id = A at *
    generalize v.passive.contains id = B at *
    generalize decide (v.peers.length + v.passive.length < 16) = R at *
    simp only [View.cells, peersD, intsD] at c1 c2 c3 c4 c5
    clear p1 p2 p3 p4 hv hp hn
    refine den_of [27, 43] [] is_hello_heard ?_
    cases A <;> cases B <;> cases R
    all_goals try (simp at hr; done)
    all_goals
      clear hr
      simp -implicitDefEqProofs [c_hello_heard]
      repeat' ((first | refine callThen_of (by first | exact c1 | exact c2 | exact c3 | exact c4 | exact c5) ?_ | with_reducible refine gOps_dec (fun _ => ?_) (fun _ => ?_) | with_reducible refine gOps_ndec (fun _ => ?_) (fun _ => ?_) | (with_reducible refine gOps_and (fun hq => ?_) (fun hq => ?_) <;> (try simp at hq)) | (with_reducible refine gOps_or (fun hq => ?_) (fun hq => ?_) <;> (try simp at hq)) | (with_reducible refine gOps_not (fun hq => ?_) (fun hq => ?_) <;> (try simp at hq)) | (with_reducible refine gOps_split (fun hq => ?_) (fun hq => ?_) <;> (try simp at hq)) | with_reducible refine condC_dec (fun _ => ?_) (fun _ => ?_) | with_reducible refine condC_ndec (fun _ => ?_) (fun _ => ?_) | (with_reducible refine condC_and (fun hq => ?_) (fun hq => ?_) <;> (try simp at hq)) | (with_reducible refine condC_or (fun hq => ?_) (fun hq => ?_) <;> (try simp at hq)) | (with_reducible refine condC_not (fun hq => ?_) (fun hq => ?_) <;> (try simp at hq)) | (with_reducible refine condC_split (fun hq => ?_) (fun hq => ?_) <;> (try simp at hq)) | refine appK2_if (by omega) ?_ | refine pureV_if (by omega) ?_) <;> simp -implicitDefEqProofs [*, downTo])
end Go.AM
/- AM: contracts: a greeting is taken. -/
namespace Go.AM
set_option linter.unusedSimpArgs false
set_option linter.unusedVariables false
set_option maxRecDepth 8000
set_option maxHeartbeats 0
theorem tellV_full {v : View} (h : 16 ≤ sizeV v) (x : Int) : tellV v x = v := by
  unfold tellV
  split
  · rename_i hc
    simp only [Bool.and_eq_true, Bool.not_eq_true'] at hc
    apply knownV_no
    unfold roomV
    rw [hc.2]
    unfold sizeV at h
    simp
    omega
  · rfl
theorem tells_full {v : View} (h : 16 ≤ sizeV v) : ∀ ids : List Int, ids.foldl tellV v = v := by
  intro ids
  induction ids with
  | nil => rfl
  | cons x ids ih => rw [List.foldl_cons, tellV_full h, ih]
theorem take_next {ids : List Int} {i : Nat} {x : Int} (h : ids[i]? = some x) (w0 : View) : (ids.take (i + 1)).foldl tellV w0 = tellV ((ids.take i).foldl tellV w0) x := by
  rw [List.take_add_one, h]
  simp
def B_Take (w : View) (bs : List Blk) : Prop := (∃ d0 d2 d3, bs = [d0, ⟨[[.int .i64 0, .nil, .nil]], 3, .box⟩, d2, d3, viewBox w 5 6, psB w, xsB w]) ∨ ∃ d0 d2 d3 d5 d6, bs = [d0, ⟨[[.int .i64 0, .nil, .nil]], 3, .box⟩, d2, d3, viewBox w 7 8, d5, d6, psB w, xsB w]
theorem hello_Take_yes (v : View) (a : Int) (ids : List Int) (hs : v.small) (h : helloOk v a ids = true) (hr : roomV v a = true) : Den PP 41 [viewD v, .int .i64 a, intsD ids] [] (.tup [.agg [.int .i64 v.id, .ref 0 0 (helloV v a ids).peers.length, .ref 1 0 (helloV v a ids).passive.length], .int .i64 0]) [psB (helloV v a ids), xsB (helloV v a ids)] := by
  obtain ⟨k1, k2, k3, k4, k5⟩ := helloOk_parts h
  have hcap : ids.length ≤ cap := by unfold cap; omega
  have c1 := view_May v hs
  have c2 := ring_Place a
  have c3 := ring_Places ids hcap
  have c4 := view_Copy v hs
  rw [k1] at c1
  rw [k2] at c2
  rw [show ids.all place = true from List.all_eq_true.2 k5] at c3
  have c5 := hello_heard v a k1 k2 k3
  rw [if_pos hr] at c5
  have hw0 := (knownV_may k1 k2 k3).1
  have hid0 := knownV_id v a
  have hk4 : ¬ (16 : Int) < ids.length := by omega
  unfold helloV
  generalize knownV v a = w0 at *
  have key : ∀ i, viewMay ((ids.take i).foldl tellV w0) = true ∧ ((ids.take i).foldl tellV w0).id = v.id := by
    intro i
    obtain ⟨e1, e2⟩ := tells_may (ids.take i) w0 hw0 (fun x hx => k5 x (List.mem_of_mem_take hx))
    exact ⟨e1, by rw [e2, hid0]⟩
  simp only [viewD, View.cells, peersD, intsD, viewBox, psB, xsB] at c1 c3 c4 c5 ⊢
  clear k1 k2 hs h hr
  refine den_of [37] [38, 60] is_hello_Take ?_
  simp -implicitDefEqProofs [c_hello_Take, hk4, k3]
  repeat' ((first | refine callThen_of (by first | exact c1 | exact c2 | exact c3 | exact c4) ?_ | with_reducible refine gOps_dec (fun _ => ?_) (fun _ => ?_) | with_reducible refine gOps_ndec (fun _ => ?_) (fun _ => ?_) | (with_reducible refine gOps_and (fun hq => ?_) (fun hq => ?_) <;> (try simp at hq)) | (with_reducible refine gOps_or (fun hq => ?_) (fun hq => ?_) <;> (try simp at hq)) | (with_reducible refine gOps_not (fun hq => ?_) (fun hq => ?_) <;> (try simp at hq)) | (with_reducible refine gOps_split (fun hq => ?_) (fun hq => ?_) <;> (try simp at hq)) | with_reducible refine condC_dec (fun _ => ?_) (fun _ => ?_) | with_reducible refine condC_ndec (fun _ => ?_) (fun _ => ?_) | (with_reducible refine condC_and (fun hq => ?_) (fun hq => ?_) <;> (try simp at hq)) | (with_reducible refine condC_or (fun hq => ?_) (fun hq => ?_) <;> (try simp at hq)) | (with_reducible refine condC_not (fun hq => ?_) (fun hq => ?_) <;> (try simp at hq)) | (with_reducible refine condC_split (fun hq => ?_) (fun hq => ?_) <;> (try simp at hq)) | refine appK2_if (by omega) ?_ | refine pureV_if (by omega) ?_) <;> simp -implicitDefEqProofs [*, downTo, hk4, k3])
  refine lendThen_frame [4, 2, 3] rfl (by decide) (by simp) c5 (by simp) (by simp [lentBs]) ?_
  simp -implicitDefEqProofs [framed]
  refine list_keep ids (fun i rest => fun ⟨fr, bs⟩ => B_Take ((ids.take i).foldl tellV w0) bs ∧ fr 6 = .ptr 1 0 0 ∧ fr 8 = .ptr 4 0 0 ∧ fr 40 = .sl (ids.map irow) ids.length ∧ fr 41 = .int .i64 ids.length ∧ fr 42 = .int .i64 i)
    (fun ⟨fr, bs⟩ => B_Take (ids.foldl tellV w0) bs ∧ fr 6 = .ptr 1 0 0 ∧ fr 8 = .ptr 4 0 0) (fun _ => False) c_hello_Take_L0.eq_1 ?_ ?_ ?_ ?_ ?_
  · exact ⟨.inl ⟨_, _, _, by simp [viewBox, psB, xsB]; exact ⟨rfl, rfl, rfl⟩⟩, by simp, by simp, by simp, by simp, by simp⟩
  · rintro i ⟨fr, bs⟩ hi ⟨hB, h6, h8, h40, h41, h42⟩
    rw [hi, List.take_length] at hB
    simp -implicitDefEqProofs [h6, h8, h40, h41, h42, hi]
    exact hB
  · rintro i x rest ⟨fr, bs⟩ hlt hget hg hd hd2 ⟨hB, h6, h8, h40, h41, h42⟩
    obtain ⟨w, hw⟩ : ∃ w, w = (ids.take i).foldl tellV w0 := ⟨_, rfl⟩
    rw [← hw] at hB
    have hlt' : (i : Int) < ids.length := by omega
    have hwr := wrap_next (n := i) (by omega)
    have hx := k5 x (List.mem_of_getElem? hget)
    have hkey := key i
    rw [← hw] at hkey
    obtain ⟨hm, hid⟩ := hkey
    have hnext := take_next hget w0
    rw [← hw] at hnext
    obtain ⟨p1, p2, p3, p4⟩ := viewMay_parts hm
    have v1 := view_Peer w x (by unfold cap; omega) (peersMay_rowed p1)
    rw [peerIs_mem p1 hx] at v1
    have v2 := view_Passive w x (by unfold cap; omega)
    have v3 : x ≠ w.id → _ := fun hn => hello_heard w x hm hx hn
    clear c1 c2 c3 c4 c5 key hw p1 p2 p3 p4
    obtain ⟨A, hA⟩ : ∃ A, (w.peers.map Peer.id).contains x = A := ⟨_, rfl⟩
    obtain ⟨C, hC⟩ : ∃ C, w.passive.contains x = C := ⟨_, rfl⟩
    have hkn : knowsV w x = (A || C) := by rw [← hA, ← hC]; rfl
    rw [hA] at v1
    rw [hC] at v2
    clear hA hC
    simp only [View.cells, peersD, intsD] at v1 v2
    have hr7 : List.range 7 = [0, 1, 2, 3, 4, 5, 6] := rfl
    clear hid hm
    by_cases hn : x = w.id
    · have ht : tellV w x = w := by unfold tellV; simp [hn]
      rw [ht] at hnext
      rcases hB with ⟨d0, d2, d3, rfl⟩ | ⟨d0, d2, d3, d5, d6, rfl⟩
      · simp -implicitDefEqProofs [h6, h8, h40, h41, h42, hlt, hlt', hget, hg, hn, hwr, viewBox, psB, xsB, irow]
        refine ⟨[], ⟨by simp, by simp, by simp⟩, ?_⟩
        unfold keepSt pickSt
        dsimp only
        try rw [hnext]
        exact ⟨.inl ⟨_, _, _, by simp [lentBs, hr7, viewBox, psB, xsB, irow]; repeat' (first | rfl | apply And.intro)⟩, by simp [h6, hr7], by simp [h8, hr7], by simp [h40], by simp [h41], by simp⟩
      · simp -implicitDefEqProofs [h6, h8, h40, h41, h42, hlt, hlt', hget, hg, hn, hwr, viewBox, psB, xsB, irow]
        refine ⟨[7, 8], ⟨by simp, by simp, by simp⟩, ?_⟩
        unfold keepSt pickSt
        dsimp only
        try rw [hnext]
        exact ⟨.inr ⟨_, _, _, _, _, by simp [lentBs, hr7, viewBox, psB, xsB, irow]; repeat' (first | rfl | apply And.intro)⟩, by simp [h6, hr7], by simp [h8, hr7], by simp [h40], by simp [h41], by simp⟩
    · have v4 := v3 hn
      clear v3
      cases hAC : (A || C) with
      | true =>
        have ht : tellV w x = w := by unfold tellV; simp [hkn, hAC]
        rw [ht] at hnext
        clear v4 hkn ht
        rcases hB with ⟨d0, d2, d3, rfl⟩ | ⟨d0, d2, d3, d5, d6, rfl⟩
        · cases A <;> cases C
          all_goals try (simp at hAC; done)
          all_goals
            clear hAC
            simp -implicitDefEqProofs [h6, h8, h40, h41, h42, hlt, hlt', hget, hg, hn, hwr, viewBox, psB, xsB, irow]
            repeat' ((first | refine callThen_of (by first | exact v1 | exact v2) ?_ | with_reducible refine gOps_dec (fun _ => ?_) (fun _ => ?_) | with_reducible refine gOps_ndec (fun _ => ?_) (fun _ => ?_) | (with_reducible refine gOps_and (fun hq => ?_) (fun hq => ?_) <;> (try simp at hq)) | (with_reducible refine gOps_or (fun hq => ?_) (fun hq => ?_) <;> (try simp at hq)) | (with_reducible refine gOps_not (fun hq => ?_) (fun hq => ?_) <;> (try simp at hq)) | (with_reducible refine gOps_split (fun hq => ?_) (fun hq => ?_) <;> (try simp at hq)) | with_reducible refine condC_dec (fun _ => ?_) (fun _ => ?_) | with_reducible refine condC_ndec (fun _ => ?_) (fun _ => ?_) | (with_reducible refine condC_and (fun hq => ?_) (fun hq => ?_) <;> (try simp at hq)) | (with_reducible refine condC_or (fun hq => ?_) (fun hq => ?_) <;> (try simp at hq)) | (with_reducible refine condC_not (fun hq => ?_) (fun hq => ?_) <;> (try simp at hq)) | (with_reducible refine condC_split (fun hq => ?_) (fun hq => ?_) <;> (try simp at hq)) | refine appK2_if (by omega) ?_ | refine pureV_if (by omega) ?_) <;> simp -implicitDefEqProofs [*, h6, h8, h40, h41, h42, hlt, hlt', hget, hg, hn, hwr, viewBox, psB, xsB, irow])
            refine ⟨[], ⟨by simp, by simp, by simp⟩, ?_⟩
            unfold keepSt pickSt
            dsimp only
            try rw [hnext]
            exact ⟨.inl ⟨_, _, _, by simp [lentBs, hr7, viewBox, psB, xsB, irow]; repeat' (first | rfl | apply And.intro)⟩, by simp [h6, hr7], by simp [h8, hr7], by simp [h40], by simp [h41], by simp⟩
        · cases A <;> cases C
          all_goals try (simp at hAC; done)
          all_goals
            clear hAC
            simp -implicitDefEqProofs [h6, h8, h40, h41, h42, hlt, hlt', hget, hg, hn, hwr, viewBox, psB, xsB, irow]
            repeat' ((first | refine callThen_of (by first | exact v1 | exact v2) ?_ | with_reducible refine gOps_dec (fun _ => ?_) (fun _ => ?_) | with_reducible refine gOps_ndec (fun _ => ?_) (fun _ => ?_) | (with_reducible refine gOps_and (fun hq => ?_) (fun hq => ?_) <;> (try simp at hq)) | (with_reducible refine gOps_or (fun hq => ?_) (fun hq => ?_) <;> (try simp at hq)) | (with_reducible refine gOps_not (fun hq => ?_) (fun hq => ?_) <;> (try simp at hq)) | (with_reducible refine gOps_split (fun hq => ?_) (fun hq => ?_) <;> (try simp at hq)) | with_reducible refine condC_dec (fun _ => ?_) (fun _ => ?_) | with_reducible refine condC_ndec (fun _ => ?_) (fun _ => ?_) | (with_reducible refine condC_and (fun hq => ?_) (fun hq => ?_) <;> (try simp at hq)) | (with_reducible refine condC_or (fun hq => ?_) (fun hq => ?_) <;> (try simp at hq)) | (with_reducible refine condC_not (fun hq => ?_) (fun hq => ?_) <;> (try simp at hq)) | (with_reducible refine condC_split (fun hq => ?_) (fun hq => ?_) <;> (try simp at hq)) | refine appK2_if (by omega) ?_ | refine pureV_if (by omega) ?_) <;> simp -implicitDefEqProofs [*, h6, h8, h40, h41, h42, hlt, hlt', hget, hg, hn, hwr, viewBox, psB, xsB, irow])
            refine ⟨[7, 8], ⟨by simp, by simp, by simp⟩, ?_⟩
            unfold keepSt pickSt
            dsimp only
            try rw [hnext]
            exact ⟨.inr ⟨_, _, _, _, _, by simp [lentBs, hr7, viewBox, psB, xsB, irow]; repeat' (first | rfl | apply And.intro)⟩, by simp [h6, hr7], by simp [h8, hr7], by simp [h40], by simp [h41], by simp⟩
      | false =>
        simp only [Bool.or_eq_false_iff] at hAC
        obtain ⟨rfl, rfl⟩ := hAC
        have ht : tellV w x = knownV w x := by unfold tellV; simp [hkn, hn]
        rw [ht] at hnext
        clear ht hkn
        cases hr : roomV w x with
        | false =>
          rw [knownV_no hr] at hnext
          rw [if_neg (by simp [hr])] at v4
          clear hr
          simp only [viewBox, psB, xsB] at v4
          rcases hB with ⟨d0, d2, d3, rfl⟩ | ⟨d0, d2, d3, d5, d6, rfl⟩
          · simp -implicitDefEqProofs [h6, h8, h40, h41, h42, hlt, hlt', hget, hg, hn, hwr, viewBox, psB, xsB, irow]
            repeat' ((first | refine callThen_of (by first | exact v1 | exact v2) ?_ | with_reducible refine gOps_dec (fun _ => ?_) (fun _ => ?_) | with_reducible refine gOps_ndec (fun _ => ?_) (fun _ => ?_) | (with_reducible refine gOps_and (fun hq => ?_) (fun hq => ?_) <;> (try simp at hq)) | (with_reducible refine gOps_or (fun hq => ?_) (fun hq => ?_) <;> (try simp at hq)) | (with_reducible refine gOps_not (fun hq => ?_) (fun hq => ?_) <;> (try simp at hq)) | (with_reducible refine gOps_split (fun hq => ?_) (fun hq => ?_) <;> (try simp at hq)) | with_reducible refine condC_dec (fun _ => ?_) (fun _ => ?_) | with_reducible refine condC_ndec (fun _ => ?_) (fun _ => ?_) | (with_reducible refine condC_and (fun hq => ?_) (fun hq => ?_) <;> (try simp at hq)) | (with_reducible refine condC_or (fun hq => ?_) (fun hq => ?_) <;> (try simp at hq)) | (with_reducible refine condC_not (fun hq => ?_) (fun hq => ?_) <;> (try simp at hq)) | (with_reducible refine condC_split (fun hq => ?_) (fun hq => ?_) <;> (try simp at hq)) | refine appK2_if (by omega) ?_ | refine pureV_if (by omega) ?_) <;> simp -implicitDefEqProofs [*, h6, h8, h40, h41, h42, hlt, hlt', hget, hg, hn, hwr, viewBox, psB, xsB, irow])
            refine lendThen_frame [4, 5, 6] rfl (by decide) (by simp) v4 (by simp) (by simp [lentBs]) ?_
            simp -implicitDefEqProofs [framed, h6, h8, h40, h41, h42, hlt, hlt', hget, hg, hn, hwr, viewBox, psB, xsB, irow]
            refine ⟨[], ⟨by simp, by simp, by simp⟩, ?_⟩
            unfold keepSt pickSt
            dsimp only
            try rw [hnext]
            exact ⟨.inl ⟨_, _, _, by simp [lentBs, hr7, viewBox, psB, xsB, irow]; repeat' (first | rfl | apply And.intro)⟩, by simp [h6, hr7], by simp [h8, hr7], by simp [h40], by simp [h41], by simp⟩
          · simp -implicitDefEqProofs [h6, h8, h40, h41, h42, hlt, hlt', hget, hg, hn, hwr, viewBox, psB, xsB, irow]
            repeat' ((first | refine callThen_of (by first | exact v1 | exact v2) ?_ | with_reducible refine gOps_dec (fun _ => ?_) (fun _ => ?_) | with_reducible refine gOps_ndec (fun _ => ?_) (fun _ => ?_) | (with_reducible refine gOps_and (fun hq => ?_) (fun hq => ?_) <;> (try simp at hq)) | (with_reducible refine gOps_or (fun hq => ?_) (fun hq => ?_) <;> (try simp at hq)) | (with_reducible refine gOps_not (fun hq => ?_) (fun hq => ?_) <;> (try simp at hq)) | (with_reducible refine gOps_split (fun hq => ?_) (fun hq => ?_) <;> (try simp at hq)) | with_reducible refine condC_dec (fun _ => ?_) (fun _ => ?_) | with_reducible refine condC_ndec (fun _ => ?_) (fun _ => ?_) | (with_reducible refine condC_and (fun hq => ?_) (fun hq => ?_) <;> (try simp at hq)) | (with_reducible refine condC_or (fun hq => ?_) (fun hq => ?_) <;> (try simp at hq)) | (with_reducible refine condC_not (fun hq => ?_) (fun hq => ?_) <;> (try simp at hq)) | (with_reducible refine condC_split (fun hq => ?_) (fun hq => ?_) <;> (try simp at hq)) | refine appK2_if (by omega) ?_ | refine pureV_if (by omega) ?_) <;> simp -implicitDefEqProofs [*, h6, h8, h40, h41, h42, hlt, hlt', hget, hg, hn, hwr, viewBox, psB, xsB, irow])
            refine lendThen_frame [4, 7, 8] rfl (by decide) (by simp) v4 (by simp) (by simp [lentBs]) ?_
            simp -implicitDefEqProofs [framed, h6, h8, h40, h41, h42, hlt, hlt', hget, hg, hn, hwr, viewBox, psB, xsB, irow]
            refine ⟨[7, 8], ⟨by simp, by simp, by simp⟩, ?_⟩
            unfold keepSt pickSt
            dsimp only
            try rw [hnext]
            exact ⟨.inr ⟨_, _, _, _, _, by simp [lentBs, hr7, viewBox, psB, xsB, irow]; repeat' (first | rfl | apply And.intro)⟩, by simp [h6, hr7], by simp [h8, hr7], by simp [h40], by simp [h41], by simp⟩
        | true =>
          rw [if_pos hr] at v4
          generalize knownV w x = w2 at *
          clear hr
          simp only [viewBox, psB, xsB] at v4
          rcases hB with ⟨d0, d2, d3, rfl⟩ | ⟨d0, d2, d3, d5, d6, rfl⟩
          · simp -implicitDefEqProofs [h6, h8, h40, h41, h42, hlt, hlt', hget, hg, hn, hwr, viewBox, psB, xsB, irow]
            repeat' ((first | refine callThen_of (by first | exact v1 | exact v2) ?_ | with_reducible refine gOps_dec (fun _ => ?_) (fun _ => ?_) | with_reducible refine gOps_ndec (fun _ => ?_) (fun _ => ?_) | (with_reducible refine gOps_and (fun hq => ?_) (fun hq => ?_) <;> (try simp at hq)) | (with_reducible refine gOps_or (fun hq => ?_) (fun hq => ?_) <;> (try simp at hq)) | (with_reducible refine gOps_not (fun hq => ?_) (fun hq => ?_) <;> (try simp at hq)) | (with_reducible refine gOps_split (fun hq => ?_) (fun hq => ?_) <;> (try simp at hq)) | with_reducible refine condC_dec (fun _ => ?_) (fun _ => ?_) | with_reducible refine condC_ndec (fun _ => ?_) (fun _ => ?_) | (with_reducible refine condC_and (fun hq => ?_) (fun hq => ?_) <;> (try simp at hq)) | (with_reducible refine condC_or (fun hq => ?_) (fun hq => ?_) <;> (try simp at hq)) | (with_reducible refine condC_not (fun hq => ?_) (fun hq => ?_) <;> (try simp at hq)) | (with_reducible refine condC_split (fun hq => ?_) (fun hq => ?_) <;> (try simp at hq)) | refine appK2_if (by omega) ?_ | refine pureV_if (by omega) ?_) <;> simp -implicitDefEqProofs [*, h6, h8, h40, h41, h42, hlt, hlt', hget, hg, hn, hwr, viewBox, psB, xsB, irow])
            refine lendThen_frame [4, 5, 6] rfl (by decide) (by simp) v4 (by simp) (by simp [lentBs]) ?_
            simp -implicitDefEqProofs [framed, h6, h8, h40, h41, h42, hlt, hlt', hget, hg, hn, hwr, viewBox, psB, xsB, irow]
            refine ⟨[7, 8], ⟨by simp, by simp, by simp⟩, ?_⟩
            unfold keepSt pickSt
            dsimp only
            try rw [hnext]
            exact ⟨.inr ⟨_, _, _, _, _, by simp [lentBs, hr7, viewBox, psB, xsB, irow]; repeat' (first | rfl | apply And.intro)⟩, by simp [h6, hr7], by simp [h8, hr7], by simp [h40], by simp [h41], by simp⟩
          · simp -implicitDefEqProofs [h6, h8, h40, h41, h42, hlt, hlt', hget, hg, hn, hwr, viewBox, psB, xsB, irow]
            repeat' ((first | refine callThen_of (by first | exact v1 | exact v2) ?_ | with_reducible refine gOps_dec (fun _ => ?_) (fun _ => ?_) | with_reducible refine gOps_ndec (fun _ => ?_) (fun _ => ?_) | (with_reducible refine gOps_and (fun hq => ?_) (fun hq => ?_) <;> (try simp at hq)) | (with_reducible refine gOps_or (fun hq => ?_) (fun hq => ?_) <;> (try simp at hq)) | (with_reducible refine gOps_not (fun hq => ?_) (fun hq => ?_) <;> (try simp at hq)) | (with_reducible refine gOps_split (fun hq => ?_) (fun hq => ?_) <;> (try simp at hq)) | with_reducible refine condC_dec (fun _ => ?_) (fun _ => ?_) | with_reducible refine condC_ndec (fun _ => ?_) (fun _ => ?_) | (with_reducible refine condC_and (fun hq => ?_) (fun hq => ?_) <;> (try simp at hq)) | (with_reducible refine condC_or (fun hq => ?_) (fun hq => ?_) <;> (try simp at hq)) | (with_reducible refine condC_not (fun hq => ?_) (fun hq => ?_) <;> (try simp at hq)) | (with_reducible refine condC_split (fun hq => ?_) (fun hq => ?_) <;> (try simp at hq)) | refine appK2_if (by omega) ?_ | refine pureV_if (by omega) ?_) <;> simp -implicitDefEqProofs [*, h6, h8, h40, h41, h42, hlt, hlt', hget, hg, hn, hwr, viewBox, psB, xsB, irow])
            refine lendThen_frame [4, 7, 8] rfl (by decide) (by simp) v4 (by simp) (by simp [lentBs]) ?_
            simp -implicitDefEqProofs [framed, h6, h8, h40, h41, h42, hlt, hlt', hget, hg, hn, hwr, viewBox, psB, xsB, irow]
            refine ⟨[9, 10], ⟨by simp, by simp, by simp⟩, ?_⟩
            unfold keepSt pickSt
            dsimp only
            try rw [hnext]
            exact ⟨.inr ⟨_, _, _, _, _, by simp [lentBs, hr7, viewBox, psB, xsB, irow]; repeat' (first | rfl | apply And.intro)⟩, by simp [h6, hr7], by simp [h8, hr7], by simp [h40], by simp [h41], by simp⟩
  · rintro ⟨fr, bs⟩ ⟨hB, h6, h8⟩
    have hWid := (key ids.length).2
    rw [List.take_length] at hWid
    generalize ids.foldl tellV w0 = W at *
    rcases hB with ⟨d0, d2, d3, rfl⟩ | ⟨d0, d2, d3, d5, d6, rfl⟩
    · simp -implicitDefEqProofs [h6, h8, viewBox, psB, xsB, hWid]
    · simp -implicitDefEqProofs [h6, h8, viewBox, psB, xsB, hWid]
  · rintro ⟨fr, bs⟩ h
    exact h.elim
theorem hello_Take_full (v : View) (a : Int) (ids : List Int) (hs : v.small) (h : helloOk v a ids = true) (hr : roomV v a = false) : Den PP 41 [viewD v, .int .i64 a, intsD ids] [] (.tup [.agg [.int .i64 v.id, .ref 0 0 (helloV v a ids).peers.length, .ref 1 0 (helloV v a ids).passive.length], .int .i64 0]) [psB (helloV v a ids), xsB (helloV v a ids)] := by
  obtain ⟨k1, k2, k3, k4, k5⟩ := helloOk_parts h
  have hcap : ids.length ≤ cap := by unfold cap; omega
  have hsz : 16 ≤ sizeV v := by
    unfold roomV at hr
    simp at hr
    unfold sizeV
    exact hr.2
  have hW : helloV v a ids = v := by unfold helloV; rw [knownV_no hr, tells_full hsz]
  rw [hW]
  clear hW
  have c1 := view_May v hs
  have c2 := ring_Place a
  have c3 := ring_Places ids hcap
  have c4 := view_Copy v hs
  have hm := k1
  rw [k1] at c1
  rw [k2] at c2
  rw [show ids.all place = true from List.all_eq_true.2 k5] at c3
  have c5 := hello_heard v a k1 k2 k3
  rw [if_neg (by simp [hr])] at c5
  have hk4 : ¬ (16 : Int) < ids.length := by omega
  simp only [viewD, View.cells, peersD, intsD, viewBox, psB, xsB] at c1 c3 c4 c5 ⊢
  clear k1 k2 hs h hr
  refine den_of [37] [38, 60] is_hello_Take ?_
  simp -implicitDefEqProofs [c_hello_Take, hk4, k3]
  repeat' ((first | refine callThen_of (by first | exact c1 | exact c2 | exact c3 | exact c4) ?_ | with_reducible refine gOps_dec (fun _ => ?_) (fun _ => ?_) | with_reducible refine gOps_ndec (fun _ => ?_) (fun _ => ?_) | (with_reducible refine gOps_and (fun hq => ?_) (fun hq => ?_) <;> (try simp at hq)) | (with_reducible refine gOps_or (fun hq => ?_) (fun hq => ?_) <;> (try simp at hq)) | (with_reducible refine gOps_not (fun hq => ?_) (fun hq => ?_) <;> (try simp at hq)) | (with_reducible refine gOps_split (fun hq => ?_) (fun hq => ?_) <;> (try simp at hq)) | with_reducible refine condC_dec (fun _ => ?_) (fun _ => ?_) | with_reducible refine condC_ndec (fun _ => ?_) (fun _ => ?_) | (with_reducible refine condC_and (fun hq => ?_) (fun hq => ?_) <;> (try simp at hq)) | (with_reducible refine condC_or (fun hq => ?_) (fun hq => ?_) <;> (try simp at hq)) | (with_reducible refine condC_not (fun hq => ?_) (fun hq => ?_) <;> (try simp at hq)) | (with_reducible refine condC_split (fun hq => ?_) (fun hq => ?_) <;> (try simp at hq)) | refine appK2_if (by omega) ?_ | refine pureV_if (by omega) ?_) <;> simp -implicitDefEqProofs [*, downTo, hk4, k3])
  refine lendThen_frame [4, 2, 3] rfl (by decide) (by simp) c5 (by simp) (by simp [lentBs]) ?_
  simp -implicitDefEqProofs [framed]
  refine list_keep ids (fun i rest => fun ⟨fr, bs⟩ => (∃ d0, bs = [d0, ⟨[[.int .i64 0, .nil, .nil]], 3, .box⟩, psB v, xsB v, viewBox v 2 3]) ∧ fr 6 = .ptr 1 0 0 ∧ fr 8 = .ptr 4 0 0 ∧ fr 40 = .sl (ids.map irow) ids.length ∧ fr 41 = .int .i64 ids.length ∧ fr 42 = .int .i64 i)
    (fun ⟨fr, bs⟩ => (∃ d0, bs = [d0, ⟨[[.int .i64 0, .nil, .nil]], 3, .box⟩, psB v, xsB v, viewBox v 2 3]) ∧ fr 6 = .ptr 1 0 0 ∧ fr 8 = .ptr 4 0 0) (fun _ => False) c_hello_Take_L0.eq_1 ?_ ?_ ?_ ?_ ?_
  · exact ⟨⟨_, by simp [viewBox, psB, xsB]; rfl⟩, by simp, by simp, by simp, by simp, by simp⟩
  · rintro i ⟨fr, bs⟩ hi ⟨hB, h6, h8, h40, h41, h42⟩
    simp -implicitDefEqProofs [h6, h8, h40, h41, h42, hi]
    exact hB
  · rintro i x rest ⟨fr, bs⟩ hlt hget hg hd hd2 ⟨⟨d0, rfl⟩, h6, h8, h40, h41, h42⟩
    have hlt' : (i : Int) < ids.length := by omega
    have hwr := wrap_next (n := i) (by omega)
    have hx := k5 x (List.mem_of_getElem? hget)
    obtain ⟨p1, p2, p3, p4⟩ := viewMay_parts hm
    have v1 := view_Peer v x (by unfold cap; omega) (peersMay_rowed p1)
    rw [peerIs_mem p1 hx] at v1
    have v2 := view_Passive v x (by unfold cap; omega)
    have v3 : x ≠ v.id → _ := fun hn => hello_heard v x hm hx hn
    clear c1 c2 c3 c4 c5 p1 p2 p3 p4
    have hroom : knowsV v x = false → roomV v x = false := by
      intro hk
      unfold roomV
      unfold sizeV at hsz
      simp [hk, hsz]
    obtain ⟨A, hA⟩ : ∃ A, (v.peers.map Peer.id).contains x = A := ⟨_, rfl⟩
    obtain ⟨C, hC⟩ : ∃ C, v.passive.contains x = C := ⟨_, rfl⟩
    have hkn : knowsV v x = (A || C) := by rw [← hA, ← hC]; rfl
    rw [hA] at v1
    rw [hC] at v2
    clear hA hC
    simp only [View.cells, peersD, intsD] at v1 v2
    have hr5 : List.range 5 = [0, 1, 2, 3, 4] := rfl
    clear hm hsz
    by_cases hn : x = v.id
    · simp -implicitDefEqProofs [h6, h8, h40, h41, h42, hlt, hlt', hget, hg, hn, hwr, viewBox, psB, xsB, irow]
      refine ⟨[], ⟨by simp, by simp, by simp⟩, ?_⟩
      unfold keepSt pickSt
      dsimp only
      exact ⟨⟨_, by simp [lentBs, hr5, viewBox, psB, xsB, irow]; repeat' (first | rfl | apply And.intro)⟩, by simp [h6, hr5], by simp [h8, hr5], by simp [h40], by simp [h41], by simp⟩
    · have v4 := v3 hn
      clear v3
      cases hAC : (A || C) with
      | true =>
        clear v4 hkn hroom
        cases A <;> cases C
        all_goals try (simp at hAC; done)
        all_goals
          clear hAC
          simp -implicitDefEqProofs [h6, h8, h40, h41, h42, hlt, hlt', hget, hg, hn, hwr, viewBox, psB, xsB, irow]
          repeat' ((first | refine callThen_of (by first | exact v1 | exact v2) ?_ | with_reducible refine gOps_dec (fun _ => ?_) (fun _ => ?_) | with_reducible refine gOps_ndec (fun _ => ?_) (fun _ => ?_) | (with_reducible refine gOps_and (fun hq => ?_) (fun hq => ?_) <;> (try simp at hq)) | (with_reducible refine gOps_or (fun hq => ?_) (fun hq => ?_) <;> (try simp at hq)) | (with_reducible refine gOps_not (fun hq => ?_) (fun hq => ?_) <;> (try simp at hq)) | (with_reducible refine gOps_split (fun hq => ?_) (fun hq => ?_) <;> (try simp at hq)) | with_reducible refine condC_dec (fun _ => ?_) (fun _ => ?_) | with_reducible refine condC_ndec (fun _ => ?_) (fun _ => ?_) | (with_reducible refine condC_and (fun hq => ?_) (fun hq => ?_) <;> (try simp at hq)) | (with_reducible refine condC_or (fun hq => ?_) (fun hq => ?_) <;> (try simp at hq)) | (with_reducible refine condC_not (fun hq => ?_) (fun hq => ?_) <;> (try simp at hq)) | (with_reducible refine condC_split (fun hq => ?_) (fun hq => ?_) <;> (try simp at hq)) | refine appK2_if (by omega) ?_ | refine pureV_if (by omega) ?_) <;> simp -implicitDefEqProofs [*, h6, h8, h40, h41, h42, hlt, hlt', hget, hg, hn, hwr, viewBox, psB, xsB, irow])
          refine ⟨[], ⟨by simp, by simp, by simp⟩, ?_⟩
          unfold keepSt pickSt
          dsimp only
          exact ⟨⟨_, by simp [lentBs, hr5, viewBox, psB, xsB, irow]; repeat' (first | rfl | apply And.intro)⟩, by simp [h6, hr5], by simp [h8, hr5], by simp [h40], by simp [h41], by simp⟩
      | false =>
        rw [hAC] at hkn
        simp only [Bool.or_eq_false_iff] at hAC
        obtain ⟨rfl, rfl⟩ := hAC
        rw [if_neg (by simp [hroom hkn])] at v4
        clear hkn hroom
        simp only [viewBox, psB, xsB] at v4
        simp -implicitDefEqProofs [h6, h8, h40, h41, h42, hlt, hlt', hget, hg, hn, hwr, viewBox, psB, xsB, irow]
        repeat' ((first | refine callThen_of (by first | exact v1 | exact v2) ?_ | with_reducible refine gOps_dec (fun _ => ?_) (fun _ => ?_) | with_reducible refine gOps_ndec (fun _ => ?_) (fun _ => ?_) | (with_reducible refine gOps_and (fun hq => ?_) (fun hq => ?_) <;> (try simp at hq)) | (with_reducible refine gOps_or (fun hq => ?_) (fun hq => ?_) <;> (try simp at hq)) | (with_reducible refine gOps_not (fun hq => ?_) (fun hq => ?_) <;> (try simp at hq)) | (with_reducible refine gOps_split (fun hq => ?_) (fun hq => ?_) <;> (try simp at hq)) | with_reducible refine condC_dec (fun _ => ?_) (fun _ => ?_) | with_reducible refine condC_ndec (fun _ => ?_) (fun _ => ?_) | (with_reducible refine condC_and (fun hq => ?_) (fun hq => ?_) <;> (try simp at hq)) | (with_reducible refine condC_or (fun hq => ?_) (fun hq => ?_) <;> (try simp at hq)) | (with_reducible refine condC_not (fun hq => ?_) (fun hq => ?_) <;> (try simp at hq)) | (with_reducible refine condC_split (fun hq => ?_) (fun hq => ?_) <;> (try simp at hq)) | refine appK2_if (by omega) ?_ | refine pureV_if (by omega) ?_) <;> simp -implicitDefEqProofs [*, h6, h8, h40, h41, h42, hlt, hlt', hget, hg, hn, hwr, viewBox, psB, xsB, irow])
        refine lendThen_frame [4, 2, 3] rfl (by decide) (by simp) v4 (by simp) (by simp [lentBs]) ?_
        simp -implicitDefEqProofs [framed, h6, h8, h40, h41, h42, hlt, hlt', hget, hg, hn, hwr, viewBox, psB, xsB, irow]
        refine ⟨[], ⟨by simp, by simp, by simp⟩, ?_⟩
        unfold keepSt pickSt
        dsimp only
        exact ⟨⟨_, by simp [lentBs, hr5, viewBox, psB, xsB, irow]; repeat' (first | rfl | apply And.intro)⟩, by simp [h6, hr5], by simp [h8, hr5], by simp [h40], by simp [h41], by simp⟩
  · rintro ⟨fr, bs⟩ ⟨⟨d0, rfl⟩, h6, h8⟩
    simp -implicitDefEqProofs [h6, h8, viewBox, psB, xsB]
  · rintro ⟨fr, bs⟩ h
    exact h.elim
theorem hello_Take (v : View) (a : Int) (ids : List Int) (hs : v.small) (h : helloOk v a ids = true) : Den PP 41 [viewD v, .int .i64 a, intsD ids] [] (.tup [.agg [.int .i64 v.id, .ref 0 0 (helloV v a ids).peers.length, .ref 1 0 (helloV v a ids).passive.length], .int .i64 0]) [psB (helloV v a ids), xsB (helloV v a ids)] := by
  cases hr : roomV v a with
  | true => exact hello_Take_yes v a ids hs h hr
  | false => exact hello_Take_full v a ids hs h hr
def viewS (v : View) : D := .agg [.int .i64 v.id, .sl (v.peers.map Peer.row) v.peers.length, .sl (v.passive.map irow) v.passive.length]
theorem ref_known (v : View) (a : Int) (hv : viewMay v = true) (hp : place a = true) (hn : a ≠ v.id) : Den PP 171 [viewD v, .int .i64 a] [] (viewS (knownV v a)) [] := by
  obtain ⟨p1, p2, p3, p4⟩ := viewMay_parts hv
  have c1 := ref_has v.passive a (by unfold cap; omega)
  have c2 := ref_Names v.peers (by unfold cap16; omega)
  have c3 := ref_has (v.peers.map Peer.id) a (by unfold cap; simp; omega)
  have c4 := ref_Heard v.id v.peers a (by unfold cap16; omega)
  have c5 := ref_WithoutPassive v.passive a (by unfold cap; omega)
  rw [show refWithout v.passive a = (v.passive.filter fun y => !decide (y = a), 0) by rw [refWithout_eq]; simp [withoutP, p2, hp]] at c5
  have hk := (knownV_may hv hp hn).2
  have hkv : roomV v a = true → knownV v a = ⟨v.id, hearG v.id a false v.peers, v.passive.filter fun y => !decide (y = a)⟩ := by intro h; unfold knownV; rw [if_pos h]
  have w : IntKind.wrap .i64 ((v.peers.length : Int) + v.passive.length) = v.peers.length + v.passive.length := wrap_in (by omega) (by omega)
  cases hr : roomV v a with
  | false =>
    rw [knownV_no hr]
    clear hk hkv c4 c5
    simp only [roomV, knowsV] at hr
    generalize (v.peers.map Peer.id).contains a = A at *
    generalize v.passive.contains a = B at *
    simp only [Bool.or_eq_false_iff, decide_eq_false_iff_not] at hr
    obtain ⟨⟨rfl, rfl⟩, hr⟩ := hr
    have hr2 : (16 : Int) ≤ (v.peers.length : Int) + v.passive.length := by omega
    have hnm : v.peers.map (fun p => irow p.id) = (v.peers.map Peer.id).map irow := by rw [List.map_map]; rfl
    simp only [viewD, viewS, View.cells, peersD, intsD, List.length_map, ← hnm] at c1 c2 c3 ⊢
    clear hnm
    clear p1 p2 p3 p4 hv hp hn hr
    refine den_of [] [] is_gimmalref1_known ?_
    simp -implicitDefEqProofs [c_gimmalref1_known, w, hr2]
    repeat' ((first | refine callThen_of (by first | exact c1 | exact c2 | exact c3) ?_ | with_reducible refine gOps_dec (fun _ => ?_) (fun _ => ?_) | with_reducible refine gOps_ndec (fun _ => ?_) (fun _ => ?_) | (with_reducible refine gOps_and (fun hq => ?_) (fun hq => ?_) <;> (try simp at hq)) | (with_reducible refine gOps_or (fun hq => ?_) (fun hq => ?_) <;> (try simp at hq)) | (with_reducible refine gOps_not (fun hq => ?_) (fun hq => ?_) <;> (try simp at hq)) | (with_reducible refine gOps_split (fun hq => ?_) (fun hq => ?_) <;> (try simp at hq)) | with_reducible refine condC_dec (fun _ => ?_) (fun _ => ?_) | with_reducible refine condC_ndec (fun _ => ?_) (fun _ => ?_) | (with_reducible refine condC_and (fun hq => ?_) (fun hq => ?_) <;> (try simp at hq)) | (with_reducible refine condC_or (fun hq => ?_) (fun hq => ?_) <;> (try simp at hq)) | (with_reducible refine condC_not (fun hq => ?_) (fun hq => ?_) <;> (try simp at hq)) | (with_reducible refine condC_split (fun hq => ?_) (fun hq => ?_) <;> (try simp at hq)) | refine appK2_if (by omega) ?_ | refine pureV_if (by omega) ?_) <;> simp -implicitDefEqProofs [*, downTo, w, hr2])
  | true =>
    rw [hkv hr]
    rw [hk hr] at c4
    clear hk hkv
    simp only [roomV, knowsV] at hr
    generalize hearG v.id a false v.peers = ps at *
    generalize (v.passive.filter fun y => !decide (y = a)) = xs at *
    generalize (v.peers.map Peer.id).contains a = A at *
    generalize v.passive.contains a = B at *
    have hnm : v.peers.map (fun p => irow p.id) = (v.peers.map Peer.id).map irow := by rw [List.map_map]; rfl
    have hr2 : A = false → B = false → ¬ (16 : Int) ≤ (v.peers.length : Int) + v.passive.length := by
      intro h1 h2
      simp [h1, h2] at hr
      omega
    simp only [viewD, viewS, View.cells, peersD, intsD, List.length_map, ← hnm] at c1 c2 c3 c4 c5 ⊢
    clear hnm
    clear p1 p2 p3 p4 hv hp hn hr
    refine den_of [] [] is_gimmalref1_known ?_
    cases A <;> cases B
    · have hr3 := hr2 rfl rfl
      clear hr2
      simp -implicitDefEqProofs [c_gimmalref1_known, w, hr3]
      repeat' ((first | refine callThen_of (by first | exact c1 | exact c2 | exact c3 | exact c4 | exact c5) ?_ | with_reducible refine gOps_dec (fun _ => ?_) (fun _ => ?_) | with_reducible refine gOps_ndec (fun _ => ?_) (fun _ => ?_) | (with_reducible refine gOps_and (fun hq => ?_) (fun hq => ?_) <;> (try simp at hq)) | (with_reducible refine gOps_or (fun hq => ?_) (fun hq => ?_) <;> (try simp at hq)) | (with_reducible refine gOps_not (fun hq => ?_) (fun hq => ?_) <;> (try simp at hq)) | (with_reducible refine gOps_split (fun hq => ?_) (fun hq => ?_) <;> (try simp at hq)) | with_reducible refine condC_dec (fun _ => ?_) (fun _ => ?_) | with_reducible refine condC_ndec (fun _ => ?_) (fun _ => ?_) | (with_reducible refine condC_and (fun hq => ?_) (fun hq => ?_) <;> (try simp at hq)) | (with_reducible refine condC_or (fun hq => ?_) (fun hq => ?_) <;> (try simp at hq)) | (with_reducible refine condC_not (fun hq => ?_) (fun hq => ?_) <;> (try simp at hq)) | (with_reducible refine condC_split (fun hq => ?_) (fun hq => ?_) <;> (try simp at hq)) | refine appK2_if (by omega) ?_ | refine pureV_if (by omega) ?_) <;> simp -implicitDefEqProofs [*, downTo, w, hr3])
    all_goals
      clear hr2
      simp -implicitDefEqProofs [c_gimmalref1_known, w]
      repeat' ((first | refine callThen_of (by first | exact c1 | exact c2 | exact c3 | exact c4 | exact c5) ?_ | with_reducible refine gOps_dec (fun _ => ?_) (fun _ => ?_) | with_reducible refine gOps_ndec (fun _ => ?_) (fun _ => ?_) | (with_reducible refine gOps_and (fun hq => ?_) (fun hq => ?_) <;> (try simp at hq)) | (with_reducible refine gOps_or (fun hq => ?_) (fun hq => ?_) <;> (try simp at hq)) | (with_reducible refine gOps_not (fun hq => ?_) (fun hq => ?_) <;> (try simp at hq)) | (with_reducible refine gOps_split (fun hq => ?_) (fun hq => ?_) <;> (try simp at hq)) | with_reducible refine condC_dec (fun _ => ?_) (fun _ => ?_) | with_reducible refine condC_ndec (fun _ => ?_) (fun _ => ?_) | (with_reducible refine condC_and (fun hq => ?_) (fun hq => ?_) <;> (try simp at hq)) | (with_reducible refine condC_or (fun hq => ?_) (fun hq => ?_) <;> (try simp at hq)) | (with_reducible refine condC_not (fun hq => ?_) (fun hq => ?_) <;> (try simp at hq)) | (with_reducible refine condC_split (fun hq => ?_) (fun hq => ?_) <;> (try simp at hq)) | refine appK2_if (by omega) ?_ | refine pureV_if (by omega) ?_) <;> simp -implicitDefEqProofs [*, downTo, w])
end Go.AM
/- AM: contracts: a message that comes is handled. -/
namespace Go.AM
set_option linter.unusedSimpArgs false
set_option linter.unusedVariables false
set_option maxRecDepth 8000
set_option maxHeartbeats 0
def hBox (x : Node) (p q i l : Nat) (s : D) : Blk := ⟨[[.bool x.up, .int .i64 x.view.id, .ref p 0 x.view.peers.length, .ref q 0 x.view.passive.length, .ref i 0 x.items.length, .ref l 0 x.log.length, s]], 7, .box⟩
theorem hello_ok {x : Node} {m : Msg} (h : nodeUp x = true) (hm : msgMay m = true) (hk : m.kind = 0) (ht : m.to = x.view.id) : helloOk x.view m.from_ m.ids = true := by
  have hv : viewMay x.view = true := by simp only [nodeUp, nodeMay, Bool.and_eq_true] at h; grind
  simp only [msgMay, hk, if_true, Bool.and_eq_true, Bool.not_eq_true', decide_eq_false_iff_not, decide_eq_true_eq] at hm
  obtain ⟨h1, h2, h3, ⟨⟨_, h5⟩, h6⟩⟩ := hm
  simp [helloOk, hv, h1, h5, h6]
  rw [← ht]
  exact h3
theorem handler_hello (x : Node) (m : Msg) (hs : x.small) (h : helloOk x.view m.from_ m.ids = true) : Den PP 87 [.ptr 0 0 0, msgD m] [hBox x 1 2 3 4 .nil, ⟨x.view.peers.map Peer.row, 2, .mut⟩, ⟨x.view.passive.map irow, 1, .mut⟩, ⟨x.items.map Item.row, 5, .mut⟩, ⟨x.log.map Told.row, 3, .mut⟩] (.tup [])
    [hBox { x with view := helloV x.view m.from_ m.ids } 5 6 3 4 .nil, ⟨x.view.peers.map Peer.row, 2, .app⟩, ⟨x.view.passive.map irow, 1, .app⟩, ⟨x.items.map Item.row, 5, .mut⟩, ⟨x.log.map Told.row, 3, .mut⟩, psB (helloV x.view m.from_ m.ids), xsB (helloV x.view m.from_ m.ids)] := by
  have c1 := hello_Take x.view m.from_ m.ids hs.1 h
  have hid := (helloV_may h).2
  generalize helloV x.view m.from_ m.ids = w at *
  clear h
  simp only [hBox, psB, xsB, viewD, View.cells, peersD, intsD, msgD, Msg.row, hid] at c1 ⊢
  refine den_of [15] [] is_handle_handler_hello ?_
  simp -implicitDefEqProofs [c_handle_handler_hello]
  repeat' ((first | refine callThen_of (by first | exact c1) ?_ | with_reducible refine gOps_dec (fun _ => ?_) (fun _ => ?_) | with_reducible refine gOps_ndec (fun _ => ?_) (fun _ => ?_) | (with_reducible refine gOps_and (fun hq => ?_) (fun hq => ?_) <;> (try simp at hq)) | (with_reducible refine gOps_or (fun hq => ?_) (fun hq => ?_) <;> (try simp at hq)) | (with_reducible refine gOps_not (fun hq => ?_) (fun hq => ?_) <;> (try simp at hq)) | (with_reducible refine gOps_split (fun hq => ?_) (fun hq => ?_) <;> (try simp at hq)) | with_reducible refine condC_dec (fun _ => ?_) (fun _ => ?_) | with_reducible refine condC_ndec (fun _ => ?_) (fun _ => ?_) | (with_reducible refine condC_and (fun hq => ?_) (fun hq => ?_) <;> (try simp at hq)) | (with_reducible refine condC_or (fun hq => ?_) (fun hq => ?_) <;> (try simp at hq)) | (with_reducible refine condC_not (fun hq => ?_) (fun hq => ?_) <;> (try simp at hq)) | (with_reducible refine condC_split (fun hq => ?_) (fun hq => ?_) <;> (try simp at hq)) | refine appK2_if (by omega) ?_ | refine pureV_if (by omega) ?_) <;> simp -implicitDefEqProofs [*, downTo])
theorem handler_item (x : Node) (m : Msg) (hs : x.small) (h : (nodeUp x && itemMay m.item) = true) : Den PP 88 [.ptr 0 0 0, msgD m] [hBox x 1 2 3 4 .nil, ⟨x.view.peers.map Peer.row, 2, .mut⟩, ⟨x.view.passive.map irow, 1, .mut⟩, ⟨x.items.map Item.row, 5, .mut⟩, ⟨x.log.map Told.row, 3, .mut⟩] (.tup [])
    [hBox (takeI x m.item) 5 6 7 8 .nil, ⟨x.view.peers.map Peer.row, 2, .app⟩, ⟨x.view.passive.map irow, 1, .app⟩, ⟨x.items.map Item.row, 5, .app⟩, ⟨x.log.map Told.row, 3, .app⟩, ⟨(takeI x m.item).view.peers.map Peer.row, 2, .mut⟩, ⟨(takeI x m.item).view.passive.map irow, 1, .mut⟩, ⟨(takeI x m.item).items.map Item.row, 5, .mut⟩, ⟨(takeI x m.item).log.map Told.row, 3, .mut⟩] := by
  have c1 := take_Item x m.item hs h
  generalize takeI x m.item = y at *
  clear h
  simp only [hBox, nodeD, Node.cells, viewD, View.cells, peersD, intsD, itemsD, toldsD, Item.row, copyD, nodeB, msgD, Msg.row] at c1 ⊢
  refine den_of [12] [] is_handle_handler_item ?_
  simp -implicitDefEqProofs [c_handle_handler_item]
  repeat' ((first | refine callThen_of (by first | exact c1) ?_ | with_reducible refine gOps_dec (fun _ => ?_) (fun _ => ?_) | with_reducible refine gOps_ndec (fun _ => ?_) (fun _ => ?_) | (with_reducible refine gOps_and (fun hq => ?_) (fun hq => ?_) <;> (try simp at hq)) | (with_reducible refine gOps_or (fun hq => ?_) (fun hq => ?_) <;> (try simp at hq)) | (with_reducible refine gOps_not (fun hq => ?_) (fun hq => ?_) <;> (try simp at hq)) | (with_reducible refine gOps_split (fun hq => ?_) (fun hq => ?_) <;> (try simp at hq)) | with_reducible refine condC_dec (fun _ => ?_) (fun _ => ?_) | with_reducible refine condC_ndec (fun _ => ?_) (fun _ => ?_) | (with_reducible refine condC_and (fun hq => ?_) (fun hq => ?_) <;> (try simp at hq)) | (with_reducible refine condC_or (fun hq => ?_) (fun hq => ?_) <;> (try simp at hq)) | (with_reducible refine condC_not (fun hq => ?_) (fun hq => ?_) <;> (try simp at hq)) | (with_reducible refine condC_split (fun hq => ?_) (fun hq => ?_) <;> (try simp at hq)) | refine appK2_if (by omega) ?_ | refine pureV_if (by omega) ?_) <;> simp -implicitDefEqProofs [*, downTo])
theorem handler_ask (x : Node) (m : Msg) (hs : x.small) (hl : m.ids.length ≤ cap) (h : toB x m 2 = true) : ∃ k : Kind, k.isBox = false ∧ Den PP 89 [.ptr 0 0 0, msgD m] [hBox x 1 2 3 4 .nil, ⟨x.view.peers.map Peer.row, 2, .mut⟩, ⟨x.view.passive.map irow, 1, .mut⟩, ⟨x.items.map Item.row, 5, .mut⟩, ⟨x.log.map Told.row, 3, .mut⟩] (.tup [])
    [hBox x 1 2 3 4 (.ref 5 0 1), ⟨x.view.peers.map Peer.row, 2, k⟩, ⟨x.view.passive.map irow, 1, k⟩, ⟨x.items.map Item.row, 5, k⟩, ⟨x.log.map Told.row, 3, k⟩, ⟨[tellOf x m].map Msg.row0, 11, .mut⟩] := by
  refine ⟨.app, rfl, ?_⟩
  have c1 := ask_Answer_ok x m hs hl h
  generalize tellOf x m = t at *
  clear h
  simp only [hBox, nodeD, Node.cells, viewD, View.cells, peersD, intsD, itemsD, toldsD, Item.row, copyD, nodeB, msgD, Msg.row, List.map_cons, List.map_nil] at c1 ⊢
  refine den_of [11] [] is_handle_handler_ask ?_
  simp -implicitDefEqProofs [c_handle_handler_ask]
  repeat' ((first | refine callThen_of (by first | exact c1) ?_ | with_reducible refine gOps_dec (fun _ => ?_) (fun _ => ?_) | with_reducible refine gOps_ndec (fun _ => ?_) (fun _ => ?_) | (with_reducible refine gOps_and (fun hq => ?_) (fun hq => ?_) <;> (try simp at hq)) | (with_reducible refine gOps_or (fun hq => ?_) (fun hq => ?_) <;> (try simp at hq)) | (with_reducible refine gOps_not (fun hq => ?_) (fun hq => ?_) <;> (try simp at hq)) | (with_reducible refine gOps_split (fun hq => ?_) (fun hq => ?_) <;> (try simp at hq)) | with_reducible refine condC_dec (fun _ => ?_) (fun _ => ?_) | with_reducible refine condC_ndec (fun _ => ?_) (fun _ => ?_) | (with_reducible refine condC_and (fun hq => ?_) (fun hq => ?_) <;> (try simp at hq)) | (with_reducible refine condC_or (fun hq => ?_) (fun hq => ?_) <;> (try simp at hq)) | (with_reducible refine condC_not (fun hq => ?_) (fun hq => ?_) <;> (try simp at hq)) | (with_reducible refine condC_split (fun hq => ?_) (fun hq => ?_) <;> (try simp at hq)) | refine appK2_if (by omega) ?_ | refine pureV_if (by omega) ?_) <;> simp -implicitDefEqProofs [*, downTo])
theorem handler_tell (x : Node) (m : Msg) (hs : x.small) (hl : m.ids.length ≤ cap) (h : toB x m 3 = true) : Den PP 90 [.ptr 0 0 0, msgD m] [hBox x 1 2 3 4 .nil, ⟨x.view.peers.map Peer.row, 2, .mut⟩, ⟨x.view.passive.map irow, 1, .mut⟩, ⟨x.items.map Item.row, 5, .mut⟩, ⟨x.log.map Told.row, 3, .mut⟩] (.tup [])
    [⟨[[.bool x.up, .int .i64 x.view.id, .ref 5 0 x.view.peers.length, .ref 6 0 x.view.passive.length, .ref 7 0 x.items.length, .ref 8 (logPre x (mT m)).length (logOf x (mT m)).length, .nil]], 7, .box⟩, ⟨x.view.peers.map Peer.row, 2, .app⟩, ⟨x.view.passive.map irow, 1, .app⟩, ⟨x.items.map Item.row, 5, .app⟩, ⟨x.log.map Told.row, 3, .app⟩, ⟨x.view.peers.map Peer.row, 2, .mut⟩, ⟨x.view.passive.map irow, 1, .mut⟩, ⟨x.items.map Item.row, 5, .mut⟩, ⟨(logPre x (mT m) ++ logOf x (mT m)).map Told.row, 3, .mut⟩] := by
  have c1 := ask_Told_ok x m hs hl h
  generalize logPre x (mT m) = pre at *
  generalize logOf x (mT m) = xs at *
  clear h
  simp only [hBox, nodeD, Node.cells, viewD, View.cells, peersD, intsD, itemsD, toldsD, Item.row, noteD, noteB, msgD, Msg.row] at c1 ⊢
  refine den_of [11] [] is_handle_handler_tell ?_
  simp -implicitDefEqProofs [c_handle_handler_tell]
  repeat' ((first | refine callThen_of (by first | exact c1) ?_ | with_reducible refine gOps_dec (fun _ => ?_) (fun _ => ?_) | with_reducible refine gOps_ndec (fun _ => ?_) (fun _ => ?_) | (with_reducible refine gOps_and (fun hq => ?_) (fun hq => ?_) <;> (try simp at hq)) | (with_reducible refine gOps_or (fun hq => ?_) (fun hq => ?_) <;> (try simp at hq)) | (with_reducible refine gOps_not (fun hq => ?_) (fun hq => ?_) <;> (try simp at hq)) | (with_reducible refine gOps_split (fun hq => ?_) (fun hq => ?_) <;> (try simp at hq)) | with_reducible refine condC_dec (fun _ => ?_) (fun _ => ?_) | with_reducible refine condC_ndec (fun _ => ?_) (fun _ => ?_) | (with_reducible refine condC_and (fun hq => ?_) (fun hq => ?_) <;> (try simp at hq)) | (with_reducible refine condC_or (fun hq => ?_) (fun hq => ?_) <;> (try simp at hq)) | (with_reducible refine condC_not (fun hq => ?_) (fun hq => ?_) <;> (try simp at hq)) | (with_reducible refine condC_split (fun hq => ?_) (fun hq => ?_) <;> (try simp at hq)) | refine appK2_if (by omega) ?_ | refine pureV_if (by omega) ?_) <;> simp -implicitDefEqProofs [*, downTo])
end Go.AM
/- AM: contracts: handle.Do. -/
namespace Go.AM
set_option linter.unusedSimpArgs false
set_option linter.unusedVariables false
set_option maxRecDepth 8000
set_option maxHeartbeats 0
def doB (x : Node) (m : Msg) : Bool := nodeUp x && (msgMay m && decide (m.to = x.view.id))
theorem doB_parts {x : Node} {m : Msg} (h : doB x m = true) : nodeUp x = true ∧ msgMay m = true ∧ m.to = x.view.id := by
  simp only [doB, Bool.and_eq_true, decide_eq_true_eq] at h
  exact h
theorem kind_cases {m : Msg} (h : msgMay m = true) : m.kind = 0 ∨ m.kind = 1 ∨ m.kind = 2 ∨ m.kind = 3 := by
  simp only [msgMay, Bool.and_eq_true] at h
  obtain ⟨_, _, _, h⟩ := h
  by_cases h0 : m.kind = 0
  · exact .inl h0
  by_cases h1 : m.kind = 1
  · exact .inr (.inl h1)
  by_cases h2 : m.kind = 2
  · exact .inr (.inr (.inl h2))
  by_cases h3 : m.kind = 3
  · exact .inr (.inr (.inr h3))
  simp [h0, h1, h2, h3] at h
theorem item_ok {m : Msg} (h : msgMay m = true) (hk : m.kind = 1) : itemMay m.item = true := by
  simp [msgMay, hk] at h
  exact h.2.2.2.2
theorem toB_ok {x : Node} {m : Msg} (h : doB x m = true) {k : Int} (hk : m.kind = k) : toB x m k = true := by
  obtain ⟨h1, h2, h3⟩ := doB_parts h
  simp [toB, h1, h2, h3, hk]
theorem handle_Do_no (x : Node) (m : Msg) (hs : x.small) (hl : m.ids.length ≤ cap) (h : doB x m = false) : Den PP 28 [nodeD x, msgD m] [] (.tup [.agg [.bool false, .int .i64 0, .nil, .nil, .nil, .nil], .ref 0 0 0, .int .i64 2200]) [⟨[], 11, .mut⟩] := by
  have c1 := node_Up x hs
  have c2 := msg_May m hl
  unfold doB at h
  generalize nodeUp x = U at *
  generalize msgMay m = M at *
  simp only [nodeD, Node.cells, peersD, intsD, itemsD, toldsD, Item.row, msgD, Msg.row] at c1 c2 ⊢
  refine den_of [27] [43] is_handle_Do ?_
  cases U <;> cases M
  all_goals
    simp at h
  all_goals
    simp -implicitDefEqProofs [c_handle_Do]
    repeat' ((first | refine callThen_of (by first | exact c1 | exact c2) ?_ | with_reducible refine gOps_dec (fun _ => ?_) (fun _ => ?_) | with_reducible refine gOps_ndec (fun _ => ?_) (fun _ => ?_) | (with_reducible refine gOps_and (fun hq => ?_) (fun hq => ?_) <;> (try simp at hq)) | (with_reducible refine gOps_or (fun hq => ?_) (fun hq => ?_) <;> (try simp at hq)) | (with_reducible refine gOps_not (fun hq => ?_) (fun hq => ?_) <;> (try simp at hq)) | (with_reducible refine gOps_split (fun hq => ?_) (fun hq => ?_) <;> (try simp at hq)) | with_reducible refine condC_dec (fun _ => ?_) (fun _ => ?_) | with_reducible refine condC_ndec (fun _ => ?_) (fun _ => ?_) | (with_reducible refine condC_and (fun hq => ?_) (fun hq => ?_) <;> (try simp at hq)) | (with_reducible refine condC_or (fun hq => ?_) (fun hq => ?_) <;> (try simp at hq)) | (with_reducible refine condC_not (fun hq => ?_) (fun hq => ?_) <;> (try simp at hq)) | (with_reducible refine condC_split (fun hq => ?_) (fun hq => ?_) <;> (try simp at hq)) | refine appK2_if (by omega) ?_ | refine pureV_if (by omega) ?_) <;> simp -implicitDefEqProofs [*])
theorem handle_Do_0 (x : Node) (m : Msg) (hs : x.small) (hl : m.ids.length ≤ cap) (h : doB x m = true) (hk : m.kind = 0) : Den PP 28 [nodeD x, msgD m] [] (.tup [copyD { x with view := helloV x.view m.from_ m.ids }, .nil, .int .i64 0]) (nodeB { x with view := helloV x.view m.from_ m.ids }) := by
  have c1 := node_Up x hs
  have c2 := msg_May m hl
  obtain ⟨h1, h2, h3⟩ := doB_parts h
  have c4 := handler_hello x m hs (hello_ok h1 h2 hk h3)
  rw [h1] at c1
  rw [h2] at c2
  have c3 := node_Copy x hs
  generalize helloV x.view m.from_ m.ids = w at *
  clear h h1 h2
  simp only [hBox, psB, xsB, nodeD, Node.cells, viewD, View.cells, peersD, intsD, itemsD, toldsD, Item.row, copyD, nodeB, noteD, noteB, msgD, Msg.row, hk, h3, List.map_cons, List.map_nil] at c1 c2 c3 c4 ⊢
  refine den_of [27] [43] is_handle_Do ?_
  simp -implicitDefEqProofs [c_handle_Do, h3, hk]
  repeat' ((first | refine callThen_of (by first | exact c1 | exact c2 | exact c3) ?_ | with_reducible refine gOps_dec (fun _ => ?_) (fun _ => ?_) | with_reducible refine gOps_ndec (fun _ => ?_) (fun _ => ?_) | (with_reducible refine gOps_and (fun hq => ?_) (fun hq => ?_) <;> (try simp at hq)) | (with_reducible refine gOps_or (fun hq => ?_) (fun hq => ?_) <;> (try simp at hq)) | (with_reducible refine gOps_not (fun hq => ?_) (fun hq => ?_) <;> (try simp at hq)) | (with_reducible refine gOps_split (fun hq => ?_) (fun hq => ?_) <;> (try simp at hq)) | with_reducible refine condC_dec (fun _ => ?_) (fun _ => ?_) | with_reducible refine condC_ndec (fun _ => ?_) (fun _ => ?_) | (with_reducible refine condC_and (fun hq => ?_) (fun hq => ?_) <;> (try simp at hq)) | (with_reducible refine condC_or (fun hq => ?_) (fun hq => ?_) <;> (try simp at hq)) | (with_reducible refine condC_not (fun hq => ?_) (fun hq => ?_) <;> (try simp at hq)) | (with_reducible refine condC_split (fun hq => ?_) (fun hq => ?_) <;> (try simp at hq)) | refine appK2_if (by omega) ?_ | refine pureV_if (by omega) ?_) <;> simp -implicitDefEqProofs [*, downTo, h3, hk])
  refine lendThen_frame [8, 4, 5, 6, 7] rfl (by decide) (by simp) c4 (by simp) (by simp [lentBs]) ?_
  simp -implicitDefEqProofs [framed]
  repeat' apply And.intro
  all_goals repeat' ((first | with_reducible refine gOps_dec (fun _ => ?_) (fun _ => ?_) | with_reducible refine gOps_ndec (fun _ => ?_) (fun _ => ?_) | (with_reducible refine gOps_and (fun hq => ?_) (fun hq => ?_) <;> (try simp at hq)) | (with_reducible refine gOps_or (fun hq => ?_) (fun hq => ?_) <;> (try simp at hq)) | (with_reducible refine gOps_not (fun hq => ?_) (fun hq => ?_) <;> (try simp at hq)) | (with_reducible refine gOps_split (fun hq => ?_) (fun hq => ?_) <;> (try simp at hq)) | with_reducible refine condC_dec (fun _ => ?_) (fun _ => ?_) | with_reducible refine condC_ndec (fun _ => ?_) (fun _ => ?_) | (with_reducible refine condC_and (fun hq => ?_) (fun hq => ?_) <;> (try simp at hq)) | (with_reducible refine condC_or (fun hq => ?_) (fun hq => ?_) <;> (try simp at hq)) | (with_reducible refine condC_not (fun hq => ?_) (fun hq => ?_) <;> (try simp at hq)) | (with_reducible refine condC_split (fun hq => ?_) (fun hq => ?_) <;> (try simp at hq)) | refine appK2_if (by omega) ?_ | refine pureV_if (by omega) ?_) <;> simp -implicitDefEqProofs [*, downTo])
theorem handle_Do_1 (x : Node) (m : Msg) (hs : x.small) (hl : m.ids.length ≤ cap) (h : doB x m = true) (hk : m.kind = 1) : Den PP 28 [nodeD x, msgD m] [] (.tup [copyD (takeI x m.item), .nil, .int .i64 0]) (nodeB (takeI x m.item)) := by
  have c1 := node_Up x hs
  have c2 := msg_May m hl
  obtain ⟨h1, h2, h3⟩ := doB_parts h
  have c4 := handler_item x m hs (by rw [h1, item_ok h2 hk]; rfl)
  rw [h1] at c1
  rw [h2] at c2
  have c3 := node_Copy x hs
  generalize takeI x m.item = y at *
  clear h h1 h2
  simp only [hBox, psB, xsB, nodeD, Node.cells, viewD, View.cells, peersD, intsD, itemsD, toldsD, Item.row, copyD, nodeB, noteD, noteB, msgD, Msg.row, hk, h3, List.map_cons, List.map_nil] at c1 c2 c3 c4 ⊢
  refine den_of [27] [43] is_handle_Do ?_
  simp -implicitDefEqProofs [c_handle_Do, h3, hk]
  repeat' ((first | refine callThen_of (by first | exact c1 | exact c2 | exact c3) ?_ | with_reducible refine gOps_dec (fun _ => ?_) (fun _ => ?_) | with_reducible refine gOps_ndec (fun _ => ?_) (fun _ => ?_) | (with_reducible refine gOps_and (fun hq => ?_) (fun hq => ?_) <;> (try simp at hq)) | (with_reducible refine gOps_or (fun hq => ?_) (fun hq => ?_) <;> (try simp at hq)) | (with_reducible refine gOps_not (fun hq => ?_) (fun hq => ?_) <;> (try simp at hq)) | (with_reducible refine gOps_split (fun hq => ?_) (fun hq => ?_) <;> (try simp at hq)) | with_reducible refine condC_dec (fun _ => ?_) (fun _ => ?_) | with_reducible refine condC_ndec (fun _ => ?_) (fun _ => ?_) | (with_reducible refine condC_and (fun hq => ?_) (fun hq => ?_) <;> (try simp at hq)) | (with_reducible refine condC_or (fun hq => ?_) (fun hq => ?_) <;> (try simp at hq)) | (with_reducible refine condC_not (fun hq => ?_) (fun hq => ?_) <;> (try simp at hq)) | (with_reducible refine condC_split (fun hq => ?_) (fun hq => ?_) <;> (try simp at hq)) | refine appK2_if (by omega) ?_ | refine pureV_if (by omega) ?_) <;> simp -implicitDefEqProofs [*, downTo, h3, hk])
  refine lendThen_frame [8, 4, 5, 6, 7] rfl (by decide) (by simp) c4 (by simp) (by simp [lentBs]) ?_
  simp -implicitDefEqProofs [framed]
  repeat' apply And.intro
  all_goals repeat' ((first | with_reducible refine gOps_dec (fun _ => ?_) (fun _ => ?_) | with_reducible refine gOps_ndec (fun _ => ?_) (fun _ => ?_) | (with_reducible refine gOps_and (fun hq => ?_) (fun hq => ?_) <;> (try simp at hq)) | (with_reducible refine gOps_or (fun hq => ?_) (fun hq => ?_) <;> (try simp at hq)) | (with_reducible refine gOps_not (fun hq => ?_) (fun hq => ?_) <;> (try simp at hq)) | (with_reducible refine gOps_split (fun hq => ?_) (fun hq => ?_) <;> (try simp at hq)) | with_reducible refine condC_dec (fun _ => ?_) (fun _ => ?_) | with_reducible refine condC_ndec (fun _ => ?_) (fun _ => ?_) | (with_reducible refine condC_and (fun hq => ?_) (fun hq => ?_) <;> (try simp at hq)) | (with_reducible refine condC_or (fun hq => ?_) (fun hq => ?_) <;> (try simp at hq)) | (with_reducible refine condC_not (fun hq => ?_) (fun hq => ?_) <;> (try simp at hq)) | (with_reducible refine condC_split (fun hq => ?_) (fun hq => ?_) <;> (try simp at hq)) | refine appK2_if (by omega) ?_ | refine pureV_if (by omega) ?_) <;> simp -implicitDefEqProofs [*, downTo])
theorem handle_Do_2 (x : Node) (m : Msg) (hs : x.small) (hl : m.ids.length ≤ cap) (h : doB x m = true) (hk : m.kind = 2) : ∃ kk : Kind, kk.isBox = false ∧ Den PP 28 [nodeD x, msgD m] [] (.tup [copyD x, .ref 4 0 1, .int .i64 0]) [⟨x.view.peers.map Peer.row, 2, kk⟩, ⟨x.view.passive.map irow, 1, kk⟩, ⟨x.items.map Item.row, 5, kk⟩, ⟨x.log.map Told.row, 3, kk⟩, ⟨[tellOf x m].map Msg.row0, 11, .mut⟩] := by
  have c1 := node_Up x hs
  have c2 := msg_May m hl
  obtain ⟨h1, h2, h3⟩ := doB_parts h
  have c4 := handler_ask x m hs hl (toB_ok h hk)
  rw [h1] at c1
  rw [h2] at c2
  have c3 := node_Copy x hs
  obtain ⟨kk, hkk, c4⟩ := c4
  refine ⟨kk, hkk, ?_⟩
  generalize tellOf x m = t at *
  clear h h1 h2
  simp only [hBox, psB, xsB, nodeD, Node.cells, viewD, View.cells, peersD, intsD, itemsD, toldsD, Item.row, copyD, nodeB, noteD, noteB, msgD, Msg.row, hk, h3, List.map_cons, List.map_nil] at c1 c2 c3 c4 ⊢
  refine den_of [27] [43] is_handle_Do ?_
  cases kk <;> simp [Kind.isBox] at hkk
  all_goals
    simp -implicitDefEqProofs [c_handle_Do, h3, hk]
    repeat' ((first | refine callThen_of (by first | exact c1 | exact c2 | exact c3) ?_ | with_reducible refine gOps_dec (fun _ => ?_) (fun _ => ?_) | with_reducible refine gOps_ndec (fun _ => ?_) (fun _ => ?_) | (with_reducible refine gOps_and (fun hq => ?_) (fun hq => ?_) <;> (try simp at hq)) | (with_reducible refine gOps_or (fun hq => ?_) (fun hq => ?_) <;> (try simp at hq)) | (with_reducible refine gOps_not (fun hq => ?_) (fun hq => ?_) <;> (try simp at hq)) | (with_reducible refine gOps_split (fun hq => ?_) (fun hq => ?_) <;> (try simp at hq)) | with_reducible refine condC_dec (fun _ => ?_) (fun _ => ?_) | with_reducible refine condC_ndec (fun _ => ?_) (fun _ => ?_) | (with_reducible refine condC_and (fun hq => ?_) (fun hq => ?_) <;> (try simp at hq)) | (with_reducible refine condC_or (fun hq => ?_) (fun hq => ?_) <;> (try simp at hq)) | (with_reducible refine condC_not (fun hq => ?_) (fun hq => ?_) <;> (try simp at hq)) | (with_reducible refine condC_split (fun hq => ?_) (fun hq => ?_) <;> (try simp at hq)) | refine appK2_if (by omega) ?_ | refine pureV_if (by omega) ?_) <;> simp -implicitDefEqProofs [*, downTo, h3, hk])
    refine lendThen_frame [8, 4, 5, 6, 7] rfl (by decide) (by simp) c4 (by simp) (by simp [lentBs]) ?_
    simp -implicitDefEqProofs [framed]
    repeat' apply And.intro
    all_goals repeat' ((first | with_reducible refine gOps_dec (fun _ => ?_) (fun _ => ?_) | with_reducible refine gOps_ndec (fun _ => ?_) (fun _ => ?_) | (with_reducible refine gOps_and (fun hq => ?_) (fun hq => ?_) <;> (try simp at hq)) | (with_reducible refine gOps_or (fun hq => ?_) (fun hq => ?_) <;> (try simp at hq)) | (with_reducible refine gOps_not (fun hq => ?_) (fun hq => ?_) <;> (try simp at hq)) | (with_reducible refine gOps_split (fun hq => ?_) (fun hq => ?_) <;> (try simp at hq)) | with_reducible refine condC_dec (fun _ => ?_) (fun _ => ?_) | with_reducible refine condC_ndec (fun _ => ?_) (fun _ => ?_) | (with_reducible refine condC_and (fun hq => ?_) (fun hq => ?_) <;> (try simp at hq)) | (with_reducible refine condC_or (fun hq => ?_) (fun hq => ?_) <;> (try simp at hq)) | (with_reducible refine condC_not (fun hq => ?_) (fun hq => ?_) <;> (try simp at hq)) | (with_reducible refine condC_split (fun hq => ?_) (fun hq => ?_) <;> (try simp at hq)) | refine appK2_if (by omega) ?_ | refine pureV_if (by omega) ?_) <;> simp -implicitDefEqProofs [*, downTo])
theorem handle_Do_3 (x : Node) (m : Msg) (hs : x.small) (hl : m.ids.length ≤ cap) (h : doB x m = true) (hk : m.kind = 3) : Den PP 28 [nodeD x, msgD m] [] (.tup [noteD x (logPre x (mT m)) (logOf x (mT m)), .nil, .int .i64 0]) (noteB x (logPre x (mT m)) (logOf x (mT m))) := by
  have c1 := node_Up x hs
  have c2 := msg_May m hl
  obtain ⟨h1, h2, h3⟩ := doB_parts h
  have c4 := handler_tell x m hs hl (toB_ok h hk)
  rw [h1] at c1
  rw [h2] at c2
  have c3 := node_Copy x hs
  generalize logPre x (mT m) = pre at *
  generalize logOf x (mT m) = xs at *
  clear h h1 h2
  simp only [hBox, psB, xsB, nodeD, Node.cells, viewD, View.cells, peersD, intsD, itemsD, toldsD, Item.row, copyD, nodeB, noteD, noteB, msgD, Msg.row, hk, h3, List.map_cons, List.map_nil] at c1 c2 c3 c4 ⊢
  refine den_of [27] [43] is_handle_Do ?_
  simp -implicitDefEqProofs [c_handle_Do, h3, hk]
  repeat' ((first | refine callThen_of (by first | exact c1 | exact c2 | exact c3) ?_ | with_reducible refine gOps_dec (fun _ => ?_) (fun _ => ?_) | with_reducible refine gOps_ndec (fun _ => ?_) (fun _ => ?_) | (with_reducible refine gOps_and (fun hq => ?_) (fun hq => ?_) <;> (try simp at hq)) | (with_reducible refine gOps_or (fun hq => ?_) (fun hq => ?_) <;> (try simp at hq)) | (with_reducible refine gOps_not (fun hq => ?_) (fun hq => ?_) <;> (try simp at hq)) | (with_reducible refine gOps_split (fun hq => ?_) (fun hq => ?_) <;> (try simp at hq)) | with_reducible refine condC_dec (fun _ => ?_) (fun _ => ?_) | with_reducible refine condC_ndec (fun _ => ?_) (fun _ => ?_) | (with_reducible refine condC_and (fun hq => ?_) (fun hq => ?_) <;> (try simp at hq)) | (with_reducible refine condC_or (fun hq => ?_) (fun hq => ?_) <;> (try simp at hq)) | (with_reducible refine condC_not (fun hq => ?_) (fun hq => ?_) <;> (try simp at hq)) | (with_reducible refine condC_split (fun hq => ?_) (fun hq => ?_) <;> (try simp at hq)) | refine appK2_if (by omega) ?_ | refine pureV_if (by omega) ?_) <;> simp -implicitDefEqProofs [*, downTo, h3, hk])
  refine lendThen_frame [8, 4, 5, 6, 7] rfl (by decide) (by simp) c4 (by simp) (by simp [lentBs]) ?_
  simp -implicitDefEqProofs [framed]
  repeat' apply And.intro
  all_goals repeat' ((first | with_reducible refine gOps_dec (fun _ => ?_) (fun _ => ?_) | with_reducible refine gOps_ndec (fun _ => ?_) (fun _ => ?_) | (with_reducible refine gOps_and (fun hq => ?_) (fun hq => ?_) <;> (try simp at hq)) | (with_reducible refine gOps_or (fun hq => ?_) (fun hq => ?_) <;> (try simp at hq)) | (with_reducible refine gOps_not (fun hq => ?_) (fun hq => ?_) <;> (try simp at hq)) | (with_reducible refine gOps_split (fun hq => ?_) (fun hq => ?_) <;> (try simp at hq)) | with_reducible refine condC_dec (fun _ => ?_) (fun _ => ?_) | with_reducible refine condC_ndec (fun _ => ?_) (fun _ => ?_) | (with_reducible refine condC_and (fun hq => ?_) (fun hq => ?_) <;> (try simp at hq)) | (with_reducible refine condC_or (fun hq => ?_) (fun hq => ?_) <;> (try simp at hq)) | (with_reducible refine condC_not (fun hq => ?_) (fun hq => ?_) <;> (try simp at hq)) | (with_reducible refine condC_split (fun hq => ?_) (fun hq => ?_) <;> (try simp at hq)) | refine appK2_if (by omega) ?_ | refine pureV_if (by omega) ?_) <;> simp -implicitDefEqProofs [*, downTo])
end Go.AM
/- AM: contracts: the document's greeting; chapter 10's statements: Hellos. -/
namespace Go.AM
set_option linter.unusedSimpArgs false
set_option linter.unusedVariables false
set_option maxRecDepth 8000
set_option maxHeartbeats 0
theorem ref_copyView (v : View) (hs : v.small) : Den PP 172 [viewD v] [] (.agg [.int .i64 v.id, .ref 0 0 v.peers.length, .ref 1 0 v.passive.length]) [⟨v.peers.map Peer.row, 2, .mut⟩, ⟨v.passive.map irow, 1, .mut⟩] := by
  obtain ⟨h1, h2⟩ := hs
  unfold cap16 at h1
  unfold cap at h2
  have b1 : v.peers.length * 16 ≤ 140737488355328 := by omega
  have b2 : v.passive.length * 8 ≤ 140737488355328 := by omega
  simp only [viewD, View.cells, peersD, intsD]
  refine den_of [] [] is_gimmalref1_copyView ?_
  simp -implicitDefEqProofs [c_gimmalref1_copyView, b1, b2]
  repeat' ((first | with_reducible refine gOps_dec (fun _ => ?_) (fun _ => ?_) | with_reducible refine gOps_ndec (fun _ => ?_) (fun _ => ?_) | (with_reducible refine gOps_and (fun hq => ?_) (fun hq => ?_) <;> (try simp at hq)) | (with_reducible refine gOps_or (fun hq => ?_) (fun hq => ?_) <;> (try simp at hq)) | (with_reducible refine gOps_not (fun hq => ?_) (fun hq => ?_) <;> (try simp at hq)) | (with_reducible refine gOps_split (fun hq => ?_) (fun hq => ?_) <;> (try simp at hq)) | with_reducible refine condC_dec (fun _ => ?_) (fun _ => ?_) | with_reducible refine condC_ndec (fun _ => ?_) (fun _ => ?_) | (with_reducible refine condC_and (fun hq => ?_) (fun hq => ?_) <;> (try simp at hq)) | (with_reducible refine condC_or (fun hq => ?_) (fun hq => ?_) <;> (try simp at hq)) | (with_reducible refine condC_not (fun hq => ?_) (fun hq => ?_) <;> (try simp at hq)) | (with_reducible refine condC_split (fun hq => ?_) (fun hq => ?_) <;> (try simp at hq)) | refine appK2_if (by omega) ?_ | refine pureV_if (by omega) ?_) <;> simp -implicitDefEqProofs [*, b1, b2])
theorem ref_Hello (v : View) (a : Int) (ids : List Int) (hs : v.small) (h : helloOk v a ids = true) : Den PP 93 [viewD v, .int .i64 a, intsD ids] [] (.tup [viewS (helloV v a ids), .int .i64 0]) [] := by
  obtain ⟨k1, k2, k3, k4, k5⟩ := helloOk_parts h
  have hcap : ids.length ≤ cap := by unfold cap; omega
  have c1 := ref_ViewMay' v hs
  have c2 := ref_PlaceMay a
  have c3 := ref_placesMay ids hcap
  have c4 := ref_copyView v hs
  have c5 := ref_known v a k1 k2 k3
  rw [k1] at c1
  rw [k2] at c2
  rw [show ids.all place = true from List.all_eq_true.2 k5] at c3
  have hw0 := (knownV_may k1 k2 k3).1
  have hid0 := knownV_id v a
  have hk4 : ¬ (16 : Int) < ids.length := by omega
  unfold helloV
  generalize knownV v a = w0 at *
  have key : ∀ i, viewMay ((ids.take i).foldl tellV w0) = true ∧ ((ids.take i).foldl tellV w0).id = v.id := by
    intro i
    obtain ⟨e1, e2⟩ := tells_may (ids.take i) w0 hw0 (fun x hx => k5 x (List.mem_of_mem_take hx))
    exact ⟨e1, by rw [e2, hid0]⟩
  simp only [viewD, viewS, View.cells, peersD, intsD] at c1 c3 c4 c5 ⊢
  clear k1 k2 hs h
  refine den_of [] [] is_gimmalref1_Hello ?_
  simp -implicitDefEqProofs [c_gimmalref1_Hello, hk4, k3]
  repeat' ((first | refine callThen_of (by first | exact c1 | exact c2 | exact c3 | exact c4 | exact c5) ?_ | with_reducible refine gOps_dec (fun _ => ?_) (fun _ => ?_) | with_reducible refine gOps_ndec (fun _ => ?_) (fun _ => ?_) | (with_reducible refine gOps_and (fun hq => ?_) (fun hq => ?_) <;> (try simp at hq)) | (with_reducible refine gOps_or (fun hq => ?_) (fun hq => ?_) <;> (try simp at hq)) | (with_reducible refine gOps_not (fun hq => ?_) (fun hq => ?_) <;> (try simp at hq)) | (with_reducible refine gOps_split (fun hq => ?_) (fun hq => ?_) <;> (try simp at hq)) | with_reducible refine condC_dec (fun _ => ?_) (fun _ => ?_) | with_reducible refine condC_ndec (fun _ => ?_) (fun _ => ?_) | (with_reducible refine condC_and (fun hq => ?_) (fun hq => ?_) <;> (try simp at hq)) | (with_reducible refine condC_or (fun hq => ?_) (fun hq => ?_) <;> (try simp at hq)) | (with_reducible refine condC_not (fun hq => ?_) (fun hq => ?_) <;> (try simp at hq)) | (with_reducible refine condC_split (fun hq => ?_) (fun hq => ?_) <;> (try simp at hq)) | refine appK2_if (by omega) ?_ | refine pureV_if (by omega) ?_) <;> simp -implicitDefEqProofs [*, downTo, hk4, k3])
  refine list_rule ids (fun i rest => fun ⟨fr, bs⟩ => bs = [⟨[v.cells], 3, .box⟩, ⟨[[.int .i64 0, .nil, .nil]], 3, .box⟩, ⟨[((ids.take i).foldl tellV w0).cells], 3, .box⟩] ∧ fr 2 = .sl (ids.map irow) ids.length ∧ fr 3 = .ptr 0 0 0 ∧ fr 6 = .ptr 1 0 0 ∧ fr 8 = .ptr 2 0 0 ∧ fr 9 = .int .i64 i)
    (fun ⟨fr, bs⟩ => bs = [⟨[v.cells], 3, .box⟩, ⟨[[.int .i64 0, .nil, .nil]], 3, .box⟩, ⟨[(ids.foldl tellV w0).cells], 3, .box⟩] ∧ fr 6 = .ptr 1 0 0 ∧ fr 8 = .ptr 2 0 0) (fun _ => False) c_gimmalref1_Hello_L0.eq_1 ?_ ?_ ?_ ?_ ?_
  · exact ⟨by simp [View.cells, peersD, intsD, hid0], by simp, by simp, by simp, by simp, by simp⟩
  · rintro i ⟨fr, bs⟩ hi ⟨rfl, h2, h3, h6, h8, h9⟩
    rw [hi, List.take_length]
    simp -implicitDefEqProofs [h2, h3, h6, h8, h9, hi]
  · rintro i x rest ⟨fr, bs⟩ hlt hget hg hd hd2 ⟨hB, h2, h3, h6, h8, h9⟩
    obtain ⟨w, hw⟩ : ∃ w, w = (ids.take i).foldl tellV w0 := ⟨_, rfl⟩
    rw [← hw] at hB
    subst hB
    have hlt' : (i : Int) < ids.length := by omega
    have hwr := wrap_next (n := i) (by omega)
    have hx := k5 x (List.mem_of_getElem? hget)
    have hkey := key i
    rw [← hw] at hkey
    obtain ⟨hm, hid⟩ := hkey
    have hnext := take_next hget w0
    rw [← hw] at hnext
    obtain ⟨p1, p2, p3, p4⟩ := viewMay_parts hm
    have v1 := ref_has w.passive x (by unfold cap; omega)
    have v2 := ref_Names w.peers (by unfold cap16; omega)
    have v3 := ref_has (w.peers.map Peer.id) x (by unfold cap; simp; omega)
    have v4 : x ≠ w.id → _ := fun hn => ref_known w x hm hx hn
    have hnm : w.peers.map (fun p => irow p.id) = (w.peers.map Peer.id).map irow := by rw [List.map_map]; rfl
    clear c1 c2 c3 c4 c5 key hw p1 p2 p3 p4 hm
    obtain ⟨A, hA⟩ : ∃ A, (w.peers.map Peer.id).contains x = A := ⟨_, rfl⟩
    obtain ⟨C, hC⟩ : ∃ C, w.passive.contains x = C := ⟨_, rfl⟩
    have hkn : knowsV w x = (A || C) := by rw [← hA, ← hC]; rfl
    rw [hA] at v3
    rw [hC] at v1
    clear hA hC
    simp only [View.cells, peersD, intsD, List.length_map, ← hnm] at v1 v2 v3
    clear hnm
    rw [hid] at v4
    have hnx : ∀ w2, w2 = tellV w x → (ids.take (i + 1)).foldl tellV w0 = w2 := by intro w2 h; rw [h, hnext]
    clear hnext
    by_cases hn : x = v.id
    · have ht : w = tellV w x := by unfold tellV; simp [hid, hn]
      have hnx' := hnx w ht
      clear hnx ht hid v4 hkn
      simp -implicitDefEqProofs [h2, h3, h6, h8, h9, hlt, hlt', hget, hg, hn, hwr, irow, View.cells, peersD, intsD, hnx']
    · have v5 := v4 hn
      clear v4
      simp only [viewD, viewS, View.cells, peersD, intsD] at v5
      cases A <;> cases C
      · have ht : knownV w x = tellV w x := by unfold tellV; simp [hkn, hid, hn]
        have hnx' := hnx _ ht
        have hki := knownV_id w x
        rw [hid] at hki
        generalize knownV w x = w2 at *
        clear hnx ht hkn
        rw [hid] at v5
        rw [hki] at v5
        simp -implicitDefEqProofs [h2, h3, h6, h8, h9, hlt, hlt', hget, hg, hn, hid, hwr, irow, View.cells, peersD, intsD, hnx', hki]
        repeat' ((first | refine callThen_of (by first | exact v1 | exact v2 | exact v3 | exact v5) ?_ | with_reducible refine gOps_dec (fun _ => ?_) (fun _ => ?_) | with_reducible refine gOps_ndec (fun _ => ?_) (fun _ => ?_) | (with_reducible refine gOps_and (fun hq => ?_) (fun hq => ?_) <;> (try simp at hq)) | (with_reducible refine gOps_or (fun hq => ?_) (fun hq => ?_) <;> (try simp at hq)) | (with_reducible refine gOps_not (fun hq => ?_) (fun hq => ?_) <;> (try simp at hq)) | (with_reducible refine gOps_split (fun hq => ?_) (fun hq => ?_) <;> (try simp at hq)) | with_reducible refine condC_dec (fun _ => ?_) (fun _ => ?_) | with_reducible refine condC_ndec (fun _ => ?_) (fun _ => ?_) | (with_reducible refine condC_and (fun hq => ?_) (fun hq => ?_) <;> (try simp at hq)) | (with_reducible refine condC_or (fun hq => ?_) (fun hq => ?_) <;> (try simp at hq)) | (with_reducible refine condC_not (fun hq => ?_) (fun hq => ?_) <;> (try simp at hq)) | (with_reducible refine condC_split (fun hq => ?_) (fun hq => ?_) <;> (try simp at hq)) | refine appK2_if (by omega) ?_ | refine pureV_if (by omega) ?_) <;> simp -implicitDefEqProofs [*, h2, h3, h6, h8, h9, hlt, hlt', hget, hg, hn, hid, hwr, irow, View.cells, peersD, intsD, hnx', hki])
      all_goals
        have ht : w = tellV w x := by unfold tellV; simp [hkn]
        have hnx' := hnx w ht
        clear hnx ht hkn v5
        simp -implicitDefEqProofs [h2, h3, h6, h8, h9, hlt, hlt', hget, hg, hn, hid, hwr, irow, View.cells, peersD, intsD, hnx']
        repeat' ((first | refine callThen_of (by first | exact v1 | exact v2 | exact v3) ?_ | with_reducible refine gOps_dec (fun _ => ?_) (fun _ => ?_) | with_reducible refine gOps_ndec (fun _ => ?_) (fun _ => ?_) | (with_reducible refine gOps_and (fun hq => ?_) (fun hq => ?_) <;> (try simp at hq)) | (with_reducible refine gOps_or (fun hq => ?_) (fun hq => ?_) <;> (try simp at hq)) | (with_reducible refine gOps_not (fun hq => ?_) (fun hq => ?_) <;> (try simp at hq)) | (with_reducible refine gOps_split (fun hq => ?_) (fun hq => ?_) <;> (try simp at hq)) | with_reducible refine condC_dec (fun _ => ?_) (fun _ => ?_) | with_reducible refine condC_ndec (fun _ => ?_) (fun _ => ?_) | (with_reducible refine condC_and (fun hq => ?_) (fun hq => ?_) <;> (try simp at hq)) | (with_reducible refine condC_or (fun hq => ?_) (fun hq => ?_) <;> (try simp at hq)) | (with_reducible refine condC_not (fun hq => ?_) (fun hq => ?_) <;> (try simp at hq)) | (with_reducible refine condC_split (fun hq => ?_) (fun hq => ?_) <;> (try simp at hq)) | refine appK2_if (by omega) ?_ | refine pureV_if (by omega) ?_) <;> simp -implicitDefEqProofs [*, h2, h3, h6, h8, h9, hlt, hlt', hget, hg, hn, hid, hwr, irow, View.cells, peersD, intsD, hnx'])
  · rintro ⟨fr, bs⟩ ⟨rfl, h6, h8⟩
    have hWid := (key ids.length).2
    rw [List.take_length] at hWid
    generalize ids.foldl tellV w0 = W at *
    simp -implicitDefEqProofs [h6, h8, View.cells, peersD, intsD]
  · rintro ⟨fr, bs⟩ h
    exact h.elim
end Go.AM
/- AM: contracts: a question is answered, the node's own blocks stay; the document's handling. -/
namespace Go.AM
set_option linter.unusedSimpArgs false
set_option linter.unusedVariables false
set_option maxRecDepth 8000
set_option maxHeartbeats 0
theorem ask_Answer_lent (x : Node) (m : Msg) (hs : x.small) (hl : m.ids.length ≤ cap) (h : toB x m 2 = true) : Den PP 45 [copyD x, msgD m] (nodeB x) (.tup [.ref 4 0 1, .int .i64 0]) (nodeB x ++ [⟨[tellOf x m].map Msg.row0, 11, .mut⟩]) := by
  have c1 := ask_to x m 2 hs hl
  have c4 := store_Get x.items m.key (by have := hs.2.1; unfold cap16; omega)
  rw [h] at c1
  unfold tellOf
  generalize getR x.items m.key = r at *
  obtain ⟨⟨ik, ic, iw, iv, ig⟩, g2⟩ := r
  simp only [nodeD, Node.cells, peersD, intsD, itemsD, toldsD, Item.row, msgD, Msg.row, Msg.row0, List.map_cons, List.map_nil, copyD, nodeB] at c1 c4 ⊢
  clear h
  refine den_of [] [] is_ask_Answer ?_
  simp -implicitDefEqProofs [c_ask_Answer]
  repeat' ((first | refine callThen_of (by first | exact c1 | exact c4) ?_ | with_reducible refine gOps_dec (fun _ => ?_) (fun _ => ?_) | with_reducible refine gOps_ndec (fun _ => ?_) (fun _ => ?_) | (with_reducible refine gOps_and (fun hq => ?_) (fun hq => ?_) <;> (try simp at hq)) | (with_reducible refine gOps_or (fun hq => ?_) (fun hq => ?_) <;> (try simp at hq)) | (with_reducible refine gOps_not (fun hq => ?_) (fun hq => ?_) <;> (try simp at hq)) | (with_reducible refine gOps_split (fun hq => ?_) (fun hq => ?_) <;> (try simp at hq)) | with_reducible refine condC_dec (fun _ => ?_) (fun _ => ?_) | with_reducible refine condC_ndec (fun _ => ?_) (fun _ => ?_) | (with_reducible refine condC_and (fun hq => ?_) (fun hq => ?_) <;> (try simp at hq)) | (with_reducible refine condC_or (fun hq => ?_) (fun hq => ?_) <;> (try simp at hq)) | (with_reducible refine condC_not (fun hq => ?_) (fun hq => ?_) <;> (try simp at hq)) | (with_reducible refine condC_split (fun hq => ?_) (fun hq => ?_) <;> (try simp at hq)) | refine appK2_if (by omega) ?_ | refine pureV_if (by omega) ?_) <;> simp -implicitDefEqProofs [*, downTo])
  repeat' apply And.intro
  all_goals repeat' ((first | with_reducible refine gOps_dec (fun _ => ?_) (fun _ => ?_) | with_reducible refine gOps_ndec (fun _ => ?_) (fun _ => ?_) | (with_reducible refine gOps_and (fun hq => ?_) (fun hq => ?_) <;> (try simp at hq)) | (with_reducible refine gOps_or (fun hq => ?_) (fun hq => ?_) <;> (try simp at hq)) | (with_reducible refine gOps_not (fun hq => ?_) (fun hq => ?_) <;> (try simp at hq)) | (with_reducible refine gOps_split (fun hq => ?_) (fun hq => ?_) <;> (try simp at hq)) | with_reducible refine condC_dec (fun _ => ?_) (fun _ => ?_) | with_reducible refine condC_ndec (fun _ => ?_) (fun _ => ?_) | (with_reducible refine condC_and (fun hq => ?_) (fun hq => ?_) <;> (try simp at hq)) | (with_reducible refine condC_or (fun hq => ?_) (fun hq => ?_) <;> (try simp at hq)) | (with_reducible refine condC_not (fun hq => ?_) (fun hq => ?_) <;> (try simp at hq)) | (with_reducible refine condC_split (fun hq => ?_) (fun hq => ?_) <;> (try simp at hq)) | refine appK2_if (by omega) ?_ | refine pureV_if (by omega) ?_) <;> simp -implicitDefEqProofs [*, downTo])
theorem is_handle_ask_lent (c : Cfg) (h : c.lendT = [9]) : isF PP c 89 c_handle_handler_ask := isF_of (fn := Proofs.Tryz.f89) (by kernel_rfl) (by kernel_rfl) rfl h (by kernel_rfl) rfl rfl (by kernel_rfl)
theorem handler_askM (x : Node) (m : Msg) (hs : x.small) (hl : m.ids.length ≤ cap) (h : toB x m 2 = true) : Den PP 89 [.ptr 0 0 0, msgD m] [hBox x 1 2 3 4 .nil, ⟨x.view.peers.map Peer.row, 2, .mut⟩, ⟨x.view.passive.map irow, 1, .mut⟩, ⟨x.items.map Item.row, 5, .mut⟩, ⟨x.log.map Told.row, 3, .mut⟩] (.tup [])
    [hBox x 1 2 3 4 (.ref 5 0 1), ⟨x.view.peers.map Peer.row, 2, .mut⟩, ⟨x.view.passive.map irow, 1, .mut⟩, ⟨x.items.map Item.row, 5, .mut⟩, ⟨x.log.map Told.row, 3, .mut⟩, ⟨[tellOf x m].map Msg.row0, 11, .mut⟩] := by
  have c1 := ask_Answer_lent x m hs hl h
  generalize tellOf x m = t at *
  clear h
  simp only [hBox, nodeD, Node.cells, viewD, View.cells, peersD, intsD, itemsD, toldsD, Item.row, copyD, nodeB, msgD, Msg.row, List.map_cons, List.map_nil, List.cons_append, List.nil_append] at c1 ⊢
  refine den_of [11] [9] is_handle_ask_lent ?_
  simp -implicitDefEqProofs [c_handle_handler_ask]
  refine lendThen_frame [1, 2, 3, 4] rfl (by decide) (by simp) c1 (by simp) (by simp [lentBs]) ?_
  simp -implicitDefEqProofs [framed]
theorem handle_Do_2m (x : Node) (m : Msg) (hs : x.small) (hl : m.ids.length ≤ cap) (h : doB x m = true) (hk : m.kind = 2) : Den PP 28 [nodeD x, msgD m] [] (.tup [copyD x, .ref 4 0 1, .int .i64 0]) (nodeB x ++ [⟨[tellOf x m].map Msg.row0, 11, .mut⟩]) := by
  have c1 := node_Up x hs
  have c2 := msg_May m hl
  obtain ⟨h1, h2, h3⟩ := doB_parts h
  have c4 := handler_askM x m hs hl (toB_ok h hk)
  rw [h1] at c1
  rw [h2] at c2
  have c3 := node_Copy x hs
  generalize tellOf x m = t at *
  clear h h1 h2
  simp only [hBox, psB, xsB, nodeD, Node.cells, viewD, View.cells, peersD, intsD, itemsD, toldsD, Item.row, copyD, nodeB, noteD, noteB, msgD, Msg.row, hk, h3, List.map_cons, List.map_nil, List.cons_append, List.nil_append] at c1 c2 c3 c4 ⊢
  refine den_of [27] [43] is_handle_Do ?_
  simp -implicitDefEqProofs [c_handle_Do, h3, hk]
  repeat' ((first | refine callThen_of (by first | exact c1 | exact c2 | exact c3) ?_ | with_reducible refine gOps_dec (fun _ => ?_) (fun _ => ?_) | with_reducible refine gOps_ndec (fun _ => ?_) (fun _ => ?_) | (with_reducible refine gOps_and (fun hq => ?_) (fun hq => ?_) <;> (try simp at hq)) | (with_reducible refine gOps_or (fun hq => ?_) (fun hq => ?_) <;> (try simp at hq)) | (with_reducible refine gOps_not (fun hq => ?_) (fun hq => ?_) <;> (try simp at hq)) | (with_reducible refine gOps_split (fun hq => ?_) (fun hq => ?_) <;> (try simp at hq)) | with_reducible refine condC_dec (fun _ => ?_) (fun _ => ?_) | with_reducible refine condC_ndec (fun _ => ?_) (fun _ => ?_) | (with_reducible refine condC_and (fun hq => ?_) (fun hq => ?_) <;> (try simp at hq)) | (with_reducible refine condC_or (fun hq => ?_) (fun hq => ?_) <;> (try simp at hq)) | (with_reducible refine condC_not (fun hq => ?_) (fun hq => ?_) <;> (try simp at hq)) | (with_reducible refine condC_split (fun hq => ?_) (fun hq => ?_) <;> (try simp at hq)) | refine appK2_if (by omega) ?_ | refine pureV_if (by omega) ?_) <;> simp -implicitDefEqProofs [*, downTo, h3, hk])
  refine lendThen_frame [8, 4, 5, 6, 7] rfl (by decide) (by simp) c4 (by simp) (by simp [lentBs]) ?_
  simp -implicitDefEqProofs [framed]
  repeat' apply And.intro
  all_goals repeat' ((first | with_reducible refine gOps_dec (fun _ => ?_) (fun _ => ?_) | with_reducible refine gOps_ndec (fun _ => ?_) (fun _ => ?_) | (with_reducible refine gOps_and (fun hq => ?_) (fun hq => ?_) <;> (try simp at hq)) | (with_reducible refine gOps_or (fun hq => ?_) (fun hq => ?_) <;> (try simp at hq)) | (with_reducible refine gOps_not (fun hq => ?_) (fun hq => ?_) <;> (try simp at hq)) | (with_reducible refine gOps_split (fun hq => ?_) (fun hq => ?_) <;> (try simp at hq)) | with_reducible refine condC_dec (fun _ => ?_) (fun _ => ?_) | with_reducible refine condC_ndec (fun _ => ?_) (fun _ => ?_) | (with_reducible refine condC_and (fun hq => ?_) (fun hq => ?_) <;> (try simp at hq)) | (with_reducible refine condC_or (fun hq => ?_) (fun hq => ?_) <;> (try simp at hq)) | (with_reducible refine condC_not (fun hq => ?_) (fun hq => ?_) <;> (try simp at hq)) | (with_reducible refine condC_split (fun hq => ?_) (fun hq => ?_) <;> (try simp at hq)) | refine appK2_if (by omega) ?_ | refine pureV_if (by omega) ?_) <;> simp -implicitDefEqProofs [*, downTo])
theorem ref_Handle_no (x : Node) (m : Msg) (hs : x.small) (hl : m.ids.length ≤ cap) (h : doB x m = false) : Den PP 29 [nodeD x, msgD m] [] (.tup [.agg [.bool false, .int .i64 0, .nil, .nil, .nil, .nil], .ref 0 0 0, .int .i64 2200]) [⟨[], 11, .mut⟩] := by
  have c1 := ref_upMay x hs
  have c2 := ref_MsgMay m hl
  unfold doB at h
  generalize nodeUp x = U at *
  generalize msgMay m = M at *
  simp only [nodeD, Node.cells, peersD, intsD, itemsD, toldsD, Item.row, msgD, Msg.row] at c1 c2 ⊢
  refine den_of [] [] is_gimmalref16_Handle ?_
  cases U <;> cases M
  all_goals
    simp at h
  all_goals
    simp -implicitDefEqProofs [c_gimmalref16_Handle]
    repeat' ((first | refine callThen_of (by first | exact c1 | exact c2) ?_ | with_reducible refine gOps_dec (fun _ => ?_) (fun _ => ?_) | with_reducible refine gOps_ndec (fun _ => ?_) (fun _ => ?_) | (with_reducible refine gOps_and (fun hq => ?_) (fun hq => ?_) <;> (try simp at hq)) | (with_reducible refine gOps_or (fun hq => ?_) (fun hq => ?_) <;> (try simp at hq)) | (with_reducible refine gOps_not (fun hq => ?_) (fun hq => ?_) <;> (try simp at hq)) | (with_reducible refine gOps_split (fun hq => ?_) (fun hq => ?_) <;> (try simp at hq)) | with_reducible refine condC_dec (fun _ => ?_) (fun _ => ?_) | with_reducible refine condC_ndec (fun _ => ?_) (fun _ => ?_) | (with_reducible refine condC_and (fun hq => ?_) (fun hq => ?_) <;> (try simp at hq)) | (with_reducible refine condC_or (fun hq => ?_) (fun hq => ?_) <;> (try simp at hq)) | (with_reducible refine condC_not (fun hq => ?_) (fun hq => ?_) <;> (try simp at hq)) | (with_reducible refine condC_split (fun hq => ?_) (fun hq => ?_) <;> (try simp at hq)) | refine appK2_if (by omega) ?_ | refine pureV_if (by omega) ?_) <;> simp -implicitDefEqProofs [*])
theorem ref_Handle_0 (x : Node) (m : Msg) (hs : x.small) (hl : m.ids.length ≤ cap) (h : doB x m = true) (hk : m.kind = 0) : Den PP 29 [nodeD x, msgD m] [] (.tup [nodeD { x with view := helloV x.view m.from_ m.ids }, .ref 0 0 0, .int .i64 0]) [⟨[], 11, .mut⟩] := by
  have c1 := ref_upMay x hs
  have c2 := ref_MsgMay m hl
  obtain ⟨h1, h2, h3⟩ := doB_parts h
  have c3 := ref_copyNode x hs
  have c4 := ref_Hello x.view m.from_ m.ids hs.1 (hello_ok h1 h2 hk h3)
  rw [h1] at c1
  rw [h2] at c2
  generalize helloV x.view m.from_ m.ids = w at *
  clear h h1 h2
  simp only [viewS, nodeD, Node.cells, viewD, View.cells, peersD, intsD, itemsD, toldsD, Item.row, copyD, nodeB, msgD, Msg.row, hk, h3] at c1 c2 c3 c4 ⊢
  refine den_of [] [] is_gimmalref16_Handle ?_
  simp -implicitDefEqProofs [c_gimmalref16_Handle, h3, hk]
  repeat' ((first | refine callThen_of (by first | exact c1 | exact c2 | exact c3 | exact c4) ?_ | with_reducible refine gOps_dec (fun _ => ?_) (fun _ => ?_) | with_reducible refine gOps_ndec (fun _ => ?_) (fun _ => ?_) | (with_reducible refine gOps_and (fun hq => ?_) (fun hq => ?_) <;> (try simp at hq)) | (with_reducible refine gOps_or (fun hq => ?_) (fun hq => ?_) <;> (try simp at hq)) | (with_reducible refine gOps_not (fun hq => ?_) (fun hq => ?_) <;> (try simp at hq)) | (with_reducible refine gOps_split (fun hq => ?_) (fun hq => ?_) <;> (try simp at hq)) | with_reducible refine condC_dec (fun _ => ?_) (fun _ => ?_) | with_reducible refine condC_ndec (fun _ => ?_) (fun _ => ?_) | (with_reducible refine condC_and (fun hq => ?_) (fun hq => ?_) <;> (try simp at hq)) | (with_reducible refine condC_or (fun hq => ?_) (fun hq => ?_) <;> (try simp at hq)) | (with_reducible refine condC_not (fun hq => ?_) (fun hq => ?_) <;> (try simp at hq)) | (with_reducible refine condC_split (fun hq => ?_) (fun hq => ?_) <;> (try simp at hq)) | refine appK2_if (by omega) ?_ | refine pureV_if (by omega) ?_) <;> simp -implicitDefEqProofs [*, downTo, h3, hk])
theorem ref_Handle_1 (x : Node) (m : Msg) (hs : x.small) (hl : m.ids.length ≤ cap) (h : doB x m = true) (hk : m.kind = 1) : Den PP 29 [nodeD x, msgD m] [] (.tup [nodeD (takeI x m.item), .ref 0 0 0, .int .i64 0]) [⟨[], 11, .mut⟩] := by
  have c1 := ref_upMay x hs
  have c2 := ref_MsgMay m hl
  obtain ⟨h1, h2, h3⟩ := doB_parts h
  have c4 := ref_Take x m.item hs (by rw [h1, item_ok h2 hk]; rfl)
  rw [h1] at c1
  rw [h2] at c2
  generalize takeI x m.item = y at *
  clear h h1 h2
  simp only [nodeD, Node.cells, viewD, View.cells, peersD, intsD, itemsD, toldsD, Item.row, copyD, nodeB, msgD, Msg.row, hk, h3] at c1 c2 c4 ⊢
  refine den_of [] [] is_gimmalref16_Handle ?_
  simp -implicitDefEqProofs [c_gimmalref16_Handle, h3, hk]
  repeat' ((first | refine callThen_of (by first | exact c1 | exact c2 | exact c4) ?_ | with_reducible refine gOps_dec (fun _ => ?_) (fun _ => ?_) | with_reducible refine gOps_ndec (fun _ => ?_) (fun _ => ?_) | (with_reducible refine gOps_and (fun hq => ?_) (fun hq => ?_) <;> (try simp at hq)) | (with_reducible refine gOps_or (fun hq => ?_) (fun hq => ?_) <;> (try simp at hq)) | (with_reducible refine gOps_not (fun hq => ?_) (fun hq => ?_) <;> (try simp at hq)) | (with_reducible refine gOps_split (fun hq => ?_) (fun hq => ?_) <;> (try simp at hq)) | with_reducible refine condC_dec (fun _ => ?_) (fun _ => ?_) | with_reducible refine condC_ndec (fun _ => ?_) (fun _ => ?_) | (with_reducible refine condC_and (fun hq => ?_) (fun hq => ?_) <;> (try simp at hq)) | (with_reducible refine condC_or (fun hq => ?_) (fun hq => ?_) <;> (try simp at hq)) | (with_reducible refine condC_not (fun hq => ?_) (fun hq => ?_) <;> (try simp at hq)) | (with_reducible refine condC_split (fun hq => ?_) (fun hq => ?_) <;> (try simp at hq)) | refine appK2_if (by omega) ?_ | refine pureV_if (by omega) ?_) <;> simp -implicitDefEqProofs [*, downTo, h3, hk])
theorem ref_Handle_2 (x : Node) (m : Msg) (hs : x.small) (hl : m.ids.length ≤ cap) (h : doB x m = true) (hk : m.kind = 2) : Den PP 29 [nodeD x, msgD m] [] (.tup [nodeD x, .sl ([tellOf x m].map Msg.row0) 1, .int .i64 0]) [] := by
  have c1 := ref_upMay x hs
  have c2 := ref_MsgMay m hl
  obtain ⟨h1, h2, h3⟩ := doB_parts h
  have c3 := ref_copyNode x hs
  have c4 := ref_Answer_ok x m hs hl (toB_ok h hk)
  rw [h1] at c1
  rw [h2] at c2
  generalize tellOf x m = t at *
  clear h h1 h2
  simp only [nodeD, Node.cells, viewD, View.cells, peersD, intsD, itemsD, toldsD, Item.row, copyD, nodeB, msgD, Msg.row, hk, h3, List.map_cons, List.map_nil] at c1 c2 c3 c4 ⊢
  refine den_of [] [] is_gimmalref16_Handle ?_
  simp -implicitDefEqProofs [c_gimmalref16_Handle, h3, hk]
  repeat' ((first | refine callThen_of (by first | exact c1 | exact c2 | exact c3 | exact c4) ?_ | with_reducible refine gOps_dec (fun _ => ?_) (fun _ => ?_) | with_reducible refine gOps_ndec (fun _ => ?_) (fun _ => ?_) | (with_reducible refine gOps_and (fun hq => ?_) (fun hq => ?_) <;> (try simp at hq)) | (with_reducible refine gOps_or (fun hq => ?_) (fun hq => ?_) <;> (try simp at hq)) | (with_reducible refine gOps_not (fun hq => ?_) (fun hq => ?_) <;> (try simp at hq)) | (with_reducible refine gOps_split (fun hq => ?_) (fun hq => ?_) <;> (try simp at hq)) | with_reducible refine condC_dec (fun _ => ?_) (fun _ => ?_) | with_reducible refine condC_ndec (fun _ => ?_) (fun _ => ?_) | (with_reducible refine condC_and (fun hq => ?_) (fun hq => ?_) <;> (try simp at hq)) | (with_reducible refine condC_or (fun hq => ?_) (fun hq => ?_) <;> (try simp at hq)) | (with_reducible refine condC_not (fun hq => ?_) (fun hq => ?_) <;> (try simp at hq)) | (with_reducible refine condC_split (fun hq => ?_) (fun hq => ?_) <;> (try simp at hq)) | refine appK2_if (by omega) ?_ | refine pureV_if (by omega) ?_) <;> simp -implicitDefEqProofs [*, downTo, h3, hk])
  try (repeat' apply And.intro)
  all_goals repeat' ((first | refine callThen_of (by first | exact c3) ?_ | with_reducible refine gOps_dec (fun _ => ?_) (fun _ => ?_) | with_reducible refine gOps_ndec (fun _ => ?_) (fun _ => ?_) | (with_reducible refine gOps_and (fun hq => ?_) (fun hq => ?_) <;> (try simp at hq)) | (with_reducible refine gOps_or (fun hq => ?_) (fun hq => ?_) <;> (try simp at hq)) | (with_reducible refine gOps_not (fun hq => ?_) (fun hq => ?_) <;> (try simp at hq)) | (with_reducible refine gOps_split (fun hq => ?_) (fun hq => ?_) <;> (try simp at hq)) | with_reducible refine condC_dec (fun _ => ?_) (fun _ => ?_) | with_reducible refine condC_ndec (fun _ => ?_) (fun _ => ?_) | (with_reducible refine condC_and (fun hq => ?_) (fun hq => ?_) <;> (try simp at hq)) | (with_reducible refine condC_or (fun hq => ?_) (fun hq => ?_) <;> (try simp at hq)) | (with_reducible refine condC_not (fun hq => ?_) (fun hq => ?_) <;> (try simp at hq)) | (with_reducible refine condC_split (fun hq => ?_) (fun hq => ?_) <;> (try simp at hq)) | refine appK2_if (by omega) ?_ | refine pureV_if (by omega) ?_) <;> simp -implicitDefEqProofs [*, downTo, h3, hk])
theorem ref_Handle_3 (x : Node) (m : Msg) (hs : x.small) (hl : m.ids.length ≤ cap) (h : doB x m = true) (hk : m.kind = 3) : Den PP 29 [nodeD x, msgD m] [] (.tup [nodeD { x with log := logOf x (mT m) }, .ref 0 0 0, .int .i64 0]) [⟨[], 11, .mut⟩] := by
  have c1 := ref_upMay x hs
  have c2 := ref_MsgMay m hl
  obtain ⟨h1, h2, h3⟩ := doB_parts h
  have c4 := ref_Told_ok x m hs hl (toB_ok h hk)
  rw [h1] at c1
  rw [h2] at c2
  generalize logPre x (mT m) = pre at *
  generalize logOf x (mT m) = xs at *
  clear h h1 h2
  simp only [nodeD, Node.cells, viewD, View.cells, peersD, intsD, itemsD, toldsD, Item.row, noteD, noteB, msgD, Msg.row, hk, h3] at c1 c2 c4 ⊢
  refine den_of [] [] is_gimmalref16_Handle ?_
  simp -implicitDefEqProofs [c_gimmalref16_Handle, h3, hk]
  repeat' ((first | refine callThen_of (by first | exact c1 | exact c2 | exact c4) ?_ | with_reducible refine gOps_dec (fun _ => ?_) (fun _ => ?_) | with_reducible refine gOps_ndec (fun _ => ?_) (fun _ => ?_) | (with_reducible refine gOps_and (fun hq => ?_) (fun hq => ?_) <;> (try simp at hq)) | (with_reducible refine gOps_or (fun hq => ?_) (fun hq => ?_) <;> (try simp at hq)) | (with_reducible refine gOps_not (fun hq => ?_) (fun hq => ?_) <;> (try simp at hq)) | (with_reducible refine gOps_split (fun hq => ?_) (fun hq => ?_) <;> (try simp at hq)) | with_reducible refine condC_dec (fun _ => ?_) (fun _ => ?_) | with_reducible refine condC_ndec (fun _ => ?_) (fun _ => ?_) | (with_reducible refine condC_and (fun hq => ?_) (fun hq => ?_) <;> (try simp at hq)) | (with_reducible refine condC_or (fun hq => ?_) (fun hq => ?_) <;> (try simp at hq)) | (with_reducible refine condC_not (fun hq => ?_) (fun hq => ?_) <;> (try simp at hq)) | (with_reducible refine condC_split (fun hq => ?_) (fun hq => ?_) <;> (try simp at hq)) | refine appK2_if (by omega) ?_ | refine pureV_if (by omega) ?_) <;> simp -implicitDefEqProofs [*, downTo, h3, hk])
end Go.AM
/- Plain law: greetings, told twice, told in another row. -/
namespace Go.AM
set_option linter.unusedSimpArgs false
set_option linter.unusedVariables false

end Go.AM
/- AM: chapter 22's statements: HandleForms, HandleTwice. -/
namespace Go.AM
set_option linter.unusedSimpArgs false
set_option linter.unusedVariables false
set_option maxRecDepth 8000
set_option maxHeartbeats 0
theorem law22_it (k c : Int) : Den PP 178 [.int .i64 k, .int .i64 c] [] (.agg (itT k c).row) [] := by
  refine den_of [] [] is_gimmallaw22_it ?_
  simp -implicitDefEqProofs [c_gimmallaw22_it, itT, Item.row]
theorem law22_node100 : Den PP 105 [] [] (.agg [.bool true, .int .i64 100, .ref 0 0 3, .ref 1 0 1, .ref 2 0 3, .nil]) [⟨nodeT.view.peers.map Peer.row, 2, .mut⟩, ⟨nodeT.view.passive.map irow, 1, .mut⟩, ⟨nodeT.items.map Item.row, 5, .mut⟩] := by
  have i1 := law22_it 95 1
  have i2 := law22_it 99 3
  have i3 := law22_it 250 2
  simp [itT, Item.row] at i1 i2 i3
  refine den_of [] [] is_gimmallaw22_node100 ?_
  simp -implicitDefEqProofs [c_gimmallaw22_node100, nodeT, Peer.row, irow, Item.row]
  repeat' ((first | refine callThen_of (by first | exact i1 | exact i2 | exact i3) ?_ | with_reducible refine gOps_dec (fun _ => ?_) (fun _ => ?_) | with_reducible refine gOps_ndec (fun _ => ?_) (fun _ => ?_) | (with_reducible refine gOps_and (fun hq => ?_) (fun hq => ?_) <;> (try simp at hq)) | (with_reducible refine gOps_or (fun hq => ?_) (fun hq => ?_) <;> (try simp at hq)) | (with_reducible refine gOps_not (fun hq => ?_) (fun hq => ?_) <;> (try simp at hq)) | (with_reducible refine gOps_split (fun hq => ?_) (fun hq => ?_) <;> (try simp at hq)) | with_reducible refine condC_dec (fun _ => ?_) (fun _ => ?_) | with_reducible refine condC_ndec (fun _ => ?_) (fun _ => ?_) | (with_reducible refine condC_and (fun hq => ?_) (fun hq => ?_) <;> (try simp at hq)) | (with_reducible refine condC_or (fun hq => ?_) (fun hq => ?_) <;> (try simp at hq)) | (with_reducible refine condC_not (fun hq => ?_) (fun hq => ?_) <;> (try simp at hq)) | (with_reducible refine condC_split (fun hq => ?_) (fun hq => ?_) <;> (try simp at hq)) | refine appK2_if (by omega) ?_ | refine pureV_if (by omega) ?_) <;> simp -implicitDefEqProofs [*, nodeT, Peer.row, irow, Item.row])
theorem law22_awake : Den PP 35 [] [] (.bool true) [] := by
  have g0 := law22_node100
  have g1 := handle_Do_0 nodeT ⟨0, 7, 100, [30], 0, zeroItem, false⟩ small_nodeT (by unfold cap; simp) (by decide +kernel) rfl
  obtain ⟨kk, hkk, g2⟩ := handle_Do_2 nodeT ⟨2, 7, 100, [], 95, zeroItem, false⟩ small_nodeT (by unfold cap; simp) (by decide +kernel) rfl
  have g3 := handle_Do_no nodeT ⟨0, 7, 101, [], 0, zeroItem, false⟩ small_nodeT (by unfold cap; simp) (by decide +kernel)
  have g4 := law_SameNode nodeT nodeT small_nodeT
  have e1 : helloV nodeT.view 7 [30] = ⟨100, [⟨101, 2⟩, ⟨200, 0⟩, ⟨7, 0⟩, ⟨30, 0⟩, ⟨90, 1⟩], []⟩ := by decide +kernel
  have e2 : tellOf nodeT ⟨2, 7, 100, [], 95, zeroItem, false⟩ = ⟨3, 100, 7, [], 95, itT 95 1, true⟩ := by decide +kernel
  simp only at g1
  rw [e1] at g1
  rw [e2] at g2
  clear e1 e2
  simp [copyD, nodeB, nodeD, Node.cells, viewD, View.cells, peersD, intsD, itemsD, toldsD, nodeT, itT, zeroItem, msgD, Msg.row, Msg.row0, Peer.row, irow, Item.row] at g0 g1 g2 g3 g4
  refine den_of [] [] is_gimmallaw22_awake ?_
  cases kk <;> simp [Kind.isBox] at hkk
  all_goals
    simp -implicitDefEqProofs [c_gimmallaw22_awake]
    repeat' ((first | refine callThen_of (by first | exact g0 | exact g1 | exact den_nrm (g1) | exact den_nrm (by simpa using g1) | exact g2 | exact den_nrm (g2) | exact den_nrm (by simpa using g2) | exact g3 | exact den_nrm (g3) | exact den_nrm (by simpa using g3) | exact g4 | exact den_nrm (g4) | exact den_nrm (by simpa using g4) | exact law_Num _) ?_ | with_reducible refine gOps_dec (fun _ => ?_) (fun _ => ?_) | with_reducible refine gOps_ndec (fun _ => ?_) (fun _ => ?_) | (with_reducible refine gOps_and (fun hq => ?_) (fun hq => ?_) <;> (try simp at hq)) | (with_reducible refine gOps_or (fun hq => ?_) (fun hq => ?_) <;> (try simp at hq)) | (with_reducible refine gOps_not (fun hq => ?_) (fun hq => ?_) <;> (try simp at hq)) | (with_reducible refine gOps_split (fun hq => ?_) (fun hq => ?_) <;> (try simp at hq)) | with_reducible refine condC_dec (fun _ => ?_) (fun _ => ?_) | with_reducible refine condC_ndec (fun _ => ?_) (fun _ => ?_) | (with_reducible refine condC_and (fun hq => ?_) (fun hq => ?_) <;> (try simp at hq)) | (with_reducible refine condC_or (fun hq => ?_) (fun hq => ?_) <;> (try simp at hq)) | (with_reducible refine condC_not (fun hq => ?_) (fun hq => ?_) <;> (try simp at hq)) | (with_reducible refine condC_split (fun hq => ?_) (fun hq => ?_) <;> (try simp at hq)) | refine appK2_if (by omega) ?_ | refine pureV_if (by omega) ?_) <;> simp -implicitDefEqProofs [*, downTo])
@[simp] theorem nrmLL_repH (n : Nat) (r : List D) : nrmLL (List.replicate n r) = List.replicate n (nrmL r) := by
  induction n with
  | zero => rfl
  | succ n ih => simp [List.replicate_succ, nrmLL, ih]
end Go.AM
/- AM: chapter 21's statements: Asks. -/
namespace Go.AM
set_option linter.unusedSimpArgs false
set_option linter.unusedVariables false
set_option maxRecDepth 8000
set_option maxHeartbeats 0
theorem spoil_Told_at (pre xs : List Told) (hl : xs.length ≤ cap16) (hp : pre.length ≤ cap16) : Den PP 102 [.ref 0 pre.length xs.length] [⟨(pre ++ xs).map Told.row, 3, .mut⟩] (.tup []) [⟨(pre ++ xs.map spoilTold).map Told.row, 3, .mut⟩] := by
  unfold cap16 at hl hp
  refine den_of [] [] is_gimmallaw0_SpoilTolds ?_
  simp -implicitDefEqProofs [c_gimmallaw0_SpoilTolds]
  refine list_rule xs (fun i rest => fun ⟨fr, bs⟩ => ∃ done, bs = [⟨(done ++ rest).map Told.row, 3, .mut⟩] ∧ done.length = pre.length + i ∧ done ++ rest.map spoilTold = pre ++ xs.map spoilTold ∧ fr 0 = .ref 0 pre.length xs.length ∧ fr 2 = .int .i64 i)
    (fun ⟨fr, bs⟩ => bs = [⟨(pre ++ xs.map spoilTold).map Told.row, 3, .mut⟩]) (fun ⟨fr, bs⟩ => False) c_gimmallaw0_SpoilTolds_L0.eq_1 ?_ ?_ ?_ ?_ ?_
  · exact ⟨pre, by simp, rfl, rfl, rfl, rfl⟩
  · rintro i ⟨fr, bs⟩ hi ⟨done, rfl, hd, he, h0, h2⟩
    simp -implicitDefEqProofs [h0, h2, hi]
    simp at he
    simp [he]
  · rintro i a rest ⟨fr, bs⟩ hlt hget hg hd hd2 ⟨done, rfl, hdl, he, h0, h2⟩
    have hlt' : (i : Int) < xs.length := by omega
    have hw := wrap_next (n := i) (by omega)
    have h3 : ∀ (A B : List (List D)) r, A.length = pre.length + i → (A ++ r :: B)[pre.length + i]? = some r := by intro A B r h; simp [← h]
    have h4 : ∀ (A B : List (List D)) r r', A.length = pre.length + i → (A ++ r' :: B).set (pre.length + i) r = A ++ r :: B := by intro A B r r' h; simp [← h]
    simp -implicitDefEqProofs [h0, h2, hlt', h3, h4, hdl, Told.row, hw, reach, downTo]
    exact ⟨done ++ [spoilTold a], by first | (simp [Told.row, spoilTold]; done) | (simp [Told.row, spoilTold]; rfl), by simp [hdl]; omega, by simpa using he⟩
  · rintro ⟨fr, bs⟩ rfl
    try simp -implicitDefEqProofs
  · rintro ⟨fr, bs⟩ h
    exact h.elim
theorem law_SpoilNode_at (x : Node) (pre xs : List Told) (h1 : x.view.peers.length ≤ cap16) (h2 : x.view.passive.length ≤ cap16) (h3 : x.items.length ≤ cap16) (h4 : xs.length ≤ cap16) (h5 : pre.length ≤ cap16) : Den PP 32 [noteD x pre xs] (noteB x pre xs) (.tup []) (noteB (spoilN x) pre (xs.map spoilTold)) := by
  have s1 := law_SpoilView x.view h1 h2
  have s2 := spoil_Item x.items h3
  have s3 := spoil_Told_at pre xs h4 h5
  unfold noteD noteB spoilN
  refine den_of [] [3, 6, 9] is_gimmallaw0_SpoilNode ?_
  simp -implicitDefEqProofs [c_gimmallaw0_SpoilNode]
  refine lendThen_frame [0, 1] rfl (by decide) (by simp) s1 (by simp) (by simp [lentBs]) ?_
  simp -implicitDefEqProofs [framed]
  refine lendThen_frame [2] rfl (by decide) (by simp) s2 (by simp) (by simp [lentBs]) ?_
  simp -implicitDefEqProofs [framed]
  refine lendThen_frame [3] rfl (by decide) (by simp) s3 (by simp) (by simp [lentBs]) ?_
  simp -implicitDefEqProofs [framed]
theorem law_CopyMsg (m : Msg) (hl : m.ids.length ≤ cap) : Den PP 27 [msgD m] [] (.agg [.int .i64 m.kind, .int .i64 m.from_, .int .i64 m.to, .ref 0 0 m.ids.length, .int .i64 m.key, .int .i64 m.item.key, .int .i64 m.item.count, .int .i64 m.item.writer, .int .i64 m.item.value, .bool m.item.gone, .bool m.has]) [⟨m.ids.map irow, 1, .mut⟩] := by
  have h8 : m.ids.length * 8 ≤ 140737488355328 := by unfold cap at hl; omega
  refine den_of [] [] is_gimmallaw0_CopyMsg ?_
  simp -implicitDefEqProofs [c_gimmallaw0_CopyMsg, msgD, Msg.row, intsD, h8]
  repeat' ((first | with_reducible refine gOps_dec (fun _ => ?_) (fun _ => ?_) | with_reducible refine gOps_ndec (fun _ => ?_) (fun _ => ?_) | (with_reducible refine gOps_and (fun hq => ?_) (fun hq => ?_) <;> (try simp at hq)) | (with_reducible refine gOps_or (fun hq => ?_) (fun hq => ?_) <;> (try simp at hq)) | (with_reducible refine gOps_not (fun hq => ?_) (fun hq => ?_) <;> (try simp at hq)) | (with_reducible refine gOps_split (fun hq => ?_) (fun hq => ?_) <;> (try simp at hq)) | with_reducible refine condC_dec (fun _ => ?_) (fun _ => ?_) | with_reducible refine condC_ndec (fun _ => ?_) (fun _ => ?_) | (with_reducible refine condC_and (fun hq => ?_) (fun hq => ?_) <;> (try simp at hq)) | (with_reducible refine condC_or (fun hq => ?_) (fun hq => ?_) <;> (try simp at hq)) | (with_reducible refine condC_not (fun hq => ?_) (fun hq => ?_) <;> (try simp at hq)) | (with_reducible refine condC_split (fun hq => ?_) (fun hq => ?_) <;> (try simp at hq)) | refine appK2_if (by omega) ?_ | refine pureV_if (by omega) ?_) <;> simp -implicitDefEqProofs [*, h8])
end Go.AM
