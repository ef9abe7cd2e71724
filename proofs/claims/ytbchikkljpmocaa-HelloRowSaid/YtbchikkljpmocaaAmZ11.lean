/- What the proof of this claim stands on, part 11. -/
import Derived.Test.YtbchikkljpmocaaAmZ10
/- AM: contracts: one is heard, of a view that is lent. -/
namespace Go.AM
set_option linter.unusedSimpArgs false
set_option linter.unusedVariables false
set_option maxRecDepth 8000
set_option maxHeartbeats 0
theorem slices_Index_int (xs : List Int) (y : Int) (hl : xs.length ≤ cap) : Den PP 101 [intsD xs, .int .i64 y] [] (.int .i64 (fIdx (fun x => decide (y = x)) 0 xs)) [] := by
  unfold cap at hl
  refine den_of [] [] is_slices_Index_int_int ?_
  simp -implicitDefEqProofs [c_slices_Index_int_int, intsD]
  refine anyLoop_of (xs.length + 1) ?_
  have key : ∀ (Q : Ex → St → Prop) (r : Int) (hQ1 : ∀ fr, r = -1 → Q .normal ⟨fr, []⟩) (hQ2 : ∀ fr bs, fr 4 = .int .i64 r → Q .ret ⟨fr, bs⟩) (rest : List Int) (i : Nat) (fr : Nat → D), xs.drop i = rest → i ≤ xs.length →
      fr 0 = .sl (xs.map irow) xs.length → fr 1 = .int .i64 y → fr 7 = .int .i64 xs.length → fr 8 = .int .i64 i → fIdx (fun x => decide (y = x)) i rest = r → sLoop (cf 0 [] []) 0 c_slices_Index_int_int_L0 (blockQ 0 Q) (rest.length + 1) ⟨fr, []⟩ := by
    intro Q r hQ1 hQ2 rest
    induction rest with
    | nil =>
      intro i fr e hi h0 h1 h7 h8 hm
      refine sLoop_body c_slices_Index_int_int_L0.eq_1 ?_
      have hi' := drop_nil e hi
      simp -implicitDefEqProofs [h0, h1, h7, h8, hi']
      exact hQ1 _ hm.symm
    | cons x rest ih =>
      intro i fr e hi h0 h1 h7 h8 hm
      refine sLoop_body c_slices_Index_int_int_L0.eq_1 ?_
      obtain ⟨hlt, hget, hd, hlen⟩ := drop_cons e
      have hlt' : (i : Int) < xs.length := by omega
      have hw := wrap_next (show i ≤ 140737488355328 by omega)
      simp only [fIdx] at hm
      simp -implicitDefEqProofs [h0, h1, h7, h8, hlt', hget, irow]
      refine condC_dec (fun h2 => ?_) (fun h2 => ?_)
      all_goals simp -implicitDefEqProofs [h2, h0, h1, h7, h8, hw]
      · exact hQ2 _ _ (by rw [← hm]; simp [h2])
      · exact ih (i + 1) _ hd (by omega) (by simp [h0]) (by simp [h1]) (by simp [h7]) (by simp) (by rw [← hm]; simp [h2])
  refine key _ (fIdx (fun x => decide (y = x)) 0 xs) (fun fr h => ?_) (fun fr bs h => ?_) xs 0 _ rfl (Nat.zero_le _) rfl rfl rfl rfl rfl
  · simp -implicitDefEqProofs [h]
  · simp -implicitDefEqProofs [h]
theorem slices_Contains_int (xs : List Int) (y : Int) (hl : xs.length ≤ cap) : Den PP 80 [intsD xs, .int .i64 y] [] (.bool (xs.contains y)) [] := by
  have c1 := slices_Index_int xs y hl
  have e := fIdx_any (fun x => decide (y = x)) xs 0
  have e2 : xs.contains y = xs.any fun x => decide (y = x) := by
    rw [Bool.eq_iff_iff]
    simp
  rw [e2]
  simp only [intsD] at c1 ⊢
  refine den_of [] [] is_slices_Contains_int_int ?_
  simp -implicitDefEqProofs [c_slices_Contains_int_int]
  refine callThen_of c1 ?_
  simp -implicitDefEqProofs [← e]
theorem view_Passive (v : View) (id : Int) (hl : v.passive.length ≤ cap) : Den PP 51 [.mem v.cells, .int .i64 id] [] (.bool (v.passive.contains id)) [] := by
  have c1 := slices_Contains_int v.passive id hl
  simp only [intsD, View.cells, peersD] at c1 ⊢
  generalize v.passive.contains id = B at *
  refine den_of [] [] is_view_Passive ?_
  simp -implicitDefEqProofs [c_view_Passive]
  repeat' (first | (refine callThen_of (by first | exact c1) ?_; simp -implicitDefEqProofs [*]) | (with_reducible refine gOps_dec (fun _ => ?_) (fun _ => ?_) <;> simp -implicitDefEqProofs [*]) | (with_reducible refine gOps_ndec (fun _ => ?_) (fun _ => ?_) <;> simp -implicitDefEqProofs [*]) | (with_reducible refine gOps_and (fun hq => ?_) (fun hq => ?_) <;> (try simp at hq) <;> simp -implicitDefEqProofs [*]) | (with_reducible refine gOps_or (fun hq => ?_) (fun hq => ?_) <;> (try simp at hq) <;> simp -implicitDefEqProofs [*]) | (with_reducible refine gOps_not (fun hq => ?_) (fun hq => ?_) <;> (try simp at hq) <;> simp -implicitDefEqProofs [*]) | (with_reducible refine gOps_split (fun hq => ?_) (fun hq => ?_) <;> (try simp at hq) <;> simp -implicitDefEqProofs [*]) | (with_reducible refine condC_dec (fun _ => ?_) (fun _ => ?_) <;> simp -implicitDefEqProofs [*]) | (with_reducible refine condC_ndec (fun _ => ?_) (fun _ => ?_) <;> simp -implicitDefEqProofs [*]) | (with_reducible refine condC_and (fun hq => ?_) (fun hq => ?_) <;> (try simp at hq) <;> simp -implicitDefEqProofs [*]) | (with_reducible refine condC_or (fun hq => ?_) (fun hq => ?_) <;> (try simp at hq) <;> simp -implicitDefEqProofs [*]) | (with_reducible refine condC_not (fun hq => ?_) (fun hq => ?_) <;> (try simp at hq) <;> simp -implicitDefEqProofs [*]) | (with_reducible refine condC_split (fun hq => ?_) (fun hq => ?_) <;> (try simp at hq) <;> simp -implicitDefEqProofs [*]) | (refine appK2_if (by omega) ?_; simp -implicitDefEqProofs [*]) | (refine pureV_if (by omega) ?_; simp -implicitDefEqProofs [*]))
theorem hello_room (v : View) (h1 : v.peers.length ≤ 16) (h2 : v.passive.length ≤ 16) : Den PP 76 [.mem v.cells] [] (.bool (decide (v.peers.length + v.passive.length < 16))) [] := by
  have w : IntKind.wrap .i64 ((v.peers.length : Int) + v.passive.length) = v.peers.length + v.passive.length := wrap_in (by omega) (by omega)
  have e : decide (v.peers.length + v.passive.length < 16) = decide ((v.peers.length : Int) + v.passive.length < 16) := by
    rw [decide_eq_decide]; omega
  rw [e]
  simp only [View.cells, peersD, intsD]
  refine den_of [] [] is_hello_room ?_
  simp -implicitDefEqProofs [c_hello_room, w]
def viewBox (v : View) (p q : Nat) : Blk := ⟨[[.int .i64 v.id, .ref p 0 v.peers.length, .ref q 0 v.passive.length]], 3, .box⟩
def psB (v : View) : Blk := ⟨v.peers.map Peer.row, 2, .mut⟩
def xsB (v : View) : Blk := ⟨v.passive.map irow, 1, .mut⟩
theorem hello_heard (v : View) (id : Int) (hv : viewMay v = true) (hp : place id = true) (hn : id ≠ v.id) : Den PP 49 [.ptr 0 0 0, .int .i64 id] [viewBox v 1 2, psB v, xsB v] (.tup [])
    (if roomV v id then [viewBox (knownV v id) 3 4, ⟨v.peers.map Peer.row, 2, .app⟩, ⟨v.passive.map irow, 1, .app⟩, psB (knownV v id), xsB (knownV v id)] else [viewBox v 1 2, psB v, xsB v]) := by
  obtain ⟨p1, p2, p3, p4⟩ := viewMay_parts hv
  have c1 := view_Peer v id (by unfold cap; omega) (peersMay_rowed p1)
  rw [peerIs_mem p1 hp] at c1
  have c2 := view_Passive v id (by unfold cap; omega)
  have c3 := hello_room v (by omega) (by omega)
  have c4 := passive_Without v.passive id (by unfold cap; omega)
  rw [show withoutP v.passive id = (v.passive.filter fun y => !decide (y = id), 0) by simp [withoutP, p2, hp]] at c4
  have c5 := peers_Heard v.id v.peers id (by unfold cap16; omega)
  have hk := (knownV_may hv hp hn).2
  have hkv : roomV v id = true → knownV v id = ⟨v.id, hearG v.id id false v.peers, v.passive.filter fun y => !decide (y = id)⟩ := by intro h; unfold knownV; rw [if_pos h]
  unfold viewBox psB xsB
  cases hr : roomV v id with
  | false =>
    clear hk hkv c4 c5
    simp only [Bool.false_eq_true, if_false]
    simp only [roomV, knowsV] at hr
    generalize (v.peers.map Peer.id).contains id = A at *
    generalize v.passive.contains id = B at *
    generalize decide (v.peers.length + v.passive.length < 16) = R at *
    simp only [View.cells, peersD, intsD] at c1 c2 c3
    clear p1 p2 p3 p4 hv hp hn
    simp only [Bool.or_eq_false_iff] at hr
    obtain ⟨⟨rfl, rfl⟩, rfl⟩ := hr
    refine den_of [27, 43] [] is_hello_heard ?_
    simp -implicitDefEqProofs [c_hello_heard]
    repeat' (first | (refine callThen_of (by first | exact c1 | exact c2 | exact c3) ?_; simp -implicitDefEqProofs [*, downTo]) | (with_reducible refine gOps_dec (fun _ => ?_) (fun _ => ?_) <;> simp -implicitDefEqProofs [*, downTo]) | (with_reducible refine gOps_ndec (fun _ => ?_) (fun _ => ?_) <;> simp -implicitDefEqProofs [*, downTo]) | (with_reducible refine gOps_and (fun hq => ?_) (fun hq => ?_) <;> (try simp at hq) <;> simp -implicitDefEqProofs [*, downTo]) | (with_reducible refine gOps_or (fun hq => ?_) (fun hq => ?_) <;> (try simp at hq) <;> simp -implicitDefEqProofs [*, downTo]) | (with_reducible refine gOps_not (fun hq => ?_) (fun hq => ?_) <;> (try simp at hq) <;> simp -implicitDefEqProofs [*, downTo]) | (with_reducible refine gOps_split (fun hq => ?_) (fun hq => ?_) <;> (try simp at hq) <;> simp -implicitDefEqProofs [*, downTo]) | (with_reducible refine condC_dec (fun _ => ?_) (fun _ => ?_) <;> simp -implicitDefEqProofs [*, downTo]) | (with_reducible refine condC_ndec (fun _ => ?_) (fun _ => ?_) <;> simp -implicitDefEqProofs [*, downTo]) | (with_reducible refine condC_and (fun hq => ?_) (fun hq => ?_) <;> (try simp at hq) <;> simp -implicitDefEqProofs [*, downTo]) | (with_reducible refine condC_or (fun hq => ?_) (fun hq => ?_) <;> (try simp at hq) <;> simp -implicitDefEqProofs [*, downTo]) | (with_reducible refine condC_not (fun hq => ?_) (fun hq => ?_) <;> (try simp at hq) <;> simp -implicitDefEqProofs [*, downTo]) | (with_reducible refine condC_split (fun hq => ?_) (fun hq => ?_) <;> (try simp at hq) <;> simp -implicitDefEqProofs [*, downTo]) | (refine appK2_if (by omega) ?_; simp -implicitDefEqProofs [*, downTo]) | (refine pureV_if (by omega) ?_; simp -implicitDefEqProofs [*, downTo]))
  | true =>
    simp only [if_true]
    rw [hkv hr]
    rw [hk hr] at c5
    clear hk hkv
    simp only [roomV, knowsV] at hr
    generalize hearG v.id id false v.peers = ps at *
    generalize (v.passive.filter fun y => !decide (y = id)) = xs at *
    generalize (v.peers.map Peer.id).contains id = A at *
    generalize v.passive.contains id = B at *
    generalize decide (v.peers.length + v.passive.length < 16) = R at *
    simp only [View.cells, peersD, intsD] at c1 c2 c3 c4 c5
    clear p1 p2 p3 p4 hv hp hn
    refine den_of [27, 43] [] is_hello_heard ?_
    cases A <;> cases B <;> cases R
    all_goals try (simp at hr; done)
    all_goals
      clear hr
      simp -implicitDefEqProofs [c_hello_heard]
      repeat' (first | (refine callThen_of (by first | exact c1 | exact c2 | exact c3 | exact c4 | exact c5) ?_; simp -implicitDefEqProofs [*, downTo]) | (with_reducible refine gOps_dec (fun _ => ?_) (fun _ => ?_) <;> simp -implicitDefEqProofs [*, downTo]) | (with_reducible refine gOps_ndec (fun _ => ?_) (fun _ => ?_) <;> simp -implicitDefEqProofs [*, downTo]) | (with_reducible refine gOps_and (fun hq => ?_) (fun hq => ?_) <;> (try simp at hq) <;> simp -implicitDefEqProofs [*, downTo]) | (with_reducible refine gOps_or (fun hq => ?_) (fun hq => ?_) <;> (try simp at hq) <;> simp -implicitDefEqProofs [*, downTo]) | (with_reducible refine gOps_not (fun hq => ?_) (fun hq => ?_) <;> (try simp at hq) <;> simp -implicitDefEqProofs [*, downTo]) | (with_reducible refine gOps_split (fun hq => ?_) (fun hq => ?_) <;> (try simp at hq) <;> simp -implicitDefEqProofs [*, downTo]) | (with_reducible refine condC_dec (fun _ => ?_) (fun _ => ?_) <;> simp -implicitDefEqProofs [*, downTo]) | (with_reducible refine condC_ndec (fun _ => ?_) (fun _ => ?_) <;> simp -implicitDefEqProofs [*, downTo]) | (with_reducible refine condC_and (fun hq => ?_) (fun hq => ?_) <;> (try simp at hq) <;> simp -implicitDefEqProofs [*, downTo]) | (with_reducible refine condC_or (fun hq => ?_) (fun hq => ?_) <;> (try simp at hq) <;> simp -implicitDefEqProofs [*, downTo]) | (with_reducible refine condC_not (fun hq => ?_) (fun hq => ?_) <;> (try simp at hq) <;> simp -implicitDefEqProofs [*, downTo]) | (with_reducible refine condC_split (fun hq => ?_) (fun hq => ?_) <;> (try simp at hq) <;> simp -implicitDefEqProofs [*, downTo]) | (refine appK2_if (by omega) ?_; simp -implicitDefEqProofs [*, downTo]) | (refine pureV_if (by omega) ?_; simp -implicitDefEqProofs [*, downTo]))
end Go.AM
/- AM: contracts: a greeting is taken. -/
namespace Go.AM
set_option linter.unusedSimpArgs false
set_option linter.unusedVariables false
set_option maxRecDepth 8000
set_option maxHeartbeats 0
theorem hello_Take_no (v : View) (a : Int) (ids : List Int) (hs : v.small) (hl : ids.length ≤ cap) (h : helloOk v a ids = false) : Den PP 17 [viewD v, .int .i64 a, intsD ids] [] (.tup [.agg [.int .i64 0, .nil, .nil], .int .i64 1000]) [] := by
  have c1 := view_May v hs
  have c2 := ring_Place a
  have c3 := ring_Places ids hl
  have e1 : decide (ids.length ≤ 16) = !decide ((16 : Int) < ids.length) := by
    rw [← decide_not, decide_eq_decide]; omega
  unfold helloOk at h
  rw [e1] at h
  clear e1
  simp only [viewD, View.cells, peersD, intsD] at c1 c3 ⊢
  generalize viewMay v = A at *
  generalize place a = B at *
  generalize ids.all place = C at *
  refine den_of [37] [38, 60] is_hello_Take ?_
  cases A <;> cases B <;> cases C
  all_goals
    simp -implicitDefEqProofs [c_hello_Take]
    repeat' (first | (refine callThen_of (by first | exact c1 | exact c2 | exact c3) ?_; simp -implicitDefEqProofs [*]) | (with_reducible refine gOps_dec (fun _ => ?_) (fun _ => ?_) <;> simp -implicitDefEqProofs [*]) | (with_reducible refine gOps_ndec (fun _ => ?_) (fun _ => ?_) <;> simp -implicitDefEqProofs [*]) | (with_reducible refine gOps_and (fun hq => ?_) (fun hq => ?_) <;> (try simp at hq) <;> simp -implicitDefEqProofs [*]) | (with_reducible refine gOps_or (fun hq => ?_) (fun hq => ?_) <;> (try simp at hq) <;> simp -implicitDefEqProofs [*]) | (with_reducible refine gOps_not (fun hq => ?_) (fun hq => ?_) <;> (try simp at hq) <;> simp -implicitDefEqProofs [*]) | (with_reducible refine gOps_split (fun hq => ?_) (fun hq => ?_) <;> (try simp at hq) <;> simp -implicitDefEqProofs [*]) | (with_reducible refine condC_dec (fun _ => ?_) (fun _ => ?_) <;> simp -implicitDefEqProofs [*]) | (with_reducible refine condC_ndec (fun _ => ?_) (fun _ => ?_) <;> simp -implicitDefEqProofs [*]) | (with_reducible refine condC_and (fun hq => ?_) (fun hq => ?_) <;> (try simp at hq) <;> simp -implicitDefEqProofs [*]) | (with_reducible refine condC_or (fun hq => ?_) (fun hq => ?_) <;> (try simp at hq) <;> simp -implicitDefEqProofs [*]) | (with_reducible refine condC_not (fun hq => ?_) (fun hq => ?_) <;> (try simp at hq) <;> simp -implicitDefEqProofs [*]) | (with_reducible refine condC_split (fun hq => ?_) (fun hq => ?_) <;> (try simp at hq) <;> simp -implicitDefEqProofs [*]) | (refine appK2_if (by omega) ?_; simp -implicitDefEqProofs [*]) | (refine pureV_if (by omega) ?_; simp -implicitDefEqProofs [*]))
  all_goals (exfalso; simp at h; grind)
theorem tellV_full {v : View} (h : 16 ≤ sizeV v) (x : Int) : tellV v x = v := by
  unfold tellV
  split
  · rename_i hc
    simp only [Bool.and_eq_true, Bool.not_eq_true'] at hc
    apply knownV_no
    unfold roomV
    rw [hc.2]
    unfold sizeV at h
    simp
    omega
  · rfl
theorem tells_full {v : View} (h : 16 ≤ sizeV v) : ∀ ids : List Int, ids.foldl tellV v = v := by
  intro ids
  induction ids with
  | nil => rfl
  | cons x ids ih => rw [List.foldl_cons, tellV_full h, ih]
theorem take_next {ids : List Int} {i : Nat} {x : Int} (h : ids[i]? = some x) (w0 : View) : (ids.take (i + 1)).foldl tellV w0 = tellV ((ids.take i).foldl tellV w0) x := by
  rw [List.take_add_one, h]
  simp
def B_Take (w : View) (bs : List Blk) : Prop := (∃ d0 d2 d3, bs = [d0, ⟨[[.int .i64 0, .nil, .nil]], 3, .box⟩, d2, d3, viewBox w 5 6, psB w, xsB w]) ∨ ∃ d0 d2 d3 d5 d6, bs = [d0, ⟨[[.int .i64 0, .nil, .nil]], 3, .box⟩, d2, d3, viewBox w 7 8, d5, d6, psB w, xsB w]
theorem hello_Take_yes (v : View) (a : Int) (ids : List Int) (hs : v.small) (h : helloOk v a ids = true) (hr : roomV v a = true) : Den PP 17 [viewD v, .int .i64 a, intsD ids] [] (.tup [.agg [.int .i64 v.id, .ref 0 0 (helloV v a ids).peers.length, .ref 1 0 (helloV v a ids).passive.length], .int .i64 0]) [psB (helloV v a ids), xsB (helloV v a ids)] := by
  obtain ⟨k1, k2, k3, k4, k5⟩ := helloOk_parts h
  have hcap : ids.length ≤ cap := by unfold cap; omega
  have c1 := view_May v hs
  have c2 := ring_Place a
  have c3 := ring_Places ids hcap
  have c4 := view_Copy v hs
  rw [k1] at c1
  rw [k2] at c2
  rw [show ids.all place = true from List.all_eq_true.2 k5] at c3
  have c5 := hello_heard v a k1 k2 k3
  rw [if_pos hr] at c5
  have hw0 := (knownV_may k1 k2 k3).1
  have hid0 := knownV_id v a
  have hk4 : ¬ (16 : Int) < ids.length := by omega
  unfold helloV
  generalize knownV v a = w0 at *
  have key : ∀ i, viewMay ((ids.take i).foldl tellV w0) = true ∧ ((ids.take i).foldl tellV w0).id = v.id := by
    intro i
    obtain ⟨e1, e2⟩ := tells_may (ids.take i) w0 hw0 (fun x hx => k5 x (List.mem_of_mem_take hx))
    exact ⟨e1, by rw [e2, hid0]⟩
  simp only [viewD, View.cells, peersD, intsD, viewBox, psB, xsB] at c1 c3 c4 c5 ⊢
  clear k1 k2 hs h hr
  refine den_of [37] [38, 60] is_hello_Take ?_
  simp -implicitDefEqProofs [c_hello_Take, hk4, k3]
  repeat' (first | (refine callThen_of (by first | exact c1 | exact c2 | exact c3 | exact c4) ?_; simp -implicitDefEqProofs [*, downTo, hk4, k3]) | (with_reducible refine gOps_dec (fun _ => ?_) (fun _ => ?_) <;> simp -implicitDefEqProofs [*, downTo, hk4, k3]) | (with_reducible refine gOps_ndec (fun _ => ?_) (fun _ => ?_) <;> simp -implicitDefEqProofs [*, downTo, hk4, k3]) | (with_reducible refine gOps_and (fun hq => ?_) (fun hq => ?_) <;> (try simp at hq) <;> simp -implicitDefEqProofs [*, downTo, hk4, k3]) | (with_reducible refine gOps_or (fun hq => ?_) (fun hq => ?_) <;> (try simp at hq) <;> simp -implicitDefEqProofs [*, downTo, hk4, k3]) | (with_reducible refine gOps_not (fun hq => ?_) (fun hq => ?_) <;> (try simp at hq) <;> simp -implicitDefEqProofs [*, downTo, hk4, k3]) | (with_reducible refine gOps_split (fun hq => ?_) (fun hq => ?_) <;> (try simp at hq) <;> simp -implicitDefEqProofs [*, downTo, hk4, k3]) | (with_reducible refine condC_dec (fun _ => ?_) (fun _ => ?_) <;> simp -implicitDefEqProofs [*, downTo, hk4, k3]) | (with_reducible refine condC_ndec (fun _ => ?_) (fun _ => ?_) <;> simp -implicitDefEqProofs [*, downTo, hk4, k3]) | (with_reducible refine condC_and (fun hq => ?_) (fun hq => ?_) <;> (try simp at hq) <;> simp -implicitDefEqProofs [*, downTo, hk4, k3]) | (with_reducible refine condC_or (fun hq => ?_) (fun hq => ?_) <;> (try simp at hq) <;> simp -implicitDefEqProofs [*, downTo, hk4, k3]) | (with_reducible refine condC_not (fun hq => ?_) (fun hq => ?_) <;> (try simp at hq) <;> simp -implicitDefEqProofs [*, downTo, hk4, k3]) | (with_reducible refine condC_split (fun hq => ?_) (fun hq => ?_) <;> (try simp at hq) <;> simp -implicitDefEqProofs [*, downTo, hk4, k3]) | (refine appK2_if (by omega) ?_; simp -implicitDefEqProofs [*, downTo, hk4, k3]) | (refine pureV_if (by omega) ?_; simp -implicitDefEqProofs [*, downTo, hk4, k3]))
  refine lendThen_frame [4, 2, 3] rfl (by decide) (by simp) c5 (by simp) (by simp [lentBs]) ?_
  simp -implicitDefEqProofs [framed]
  refine list_keep ids (fun i rest => fun ⟨fr, bs⟩ => B_Take ((ids.take i).foldl tellV w0) bs ∧ fr 6 = .ptr 1 0 0 ∧ fr 8 = .ptr 4 0 0 ∧ fr 40 = .sl (ids.map irow) ids.length ∧ fr 41 = .int .i64 ids.length ∧ fr 42 = .int .i64 i)
    (fun ⟨fr, bs⟩ => B_Take (ids.foldl tellV w0) bs ∧ fr 6 = .ptr 1 0 0 ∧ fr 8 = .ptr 4 0 0) (fun _ => False) c_hello_Take_L0.eq_1 ?_ ?_ ?_ ?_ ?_
  · exact ⟨.inl ⟨_, _, _, by simp [viewBox, psB, xsB]; exact ⟨rfl, rfl, rfl⟩⟩, by simp, by simp, by simp, by simp, by simp⟩
  · rintro i ⟨fr, bs⟩ hi ⟨hB, h6, h8, h40, h41, h42⟩
    rw [hi, List.take_length] at hB
    simp -implicitDefEqProofs [h6, h8, h40, h41, h42, hi]
    exact hB
  · rintro i x rest ⟨fr, bs⟩ hlt hget hg hd hd2 ⟨hB, h6, h8, h40, h41, h42⟩
    obtain ⟨w, hw⟩ : ∃ w, w = (ids.take i).foldl tellV w0 := ⟨_, rfl⟩
    rw [← hw] at hB
    have hlt' : (i : Int) < ids.length := by omega
    have hwr := wrap_next (n := i) (by omega)
    have hx := k5 x (List.mem_of_getElem? hget)
    have hkey := key i
    rw [← hw] at hkey
    obtain ⟨hm, hid⟩ := hkey
    have hnext := take_next hget w0
    rw [← hw] at hnext
    obtain ⟨p1, p2, p3, p4⟩ := viewMay_parts hm
    have v1 := view_Peer w x (by unfold cap; omega) (peersMay_rowed p1)
    rw [peerIs_mem p1 hx] at v1
    have v2 := view_Passive w x (by unfold cap; omega)
    have v3 : x ≠ w.id → _ := fun hn => hello_heard w x hm hx hn
    clear c1 c2 c3 c4 c5 key hw p1 p2 p3 p4
    obtain ⟨A, hA⟩ : ∃ A, (w.peers.map Peer.id).contains x = A := ⟨_, rfl⟩
    obtain ⟨C, hC⟩ : ∃ C, w.passive.contains x = C := ⟨_, rfl⟩
    have hkn : knowsV w x = (A || C) := by rw [← hA, ← hC]; rfl
    rw [hA] at v1
    rw [hC] at v2
    clear hA hC
    simp only [View.cells, peersD, intsD] at v1 v2
    have hr7 : List.range 7 = [0, 1, 2, 3, 4, 5, 6] := rfl
    clear hid hm
    by_cases hn : x = w.id
    · have ht : tellV w x = w := by unfold tellV; simp [hn]
      rw [ht] at hnext
      rcases hB with ⟨d0, d2, d3, rfl⟩ | ⟨d0, d2, d3, d5, d6, rfl⟩
      · simp -implicitDefEqProofs [h6, h8, h40, h41, h42, hlt, hlt', hget, hg, hn, hwr, viewBox, psB, xsB, irow]
        refine ⟨[], ⟨by simp, by simp, by simp⟩, ?_⟩
        unfold keepSt pickSt
        dsimp only
        try rw [hnext]
        exact ⟨.inl ⟨_, _, _, by simp [lentBs, hr7, viewBox, psB, xsB, irow]; repeat' (first | rfl | apply And.intro)⟩, by simp [h6, hr7], by simp [h8, hr7], by simp [h40], by simp [h41], by simp⟩
      · simp -implicitDefEqProofs [h6, h8, h40, h41, h42, hlt, hlt', hget, hg, hn, hwr, viewBox, psB, xsB, irow]
        refine ⟨[7, 8], ⟨by simp, by simp, by simp⟩, ?_⟩
        unfold keepSt pickSt
        dsimp only
        try rw [hnext]
        exact ⟨.inr ⟨_, _, _, _, _, by simp [lentBs, hr7, viewBox, psB, xsB, irow]; repeat' (first | rfl | apply And.intro)⟩, by simp [h6, hr7], by simp [h8, hr7], by simp [h40], by simp [h41], by simp⟩
    · have v4 := v3 hn
      clear v3
      cases hAC : (A || C) with
      | true =>
        have ht : tellV w x = w := by unfold tellV; simp [hkn, hAC]
        rw [ht] at hnext
        clear v4 hkn ht
        rcases hB with ⟨d0, d2, d3, rfl⟩ | ⟨d0, d2, d3, d5, d6, rfl⟩
        · cases A <;> cases C
          all_goals try (simp at hAC; done)
          all_goals
            clear hAC
            simp -implicitDefEqProofs [h6, h8, h40, h41, h42, hlt, hlt', hget, hg, hn, hwr, viewBox, psB, xsB, irow]
            repeat' (first | (refine callThen_of (by first | exact v1 | exact v2) ?_; simp -implicitDefEqProofs [*, h6, h8, h40, h41, h42, hlt, hlt', hget, hg, hn, hwr, viewBox, psB, xsB, irow]) | (with_reducible refine gOps_dec (fun _ => ?_) (fun _ => ?_) <;> simp -implicitDefEqProofs [*, h6, h8, h40, h41, h42, hlt, hlt', hget, hg, hn, hwr, viewBox, psB, xsB, irow]) | (with_reducible refine gOps_ndec (fun _ => ?_) (fun _ => ?_) <;> simp -implicitDefEqProofs [*, h6, h8, h40, h41, h42, hlt, hlt', hget, hg, hn, hwr, viewBox, psB, xsB, irow]) | (with_reducible refine gOps_and (fun hq => ?_) (fun hq => ?_) <;> (try simp at hq) <;> simp -implicitDefEqProofs [*, h6, h8, h40, h41, h42, hlt, hlt', hget, hg, hn, hwr, viewBox, psB, xsB, irow]) | (with_reducible refine gOps_or (fun hq => ?_) (fun hq => ?_) <;> (try simp at hq) <;> simp -implicitDefEqProofs [*, h6, h8, h40, h41, h42, hlt, hlt', hget, hg, hn, hwr, viewBox, psB, xsB, irow]) | (with_reducible refine gOps_not (fun hq => ?_) (fun hq => ?_) <;> (try simp at hq) <;> simp -implicitDefEqProofs [*, h6, h8, h40, h41, h42, hlt, hlt', hget, hg, hn, hwr, viewBox, psB, xsB, irow]) | (with_reducible refine gOps_split (fun hq => ?_) (fun hq => ?_) <;> (try simp at hq) <;> simp -implicitDefEqProofs [*, h6, h8, h40, h41, h42, hlt, hlt', hget, hg, hn, hwr, viewBox, psB, xsB, irow]) | (with_reducible refine condC_dec (fun _ => ?_) (fun _ => ?_) <;> simp -implicitDefEqProofs [*, h6, h8, h40, h41, h42, hlt, hlt', hget, hg, hn, hwr, viewBox, psB, xsB, irow]) | (with_reducible refine condC_ndec (fun _ => ?_) (fun _ => ?_) <;> simp -implicitDefEqProofs [*, h6, h8, h40, h41, h42, hlt, hlt', hget, hg, hn, hwr, viewBox, psB, xsB, irow]) | (with_reducible refine condC_and (fun hq => ?_) (fun hq => ?_) <;> (try simp at hq) <;> simp -implicitDefEqProofs [*, h6, h8, h40, h41, h42, hlt, hlt', hget, hg, hn, hwr, viewBox, psB, xsB, irow]) | (with_reducible refine condC_or (fun hq => ?_) (fun hq => ?_) <;> (try simp at hq) <;> simp -implicitDefEqProofs [*, h6, h8, h40, h41, h42, hlt, hlt', hget, hg, hn, hwr, viewBox, psB, xsB, irow]) | (with_reducible refine condC_not (fun hq => ?_) (fun hq => ?_) <;> (try simp at hq) <;> simp -implicitDefEqProofs [*, h6, h8, h40, h41, h42, hlt, hlt', hget, hg, hn, hwr, viewBox, psB, xsB, irow]) | (with_reducible refine condC_split (fun hq => ?_) (fun hq => ?_) <;> (try simp at hq) <;> simp -implicitDefEqProofs [*, h6, h8, h40, h41, h42, hlt, hlt', hget, hg, hn, hwr, viewBox, psB, xsB, irow]) | (refine appK2_if (by omega) ?_; simp -implicitDefEqProofs [*, h6, h8, h40, h41, h42, hlt, hlt', hget, hg, hn, hwr, viewBox, psB, xsB, irow]) | (refine pureV_if (by omega) ?_; simp -implicitDefEqProofs [*, h6, h8, h40, h41, h42, hlt, hlt', hget, hg, hn, hwr, viewBox, psB, xsB, irow]))
            refine ⟨[], ⟨by simp, by simp, by simp⟩, ?_⟩
            unfold keepSt pickSt
            dsimp only
            try rw [hnext]
            exact ⟨.inl ⟨_, _, _, by simp [lentBs, hr7, viewBox, psB, xsB, irow]; repeat' (first | rfl | apply And.intro)⟩, by simp [h6, hr7], by simp [h8, hr7], by simp [h40], by simp [h41], by simp⟩
        · cases A <;> cases C
          all_goals try (simp at hAC; done)
          all_goals
            clear hAC
            simp -implicitDefEqProofs [h6, h8, h40, h41, h42, hlt, hlt', hget, hg, hn, hwr, viewBox, psB, xsB, irow]
            repeat' (first | (refine callThen_of (by first | exact v1 | exact v2) ?_; simp -implicitDefEqProofs [*, h6, h8, h40, h41, h42, hlt, hlt', hget, hg, hn, hwr, viewBox, psB, xsB, irow]) | (with_reducible refine gOps_dec (fun _ => ?_) (fun _ => ?_) <;> simp -implicitDefEqProofs [*, h6, h8, h40, h41, h42, hlt, hlt', hget, hg, hn, hwr, viewBox, psB, xsB, irow]) | (with_reducible refine gOps_ndec (fun _ => ?_) (fun _ => ?_) <;> simp -implicitDefEqProofs [*, h6, h8, h40, h41, h42, hlt, hlt', hget, hg, hn, hwr, viewBox, psB, xsB, irow]) | (with_reducible refine gOps_and (fun hq => ?_) (fun hq => ?_) <;> (try simp at hq) <;> simp -implicitDefEqProofs [*, h6, h8, h40, h41, h42, hlt, hlt', hget, hg, hn, hwr, viewBox, psB, xsB, irow]) | (with_reducible refine gOps_or (fun hq => ?_) (fun hq => ?_) <;> (try simp at hq) <;> simp -implicitDefEqProofs [*, h6, h8, h40, h41, h42, hlt, hlt', hget, hg, hn, hwr, viewBox, psB, xsB, irow]) | (with_reducible refine gOps_not (fun hq => ?_) (fun hq => ?_) <;> (try simp at hq) <;> simp -implicitDefEqProofs [*, h6, h8, h40, h41, h42, hlt, hlt', hget, hg, hn, hwr, viewBox, psB, xsB, irow]) | (with_reducible refine gOps_split (fun hq => ?_) (fun hq => ?_) <;> (try simp at hq) <;> simp -implicitDefEqProofs [*, h6, h8, h40, h41, h42, hlt, hlt', hget, hg, hn, hwr, viewBox, psB, xsB, irow]) | (with_reducible refine condC_dec (fun _ => ?_) (fun _ => ?_) <;> simp -implicitDefEqProofs [*, h6, h8, h40, h41, h42, hlt, hlt', hget, hg, hn, hwr, viewBox, psB, xsB, irow]) | (with_reducible refine condC_ndec (fun _ => ?_) (fun _ => ?_) <;> simp -implicitDefEqProofs [*, h6, h8, h40, h41, h42, hlt, hlt', hget, hg, hn, hwr, viewBox, psB, xsB, irow]) | (with_reducible refine condC_and (fun hq => ?_) (fun hq => ?_) <;> (try simp at hq) <;> simp -implicitDefEqProofs [*, h6, h8, h40, h41, h42, hlt, hlt', hget, hg, hn, hwr, viewBox, psB, xsB, irow]) | (with_reducible refine condC_or (fun hq => ?_) (fun hq => ?_) <;> (try simp at hq) <;> simp -implicitDefEqProofs [*, h6, h8, h40, h41, h42, hlt, hlt', hget, hg, hn, hwr, viewBox, psB, xsB, irow]) | (with_reducible refine condC_not (fun hq => ?_) (fun hq => ?_) <;> (try simp at hq) <;> simp -implicitDefEqProofs [*, h6, h8, h40, h41, h42, hlt, hlt', hget, hg, hn, hwr, viewBox, psB, xsB, irow]) | (with_reducible refine condC_split (fun hq => ?_) (fun hq => ?_) <;> (try simp at hq) <;> simp -implicitDefEqProofs [*, h6, h8, h40, h41, h42, hlt, hlt', hget, hg, hn, hwr, viewBox, psB, xsB, irow]) | (refine appK2_if (by omega) ?_; simp -implicitDefEqProofs [*, h6, h8, h40, h41, h42, hlt, hlt', hget, hg, hn, hwr, viewBox, psB, xsB, irow]) | (refine pureV_if (by omega) ?_; simp -implicitDefEqProofs [*, h6, h8, h40, h41, h42, hlt, hlt', hget, hg, hn, hwr, viewBox, psB, xsB, irow]))
            refine ⟨[7, 8], ⟨by simp, by simp, by simp⟩, ?_⟩
            unfold keepSt pickSt
            dsimp only
            try rw [hnext]
            exact ⟨.inr ⟨_, _, _, _, _, by simp [lentBs, hr7, viewBox, psB, xsB, irow]; repeat' (first | rfl | apply And.intro)⟩, by simp [h6, hr7], by simp [h8, hr7], by simp [h40], by simp [h41], by simp⟩
      | false =>
        simp only [Bool.or_eq_false_iff] at hAC
        obtain ⟨rfl, rfl⟩ := hAC
        have ht : tellV w x = knownV w x := by unfold tellV; simp [hkn, hn]
        rw [ht] at hnext
        clear ht hkn
        cases hr : roomV w x with
        | false =>
          rw [knownV_no hr] at hnext
          rw [if_neg (by simp [hr])] at v4
          clear hr
          simp only [viewBox, psB, xsB] at v4
          rcases hB with ⟨d0, d2, d3, rfl⟩ | ⟨d0, d2, d3, d5, d6, rfl⟩
          · simp -implicitDefEqProofs [h6, h8, h40, h41, h42, hlt, hlt', hget, hg, hn, hwr, viewBox, psB, xsB, irow]
            repeat' (first | (refine callThen_of (by first | exact v1 | exact v2) ?_; simp -implicitDefEqProofs [*, h6, h8, h40, h41, h42, hlt, hlt', hget, hg, hn, hwr, viewBox, psB, xsB, irow]) | (with_reducible refine gOps_dec (fun _ => ?_) (fun _ => ?_) <;> simp -implicitDefEqProofs [*, h6, h8, h40, h41, h42, hlt, hlt', hget, hg, hn, hwr, viewBox, psB, xsB, irow]) | (with_reducible refine gOps_ndec (fun _ => ?_) (fun _ => ?_) <;> simp -implicitDefEqProofs [*, h6, h8, h40, h41, h42, hlt, hlt', hget, hg, hn, hwr, viewBox, psB, xsB, irow]) | (with_reducible refine gOps_and (fun hq => ?_) (fun hq => ?_) <;> (try simp at hq) <;> simp -implicitDefEqProofs [*, h6, h8, h40, h41, h42, hlt, hlt', hget, hg, hn, hwr, viewBox, psB, xsB, irow]) | (with_reducible refine gOps_or (fun hq => ?_) (fun hq => ?_) <;> (try simp at hq) <;> simp -implicitDefEqProofs [*, h6, h8, h40, h41, h42, hlt, hlt', hget, hg, hn, hwr, viewBox, psB, xsB, irow]) | (with_reducible refine gOps_not (fun hq => ?_) (fun hq => ?_) <;> (try simp at hq) <;> simp -implicitDefEqProofs [*, h6, h8, h40, h41, h42, hlt, hlt', hget, hg, hn, hwr, viewBox, psB, xsB, irow]) | (with_reducible refine gOps_split (fun hq => ?_) (fun hq => ?_) <;> (try simp at hq) <;> simp -implicitDefEqProofs [*, h6, h8, h40, h41, h42, hlt, hlt', hget, hg, hn, hwr, viewBox, psB, xsB, irow]) | (with_reducible refine condC_dec (fun _ => ?_) (fun _ => ?_) <;> simp -implicitDefEqProofs [*, h6, h8, h40, h41, h42, hlt, hlt', hget, hg, hn, hwr, viewBox, psB, xsB, irow]) | (with_reducible refine condC_ndec (fun _ => ?_) (fun _ => ?_) <;> simp -implicitDefEqProofs [*, h6, h8, h40, h41, h42, hlt, hlt', hget, hg, hn, hwr, viewBox, psB, xsB, irow]) | (with_reducible refine condC_and (fun hq => ?_) (fun hq => ?_) <;> (try simp at hq) <;> simp -implicitDefEqProofs [*, h6, h8, h40, h41, h42, hlt, hlt', hget, hg, hn, hwr, viewBox, psB, xsB, irow]) | (with_reducible refine condC_or (fun hq => ?_) (fun hq => ?_) <;> (try simp at hq) <;> simp -implicitDefEqProofs [*, h6, h8, h40, h41, h42, hlt, hlt', hget, hg, hn, hwr, viewBox, psB, xsB, irow]) | (with_reducible refine condC_not (fun hq => ?_) (fun hq => ?_) <;> (try simp at hq) <;> simp -implicitDefEqProofs [*, h6, h8, h40, h41, h42, hlt, hlt', hget, hg, hn, hwr, viewBox, psB, xsB, irow]) | (with_reducible refine condC_split (fun hq => ?_) (fun hq => ?_) <;> (try simp at hq) <;> simp -implicitDefEqProofs [*, h6, h8, h40, h41, h42, hlt, hlt', hget, hg, hn, hwr, viewBox, psB, xsB, irow]) | (refine appK2_if (by omega) ?_; simp -implicitDefEqProofs [*, h6, h8, h40, h41, h42, hlt, hlt', hget, hg, hn, hwr, viewBox, psB, xsB, irow]) | (refine pureV_if (by omega) ?_; simp -implicitDefEqProofs [*, h6, h8, h40, h41, h42, hlt, hlt', hget, hg, hn, hwr, viewBox, psB, xsB, irow]))
            refine lendThen_frame [4, 5, 6] rfl (by decide) (by simp) v4 (by simp) (by simp [lentBs]) ?_
            simp -implicitDefEqProofs [framed, h6, h8, h40, h41, h42, hlt, hlt', hget, hg, hn, hwr, viewBox, psB, xsB, irow]
            refine ⟨[], ⟨by simp, by simp, by simp⟩, ?_⟩
            unfold keepSt pickSt
            dsimp only
            try rw [hnext]
            exact ⟨.inl ⟨_, _, _, by simp [lentBs, hr7, viewBox, psB, xsB, irow]; repeat' (first | rfl | apply And.intro)⟩, by simp [h6, hr7], by simp [h8, hr7], by simp [h40], by simp [h41], by simp⟩
          · simp -implicitDefEqProofs [h6, h8, h40, h41, h42, hlt, hlt', hget, hg, hn, hwr, viewBox, psB, xsB, irow]
            repeat' (first | (refine callThen_of (by first | exact v1 | exact v2) ?_; simp -implicitDefEqProofs [*, h6, h8, h40, h41, h42, hlt, hlt', hget, hg, hn, hwr, viewBox, psB, xsB, irow]) | (with_reducible refine gOps_dec (fun _ => ?_) (fun _ => ?_) <;> simp -implicitDefEqProofs [*, h6, h8, h40, h41, h42, hlt, hlt', hget, hg, hn, hwr, viewBox, psB, xsB, irow]) | (with_reducible refine gOps_ndec (fun _ => ?_) (fun _ => ?_) <;> simp -implicitDefEqProofs [*, h6, h8, h40, h41, h42, hlt, hlt', hget, hg, hn, hwr, viewBox, psB, xsB, irow]) | (with_reducible refine gOps_and (fun hq => ?_) (fun hq => ?_) <;> (try simp at hq) <;> simp -implicitDefEqProofs [*, h6, h8, h40, h41, h42, hlt, hlt', hget, hg, hn, hwr, viewBox, psB, xsB, irow]) | (with_reducible refine gOps_or (fun hq => ?_) (fun hq => ?_) <;> (try simp at hq) <;> simp -implicitDefEqProofs [*, h6, h8, h40, h41, h42, hlt, hlt', hget, hg, hn, hwr, viewBox, psB, xsB, irow]) | (with_reducible refine gOps_not (fun hq => ?_) (fun hq => ?_) <;> (try simp at hq) <;> simp -implicitDefEqProofs [*, h6, h8, h40, h41, h42, hlt, hlt', hget, hg, hn, hwr, viewBox, psB, xsB, irow]) | (with_reducible refine gOps_split (fun hq => ?_) (fun hq => ?_) <;> (try simp at hq) <;> simp -implicitDefEqProofs [*, h6, h8, h40, h41, h42, hlt, hlt', hget, hg, hn, hwr, viewBox, psB, xsB, irow]) | (with_reducible refine condC_dec (fun _ => ?_) (fun _ => ?_) <;> simp -implicitDefEqProofs [*, h6, h8, h40, h41, h42, hlt, hlt', hget, hg, hn, hwr, viewBox, psB, xsB, irow]) | (with_reducible refine condC_ndec (fun _ => ?_) (fun _ => ?_) <;> simp -implicitDefEqProofs [*, h6, h8, h40, h41, h42, hlt, hlt', hget, hg, hn, hwr, viewBox, psB, xsB, irow]) | (with_reducible refine condC_and (fun hq => ?_) (fun hq => ?_) <;> (try simp at hq) <;> simp -implicitDefEqProofs [*, h6, h8, h40, h41, h42, hlt, hlt', hget, hg, hn, hwr, viewBox, psB, xsB, irow]) | (with_reducible refine condC_or (fun hq => ?_) (fun hq => ?_) <;> (try simp at hq) <;> simp -implicitDefEqProofs [*, h6, h8, h40, h41, h42, hlt, hlt', hget, hg, hn, hwr, viewBox, psB, xsB, irow]) | (with_reducible refine condC_not (fun hq => ?_) (fun hq => ?_) <;> (try simp at hq) <;> simp -implicitDefEqProofs [*, h6, h8, h40, h41, h42, hlt, hlt', hget, hg, hn, hwr, viewBox, psB, xsB, irow]) | (with_reducible refine condC_split (fun hq => ?_) (fun hq => ?_) <;> (try simp at hq) <;> simp -implicitDefEqProofs [*, h6, h8, h40, h41, h42, hlt, hlt', hget, hg, hn, hwr, viewBox, psB, xsB, irow]) | (refine appK2_if (by omega) ?_; simp -implicitDefEqProofs [*, h6, h8, h40, h41, h42, hlt, hlt', hget, hg, hn, hwr, viewBox, psB, xsB, irow]) | (refine pureV_if (by omega) ?_; simp -implicitDefEqProofs [*, h6, h8, h40, h41, h42, hlt, hlt', hget, hg, hn, hwr, viewBox, psB, xsB, irow]))
            refine lendThen_frame [4, 7, 8] rfl (by decide) (by simp) v4 (by simp) (by simp [lentBs]) ?_
            simp -implicitDefEqProofs [framed, h6, h8, h40, h41, h42, hlt, hlt', hget, hg, hn, hwr, viewBox, psB, xsB, irow]
            refine ⟨[7, 8], ⟨by simp, by simp, by simp⟩, ?_⟩
            unfold keepSt pickSt
            dsimp only
            try rw [hnext]
            exact ⟨.inr ⟨_, _, _, _, _, by simp [lentBs, hr7, viewBox, psB, xsB, irow]; repeat' (first | rfl | apply And.intro)⟩, by simp [h6, hr7], by simp [h8, hr7], by simp [h40], by simp [h41], by simp⟩
        | true =>
          rw [if_pos hr] at v4
          generalize knownV w x = w2 at *
          clear hr
          simp only [viewBox, psB, xsB] at v4
          rcases hB with ⟨d0, d2, d3, rfl⟩ | ⟨d0, d2, d3, d5, d6, rfl⟩
          · simp -implicitDefEqProofs [h6, h8, h40, h41, h42, hlt, hlt', hget, hg, hn, hwr, viewBox, psB, xsB, irow]
            repeat' (first | (refine callThen_of (by first | exact v1 | exact v2) ?_; simp -implicitDefEqProofs [*, h6, h8, h40, h41, h42, hlt, hlt', hget, hg, hn, hwr, viewBox, psB, xsB, irow]) | (with_reducible refine gOps_dec (fun _ => ?_) (fun _ => ?_) <;> simp -implicitDefEqProofs [*, h6, h8, h40, h41, h42, hlt, hlt', hget, hg, hn, hwr, viewBox, psB, xsB, irow]) | (with_reducible refine gOps_ndec (fun _ => ?_) (fun _ => ?_) <;> simp -implicitDefEqProofs [*, h6, h8, h40, h41, h42, hlt, hlt', hget, hg, hn, hwr, viewBox, psB, xsB, irow]) | (with_reducible refine gOps_and (fun hq => ?_) (fun hq => ?_) <;> (try simp at hq) <;> simp -implicitDefEqProofs [*, h6, h8, h40, h41, h42, hlt, hlt', hget, hg, hn, hwr, viewBox, psB, xsB, irow]) | (with_reducible refine gOps_or (fun hq => ?_) (fun hq => ?_) <;> (try simp at hq) <;> simp -implicitDefEqProofs [*, h6, h8, h40, h41, h42, hlt, hlt', hget, hg, hn, hwr, viewBox, psB, xsB, irow]) | (with_reducible refine gOps_not (fun hq => ?_) (fun hq => ?_) <;> (try simp at hq) <;> simp -implicitDefEqProofs [*, h6, h8, h40, h41, h42, hlt, hlt', hget, hg, hn, hwr, viewBox, psB, xsB, irow]) | (with_reducible refine gOps_split (fun hq => ?_) (fun hq => ?_) <;> (try simp at hq) <;> simp -implicitDefEqProofs [*, h6, h8, h40, h41, h42, hlt, hlt', hget, hg, hn, hwr, viewBox, psB, xsB, irow]) | (with_reducible refine condC_dec (fun _ => ?_) (fun _ => ?_) <;> simp -implicitDefEqProofs [*, h6, h8, h40, h41, h42, hlt, hlt', hget, hg, hn, hwr, viewBox, psB, xsB, irow]) | (with_reducible refine condC_ndec (fun _ => ?_) (fun _ => ?_) <;> simp -implicitDefEqProofs [*, h6, h8, h40, h41, h42, hlt, hlt', hget, hg, hn, hwr, viewBox, psB, xsB, irow]) | (with_reducible refine condC_and (fun hq => ?_) (fun hq => ?_) <;> (try simp at hq) <;> simp -implicitDefEqProofs [*, h6, h8, h40, h41, h42, hlt, hlt', hget, hg, hn, hwr, viewBox, psB, xsB, irow]) | (with_reducible refine condC_or (fun hq => ?_) (fun hq => ?_) <;> (try simp at hq) <;> simp -implicitDefEqProofs [*, h6, h8, h40, h41, h42, hlt, hlt', hget, hg, hn, hwr, viewBox, psB, xsB, irow]) | (with_reducible refine condC_not (fun hq => ?_) (fun hq => ?_) <;> (try simp at hq) <;> simp -implicitDefEqProofs [*, h6, h8, h40, h41, h42, hlt, hlt', hget, hg, hn, hwr, viewBox, psB, xsB, irow]) | (with_reducible refine condC_split (fun hq => ?_) (fun hq => ?_) <;> (try simp at hq) <;> simp -implicitDefEqProofs [*, h6, h8, h40, h41, h42, hlt, hlt', hget, hg, hn, hwr, viewBox, psB, xsB, irow]) | (refine appK2_if (by omega) ?_; simp -implicitDefEqProofs [*, h6, h8, h40, h41, h42, hlt, hlt', hget, hg, hn, hwr, viewBox, psB, xsB, irow]) | (refine pureV_if (by omega) ?_; simp -implicitDefEqProofs [*, h6, h8, h40, h41, h42, hlt, hlt', hget, hg, hn, hwr, viewBox, psB, xsB, irow]))
            refine lendThen_frame [4, 5, 6] rfl (by decide) (by simp) v4 (by simp) (by simp [lentBs]) ?_
            simp -implicitDefEqProofs [framed, h6, h8, h40, h41, h42, hlt, hlt', hget, hg, hn, hwr, viewBox, psB, xsB, irow]
            refine ⟨[7, 8], ⟨by simp, by simp, by simp⟩, ?_⟩
            unfold keepSt pickSt
            dsimp only
            try rw [hnext]
            exact ⟨.inr ⟨_, _, _, _, _, by simp [lentBs, hr7, viewBox, psB, xsB, irow]; repeat' (first | rfl | apply And.intro)⟩, by simp [h6, hr7], by simp [h8, hr7], by simp [h40], by simp [h41], by simp⟩
          · simp -implicitDefEqProofs [h6, h8, h40, h41, h42, hlt, hlt', hget, hg, hn, hwr, viewBox, psB, xsB, irow]
            repeat' (first | (refine callThen_of (by first | exact v1 | exact v2) ?_; simp -implicitDefEqProofs [*, h6, h8, h40, h41, h42, hlt, hlt', hget, hg, hn, hwr, viewBox, psB, xsB, irow]) | (with_reducible refine gOps_dec (fun _ => ?_) (fun _ => ?_) <;> simp -implicitDefEqProofs [*, h6, h8, h40, h41, h42, hlt, hlt', hget, hg, hn, hwr, viewBox, psB, xsB, irow]) | (with_reducible refine gOps_ndec (fun _ => ?_) (fun _ => ?_) <;> simp -implicitDefEqProofs [*, h6, h8, h40, h41, h42, hlt, hlt', hget, hg, hn, hwr, viewBox, psB, xsB, irow]) | (with_reducible refine gOps_and (fun hq => ?_) (fun hq => ?_) <;> (try simp at hq) <;> simp -implicitDefEqProofs [*, h6, h8, h40, h41, h42, hlt, hlt', hget, hg, hn, hwr, viewBox, psB, xsB, irow]) | (with_reducible refine gOps_or (fun hq => ?_) (fun hq => ?_) <;> (try simp at hq) <;> simp -implicitDefEqProofs [*, h6, h8, h40, h41, h42, hlt, hlt', hget, hg, hn, hwr, viewBox, psB, xsB, irow]) | (with_reducible refine gOps_not (fun hq => ?_) (fun hq => ?_) <;> (try simp at hq) <;> simp -implicitDefEqProofs [*, h6, h8, h40, h41, h42, hlt, hlt', hget, hg, hn, hwr, viewBox, psB, xsB, irow]) | (with_reducible refine gOps_split (fun hq => ?_) (fun hq => ?_) <;> (try simp at hq) <;> simp -implicitDefEqProofs [*, h6, h8, h40, h41, h42, hlt, hlt', hget, hg, hn, hwr, viewBox, psB, xsB, irow]) | (with_reducible refine condC_dec (fun _ => ?_) (fun _ => ?_) <;> simp -implicitDefEqProofs [*, h6, h8, h40, h41, h42, hlt, hlt', hget, hg, hn, hwr, viewBox, psB, xsB, irow]) | (with_reducible refine condC_ndec (fun _ => ?_) (fun _ => ?_) <;> simp -implicitDefEqProofs [*, h6, h8, h40, h41, h42, hlt, hlt', hget, hg, hn, hwr, viewBox, psB, xsB, irow]) | (with_reducible refine condC_and (fun hq => ?_) (fun hq => ?_) <;> (try simp at hq) <;> simp -implicitDefEqProofs [*, h6, h8, h40, h41, h42, hlt, hlt', hget, hg, hn, hwr, viewBox, psB, xsB, irow]) | (with_reducible refine condC_or (fun hq => ?_) (fun hq => ?_) <;> (try simp at hq) <;> simp -implicitDefEqProofs [*, h6, h8, h40, h41, h42, hlt, hlt', hget, hg, hn, hwr, viewBox, psB, xsB, irow]) | (with_reducible refine condC_not (fun hq => ?_) (fun hq => ?_) <;> (try simp at hq) <;> simp -implicitDefEqProofs [*, h6, h8, h40, h41, h42, hlt, hlt', hget, hg, hn, hwr, viewBox, psB, xsB, irow]) | (with_reducible refine condC_split (fun hq => ?_) (fun hq => ?_) <;> (try simp at hq) <;> simp -implicitDefEqProofs [*, h6, h8, h40, h41, h42, hlt, hlt', hget, hg, hn, hwr, viewBox, psB, xsB, irow]) | (refine appK2_if (by omega) ?_; simp -implicitDefEqProofs [*, h6, h8, h40, h41, h42, hlt, hlt', hget, hg, hn, hwr, viewBox, psB, xsB, irow]) | (refine pureV_if (by omega) ?_; simp -implicitDefEqProofs [*, h6, h8, h40, h41, h42, hlt, hlt', hget, hg, hn, hwr, viewBox, psB, xsB, irow]))
            refine lendThen_frame [4, 7, 8] rfl (by decide) (by simp) v4 (by simp) (by simp [lentBs]) ?_
            simp -implicitDefEqProofs [framed, h6, h8, h40, h41, h42, hlt, hlt', hget, hg, hn, hwr, viewBox, psB, xsB, irow]
            refine ⟨[9, 10], ⟨by simp, by simp, by simp⟩, ?_⟩
            unfold keepSt pickSt
            dsimp only
            try rw [hnext]
            exact ⟨.inr ⟨_, _, _, _, _, by simp [lentBs, hr7, viewBox, psB, xsB, irow]; repeat' (first | rfl | apply And.intro)⟩, by simp [h6, hr7], by simp [h8, hr7], by simp [h40], by simp [h41], by simp⟩
  · rintro ⟨fr, bs⟩ ⟨hB, h6, h8⟩
    have hWid := (key ids.length).2
    rw [List.take_length] at hWid
    generalize ids.foldl tellV w0 = W at *
    rcases hB with ⟨d0, d2, d3, rfl⟩ | ⟨d0, d2, d3, d5, d6, rfl⟩
    · simp -implicitDefEqProofs [h6, h8, viewBox, psB, xsB, hWid]
    · simp -implicitDefEqProofs [h6, h8, viewBox, psB, xsB, hWid]
  · rintro ⟨fr, bs⟩ h
    exact h.elim
theorem hello_Take_full (v : View) (a : Int) (ids : List Int) (hs : v.small) (h : helloOk v a ids = true) (hr : roomV v a = false) : Den PP 17 [viewD v, .int .i64 a, intsD ids] [] (.tup [.agg [.int .i64 v.id, .ref 0 0 (helloV v a ids).peers.length, .ref 1 0 (helloV v a ids).passive.length], .int .i64 0]) [psB (helloV v a ids), xsB (helloV v a ids)] := by
  obtain ⟨k1, k2, k3, k4, k5⟩ := helloOk_parts h
  have hcap : ids.length ≤ cap := by unfold cap; omega
  have hsz : 16 ≤ sizeV v := by
    unfold roomV at hr
    simp at hr
    unfold sizeV
    exact hr.2
  have hW : helloV v a ids = v := by unfold helloV; rw [knownV_no hr, tells_full hsz]
  rw [hW]
  clear hW
  have c1 := view_May v hs
  have c2 := ring_Place a
  have c3 := ring_Places ids hcap
  have c4 := view_Copy v hs
  have hm := k1
  rw [k1] at c1
  rw [k2] at c2
  rw [show ids.all place = true from List.all_eq_true.2 k5] at c3
  have c5 := hello_heard v a k1 k2 k3
  rw [if_neg (by simp [hr])] at c5
  have hk4 : ¬ (16 : Int) < ids.length := by omega
  simp only [viewD, View.cells, peersD, intsD, viewBox, psB, xsB] at c1 c3 c4 c5 ⊢
  clear k1 k2 hs h hr
  refine den_of [37] [38, 60] is_hello_Take ?_
  simp -implicitDefEqProofs [c_hello_Take, hk4, k3]
  repeat' (first | (refine callThen_of (by first | exact c1 | exact c2 | exact c3 | exact c4) ?_; simp -implicitDefEqProofs [*, downTo, hk4, k3]) | (with_reducible refine gOps_dec (fun _ => ?_) (fun _ => ?_) <;> simp -implicitDefEqProofs [*, downTo, hk4, k3]) | (with_reducible refine gOps_ndec (fun _ => ?_) (fun _ => ?_) <;> simp -implicitDefEqProofs [*, downTo, hk4, k3]) | (with_reducible refine gOps_and (fun hq => ?_) (fun hq => ?_) <;> (try simp at hq) <;> simp -implicitDefEqProofs [*, downTo, hk4, k3]) | (with_reducible refine gOps_or (fun hq => ?_) (fun hq => ?_) <;> (try simp at hq) <;> simp -implicitDefEqProofs [*, downTo, hk4, k3]) | (with_reducible refine gOps_not (fun hq => ?_) (fun hq => ?_) <;> (try simp at hq) <;> simp -implicitDefEqProofs [*, downTo, hk4, k3]) | (with_reducible refine gOps_split (fun hq => ?_) (fun hq => ?_) <;> (try simp at hq) <;> simp -implicitDefEqProofs [*, downTo, hk4, k3]) | (with_reducible refine condC_dec (fun _ => ?_) (fun _ => ?_) <;> simp -implicitDefEqProofs [*, downTo, hk4, k3]) | (with_reducible refine condC_ndec (fun _ => ?_) (fun _ => ?_) <;> simp -implicitDefEqProofs [*, downTo, hk4, k3]) | (with_reducible refine condC_and (fun hq => ?_) (fun hq => ?_) <;> (try simp at hq) <;> simp -implicitDefEqProofs [*, downTo, hk4, k3]) | (with_reducible refine condC_or (fun hq => ?_) (fun hq => ?_) <;> (try simp at hq) <;> simp -implicitDefEqProofs [*, downTo, hk4, k3]) | (with_reducible refine condC_not (fun hq => ?_) (fun hq => ?_) <;> (try simp at hq) <;> simp -implicitDefEqProofs [*, downTo, hk4, k3]) | (with_reducible refine condC_split (fun hq => ?_) (fun hq => ?_) <;> (try simp at hq) <;> simp -implicitDefEqProofs [*, downTo, hk4, k3]) | (refine appK2_if (by omega) ?_; simp -implicitDefEqProofs [*, downTo, hk4, k3]) | (refine pureV_if (by omega) ?_; simp -implicitDefEqProofs [*, downTo, hk4, k3]))
  refine lendThen_frame [4, 2, 3] rfl (by decide) (by simp) c5 (by simp) (by simp [lentBs]) ?_
  simp -implicitDefEqProofs [framed]
  refine list_keep ids (fun i rest => fun ⟨fr, bs⟩ => (∃ d0, bs = [d0, ⟨[[.int .i64 0, .nil, .nil]], 3, .box⟩, psB v, xsB v, viewBox v 2 3]) ∧ fr 6 = .ptr 1 0 0 ∧ fr 8 = .ptr 4 0 0 ∧ fr 40 = .sl (ids.map irow) ids.length ∧ fr 41 = .int .i64 ids.length ∧ fr 42 = .int .i64 i)
    (fun ⟨fr, bs⟩ => (∃ d0, bs = [d0, ⟨[[.int .i64 0, .nil, .nil]], 3, .box⟩, psB v, xsB v, viewBox v 2 3]) ∧ fr 6 = .ptr 1 0 0 ∧ fr 8 = .ptr 4 0 0) (fun _ => False) c_hello_Take_L0.eq_1 ?_ ?_ ?_ ?_ ?_
  · exact ⟨⟨_, by simp [viewBox, psB, xsB]; rfl⟩, by simp, by simp, by simp, by simp, by simp⟩
  · rintro i ⟨fr, bs⟩ hi ⟨hB, h6, h8, h40, h41, h42⟩
    simp -implicitDefEqProofs [h6, h8, h40, h41, h42, hi]
    exact hB
  · rintro i x rest ⟨fr, bs⟩ hlt hget hg hd hd2 ⟨⟨d0, rfl⟩, h6, h8, h40, h41, h42⟩
    have hlt' : (i : Int) < ids.length := by omega
    have hwr := wrap_next (n := i) (by omega)
    have hx := k5 x (List.mem_of_getElem? hget)
    obtain ⟨p1, p2, p3, p4⟩ := viewMay_parts hm
    have v1 := view_Peer v x (by unfold cap; omega) (peersMay_rowed p1)
    rw [peerIs_mem p1 hx] at v1
    have v2 := view_Passive v x (by unfold cap; omega)
    have v3 : x ≠ v.id → _ := fun hn => hello_heard v x hm hx hn
    clear c1 c2 c3 c4 c5 p1 p2 p3 p4
    have hroom : knowsV v x = false → roomV v x = false := by
      intro hk
      unfold roomV
      unfold sizeV at hsz
      simp [hk, hsz]
    obtain ⟨A, hA⟩ : ∃ A, (v.peers.map Peer.id).contains x = A := ⟨_, rfl⟩
    obtain ⟨C, hC⟩ : ∃ C, v.passive.contains x = C := ⟨_, rfl⟩
    have hkn : knowsV v x = (A || C) := by rw [← hA, ← hC]; rfl
    rw [hA] at v1
    rw [hC] at v2
    clear hA hC
    simp only [View.cells, peersD, intsD] at v1 v2
    have hr5 : List.range 5 = [0, 1, 2, 3, 4] := rfl
    clear hm hsz
    by_cases hn : x = v.id
    · simp -implicitDefEqProofs [h6, h8, h40, h41, h42, hlt, hlt', hget, hg, hn, hwr, viewBox, psB, xsB, irow]
      refine ⟨[], ⟨by simp, by simp, by simp⟩, ?_⟩
      unfold keepSt pickSt
      dsimp only
      exact ⟨⟨_, by simp [lentBs, hr5, viewBox, psB, xsB, irow]; repeat' (first | rfl | apply And.intro)⟩, by simp [h6, hr5], by simp [h8, hr5], by simp [h40], by simp [h41], by simp⟩
    · have v4 := v3 hn
      clear v3
      cases hAC : (A || C) with
      | true =>
        clear v4 hkn hroom
        cases A <;> cases C
        all_goals try (simp at hAC; done)
        all_goals
          clear hAC
          simp -implicitDefEqProofs [h6, h8, h40, h41, h42, hlt, hlt', hget, hg, hn, hwr, viewBox, psB, xsB, irow]
          repeat' (first | (refine callThen_of (by first | exact v1 | exact v2) ?_; simp -implicitDefEqProofs [*, h6, h8, h40, h41, h42, hlt, hlt', hget, hg, hn, hwr, viewBox, psB, xsB, irow]) | (with_reducible refine gOps_dec (fun _ => ?_) (fun _ => ?_) <;> simp -implicitDefEqProofs [*, h6, h8, h40, h41, h42, hlt, hlt', hget, hg, hn, hwr, viewBox, psB, xsB, irow]) | (with_reducible refine gOps_ndec (fun _ => ?_) (fun _ => ?_) <;> simp -implicitDefEqProofs [*, h6, h8, h40, h41, h42, hlt, hlt', hget, hg, hn, hwr, viewBox, psB, xsB, irow]) | (with_reducible refine gOps_and (fun hq => ?_) (fun hq => ?_) <;> (try simp at hq) <;> simp -implicitDefEqProofs [*, h6, h8, h40, h41, h42, hlt, hlt', hget, hg, hn, hwr, viewBox, psB, xsB, irow]) | (with_reducible refine gOps_or (fun hq => ?_) (fun hq => ?_) <;> (try simp at hq) <;> simp -implicitDefEqProofs [*, h6, h8, h40, h41, h42, hlt, hlt', hget, hg, hn, hwr, viewBox, psB, xsB, irow]) | (with_reducible refine gOps_not (fun hq => ?_) (fun hq => ?_) <;> (try simp at hq) <;> simp -implicitDefEqProofs [*, h6, h8, h40, h41, h42, hlt, hlt', hget, hg, hn, hwr, viewBox, psB, xsB, irow]) | (with_reducible refine gOps_split (fun hq => ?_) (fun hq => ?_) <;> (try simp at hq) <;> simp -implicitDefEqProofs [*, h6, h8, h40, h41, h42, hlt, hlt', hget, hg, hn, hwr, viewBox, psB, xsB, irow]) | (with_reducible refine condC_dec (fun _ => ?_) (fun _ => ?_) <;> simp -implicitDefEqProofs [*, h6, h8, h40, h41, h42, hlt, hlt', hget, hg, hn, hwr, viewBox, psB, xsB, irow]) | (with_reducible refine condC_ndec (fun _ => ?_) (fun _ => ?_) <;> simp -implicitDefEqProofs [*, h6, h8, h40, h41, h42, hlt, hlt', hget, hg, hn, hwr, viewBox, psB, xsB, irow]) | (with_reducible refine condC_and (fun hq => ?_) (fun hq => ?_) <;> (try simp at hq) <;> simp -implicitDefEqProofs [*, h6, h8, h40, h41, h42, hlt, hlt', hget, hg, hn, hwr, viewBox, psB, xsB, irow]) | (with_reducible refine condC_or (fun hq => ?_) (fun hq => ?_) <;> (try simp at hq) <;> simp -implicitDefEqProofs [*, h6, h8, h40, h41, h42, hlt, hlt', hget, hg, hn, hwr, viewBox, psB, xsB, irow]) | (with_reducible refine condC_not (fun hq => ?_) (fun hq => ?_) <;> (try simp at hq) <;> simp -implicitDefEqProofs [*, h6, h8, h40, h41, h42, hlt, hlt', hget, hg, hn, hwr, viewBox, psB, xsB, irow]) | (with_reducible refine condC_split (fun hq => ?_) (fun hq => ?_) <;> (try simp at hq) <;> simp -implicitDefEqProofs [*, h6, h8, h40, h41, h42, hlt, hlt', hget, hg, hn, hwr, viewBox, psB, xsB, irow]) | (refine appK2_if (by omega) ?_; simp -implicitDefEqProofs [*, h6, h8, h40, h41, h42, hlt, hlt', hget, hg, hn, hwr, viewBox, psB, xsB, irow]) | (refine pureV_if (by omega) ?_; simp -implicitDefEqProofs [*, h6, h8, h40, h41, h42, hlt, hlt', hget, hg, hn, hwr, viewBox, psB, xsB, irow]))
          refine ⟨[], ⟨by simp, by simp, by simp⟩, ?_⟩
          unfold keepSt pickSt
          dsimp only
          exact ⟨⟨_, by simp [lentBs, hr5, viewBox, psB, xsB, irow]; repeat' (first | rfl | apply And.intro)⟩, by simp [h6, hr5], by simp [h8, hr5], by simp [h40], by simp [h41], by simp⟩
      | false =>
        rw [hAC] at hkn
        simp only [Bool.or_eq_false_iff] at hAC
        obtain ⟨rfl, rfl⟩ := hAC
        rw [if_neg (by simp [hroom hkn])] at v4
        clear hkn hroom
        simp only [viewBox, psB, xsB] at v4
        simp -implicitDefEqProofs [h6, h8, h40, h41, h42, hlt, hlt', hget, hg, hn, hwr, viewBox, psB, xsB, irow]
        repeat' (first | (refine callThen_of (by first | exact v1 | exact v2) ?_; simp -implicitDefEqProofs [*, h6, h8, h40, h41, h42, hlt, hlt', hget, hg, hn, hwr, viewBox, psB, xsB, irow]) | (with_reducible refine gOps_dec (fun _ => ?_) (fun _ => ?_) <;> simp -implicitDefEqProofs [*, h6, h8, h40, h41, h42, hlt, hlt', hget, hg, hn, hwr, viewBox, psB, xsB, irow]) | (with_reducible refine gOps_ndec (fun _ => ?_) (fun _ => ?_) <;> simp -implicitDefEqProofs [*, h6, h8, h40, h41, h42, hlt, hlt', hget, hg, hn, hwr, viewBox, psB, xsB, irow]) | (with_reducible refine gOps_and (fun hq => ?_) (fun hq => ?_) <;> (try simp at hq) <;> simp -implicitDefEqProofs [*, h6, h8, h40, h41, h42, hlt, hlt', hget, hg, hn, hwr, viewBox, psB, xsB, irow]) | (with_reducible refine gOps_or (fun hq => ?_) (fun hq => ?_) <;> (try simp at hq) <;> simp -implicitDefEqProofs [*, h6, h8, h40, h41, h42, hlt, hlt', hget, hg, hn, hwr, viewBox, psB, xsB, irow]) | (with_reducible refine gOps_not (fun hq => ?_) (fun hq => ?_) <;> (try simp at hq) <;> simp -implicitDefEqProofs [*, h6, h8, h40, h41, h42, hlt, hlt', hget, hg, hn, hwr, viewBox, psB, xsB, irow]) | (with_reducible refine gOps_split (fun hq => ?_) (fun hq => ?_) <;> (try simp at hq) <;> simp -implicitDefEqProofs [*, h6, h8, h40, h41, h42, hlt, hlt', hget, hg, hn, hwr, viewBox, psB, xsB, irow]) | (with_reducible refine condC_dec (fun _ => ?_) (fun _ => ?_) <;> simp -implicitDefEqProofs [*, h6, h8, h40, h41, h42, hlt, hlt', hget, hg, hn, hwr, viewBox, psB, xsB, irow]) | (with_reducible refine condC_ndec (fun _ => ?_) (fun _ => ?_) <;> simp -implicitDefEqProofs [*, h6, h8, h40, h41, h42, hlt, hlt', hget, hg, hn, hwr, viewBox, psB, xsB, irow]) | (with_reducible refine condC_and (fun hq => ?_) (fun hq => ?_) <;> (try simp at hq) <;> simp -implicitDefEqProofs [*, h6, h8, h40, h41, h42, hlt, hlt', hget, hg, hn, hwr, viewBox, psB, xsB, irow]) | (with_reducible refine condC_or (fun hq => ?_) (fun hq => ?_) <;> (try simp at hq) <;> simp -implicitDefEqProofs [*, h6, h8, h40, h41, h42, hlt, hlt', hget, hg, hn, hwr, viewBox, psB, xsB, irow]) | (with_reducible refine condC_not (fun hq => ?_) (fun hq => ?_) <;> (try simp at hq) <;> simp -implicitDefEqProofs [*, h6, h8, h40, h41, h42, hlt, hlt', hget, hg, hn, hwr, viewBox, psB, xsB, irow]) | (with_reducible refine condC_split (fun hq => ?_) (fun hq => ?_) <;> (try simp at hq) <;> simp -implicitDefEqProofs [*, h6, h8, h40, h41, h42, hlt, hlt', hget, hg, hn, hwr, viewBox, psB, xsB, irow]) | (refine appK2_if (by omega) ?_; simp -implicitDefEqProofs [*, h6, h8, h40, h41, h42, hlt, hlt', hget, hg, hn, hwr, viewBox, psB, xsB, irow]) | (refine pureV_if (by omega) ?_; simp -implicitDefEqProofs [*, h6, h8, h40, h41, h42, hlt, hlt', hget, hg, hn, hwr, viewBox, psB, xsB, irow]))
        refine lendThen_frame [4, 2, 3] rfl (by decide) (by simp) v4 (by simp) (by simp [lentBs]) ?_
        simp -implicitDefEqProofs [framed, h6, h8, h40, h41, h42, hlt, hlt', hget, hg, hn, hwr, viewBox, psB, xsB, irow]
        refine ⟨[], ⟨by simp, by simp, by simp⟩, ?_⟩
        unfold keepSt pickSt
        dsimp only
        exact ⟨⟨_, by simp [lentBs, hr5, viewBox, psB, xsB, irow]; repeat' (first | rfl | apply And.intro)⟩, by simp [h6, hr5], by simp [h8, hr5], by simp [h40], by simp [h41], by simp⟩
  · rintro ⟨fr, bs⟩ ⟨⟨d0, rfl⟩, h6, h8⟩
    simp -implicitDefEqProofs [h6, h8, viewBox, psB, xsB]
  · rintro ⟨fr, bs⟩ h
    exact h.elim
theorem hello_Take (v : View) (a : Int) (ids : List Int) (hs : v.small) (h : helloOk v a ids = true) : Den PP 17 [viewD v, .int .i64 a, intsD ids] [] (.tup [.agg [.int .i64 v.id, .ref 0 0 (helloV v a ids).peers.length, .ref 1 0 (helloV v a ids).passive.length], .int .i64 0]) [psB (helloV v a ids), xsB (helloV v a ids)] := by
  cases hr : roomV v a with
  | true => exact hello_Take_yes v a ids hs h hr
  | false => exact hello_Take_full v a ids hs h hr
end Go.AM
/- AM: contracts: the document's take; a node spoiled. -/
namespace Go.AM
set_option linter.unusedSimpArgs false
set_option linter.unusedVariables false
set_option maxRecDepth 8000
set_option maxHeartbeats 0
end Go.AM
/- AM: contracts: the document's greeting; chapter 10's statements: Hellos. -/
namespace Go.AM
set_option linter.unusedSimpArgs false
set_option linter.unusedVariables false
set_option maxRecDepth 8000
set_option maxHeartbeats 0
end Go.AM
/- AM: chapter 10's statements: Hellos. -/
namespace Go.AM
set_option linter.unusedSimpArgs false
set_option linter.unusedVariables false
set_option maxRecDepth 8000
set_option maxHeartbeats 0
def givenH : View := ⟨100, [⟨101, 2⟩, ⟨200, 0⟩, ⟨90, 1⟩], [7, 150]⟩
theorem small_givenH : givenH.small := by unfold View.small cap16 cap; decide
def zeroV : View := ⟨0, [], []⟩
theorem small_zeroV : zeroV.small := by unfold View.small cap16 cap zeroV; simp
theorem helloOk_sizes {v : View} {a : Int} {ids : List Int} (h : helloOk v a ids = true) : (helloV v a ids).small ∧ (helloV v a ids).peers.length ≤ 16 ∧ (helloV v a ids).passive.length ≤ 16 := by
  obtain ⟨h1, _⟩ := helloV_may h
  have := (viewMay_parts h1).2.2.1
  refine ⟨by unfold View.small cap16 cap; omega, by omega, by omega⟩
theorem law10_given : Den PP 26 [] [] (.agg [.int .i64 100, .ref 0 0 3, .ref 1 0 2]) [⟨givenH.peers.map Peer.row, 2, .mut⟩, ⟨givenH.passive.map irow, 1, .mut⟩] := by
  refine den_of [] [] is_gimmallaw10_given ?_
  simp -implicitDefEqProofs [c_gimmallaw10_given, givenH, Peer.row, irow]
theorem law10_awake : Den PP 23 [] [] (.bool true) [] := by
  have g0 := law10_given
  have g1 := hello_Take givenH 150 [7, 100, 102, 101] small_givenH (by decide +kernel)
  have g2 := hello_Take_no givenH 100 [] small_givenH (by unfold cap; simp) (by decide +kernel)
  have g3 := hello_Take_no givenH 150 [256] small_givenH (by unfold cap; simp) (by decide +kernel)
  have e1 : helloV givenH 150 [7, 100, 102, 101] = ⟨100, [⟨101, 2⟩, ⟨102, 0⟩, ⟨150, 0⟩, ⟨200, 0⟩, ⟨90, 1⟩], [7]⟩ := by decide +kernel
  rw [e1] at g1
  have g4 := law_SameView ⟨100, [⟨101, 2⟩, ⟨102, 0⟩, ⟨150, 0⟩, ⟨200, 0⟩, ⟨90, 1⟩], [7]⟩ ⟨100, [⟨101, 2⟩, ⟨102, 0⟩, ⟨150, 0⟩, ⟨200, 0⟩, ⟨90, 1⟩], [7]⟩ (by unfold View.small cap16 cap; decide)
  clear e1
  simp [givenH, viewD, View.cells, peersD, intsD, psB, xsB, Peer.row, irow] at g0 g1 g2 g3 g4
  refine den_of [] [] is_gimmallaw10_awake ?_
  simp -implicitDefEqProofs [c_gimmallaw10_awake]
  repeat' (first | (refine callThen_of (by first | exact g0 | exact g1 | exact den_nrm (g1) | exact den_nrm (by simpa using g1) | exact g2 | exact den_nrm (g2) | exact den_nrm (by simpa using g2) | exact g3 | exact den_nrm (g3) | exact den_nrm (by simpa using g3) | exact g4 | exact den_nrm (g4) | exact den_nrm (by simpa using g4) | exact law_Num _) ?_; simp -implicitDefEqProofs [*, downTo]) | (with_reducible refine gOps_dec (fun _ => ?_) (fun _ => ?_) <;> simp -implicitDefEqProofs [*, downTo]) | (with_reducible refine gOps_ndec (fun _ => ?_) (fun _ => ?_) <;> simp -implicitDefEqProofs [*, downTo]) | (with_reducible refine gOps_and (fun hq => ?_) (fun hq => ?_) <;> (try simp at hq) <;> simp -implicitDefEqProofs [*, downTo]) | (with_reducible refine gOps_or (fun hq => ?_) (fun hq => ?_) <;> (try simp at hq) <;> simp -implicitDefEqProofs [*, downTo]) | (with_reducible refine gOps_not (fun hq => ?_) (fun hq => ?_) <;> (try simp at hq) <;> simp -implicitDefEqProofs [*, downTo]) | (with_reducible refine gOps_split (fun hq => ?_) (fun hq => ?_) <;> (try simp at hq) <;> simp -implicitDefEqProofs [*, downTo]) | (with_reducible refine condC_dec (fun _ => ?_) (fun _ => ?_) <;> simp -implicitDefEqProofs [*, downTo]) | (with_reducible refine condC_ndec (fun _ => ?_) (fun _ => ?_) <;> simp -implicitDefEqProofs [*, downTo]) | (with_reducible refine condC_and (fun hq => ?_) (fun hq => ?_) <;> (try simp at hq) <;> simp -implicitDefEqProofs [*, downTo]) | (with_reducible refine condC_or (fun hq => ?_) (fun hq => ?_) <;> (try simp at hq) <;> simp -implicitDefEqProofs [*, downTo]) | (with_reducible refine condC_not (fun hq => ?_) (fun hq => ?_) <;> (try simp at hq) <;> simp -implicitDefEqProofs [*, downTo]) | (with_reducible refine condC_split (fun hq => ?_) (fun hq => ?_) <;> (try simp at hq) <;> simp -implicitDefEqProofs [*, downTo]) | (refine appK2_if (by omega) ?_; simp -implicitDefEqProofs [*, downTo]) | (refine pureV_if (by omega) ?_; simp -implicitDefEqProofs [*, downTo]))
end Go.AM
/- Plain law: greetings, told twice, told in another row. -/
namespace Go.AM
set_option linter.unusedSimpArgs false
set_option linter.unusedVariables false

structure Greeted (v : View) (a : Int) (ids : List Int) (w : View) : Prop where
  may : viewMay w = true
  id : w.id = v.id
  peers : ∀ q, q ∈ w.peers → q = ⟨a, 0⟩ ∨ (q ∈ v.peers ∧ q.id ≠ a) ∨ (q.missed = 0 ∧ q.id ∈ ids ∧ q.id ≠ v.id ∧ q.id ≠ a ∧ knowsV v q.id = false)
  kept : ∀ q, q ∈ v.peers → q.id ≠ a → q ∈ w.peers
  heard : ⟨a, 0⟩ ∈ w.peers
  passive : ∀ y, y ∈ w.passive ↔ y ∈ v.passive ∧ y ≠ a
  told : ∀ x ∈ ids, x = v.id ∨ knowsV w x = true ∨ 16 ≤ sizeV w
  size : sizeV w ≤ sizeV v + 1 + ids.length
theorem hello_greeted {v : View} {a : Int} {ids : List Int} (h : helloOk v a ids = true) (hr : roomV v a = true) : Greeted v a ids (helloV v a ids) := by
  obtain ⟨h1, h2, h3, h4, h5⟩ := helloOk_parts h
  obtain ⟨m1, m2⟩ := helloV_may h
  have hw := (knownV_may h1 h2 h3).1
  obtain ⟨a1, a2, a3, a4, a5, a6⟩ := tells_mem ids (knownV v a) hw h5
  have hk : knowsV (knownV v a) a = true := (knowsV_iff _ _).2 (.inl ⟨⟨a, 0⟩, (knownV_peers hr _).2 (.inl rfl), rfl⟩)
  have hid := knownV_id v a
  refine ⟨m1, m2, ?_, ?_, ?_, ?_, ?_, ?_⟩
  · intro q hq
    rcases a5 q hq with h | ⟨b1, b2, b3, b4⟩
    · rcases (knownV_peers hr q).1 h with h | h
      · exact .inl h
      · exact .inr (.inl h)
    · have hqa : q.id ≠ a := by intro e; rw [e, hk] at b4; cases b4
      refine .inr (.inr ⟨b1, b2, by rw [hid] at b3; exact b3, hqa, ?_⟩)
      cases hkv : knowsV v q.id with
      | false => rfl
      | true =>
        have : knowsV (knownV v a) q.id = true := by
          rw [knowsV_iff] at hkv ⊢
          rcases hkv with ⟨p, hp, he⟩ | hp
          · exact .inl ⟨p, (knownV_peers hr p).2 (.inr ⟨hp, by rw [he]; exact hqa⟩), he⟩
          · exact .inr ((knownV_passive hr _).2 ⟨hp, hqa⟩)
        rw [this] at b4; cases b4
  · intro q hq hn
    exact a1 q ((knownV_peers hr q).2 (.inr ⟨hq, hn⟩))
  · exact a1 _ ((knownV_peers hr _).2 (.inl rfl))
  · intro y
    show y ∈ (ids.foldl tellV (knownV v a)).passive ↔ _
    rw [a2, knownV_passive hr]
  · intro x hx
    have := a6 x hx
    rw [hid] at this
    exact this
  · have := knownV_size h1 hr
    show sizeV (ids.foldl tellV (knownV v a)) ≤ _
    split at this <;> omega
theorem helloOk_again {v : View} {a b : Int} {ids : List Int} (h : helloOk v a ids = true) : helloOk (helloV v a ids) b ids = helloOk v b ids := by
  obtain ⟨m1, m2⟩ := helloV_may h
  have h1 := (helloOk_parts h).1
  unfold helloOk
  rw [m1, m2, h1]
theorem hello_then {v : View} {a b : Int} {ids : List Int} (ha : helloOk v a ids = true) (hb : helloOk v b ids = true) (hl : sizeV v + ids.length + 2 ≤ 16) :
    (∀ q, q ∈ (helloV (helloV v a ids) b ids).peers ↔ q = ⟨b, 0⟩ ∨ (q.id ≠ b ∧ q = ⟨a, 0⟩) ∨ (q.id ≠ b ∧ q.id ≠ a ∧ (q ∈ v.peers ∨ (q.missed = 0 ∧ q.id ∈ ids ∧ q.id ≠ v.id ∧ knowsV v q.id = false)))) ∧
    (∀ y, y ∈ (helloV (helloV v a ids) b ids).passive ↔ y ∈ v.passive ∧ y ≠ a ∧ y ≠ b) := by
  have hr : roomV v a = true := by
    unfold roomV; unfold sizeV at hl
    have : v.peers.length + v.passive.length < 16 := by omega
    simp [this]
  have g := hello_greeted ha hr
  have hok : helloOk (helloV v a ids) b ids = true := by rw [helloOk_again ha]; exact hb
  generalize helloV v a ids = w at *
  have hsz := g.size
  have hrw : roomV w b = true := by
    unfold roomV; unfold sizeV at hl hsz
    have : w.peers.length + w.passive.length < 16 := by omega
    simp [this]
  have g2 := hello_greeted hok hrw
  have hknow : ∀ x ∈ ids, x ≠ v.id → knowsV w x = true := by
    intro x hx hn
    rcases g.told x hx with h | h | h
    · exact absurd h hn
    · exact h
    · omega
  -- all of ids are known to w
  have hw2 : ∀ q, q ∈ (helloV w b ids).peers ↔ q = ⟨b, 0⟩ ∨ (q ∈ w.peers ∧ q.id ≠ b) := by
    intro q
    constructor
    · intro hq
      rcases g2.peers q hq with h | h | ⟨h1, h2, h3, h4, h5⟩
      · exact .inl h
      · exact .inr h
      · rw [hknow q.id h2 (by rw [g.id] at h3; exact h3)] at h5; cases h5
    · rintro (rfl | ⟨h1, h2⟩)
      · exact g2.heard
      · exact g2.kept q h1 h2
  have hwp : ∀ q, q ∈ w.peers ↔ q = ⟨a, 0⟩ ∨ (q.id ≠ a ∧ (q ∈ v.peers ∨ (q.missed = 0 ∧ q.id ∈ ids ∧ q.id ≠ v.id ∧ knowsV v q.id = false))) := by
    intro q
    constructor
    · intro hq
      rcases g.peers q hq with h | ⟨h1, h2⟩ | ⟨h1, h2, h3, h4, h5⟩
      · exact .inl h
      · exact .inr ⟨h2, .inl h1⟩
      · exact .inr ⟨h4, .inr ⟨h1, h2, h3, h5⟩⟩
    · rintro (rfl | ⟨hn, h | ⟨h1, h2, h3, h4⟩⟩)
      · exact g.heard
      · exact g.kept q h hn
      · have := hknow q.id h2 h3
        rw [knowsV_iff] at this
        rcases this with ⟨p, hp, he⟩ | hp
        · rcases g.peers p hp with h | ⟨h5, h6⟩ | ⟨h5, h6, h7, h8, h9⟩
          · subst h; exact absurd he.symm hn
          · have := (knowsV_iff v q.id).2 (.inl ⟨p, h5, he⟩)
            rw [this] at h4; cases h4
          · have : p = q := by
              obtain ⟨pi, pm⟩ := p
              obtain ⟨qi, qm⟩ := q
              simp only at he h5 h1
              rw [he, h5, h1]
            rw [← this]; exact hp
        · have := (knowsV_iff v q.id).2 (.inr ((g.passive _).1 hp).1)
          rw [this] at h4; cases h4
  refine ⟨fun q => ?_, fun y => ?_⟩
  · rw [hw2, hwp]
    constructor
    · rintro (h | ⟨h | ⟨h1, h2⟩, h3⟩)
      · exact .inl h
      · exact .inr (.inl ⟨h3, h⟩)
      · exact .inr (.inr ⟨h3, h1, h2⟩)
    · rintro (h | ⟨h1, h2⟩ | ⟨h1, h2, h3⟩)
      · exact .inl h
      · exact .inr ⟨.inl h2, h1⟩
      · exact .inr ⟨.inr ⟨h2, h3⟩, h1⟩
  · rw [g2.passive, g.passive]
    constructor
    · rintro ⟨⟨h1, h2⟩, h3⟩; exact ⟨h1, h2, h3⟩
    · rintro ⟨h1, h2, h3⟩; exact ⟨⟨h1, h2⟩, h3⟩
theorem hello_swap {v : View} {a b : Int} {ids : List Int} (ha : helloOk v a ids = true) (hb : helloOk v b ids = true) (hl : sizeV v + ids.length + 2 ≤ 16) :
    helloV (helloV v a ids) b ids = helloV (helloV v b ids) a ids := by
  have hok1 : helloOk (helloV v a ids) b ids = true := by rw [helloOk_again ha]; exact hb
  have hok2 : helloOk (helloV v b ids) a ids = true := by rw [helloOk_again hb]; exact ha
  obtain ⟨m1, i1⟩ := helloV_may hok1
  obtain ⟨m2, i2⟩ := helloV_may hok2
  obtain ⟨p1, q1⟩ := hello_then ha hb hl
  obtain ⟨p2, q2⟩ := hello_then hb ha hl
  refine view_ext m1 m2 ?_ (fun q => ?_) (fun y => ?_)
  · rw [i1, i2, (helloV_may ha).2, (helloV_may hb).2]
  · rw [p1, p2]
    constructor
    · rintro (rfl | ⟨h1, rfl⟩ | ⟨h1, h2, h3⟩)
      · by_cases h : b = a
        · subst h; exact .inl rfl
        · exact .inr (.inl ⟨h, rfl⟩)
      · exact .inl rfl
      · exact .inr (.inr ⟨h2, h1, h3⟩)
    · rintro (rfl | ⟨h1, rfl⟩ | ⟨h1, h2, h3⟩)
      · by_cases h : a = b
        · subst h; exact .inl rfl
        · exact .inr (.inl ⟨h, rfl⟩)
      · exact .inl rfl
      · exact .inr (.inr ⟨h2, h1, h3⟩)
  · rw [q1, q2]
    constructor
    · rintro ⟨h1, h2, h3⟩; exact ⟨h1, h3, h2⟩
    · rintro ⟨h1, h2, h3⟩; exact ⟨h1, h3, h2⟩
end Go.AM
/- AM: chapter 10's statements: HelloTwice, HelloRow. -/
namespace Go.AM
set_option linter.unusedSimpArgs false
set_option linter.unusedVariables false
set_option maxRecDepth 8000
set_option maxHeartbeats 0
theorem law10_HelloRow_0000 (v : View) (a b : Int) (ids : List Int) (hs : v.small) (hc : ids.length ≤ cap) (ha : helloOk v a ids = false) (hb : helloOk v b ids = false) (hy : helloOk zeroV b ids = false) (hw : helloOk zeroV a ids = false) : Den PP 8 [viewD v, .int .i64 a, .int .i64 b, intsD ids] [] (.bool true) [] := by
  have c1 := hello_Take_no v a ids hs hc ha
  have c3 := hello_Take_no v b ids hs hc hb
  have c2 := hello_Take_no zeroV b ids small_zeroV hc hy
  have c4 := hello_Take_no zeroV a ids small_zeroV hc hw
  simp only [zeroV, psB, xsB, viewD, View.cells, peersD, intsD, List.map_nil, List.length_nil] at c1 c3 c2 c4 ⊢
  have hh : 0 = 0 := rfl
  clear ha hb hy hw hs hc
  refine den_of [] [] is_gimmallaw10_HelloRow ?_
  simp -implicitDefEqProofs [c_gimmallaw10_HelloRow]
  repeat' (first | (refine callThen_of (by first | exact law10_awake | exact c1 | exact c3 | exact c2 | exact den_nrm (c2) | exact den_nrm (by simpa using c2) | exact c4 | exact den_nrm (c4) | exact den_nrm (by simpa using c4) | exact law_Num _) ?_; simp -implicitDefEqProofs [*, downTo]) | (with_reducible refine gOps_dec (fun _ => ?_) (fun _ => ?_) <;> simp -implicitDefEqProofs [*, downTo]) | (with_reducible refine gOps_ndec (fun _ => ?_) (fun _ => ?_) <;> simp -implicitDefEqProofs [*, downTo]) | (with_reducible refine gOps_and (fun hq => ?_) (fun hq => ?_) <;> (try simp at hq) <;> simp -implicitDefEqProofs [*, downTo]) | (with_reducible refine gOps_or (fun hq => ?_) (fun hq => ?_) <;> (try simp at hq) <;> simp -implicitDefEqProofs [*, downTo]) | (with_reducible refine gOps_not (fun hq => ?_) (fun hq => ?_) <;> (try simp at hq) <;> simp -implicitDefEqProofs [*, downTo]) | (with_reducible refine gOps_split (fun hq => ?_) (fun hq => ?_) <;> (try simp at hq) <;> simp -implicitDefEqProofs [*, downTo]) | (with_reducible refine condC_dec (fun _ => ?_) (fun _ => ?_) <;> simp -implicitDefEqProofs [*, downTo]) | (with_reducible refine condC_ndec (fun _ => ?_) (fun _ => ?_) <;> simp -implicitDefEqProofs [*, downTo]) | (with_reducible refine condC_and (fun hq => ?_) (fun hq => ?_) <;> (try simp at hq) <;> simp -implicitDefEqProofs [*, downTo]) | (with_reducible refine condC_or (fun hq => ?_) (fun hq => ?_) <;> (try simp at hq) <;> simp -implicitDefEqProofs [*, downTo]) | (with_reducible refine condC_not (fun hq => ?_) (fun hq => ?_) <;> (try simp at hq) <;> simp -implicitDefEqProofs [*, downTo]) | (with_reducible refine condC_split (fun hq => ?_) (fun hq => ?_) <;> (try simp at hq) <;> simp -implicitDefEqProofs [*, downTo]) | (refine appK2_if (by omega) ?_; simp -implicitDefEqProofs [*, downTo]) | (refine pureV_if (by omega) ?_; simp -implicitDefEqProofs [*, downTo]))
theorem law10_HelloRow_0001 (v : View) (a b : Int) (ids : List Int) (hs : v.small) (hc : ids.length ≤ cap) (ha : helloOk v a ids = false) (hb : helloOk v b ids = false) (hy : helloOk zeroV b ids = false) (hw : helloOk zeroV a ids = true) : Den PP 8 [viewD v, .int .i64 a, .int .i64 b, intsD ids] [] (.bool true) [] := by
  have c1 := hello_Take_no v a ids hs hc ha
  have c3 := hello_Take_no v b ids hs hc hb
  have c2 := hello_Take_no zeroV b ids small_zeroV hc hy
  have c4 := hello_Take zeroV a ids small_zeroV hw
  generalize helloV zeroV a ids = w4 at *
  simp only [zeroV, psB, xsB, viewD, View.cells, peersD, intsD, List.map_nil, List.length_nil] at c1 c3 c2 c4 ⊢
  have hh : 0 = 0 := rfl
  clear ha hb hy hw hs hc
  refine den_of [] [] is_gimmallaw10_HelloRow ?_
  simp -implicitDefEqProofs [c_gimmallaw10_HelloRow]
  repeat' (first | (refine callThen_of (by first | exact law10_awake | exact c1 | exact c3 | exact c2 | exact den_nrm (c2) | exact den_nrm (by simpa using c2) | exact c4 | exact den_nrm (c4) | exact den_nrm (by simpa using c4) | exact law_Num _) ?_; simp -implicitDefEqProofs [*, downTo]) | (with_reducible refine gOps_dec (fun _ => ?_) (fun _ => ?_) <;> simp -implicitDefEqProofs [*, downTo]) | (with_reducible refine gOps_ndec (fun _ => ?_) (fun _ => ?_) <;> simp -implicitDefEqProofs [*, downTo]) | (with_reducible refine gOps_and (fun hq => ?_) (fun hq => ?_) <;> (try simp at hq) <;> simp -implicitDefEqProofs [*, downTo]) | (with_reducible refine gOps_or (fun hq => ?_) (fun hq => ?_) <;> (try simp at hq) <;> simp -implicitDefEqProofs [*, downTo]) | (with_reducible refine gOps_not (fun hq => ?_) (fun hq => ?_) <;> (try simp at hq) <;> simp -implicitDefEqProofs [*, downTo]) | (with_reducible refine gOps_split (fun hq => ?_) (fun hq => ?_) <;> (try simp at hq) <;> simp -implicitDefEqProofs [*, downTo]) | (with_reducible refine condC_dec (fun _ => ?_) (fun _ => ?_) <;> simp -implicitDefEqProofs [*, downTo]) | (with_reducible refine condC_ndec (fun _ => ?_) (fun _ => ?_) <;> simp -implicitDefEqProofs [*, downTo]) | (with_reducible refine condC_and (fun hq => ?_) (fun hq => ?_) <;> (try simp at hq) <;> simp -implicitDefEqProofs [*, downTo]) | (with_reducible refine condC_or (fun hq => ?_) (fun hq => ?_) <;> (try simp at hq) <;> simp -implicitDefEqProofs [*, downTo]) | (with_reducible refine condC_not (fun hq => ?_) (fun hq => ?_) <;> (try simp at hq) <;> simp -implicitDefEqProofs [*, downTo]) | (with_reducible refine condC_split (fun hq => ?_) (fun hq => ?_) <;> (try simp at hq) <;> simp -implicitDefEqProofs [*, downTo]) | (refine appK2_if (by omega) ?_; simp -implicitDefEqProofs [*, downTo]) | (refine pureV_if (by omega) ?_; simp -implicitDefEqProofs [*, downTo]))
theorem law10_HelloRow_0010 (v : View) (a b : Int) (ids : List Int) (hs : v.small) (hc : ids.length ≤ cap) (ha : helloOk v a ids = false) (hb : helloOk v b ids = false) (hy : helloOk zeroV b ids = true) (hw : helloOk zeroV a ids = false) : Den PP 8 [viewD v, .int .i64 a, .int .i64 b, intsD ids] [] (.bool true) [] := by
  have c1 := hello_Take_no v a ids hs hc ha
  have c3 := hello_Take_no v b ids hs hc hb
  have c2 := hello_Take zeroV b ids small_zeroV hy
  have c4 := hello_Take_no zeroV a ids small_zeroV hc hw
  generalize helloV zeroV b ids = w2 at *
  simp only [zeroV, psB, xsB, viewD, View.cells, peersD, intsD, List.map_nil, List.length_nil] at c1 c3 c2 c4 ⊢
  have hh : 0 = 0 := rfl
  clear ha hb hy hw hs hc
  refine den_of [] [] is_gimmallaw10_HelloRow ?_
  simp -implicitDefEqProofs [c_gimmallaw10_HelloRow]
  repeat' (first | (refine callThen_of (by first | exact law10_awake | exact c1 | exact c3 | exact c2 | exact den_nrm (c2) | exact den_nrm (by simpa using c2) | exact c4 | exact den_nrm (c4) | exact den_nrm (by simpa using c4) | exact law_Num _) ?_; simp -implicitDefEqProofs [*, downTo]) | (with_reducible refine gOps_dec (fun _ => ?_) (fun _ => ?_) <;> simp -implicitDefEqProofs [*, downTo]) | (with_reducible refine gOps_ndec (fun _ => ?_) (fun _ => ?_) <;> simp -implicitDefEqProofs [*, downTo]) | (with_reducible refine gOps_and (fun hq => ?_) (fun hq => ?_) <;> (try simp at hq) <;> simp -implicitDefEqProofs [*, downTo]) | (with_reducible refine gOps_or (fun hq => ?_) (fun hq => ?_) <;> (try simp at hq) <;> simp -implicitDefEqProofs [*, downTo]) | (with_reducible refine gOps_not (fun hq => ?_) (fun hq => ?_) <;> (try simp at hq) <;> simp -implicitDefEqProofs [*, downTo]) | (with_reducible refine gOps_split (fun hq => ?_) (fun hq => ?_) <;> (try simp at hq) <;> simp -implicitDefEqProofs [*, downTo]) | (with_reducible refine condC_dec (fun _ => ?_) (fun _ => ?_) <;> simp -implicitDefEqProofs [*, downTo]) | (with_reducible refine condC_ndec (fun _ => ?_) (fun _ => ?_) <;> simp -implicitDefEqProofs [*, downTo]) | (with_reducible refine condC_and (fun hq => ?_) (fun hq => ?_) <;> (try simp at hq) <;> simp -implicitDefEqProofs [*, downTo]) | (with_reducible refine condC_or (fun hq => ?_) (fun hq => ?_) <;> (try simp at hq) <;> simp -implicitDefEqProofs [*, downTo]) | (with_reducible refine condC_not (fun hq => ?_) (fun hq => ?_) <;> (try simp at hq) <;> simp -implicitDefEqProofs [*, downTo]) | (with_reducible refine condC_split (fun hq => ?_) (fun hq => ?_) <;> (try simp at hq) <;> simp -implicitDefEqProofs [*, downTo]) | (refine appK2_if (by omega) ?_; simp -implicitDefEqProofs [*, downTo]) | (refine pureV_if (by omega) ?_; simp -implicitDefEqProofs [*, downTo]))
theorem law10_HelloRow_0011 (v : View) (a b : Int) (ids : List Int) (hs : v.small) (hc : ids.length ≤ cap) (ha : helloOk v a ids = false) (hb : helloOk v b ids = false) (hy : helloOk zeroV b ids = true) (hw : helloOk zeroV a ids = true) : Den PP 8 [viewD v, .int .i64 a, .int .i64 b, intsD ids] [] (.bool true) [] := by
  have c1 := hello_Take_no v a ids hs hc ha
  have c3 := hello_Take_no v b ids hs hc hb
  have c2 := hello_Take zeroV b ids small_zeroV hy
  have c4 := hello_Take zeroV a ids small_zeroV hw
  generalize helloV zeroV b ids = w2 at *
  generalize helloV zeroV a ids = w4 at *
  simp only [zeroV, psB, xsB, viewD, View.cells, peersD, intsD, List.map_nil, List.length_nil] at c1 c3 c2 c4 ⊢
  have hh : 0 = 0 := rfl
  clear ha hb hy hw hs hc
  refine den_of [] [] is_gimmallaw10_HelloRow ?_
  simp -implicitDefEqProofs [c_gimmallaw10_HelloRow]
  repeat' (first | (refine callThen_of (by first | exact law10_awake | exact c1 | exact c3 | exact c2 | exact den_nrm (c2) | exact den_nrm (by simpa using c2) | exact c4 | exact den_nrm (c4) | exact den_nrm (by simpa using c4) | exact law_Num _) ?_; simp -implicitDefEqProofs [*, downTo]) | (with_reducible refine gOps_dec (fun _ => ?_) (fun _ => ?_) <;> simp -implicitDefEqProofs [*, downTo]) | (with_reducible refine gOps_ndec (fun _ => ?_) (fun _ => ?_) <;> simp -implicitDefEqProofs [*, downTo]) | (with_reducible refine gOps_and (fun hq => ?_) (fun hq => ?_) <;> (try simp at hq) <;> simp -implicitDefEqProofs [*, downTo]) | (with_reducible refine gOps_or (fun hq => ?_) (fun hq => ?_) <;> (try simp at hq) <;> simp -implicitDefEqProofs [*, downTo]) | (with_reducible refine gOps_not (fun hq => ?_) (fun hq => ?_) <;> (try simp at hq) <;> simp -implicitDefEqProofs [*, downTo]) | (with_reducible refine gOps_split (fun hq => ?_) (fun hq => ?_) <;> (try simp at hq) <;> simp -implicitDefEqProofs [*, downTo]) | (with_reducible refine condC_dec (fun _ => ?_) (fun _ => ?_) <;> simp -implicitDefEqProofs [*, downTo]) | (with_reducible refine condC_ndec (fun _ => ?_) (fun _ => ?_) <;> simp -implicitDefEqProofs [*, downTo]) | (with_reducible refine condC_and (fun hq => ?_) (fun hq => ?_) <;> (try simp at hq) <;> simp -implicitDefEqProofs [*, downTo]) | (with_reducible refine condC_or (fun hq => ?_) (fun hq => ?_) <;> (try simp at hq) <;> simp -implicitDefEqProofs [*, downTo]) | (with_reducible refine condC_not (fun hq => ?_) (fun hq => ?_) <;> (try simp at hq) <;> simp -implicitDefEqProofs [*, downTo]) | (with_reducible refine condC_split (fun hq => ?_) (fun hq => ?_) <;> (try simp at hq) <;> simp -implicitDefEqProofs [*, downTo]) | (refine appK2_if (by omega) ?_; simp -implicitDefEqProofs [*, downTo]) | (refine pureV_if (by omega) ?_; simp -implicitDefEqProofs [*, downTo]))
theorem law10_HelloRow_0100 (v : View) (a b : Int) (ids : List Int) (hs : v.small) (hc : ids.length ≤ cap) (ha : helloOk v a ids = false) (hb : helloOk v b ids = true) (hy : helloOk zeroV b ids = false) : Den PP 8 [viewD v, .int .i64 a, .int .i64 b, intsD ids] [] (.bool true) [] := by
  have c1 := hello_Take_no v a ids hs hc ha
  have c3 := hello_Take v b ids hs hb
  have c2 := hello_Take_no zeroV b ids small_zeroV hc hy
  obtain ⟨z1, z2, z3⟩ := helloOk_sizes hb
  have zi := (helloV_may hb).2
  have c4 := hello_Take_no (helloV v b ids) a ids z1 hc (by rw [helloOk_again hb]; exact ha)
  generalize hq3 : helloV v b ids = w3 at *
  clear hq3
  rw [← zi] at c3
  simp only [zeroV, psB, xsB, viewD, View.cells, peersD, intsD, List.map_nil, List.length_nil] at c1 c3 c2 c4 ⊢
  have hh : 0 = 0 := rfl
  clear ha hb hy z1 z2 z3 zi hs hc
  refine den_of [] [] is_gimmallaw10_HelloRow ?_
  simp -implicitDefEqProofs [c_gimmallaw10_HelloRow]
  repeat' (first | (refine callThen_of (by first | exact law10_awake | exact c1 | exact c3 | exact c2 | exact den_nrm (c2) | exact den_nrm (by simpa using c2) | exact c4 | exact den_nrm (c4) | exact den_nrm (by simpa using c4) | exact law_Num _) ?_; simp -implicitDefEqProofs [*, downTo]) | (with_reducible refine gOps_dec (fun _ => ?_) (fun _ => ?_) <;> simp -implicitDefEqProofs [*, downTo]) | (with_reducible refine gOps_ndec (fun _ => ?_) (fun _ => ?_) <;> simp -implicitDefEqProofs [*, downTo]) | (with_reducible refine gOps_and (fun hq => ?_) (fun hq => ?_) <;> (try simp at hq) <;> simp -implicitDefEqProofs [*, downTo]) | (with_reducible refine gOps_or (fun hq => ?_) (fun hq => ?_) <;> (try simp at hq) <;> simp -implicitDefEqProofs [*, downTo]) | (with_reducible refine gOps_not (fun hq => ?_) (fun hq => ?_) <;> (try simp at hq) <;> simp -implicitDefEqProofs [*, downTo]) | (with_reducible refine gOps_split (fun hq => ?_) (fun hq => ?_) <;> (try simp at hq) <;> simp -implicitDefEqProofs [*, downTo]) | (with_reducible refine condC_dec (fun _ => ?_) (fun _ => ?_) <;> simp -implicitDefEqProofs [*, downTo]) | (with_reducible refine condC_ndec (fun _ => ?_) (fun _ => ?_) <;> simp -implicitDefEqProofs [*, downTo]) | (with_reducible refine condC_and (fun hq => ?_) (fun hq => ?_) <;> (try simp at hq) <;> simp -implicitDefEqProofs [*, downTo]) | (with_reducible refine condC_or (fun hq => ?_) (fun hq => ?_) <;> (try simp at hq) <;> simp -implicitDefEqProofs [*, downTo]) | (with_reducible refine condC_not (fun hq => ?_) (fun hq => ?_) <;> (try simp at hq) <;> simp -implicitDefEqProofs [*, downTo]) | (with_reducible refine condC_split (fun hq => ?_) (fun hq => ?_) <;> (try simp at hq) <;> simp -implicitDefEqProofs [*, downTo]) | (refine appK2_if (by omega) ?_; simp -implicitDefEqProofs [*, downTo]) | (refine pureV_if (by omega) ?_; simp -implicitDefEqProofs [*, downTo]))
theorem law10_HelloRow_0110 (v : View) (a b : Int) (ids : List Int) (hs : v.small) (hc : ids.length ≤ cap) (ha : helloOk v a ids = false) (hb : helloOk v b ids = true) (hy : helloOk zeroV b ids = true) : Den PP 8 [viewD v, .int .i64 a, .int .i64 b, intsD ids] [] (.bool true) [] := by
  have c1 := hello_Take_no v a ids hs hc ha
  have c3 := hello_Take v b ids hs hb
  have c2 := hello_Take zeroV b ids small_zeroV hy
  obtain ⟨z1, z2, z3⟩ := helloOk_sizes hb
  have zi := (helloV_may hb).2
  have c4 := hello_Take_no (helloV v b ids) a ids z1 hc (by rw [helloOk_again hb]; exact ha)
  generalize helloV zeroV b ids = w2 at *
  generalize hq3 : helloV v b ids = w3 at *
  clear hq3
  rw [← zi] at c3
  simp only [zeroV, psB, xsB, viewD, View.cells, peersD, intsD, List.map_nil, List.length_nil] at c1 c3 c2 c4 ⊢
  have hh : 0 = 0 := rfl
  clear ha hb hy z1 z2 z3 zi hs hc
  refine den_of [] [] is_gimmallaw10_HelloRow ?_
  simp -implicitDefEqProofs [c_gimmallaw10_HelloRow]
  repeat' (first | (refine callThen_of (by first | exact law10_awake | exact c1 | exact c3 | exact c2 | exact den_nrm (c2) | exact den_nrm (by simpa using c2) | exact c4 | exact den_nrm (c4) | exact den_nrm (by simpa using c4) | exact law_Num _) ?_; simp -implicitDefEqProofs [*, downTo]) | (with_reducible refine gOps_dec (fun _ => ?_) (fun _ => ?_) <;> simp -implicitDefEqProofs [*, downTo]) | (with_reducible refine gOps_ndec (fun _ => ?_) (fun _ => ?_) <;> simp -implicitDefEqProofs [*, downTo]) | (with_reducible refine gOps_and (fun hq => ?_) (fun hq => ?_) <;> (try simp at hq) <;> simp -implicitDefEqProofs [*, downTo]) | (with_reducible refine gOps_or (fun hq => ?_) (fun hq => ?_) <;> (try simp at hq) <;> simp -implicitDefEqProofs [*, downTo]) | (with_reducible refine gOps_not (fun hq => ?_) (fun hq => ?_) <;> (try simp at hq) <;> simp -implicitDefEqProofs [*, downTo]) | (with_reducible refine gOps_split (fun hq => ?_) (fun hq => ?_) <;> (try simp at hq) <;> simp -implicitDefEqProofs [*, downTo]) | (with_reducible refine condC_dec (fun _ => ?_) (fun _ => ?_) <;> simp -implicitDefEqProofs [*, downTo]) | (with_reducible refine condC_ndec (fun _ => ?_) (fun _ => ?_) <;> simp -implicitDefEqProofs [*, downTo]) | (with_reducible refine condC_and (fun hq => ?_) (fun hq => ?_) <;> (try simp at hq) <;> simp -implicitDefEqProofs [*, downTo]) | (with_reducible refine condC_or (fun hq => ?_) (fun hq => ?_) <;> (try simp at hq) <;> simp -implicitDefEqProofs [*, downTo]) | (with_reducible refine condC_not (fun hq => ?_) (fun hq => ?_) <;> (try simp at hq) <;> simp -implicitDefEqProofs [*, downTo]) | (with_reducible refine condC_split (fun hq => ?_) (fun hq => ?_) <;> (try simp at hq) <;> simp -implicitDefEqProofs [*, downTo]) | (refine appK2_if (by omega) ?_; simp -implicitDefEqProofs [*, downTo]) | (refine pureV_if (by omega) ?_; simp -implicitDefEqProofs [*, downTo]))
theorem law10_HelloRow_1000 (v : View) (a b : Int) (ids : List Int) (hs : v.small) (hc : ids.length ≤ cap) (ha : helloOk v a ids = true) (hb : helloOk v b ids = false) (hw : helloOk zeroV a ids = false) : Den PP 8 [viewD v, .int .i64 a, .int .i64 b, intsD ids] [] (.bool true) [] := by
  have c1 := hello_Take v a ids hs ha
  have c3 := hello_Take_no v b ids hs hc hb
  obtain ⟨x1, x2, x3⟩ := helloOk_sizes ha
  have xi := (helloV_may ha).2
  have c2 := hello_Take_no (helloV v a ids) b ids x1 hc (by rw [helloOk_again ha]; exact hb)
  have c4 := hello_Take_no zeroV a ids small_zeroV hc hw
  generalize hq1 : helloV v a ids = w1 at *
  clear hq1
  rw [← xi] at c1
  simp only [zeroV, psB, xsB, viewD, View.cells, peersD, intsD, List.map_nil, List.length_nil] at c1 c3 c2 c4 ⊢
  have hh : 0 = 0 := rfl
  clear ha hb x1 x2 x3 xi hw hs hc
  refine den_of [] [] is_gimmallaw10_HelloRow ?_
  simp -implicitDefEqProofs [c_gimmallaw10_HelloRow]
  repeat' (first | (refine callThen_of (by first | exact law10_awake | exact c1 | exact c3 | exact c2 | exact den_nrm (c2) | exact den_nrm (by simpa using c2) | exact c4 | exact den_nrm (c4) | exact den_nrm (by simpa using c4) | exact law_Num _) ?_; simp -implicitDefEqProofs [*, downTo]) | (with_reducible refine gOps_dec (fun _ => ?_) (fun _ => ?_) <;> simp -implicitDefEqProofs [*, downTo]) | (with_reducible refine gOps_ndec (fun _ => ?_) (fun _ => ?_) <;> simp -implicitDefEqProofs [*, downTo]) | (with_reducible refine gOps_and (fun hq => ?_) (fun hq => ?_) <;> (try simp at hq) <;> simp -implicitDefEqProofs [*, downTo]) | (with_reducible refine gOps_or (fun hq => ?_) (fun hq => ?_) <;> (try simp at hq) <;> simp -implicitDefEqProofs [*, downTo]) | (with_reducible refine gOps_not (fun hq => ?_) (fun hq => ?_) <;> (try simp at hq) <;> simp -implicitDefEqProofs [*, downTo]) | (with_reducible refine gOps_split (fun hq => ?_) (fun hq => ?_) <;> (try simp at hq) <;> simp -implicitDefEqProofs [*, downTo]) | (with_reducible refine condC_dec (fun _ => ?_) (fun _ => ?_) <;> simp -implicitDefEqProofs [*, downTo]) | (with_reducible refine condC_ndec (fun _ => ?_) (fun _ => ?_) <;> simp -implicitDefEqProofs [*, downTo]) | (with_reducible refine condC_and (fun hq => ?_) (fun hq => ?_) <;> (try simp at hq) <;> simp -implicitDefEqProofs [*, downTo]) | (with_reducible refine condC_or (fun hq => ?_) (fun hq => ?_) <;> (try simp at hq) <;> simp -implicitDefEqProofs [*, downTo]) | (with_reducible refine condC_not (fun hq => ?_) (fun hq => ?_) <;> (try simp at hq) <;> simp -implicitDefEqProofs [*, downTo]) | (with_reducible refine condC_split (fun hq => ?_) (fun hq => ?_) <;> (try simp at hq) <;> simp -implicitDefEqProofs [*, downTo]) | (refine appK2_if (by omega) ?_; simp -implicitDefEqProofs [*, downTo]) | (refine pureV_if (by omega) ?_; simp -implicitDefEqProofs [*, downTo]))
theorem law10_HelloRow_1001 (v : View) (a b : Int) (ids : List Int) (hs : v.small) (hc : ids.length ≤ cap) (ha : helloOk v a ids = true) (hb : helloOk v b ids = false) (hw : helloOk zeroV a ids = true) : Den PP 8 [viewD v, .int .i64 a, .int .i64 b, intsD ids] [] (.bool true) [] := by
  have c1 := hello_Take v a ids hs ha
  have c3 := hello_Take_no v b ids hs hc hb
  obtain ⟨x1, x2, x3⟩ := helloOk_sizes ha
  have xi := (helloV_may ha).2
  have c2 := hello_Take_no (helloV v a ids) b ids x1 hc (by rw [helloOk_again ha]; exact hb)
  have c4 := hello_Take zeroV a ids small_zeroV hw
  generalize helloV zeroV a ids = w4 at *
  generalize hq1 : helloV v a ids = w1 at *
  clear hq1
  rw [← xi] at c1
  simp only [zeroV, psB, xsB, viewD, View.cells, peersD, intsD, List.map_nil, List.length_nil] at c1 c3 c2 c4 ⊢
  have hh : 0 = 0 := rfl
  clear ha hb x1 x2 x3 xi hw hs hc
  refine den_of [] [] is_gimmallaw10_HelloRow ?_
  simp -implicitDefEqProofs [c_gimmallaw10_HelloRow]
  repeat' (first | (refine callThen_of (by first | exact law10_awake | exact c1 | exact c3 | exact c2 | exact den_nrm (c2) | exact den_nrm (by simpa using c2) | exact c4 | exact den_nrm (c4) | exact den_nrm (by simpa using c4) | exact law_Num _) ?_; simp -implicitDefEqProofs [*, downTo]) | (with_reducible refine gOps_dec (fun _ => ?_) (fun _ => ?_) <;> simp -implicitDefEqProofs [*, downTo]) | (with_reducible refine gOps_ndec (fun _ => ?_) (fun _ => ?_) <;> simp -implicitDefEqProofs [*, downTo]) | (with_reducible refine gOps_and (fun hq => ?_) (fun hq => ?_) <;> (try simp at hq) <;> simp -implicitDefEqProofs [*, downTo]) | (with_reducible refine gOps_or (fun hq => ?_) (fun hq => ?_) <;> (try simp at hq) <;> simp -implicitDefEqProofs [*, downTo]) | (with_reducible refine gOps_not (fun hq => ?_) (fun hq => ?_) <;> (try simp at hq) <;> simp -implicitDefEqProofs [*, downTo]) | (with_reducible refine gOps_split (fun hq => ?_) (fun hq => ?_) <;> (try simp at hq) <;> simp -implicitDefEqProofs [*, downTo]) | (with_reducible refine condC_dec (fun _ => ?_) (fun _ => ?_) <;> simp -implicitDefEqProofs [*, downTo]) | (with_reducible refine condC_ndec (fun _ => ?_) (fun _ => ?_) <;> simp -implicitDefEqProofs [*, downTo]) | (with_reducible refine condC_and (fun hq => ?_) (fun hq => ?_) <;> (try simp at hq) <;> simp -implicitDefEqProofs [*, downTo]) | (with_reducible refine condC_or (fun hq => ?_) (fun hq => ?_) <;> (try simp at hq) <;> simp -implicitDefEqProofs [*, downTo]) | (with_reducible refine condC_not (fun hq => ?_) (fun hq => ?_) <;> (try simp at hq) <;> simp -implicitDefEqProofs [*, downTo]) | (with_reducible refine condC_split (fun hq => ?_) (fun hq => ?_) <;> (try simp at hq) <;> simp -implicitDefEqProofs [*, downTo]) | (refine appK2_if (by omega) ?_; simp -implicitDefEqProofs [*, downTo]) | (refine pureV_if (by omega) ?_; simp -implicitDefEqProofs [*, downTo]))
theorem law10_HelloRow_1111_0 (v : View) (a b : Int) (ids : List Int) (hs : v.small) (hc : ids.length ≤ cap) (ha : helloOk v a ids = true) (hb : helloOk v b ids = true) (hl : ¬ sizeV v + ids.length + 2 ≤ 16) : Den PP 8 [viewD v, .int .i64 a, .int .i64 b, intsD ids] [] (.bool true) [] := by
  have c1 := hello_Take v a ids hs ha
  have c3 := hello_Take v b ids hs hb
  obtain ⟨x1, x2, x3⟩ := helloOk_sizes ha
  have xi := (helloV_may ha).2
  have c2 := hello_Take (helloV v a ids) b ids x1 (by rw [helloOk_again ha]; exact hb)
  obtain ⟨z1, z2, z3⟩ := helloOk_sizes hb
  have zi := (helloV_may hb).2
  have c4 := hello_Take (helloV v b ids) a ids z1 (by rw [helloOk_again hb]; exact ha)
  generalize hq2 : helloV (helloV v a ids) b ids = w2 at *
  clear hq2
  generalize hq4 : helloV (helloV v b ids) a ids = w4 at *
  clear hq4
  generalize hq1 : helloV v a ids = w1 at *
  clear hq1
  generalize hq3 : helloV v b ids = w3 at *
  clear hq3
  rw [← xi] at c1
  rw [← zi] at c3
  simp only [zeroV, psB, xsB, viewD, View.cells, peersD, intsD, List.map_nil, List.length_nil] at c1 c3 c2 c4 ⊢
  have hh : 0 = 0 := rfl
  have wa : IntKind.wrap .i64 ((v.peers.length : Int) + v.passive.length) = (v.peers.length : Int) + v.passive.length := wrap_in (by have := hs.1; have := hs.2; unfold cap16 cap at *; omega) (by have := hs.1; have := hs.2; unfold cap16 cap at *; omega)
  have wb : IntKind.wrap .i64 ((v.peers.length : Int) + v.passive.length + ids.length) = (v.peers.length : Int) + v.passive.length + ids.length := wrap_in (by have := hs.1; have := hs.2; unfold cap16 cap at *; omega) (by have := hs.1; have := hs.2; unfold cap16 cap at *; omega)
  have wc : IntKind.wrap .i64 ((v.peers.length : Int) + v.passive.length + ids.length + 2) = (v.peers.length : Int) + v.passive.length + ids.length + 2 := wrap_in (by have := hs.1; have := hs.2; unfold cap16 cap at *; omega) (by have := hs.1; have := hs.2; unfold cap16 cap at *; omega)
  have wd : (16 : Int) < (v.peers.length : Int) + v.passive.length + ids.length + 2 := by unfold sizeV at hl; omega
  clear ha hb x1 x2 x3 xi z1 z2 z3 zi hl hs hc
  refine den_of [] [] is_gimmallaw10_HelloRow ?_
  simp -implicitDefEqProofs [c_gimmallaw10_HelloRow]
  repeat' (first | (refine callThen_of (by first | exact law10_awake | exact c1 | exact c3 | exact c2 | exact den_nrm (c2) | exact den_nrm (by simpa using c2) | exact c4 | exact den_nrm (c4) | exact den_nrm (by simpa using c4) | exact law_Num _) ?_; simp -implicitDefEqProofs [*, wa, wb, wc, wd, downTo]) | (with_reducible refine gOps_dec (fun _ => ?_) (fun _ => ?_) <;> simp -implicitDefEqProofs [*, wa, wb, wc, wd, downTo]) | (with_reducible refine gOps_ndec (fun _ => ?_) (fun _ => ?_) <;> simp -implicitDefEqProofs [*, wa, wb, wc, wd, downTo]) | (with_reducible refine gOps_and (fun hq => ?_) (fun hq => ?_) <;> (try simp at hq) <;> simp -implicitDefEqProofs [*, wa, wb, wc, wd, downTo]) | (with_reducible refine gOps_or (fun hq => ?_) (fun hq => ?_) <;> (try simp at hq) <;> simp -implicitDefEqProofs [*, wa, wb, wc, wd, downTo]) | (with_reducible refine gOps_not (fun hq => ?_) (fun hq => ?_) <;> (try simp at hq) <;> simp -implicitDefEqProofs [*, wa, wb, wc, wd, downTo]) | (with_reducible refine gOps_split (fun hq => ?_) (fun hq => ?_) <;> (try simp at hq) <;> simp -implicitDefEqProofs [*, wa, wb, wc, wd, downTo]) | (with_reducible refine condC_dec (fun _ => ?_) (fun _ => ?_) <;> simp -implicitDefEqProofs [*, wa, wb, wc, wd, downTo]) | (with_reducible refine condC_ndec (fun _ => ?_) (fun _ => ?_) <;> simp -implicitDefEqProofs [*, wa, wb, wc, wd, downTo]) | (with_reducible refine condC_and (fun hq => ?_) (fun hq => ?_) <;> (try simp at hq) <;> simp -implicitDefEqProofs [*, wa, wb, wc, wd, downTo]) | (with_reducible refine condC_or (fun hq => ?_) (fun hq => ?_) <;> (try simp at hq) <;> simp -implicitDefEqProofs [*, wa, wb, wc, wd, downTo]) | (with_reducible refine condC_not (fun hq => ?_) (fun hq => ?_) <;> (try simp at hq) <;> simp -implicitDefEqProofs [*, wa, wb, wc, wd, downTo]) | (with_reducible refine condC_split (fun hq => ?_) (fun hq => ?_) <;> (try simp at hq) <;> simp -implicitDefEqProofs [*, wa, wb, wc, wd, downTo]) | (refine appK2_if (by omega) ?_; simp -implicitDefEqProofs [*, wa, wb, wc, wd, downTo]) | (refine pureV_if (by omega) ?_; simp -implicitDefEqProofs [*, wa, wb, wc, wd, downTo]))
theorem law10_HelloRow_1111_1 (v : View) (a b : Int) (ids : List Int) (hs : v.small) (hc : ids.length ≤ cap) (ha : helloOk v a ids = true) (hb : helloOk v b ids = true) (hl : sizeV v + ids.length + 2 ≤ 16) : Den PP 8 [viewD v, .int .i64 a, .int .i64 b, intsD ids] [] (.bool true) [] := by
  have c1 := hello_Take v a ids hs ha
  have c3 := hello_Take v b ids hs hb
  obtain ⟨x1, x2, x3⟩ := helloOk_sizes ha
  have xi := (helloV_may ha).2
  have c2 := hello_Take (helloV v a ids) b ids x1 (by rw [helloOk_again ha]; exact hb)
  obtain ⟨z1, z2, z3⟩ := helloOk_sizes hb
  have zi := (helloV_may hb).2
  have c4 := hello_Take (helloV v b ids) a ids z1 (by rw [helloOk_again hb]; exact ha)
  have hok1 : helloOk (helloV v a ids) b ids = true := by rw [helloOk_again ha]; exact hb
  rw [← hello_swap ha hb hl] at c4
  obtain ⟨y1, y2, y3⟩ := helloOk_sizes hok1
  obtain ⟨ym, yi⟩ := helloV_may hok1
  have c5 := law_SameView (helloV (helloV v a ids) b ids) (helloV (helloV v a ids) b ids) y1
  have c6 := ref_ViewMay' (helloV (helloV v a ids) b ids) y1
  rw [ym] at c6
  generalize hq2 : helloV (helloV v a ids) b ids = w2 at *
  clear hq2
  generalize hq1 : helloV v a ids = w1 at *
  clear hq1
  generalize hq3 : helloV v b ids = w3 at *
  clear hq3
  rw [← xi] at c1
  rw [← zi] at c3
  rw [zi, ← xi, ← yi] at c4
  rw [← yi] at c2
  simp only [zeroV, psB, xsB, viewD, View.cells, peersD, intsD, List.map_nil, List.length_nil] at c1 c3 c5 c6 c2 c4 ⊢
  have hh : 0 = 0 := rfl
  have wa : IntKind.wrap .i64 ((v.peers.length : Int) + v.passive.length) = (v.peers.length : Int) + v.passive.length := wrap_in (by have := hs.1; have := hs.2; unfold cap16 cap at *; omega) (by have := hs.1; have := hs.2; unfold cap16 cap at *; omega)
  have wb : IntKind.wrap .i64 ((v.peers.length : Int) + v.passive.length + ids.length) = (v.peers.length : Int) + v.passive.length + ids.length := wrap_in (by have := hs.1; have := hs.2; unfold cap16 cap at *; omega) (by have := hs.1; have := hs.2; unfold cap16 cap at *; omega)
  have wc : IntKind.wrap .i64 ((v.peers.length : Int) + v.passive.length + ids.length + 2) = (v.peers.length : Int) + v.passive.length + ids.length + 2 := wrap_in (by have := hs.1; have := hs.2; unfold cap16 cap at *; omega) (by have := hs.1; have := hs.2; unfold cap16 cap at *; omega)
  have wd : ¬ (16 : Int) < (v.peers.length : Int) + v.passive.length + ids.length + 2 := by unfold sizeV at hl; omega
  clear ha hb x1 x2 x3 xi z1 z2 z3 zi hl hok1 y1 y2 y3 ym yi hs hc
  refine den_of [] [] is_gimmallaw10_HelloRow ?_
  simp -implicitDefEqProofs [c_gimmallaw10_HelloRow]
  repeat' (first | (refine callThen_of (by first | exact law10_awake | exact c1 | exact c3 | exact c2 | exact den_nrm (c2) | exact den_nrm (by simpa using c2) | exact c4 | exact den_nrm (c4) | exact den_nrm (by simpa using c4) | exact c5 | exact c6 | exact law_Num _) ?_; simp -implicitDefEqProofs [*, wa, wb, wc, wd, downTo]) | (with_reducible refine gOps_dec (fun _ => ?_) (fun _ => ?_) <;> simp -implicitDefEqProofs [*, wa, wb, wc, wd, downTo]) | (with_reducible refine gOps_ndec (fun _ => ?_) (fun _ => ?_) <;> simp -implicitDefEqProofs [*, wa, wb, wc, wd, downTo]) | (with_reducible refine gOps_and (fun hq => ?_) (fun hq => ?_) <;> (try simp at hq) <;> simp -implicitDefEqProofs [*, wa, wb, wc, wd, downTo]) | (with_reducible refine gOps_or (fun hq => ?_) (fun hq => ?_) <;> (try simp at hq) <;> simp -implicitDefEqProofs [*, wa, wb, wc, wd, downTo]) | (with_reducible refine gOps_not (fun hq => ?_) (fun hq => ?_) <;> (try simp at hq) <;> simp -implicitDefEqProofs [*, wa, wb, wc, wd, downTo]) | (with_reducible refine gOps_split (fun hq => ?_) (fun hq => ?_) <;> (try simp at hq) <;> simp -implicitDefEqProofs [*, wa, wb, wc, wd, downTo]) | (with_reducible refine condC_dec (fun _ => ?_) (fun _ => ?_) <;> simp -implicitDefEqProofs [*, wa, wb, wc, wd, downTo]) | (with_reducible refine condC_ndec (fun _ => ?_) (fun _ => ?_) <;> simp -implicitDefEqProofs [*, wa, wb, wc, wd, downTo]) | (with_reducible refine condC_and (fun hq => ?_) (fun hq => ?_) <;> (try simp at hq) <;> simp -implicitDefEqProofs [*, wa, wb, wc, wd, downTo]) | (with_reducible refine condC_or (fun hq => ?_) (fun hq => ?_) <;> (try simp at hq) <;> simp -implicitDefEqProofs [*, wa, wb, wc, wd, downTo]) | (with_reducible refine condC_not (fun hq => ?_) (fun hq => ?_) <;> (try simp at hq) <;> simp -implicitDefEqProofs [*, wa, wb, wc, wd, downTo]) | (with_reducible refine condC_split (fun hq => ?_) (fun hq => ?_) <;> (try simp at hq) <;> simp -implicitDefEqProofs [*, wa, wb, wc, wd, downTo]) | (refine appK2_if (by omega) ?_; simp -implicitDefEqProofs [*, wa, wb, wc, wd, downTo]) | (refine pureV_if (by omega) ?_; simp -implicitDefEqProofs [*, wa, wb, wc, wd, downTo]))
theorem law10_HelloRow (v : View) (a b : Int) (ids : List Int) (hs : v.small) (hc : ids.length ≤ cap) : Den PP 8 [viewD v, .int .i64 a, .int .i64 b, intsD ids] [] (.bool true) [] := by
  cases ha : helloOk v a ids <;> cases hb : helloOk v b ids
  · cases hy : helloOk zeroV b ids <;> cases hw : helloOk zeroV a ids
    · exact law10_HelloRow_0000 v a b ids hs hc ha hb hy hw
    · exact law10_HelloRow_0001 v a b ids hs hc ha hb hy hw
    · exact law10_HelloRow_0010 v a b ids hs hc ha hb hy hw
    · exact law10_HelloRow_0011 v a b ids hs hc ha hb hy hw
  · cases hy : helloOk zeroV b ids
    · exact law10_HelloRow_0100 v a b ids hs hc ha hb hy
    · exact law10_HelloRow_0110 v a b ids hs hc ha hb hy
  · cases hw : helloOk zeroV a ids
    · exact law10_HelloRow_1000 v a b ids hs hc ha hb hw
    · exact law10_HelloRow_1001 v a b ids hs hc ha hb hw
  · by_cases hl : sizeV v + ids.length + 2 ≤ 16
    · exact law10_HelloRow_1111_1 v a b ids hs hc ha hb hl
    · exact law10_HelloRow_1111_0 v a b ids hs hc ha hb hl
end Go.AM
