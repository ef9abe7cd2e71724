/- What the proof of this claim stands on, part 11. -/
import Derived.Test.YtailjedmlkdcmaaAmZ10
/- AM: contracts: loops over places. -/
namespace Go.AM
set_option linter.unusedSimpArgs false
set_option linter.unusedVariables false
set_option maxRecDepth 8000
set_option maxHeartbeats 0
theorem ring_Places (xs : List Int) (hl : xs.length ≤ cap) : Den PP 112 [intsD xs] [] (.bool (xs.all place)) [] := by
  refine den_of [] [] is_ring_Places ?_
  simp -implicitDefEqProofs [c_ring_Places, intsD]
  refine anyLoop_of (xs.length + 1) ?_
  have key : ∀ (Q : Ex → St → Prop) (r : Bool) (hQ1 : ∀ fr, r = true → Q .normal ⟨fr, []⟩) (hQ2 : ∀ fr bs, r = false → fr 2 = .bool false → Q .ret ⟨fr, bs⟩) (rest : List Int) (i : Nat) (fr : Nat → D), xs.drop i = rest → i ≤ xs.length →
      fr 0 = intsD xs → fr 5 = intsD xs → fr 6 = .int .i64 xs.length → fr 7 = .int .i64 i → rest.all place = r → sLoop (cf 0 [] []) 0 c_ring_Places_L0 (blockQ 0 Q) (rest.length + 1) ⟨fr, []⟩ := by
    intro Q r hQ1 hQ2 rest
    induction rest with
    | nil =>
      intro i fr e hi h0 h5 h6 h7 hm
      refine sLoop_body c_ring_Places_L0.eq_1 ?_
      have hi' := drop_nil e hi
      simp -implicitDefEqProofs [h0, h5, h6, h7, hi']
      exact hQ1 _ hm.symm
    | cons x rest ih =>
      intro i fr e hi h0 h5 h6 h7 hm
      refine sLoop_body c_ring_Places_L0.eq_1 ?_
      obtain ⟨hlt, hget, hd, hlen⟩ := drop_cons e
      have hlt' : (i : Int) < xs.length := by omega
      simp -implicitDefEqProofs [h0, h5, h6, h7, hlt', hget, intsD, irow]
      refine callThen_of (ring_Place x) ?_
      simp -implicitDefEqProofs
      refine condC_not (fun h1 => ?_) (fun h1 => ?_)
      all_goals simp -implicitDefEqProofs [h1, h0, h5, h6, h7, wrap_next (show i ≤ 140737488355328 by unfold cap at hl; omega)]
      · exact ih (i + 1) _ hd (by omega) (by simp [h0, h5, h6, h7, intsD]) (by simp [h0, h5, h6, h7, intsD]) (by simp [h0, h5, h6, h7]) (by simp) (by rw [← hm]; simp [h1])
      · exact hQ2 _ _ (by rw [← hm]; simp [h1]) (by rfl)
  refine key _ (xs.all place) (fun fr h => ?_) (fun fr bs h h2 => ?_) xs 0 _ rfl (Nat.zero_le _) rfl rfl rfl rfl rfl
  · simp -implicitDefEqProofs [h]
  · simp -implicitDefEqProofs [h, h2]

theorem ref_placesMay (xs : List Int) (hl : xs.length ≤ cap) : Den PP 86 [intsD xs] [] (.bool (xs.all place)) [] := by
  refine den_of [] [] is_gimmalref1_placesMay ?_
  simp -implicitDefEqProofs [c_gimmalref1_placesMay, intsD]
  refine anyLoop_of (xs.length + 1) ?_
  have key : ∀ (Q : Ex → St → Prop) (r : Bool) (hQ1 : ∀ fr, r = true → Q .normal ⟨fr, []⟩) (hQ2 : ∀ fr bs, r = false → fr 2 = .bool false → Q .ret ⟨fr, bs⟩) (rest : List Int) (i : Nat) (fr : Nat → D), xs.drop i = rest → i ≤ xs.length →
      fr 0 = .sl (xs.map irow) xs.length → fr 3 = .int .i64 i → rest.all place = r → sLoop (cf 0 [] []) 0 c_gimmalref1_placesMay_L0 (blockQ 0 Q) (rest.length + 1) ⟨fr, []⟩ := by
    intro Q r hQ1 hQ2 rest
    induction rest with
    | nil =>
      intro i fr e hi h0 h3 hm
      refine sLoop_body c_gimmalref1_placesMay_L0.eq_1 ?_
      have hi' := drop_nil e hi
      simp -implicitDefEqProofs [h0, h3, hi']
      exact hQ1 _ hm.symm
    | cons x rest ih =>
      intro i fr e hi h0 h3 hm
      refine sLoop_body c_gimmalref1_placesMay_L0.eq_1 ?_
      obtain ⟨hlt, hget, hd, hlen⟩ := drop_cons e
      have hlt' : (i : Int) < xs.length := by omega
      simp -implicitDefEqProofs [h0, h3, hlt', hget, irow]
      refine callThen_of (ref_PlaceMay x) ?_
      simp -implicitDefEqProofs
      refine condC_not (fun h1 => ?_) (fun h1 => ?_)
      all_goals simp -implicitDefEqProofs [h1, h0, h3, wrap_next (show i ≤ 140737488355328 by unfold cap at hl; omega)]
      · exact ih (i + 1) _ hd (by omega) (by simp [h0, h3, intsD]) (by simp) (by rw [← hm]; simp [h1])
      · exact hQ2 _ _ (by rw [← hm]; simp [h1]) (by rfl)
  refine key _ (xs.all place) (fun fr h => ?_) (fun fr bs h h2 => ?_) xs 0 _ rfl (Nat.zero_le _) rfl rfl rfl
  · simp -implicitDefEqProofs [h]
  · simp -implicitDefEqProofs [h, h2]

theorem passive_May (xs : List Int) (hl : xs.length ≤ cap) : Den PP 101 [intsD xs] [] (.bool (passiveMay xs)) [] := by
  refine den_of [] [] is_passive_May ?_
  simp -implicitDefEqProofs [c_passive_May, intsD]
  refine anyLoop_of (xs.length + 1) ?_
  have key : ∀ (Q : Ex → St → Prop) (r : Bool) (hQ1 : ∀ fr, r = true → fr 0 = .sl (xs.map irow) xs.length → Q .normal ⟨fr, []⟩) (hQ2 : ∀ fr bs, r = false → fr 2 = .bool false → Q .ret ⟨fr, bs⟩) (rest : List Int) (i : Nat) (fr : Nat → D), xs.drop i = rest → i ≤ xs.length →
      fr 0 = .sl (xs.map irow) xs.length → fr 5 = .sl (xs.map irow) xs.length → fr 6 = .int .i64 xs.length → fr 7 = .int .i64 i → ups (if i = 0 then none else xs[i - 1]?) rest = r → sLoop (cf 0 [] []) 0 c_passive_May_L0 (blockQ 0 Q) (rest.length + 1) ⟨fr, []⟩ := by
    intro Q r hQ1 hQ2 rest
    induction rest with
    | nil =>
      intro i fr e hi h0 h5 h6 h7 hm
      refine sLoop_body c_passive_May_L0.eq_1 ?_
      have hi' := drop_nil e hi
      simp -implicitDefEqProofs [h0, h5, h6, h7, hi']
      exact hQ1 _ hm.symm (by simp [h0, h5, h6, h7])
    | cons x rest ih =>
      intro i fr e hi h0 h5 h6 h7 hm
      refine sLoop_body c_passive_May_L0.eq_1 ?_
      obtain ⟨hlt, hget, hd, hlen⟩ := drop_cons e
      have hlt' : (i : Int) < xs.length := by omega
      have hw := wrap_next (show i ≤ 140737488355328 by unfold cap at hl; omega)
      have hprev : (if i + 1 = 0 then none else xs[i + 1 - 1]?) = some x := by simp [hget]
      simp only [ups] at hm
      simp -implicitDefEqProofs [h0, h5, h6, h7, hlt', hget, irow]
      refine callThen_of (ring_Place x) ?_
      simp -implicitDefEqProofs [h0, h5, h6, h7]
      refine gOps_split (fun h1 => ?_) (fun h1 => ?_)
      rotate_left
      · simp -implicitDefEqProofs [h1, h0, h5, h6, h7]
        exact hQ2 _ _ (by rw [← hm]; simp [h1]) (by rfl)
      simp -implicitDefEqProofs [h1, h0, h5, h6, h7]
      by_cases hi0 : i = 0
      · simp -implicitDefEqProofs [hi0, h0, h5, h6, h7]
        simp -implicitDefEqProofs [hi0] at hw
        simp -implicitDefEqProofs [hw]
        refine ih 1 _ (by rw [← hd, hi0]) (by omega) (by simp [h0, h5, h6, h7]) (by simp [h0, h5, h6, h7]) (by simp [h0, h5, h6, h7]) (by simp) ?_
        rw [hi0] at hprev hm
        rw [← hm]
        simp [h1] at hprev ⊢
        rw [hprev]
      · have hpos : 0 < i := by omega
        have hwp : IntKind.wrap .i64 ((i : Int) - 1) = ((i - 1 : Nat) : Int) := by unfold cap at hl; rw [wrap_in (by omega) (by omega)]; omega
        have hlt2 : ((i - 1 : Nat) : Int) < xs.length := by omega
        obtain ⟨y, hy⟩ : ∃ y, xs[i - 1]? = some y := ⟨xs[i - 1], by simp⟩
        rw [if_neg hi0, hy] at hm
        simp -implicitDefEqProofs [hpos, h0, h5, h6, h7, hwp, hlt2, hy, irow]
        refine condC_dec (fun h2 => ?_) (fun h2 => ?_)
        all_goals simp -implicitDefEqProofs [h2, h0, h5, h6, h7, hw]
        · exact hQ2 _ _ (by rw [← hm]; simp; intros; omega) (by rfl)
        · refine ih (i + 1) _ hd (by omega) (by simp [h0, h5, h6, h7]) (by simp [h0, h5, h6, h7]) (by simp [h0, h5, h6, h7]) (by simp) ?_
          rw [hprev, ← hm, h1]
          simp [show y < x by omega]
  refine key _ (ups none xs) (fun fr h h0 => ?_) (fun fr bs h h2 => ?_) xs 0 _ rfl (Nat.zero_le _) rfl rfl rfl rfl rfl
  · simp -implicitDefEqProofs [h, h0, passiveMay]
    omega
  · simp -implicitDefEqProofs [h, h2, passiveMay]

def TellsI (f : Nat) (caps : List D) (p : Int → Bool) (xs : List Int) : Prop := (∀ bs, caps.map (D.freeze bs) = caps) ∧ (∀ fr fp, mapRL fr fp caps = caps) ∧ ∀ x ∈ xs, Den PP f (.int .i64 x :: caps) [] (.bool (p x)) []
theorem slices_IndexFunc_int (xs : List Int) (hl : xs.length ≤ cap) (f : Nat) (caps : List D) (p : Int → Bool) (hp : TellsI f caps p xs) : Den PP 119 [intsD xs, .fn f [] caps] [] (.int .i64 (fIdx p 0 xs)) [] := by
  refine den_of [] [] is_slices_IndexFunc_int_int ?_
  simp -implicitDefEqProofs [c_slices_IndexFunc_int_int, intsD]
  refine anyLoop_of (xs.length + 1) ?_
  have key : ∀ (Q : Ex → St → Prop) (r : Int) (hQ1 : ∀ fr, r = -1 → Q .normal ⟨fr, []⟩) (hQ2 : ∀ fr bs, fr 4 = .int .i64 r → Q .ret ⟨fr, bs⟩) (rest : List Int) (i : Nat) (fr : Nat → D), xs.drop i = rest → i ≤ xs.length →
      fr 0 = .sl (xs.map irow) xs.length → fr 1 = .fn f [] caps → fr 7 = .int .i64 xs.length → fr 8 = .int .i64 i → fIdx p i rest = r → sLoop (cf 0 [] []) 0 c_slices_IndexFunc_int_int_L0 (blockQ 0 Q) (rest.length + 1) ⟨fr, []⟩ := by
    intro Q r hQ1 hQ2 rest
    induction rest with
    | nil =>
      intro i fr e hi h0 h1 h7 h8 hm
      refine sLoop_body c_slices_IndexFunc_int_int_L0.eq_1 ?_
      have hi' := drop_nil e hi
      simp -implicitDefEqProofs [h0, h1, h7, h8, hi']
      exact hQ1 _ hm.symm
    | cons x rest ih =>
      intro i fr e hi h0 h1 h7 h8 hm
      refine sLoop_body c_slices_IndexFunc_int_int_L0.eq_1 ?_
      obtain ⟨hlt, hget, hd, hlen⟩ := drop_cons e
      have hlt' : (i : Int) < xs.length := by omega
      have hw := wrap_next (show i ≤ 140737488355328 by unfold cap at hl; omega)
      simp -implicitDefEqProofs [h0, h1, h7, h8, hlt', hget, irow, hp.1]
      refine callThen_of (hp.2.2 x (List.mem_of_getElem? hget)) ?_
      simp only [fIdx] at hm
      simp -implicitDefEqProofs
      refine condC_split (fun h2 => ?_) (fun h2 => ?_)
      all_goals simp -implicitDefEqProofs [h2, h0, h1, h7, h8, hw]
      · exact hQ2 _ _ (by rw [← hm, h2]; simp)
      · exact ih (i + 1) _ hd (by omega) (by simp [h0, h1, h7, h8]) (by simp [h0, h1, h7, h8, hp.2.1]) (by simp [h0, h1, h7, h8]) (by simp) (by rw [← hm, h2]; simp)
  refine key _ (fIdx p 0 xs) (fun fr h => ?_) (fun fr bs h => ?_) xs 0 _ rfl (Nat.zero_le _) rfl rfl rfl rfl rfl
  · simp -implicitDefEqProofs [h]
  · simp -implicitDefEqProofs [h]

theorem slices_ContainsFunc_int (xs : List Int) (hl : xs.length ≤ cap) (f : Nat) (caps : List D) (p : Int → Bool) (hp : TellsI f caps p xs) : Den PP 104 [intsD xs, .fn f [] caps] [] (.bool (xs.any p)) [] := by
  refine den_of [] [] is_slices_ContainsFunc_int_int ?_
  simp -implicitDefEqProofs [c_slices_ContainsFunc_int_int, intsD, hp.2.1]
  refine callThen_of (slices_IndexFunc_int xs hl f caps p hp) ?_
  have := fIdx_any p xs 0
  simp -implicitDefEqProofs [← this]

theorem bsearch_Peer (base : Int) (ps : List Peer) (id : Int) (hl : ps.length ≤ cap) (at_ : Nat) (hat : at_ ≤ ps.length)
    (hlo : ∀ i p, i < at_ → ps[i]? = some p → far base p.id < far base id) (hhi : ∀ i p, at_ ≤ i → ps[i]? = some p → far base id ≤ far base p.id) :
    Den PP 125 [peersD ps, .int .i64 id, .fn 124 [.agg [.int .i64 base]] []] [] (.tup [.int .i64 at_, .bool (isFar base id ps[at_]?)]) [] := by
  refine den_of [] [] is_slices_BinarySearchFunc_api_Peer_api_Peer_int ?_
  simp -implicitDefEqProofs [c_slices_BinarySearchFunc_api_Peer_api_Peer_int, peersD]
  refine anyLoop_of (ps.length + 1) ?_
  have key : ∀ (Q : Ex → St → Prop) (hQ1 : ∀ fr, fr 0 = .sl (ps.map Peer.row) ps.length → fr 1 = .int .i64 id → fr 2 = .fn 124 [.agg [.int .i64 base]] [] → fr 8 = .int .i64 ps.length → fr 9 = .int .i64 at_ → Q .normal ⟨fr, []⟩) (d lo hi : Nat) (fr : Nat → D), hi - lo ≤ d → lo ≤ at_ → at_ ≤ hi → hi ≤ ps.length →
      fr 0 = .sl (ps.map Peer.row) ps.length → fr 1 = .int .i64 id → fr 2 = .fn 124 [.agg [.int .i64 base]] [] → fr 8 = .int .i64 ps.length → fr 9 = .int .i64 lo → fr 10 = .int .i64 hi → sLoop (cf 0 [] []) 0 c_slices_BinarySearchFunc_api_Peer_api_Peer_int_L0 (blockQ 0 Q) (d + 1) ⟨fr, []⟩ := by
    intro Q hQ1 d
    induction d with
    | zero =>
      intro lo hi fr hd h3 h4 h5 h0 h1 h2 h8 h9 h10
      refine sLoop_body c_slices_BinarySearchFunc_api_Peer_api_Peer_int_L0.eq_1 ?_
      have e1 : lo = at_ := by omega
      have e2 : hi = at_ := by omega
      simp -implicitDefEqProofs [h0, h1, h2, h8, h9, h10, e1, e2]
      exact hQ1 _ (by simp [h0, h1, h2, h8, h9, h10]) (by simp [h0, h1, h2, h8, h9, h10]) (by simp [h0, h1, h2, h8, h9, h10]) (by simp [h0, h1, h2, h8, h9, h10]) (by simp [h0, h1, h2, h8, h9, h10, e1])
    | succ d ih =>
      intro lo hi fr hd h3 h4 h5 h0 h1 h2 h8 h9 h10
      refine sLoop_body c_slices_BinarySearchFunc_api_Peer_api_Peer_int_L0.eq_1 ?_
      by_cases hlt : lo < hi
      · have hlt' : (lo : Int) < hi := by omega
        have hm := mid_eq (lo := lo) (hi := hi) (by omega) (by omega)
        have hml : (lo + hi) / 2 < ps.length := by omega
        have hml' : (((lo + hi) / 2 : Nat) : Int) < ps.length := by omega
        have hw := wrap_next (n := (lo + hi) / 2) (by unfold cap at hl; omega)
        have hb1 : lo ≤ (lo + hi) / 2 := by omega
        have hb2 : (lo + hi) / 2 < hi := by omega
        generalize (lo + hi) / 2 = mid at *
        simp -implicitDefEqProofs [h0, h1, h2, h8, h9, h10, hlt', hlt, hm, hml, hml', Peer.row]
        refine callThen_of (peers_order_find base ps[mid] id) ?_
        simp -implicitDefEqProofs [cmpI_neg]
        refine condC_dec (fun hc => ?_) (fun hc => ?_)
        all_goals simp -implicitDefEqProofs [h0, h1, h2, h8, h9, h10, hc, hw]
        · have : mid < at_ := by
            apply Classical.byContradiction
            intro hx
            have := hhi mid ps[mid] (by omega) (by simp)
            omega
          refine ih (mid + 1) hi _ (by omega) (by omega) (by omega) (by omega) (by simp [h0, h1, h2, h8, h9, h10]) (by simp [h0, h1, h2, h8, h9, h10]) (by simp [h0, h1, h2, h8, h9, h10]) (by simp [h0, h1, h2, h8, h9, h10]) (by simp) (by simp [h0, h1, h2, h8, h9, h10])
        · have : at_ ≤ mid := by
            apply Classical.byContradiction
            intro hx
            have := hlo mid ps[mid] (by omega) (by simp)
            omega
          refine ih lo mid _ (by omega) (by omega) (by omega) (by omega) (by simp [h0, h1, h2, h8, h9, h10]) (by simp [h0, h1, h2, h8, h9, h10]) (by simp [h0, h1, h2, h8, h9, h10]) (by simp [h0, h1, h2, h8, h9, h10]) (by simp [h0, h1, h2, h8, h9, h10]) (by simp)
      · have e1 : lo = at_ := by omega
        have e2 : hi = at_ := by omega
        simp -implicitDefEqProofs [h0, h1, h2, h8, h9, h10, e1, e2]
        exact hQ1 _ (by simp [h0, h1, h2, h8, h9, h10]) (by simp [h0, h1, h2, h8, h9, h10]) (by simp [h0, h1, h2, h8, h9, h10]) (by simp [h0, h1, h2, h8, h9, h10]) (by simp [h0, h1, h2, h8, h9, h10, e1])
  refine key _ (fun fr h0 h1 h2 h8 h9 => ?_) ps.length 0 ps.length _ (by omega) (by omega) hat (Nat.le_refl _) rfl rfl rfl rfl rfl rfl
  simp -implicitDefEqProofs [h0, h1, h2, h8, h9]
  refine gOps_dec (fun hc => ?_) (fun hc => ?_)
  · simp -implicitDefEqProofs [h0, h1, h2, h8, h9, hc, Peer.row]
    refine callThen_of (peers_order_find base ps[at_] id) ?_
    simp -implicitDefEqProofs [cmpI_beq, cmpI_zero, hc, isFar]
  · have hp : ps[at_]? = none := by rw [List.getElem?_eq_none]; omega
    simp -implicitDefEqProofs [h0, h1, h2, h8, h9, hc, hp, isFar]

theorem peers_Find (base : Int) (ps : List Peer) (id : Int) (hl : ps.length ≤ cap) (hr : Rowed base ps) :
    Den PP 118 [.int .i64 base, peersD ps, .int .i64 id] [] (.tup [.int .i64 (findAt base ps id), .bool (peerIs base ps id)]) [] := by
  refine den_of [] [] is_peers_Find ?_
  simp -implicitDefEqProofs [c_peers_Find, peersD]
  refine callThen_of (bsearch_Peer base ps id hl (findAt base ps id) (findAt_le _ _ _) findAt_lo (findAt_hi hr)) ?_
  simp -implicitDefEqProofs [peerIs]

theorem view_Peer (v : View) (id : Int) (hl : v.peers.length ≤ cap) (hr : Rowed v.id v.peers) : Den PP 103 [.mem v.cells, .int .i64 id] [] (.bool (peerIs v.id v.peers id)) [] := by
  refine den_of [] [] is_view_Peer ?_
  simp -implicitDefEqProofs [c_view_Peer, View.cells, peersD]
  refine callThen_of (peers_Find v.id v.peers id hl hr) ?_
  simp -implicitDefEqProofs

theorem view_May_1 (v : View) (id : Int) (hl : v.peers.length ≤ cap) (hr : Rowed v.id v.peers) : Den PP 102 [.int .i64 id, .mem v.cells] [] (.bool (oddIn v id)) [] := by
  refine den_of [] [] is_view_May_1 ?_
  simp -implicitDefEqProofs [c_view_May_1, View.cells, peersD]
  refine gOps_not (fun h => ?_) (fun h => ?_) <;> simp -implicitDefEqProofs [h, oddIn]
  refine callThen_of (view_Peer v id hl hr) ?_
  simp -implicitDefEqProofs

theorem view_May (v : View) (hs : v.small) : Den PP 76 [viewD v] [] (.bool (viewMay v)) [] := by
  refine den_of [] [] is_view_May ?_
  simp -implicitDefEqProofs [c_view_May, viewD, View.cells, peersD, intsD]
  refine callThen_of (peers_May v.id v.peers (cap_of hs.1)) ?_
  simp -implicitDefEqProofs
  refine gOps_split (fun h1 => ?_) (fun h1 => ?_)
  rotate_left
  · simp -implicitDefEqProofs [h1, viewMay]
  simp -implicitDefEqProofs [h1]
  refine callThen_of (passive_May v.passive hs.2) ?_
  simp -implicitDefEqProofs
  refine gOps_split (fun h2 => ?_) (fun h2 => ?_)
  rotate_left
  · simp -implicitDefEqProofs [h2, h1, viewMay]
  have hw : IntKind.wrap .i64 ((v.peers.length : Int) + v.passive.length) = v.peers.length + v.passive.length := by
    obtain ⟨a, b⟩ := hs
    unfold cap16 at a
    unfold cap at b
    exact wrap_in (by omega) (by omega)
  simp -implicitDefEqProofs [h2, hw]
  refine condC_dec (fun h3 => ?_) (fun h3 => ?_)
  · simp -implicitDefEqProofs [h3, viewMay]
    intros
    omega
  simp -implicitDefEqProofs [h3]
  refine callThen_of (slices_ContainsFunc_int v.passive hs.2 _ _ (oddIn v) ⟨fun bs => rfl, fun fr fp => rfl, fun x _ => view_May_1 v x (cap_of hs.1) (peersMay_rowed h1)⟩) ?_
  simp -implicitDefEqProofs [viewMay, h1, h2]
  intros
  omega
end Go.AM
/- AM: contracts: a view's ends. -/
namespace Go.AM
set_option linter.unusedSimpArgs false
set_option linter.unusedVariables false
set_option maxRecDepth 8000
set_option maxHeartbeats 0
theorem view_Ids (v : View) (hl : v.peers.length ≤ cap16) : Den PP 78 [.mem v.cells] [] (.ref 0 0 v.peers.length) [⟨v.peers.map fun p => irow p.id, 1, .mut⟩] := by
  refine den_of [] [] is_view_Ids ?_
  simp -implicitDefEqProofs [c_view_Ids, View.cells, peersD]
  refine anyLoop_of (v.peers.length + 1) ?_
  have key : ∀ (Q : Ex → St → Prop) (hQ1 : ∀ fr, fr 3 = .ref 1 0 v.peers.length → Q .normal ⟨fr, [⟨[], 1, .mut⟩, ⟨v.peers.map fun p => irow p.id, 1, .mut⟩]⟩) (rest : List Peer) (i : Nat) (fr : Nat → D), v.peers.drop i = rest → i ≤ v.peers.length →
      fr 3 = .ref 1 0 i → fr 9 = .sl (v.peers.map Peer.row) v.peers.length → fr 10 = .int .i64 v.peers.length → fr 11 = .int .i64 i → sLoop (cf 0 [] []) 2 c_view_Ids_L0 (blockQ 0 Q) (rest.length + 1) ⟨fr, [⟨[], 1, .mut⟩, ⟨(v.peers.map fun p => irow p.id).take i, 1, .mut⟩]⟩ := by
    intro Q hQ1 rest
    induction rest with
    | nil =>
      intro i fr e hi h3 h9 h10 h11
      refine sLoop_body c_view_Ids_L0.eq_1 ?_
      have hi' := drop_nil e hi
      have hall : (v.peers.map fun p => irow p.id).take v.peers.length = v.peers.map fun p => irow p.id := List.take_of_length_le (by simp)
      simp -implicitDefEqProofs [h3, h9, h10, h11, hi', hall]
      exact hQ1 _ (by simp [h3, h9, h10, h11, hi'])
    | cons p rest ih =>
      intro i fr e hi h3 h9 h10 h11
      refine sLoop_body c_view_Ids_L0.eq_1 ?_
      obtain ⟨hlt, hget, hd, hlen⟩ := drop_cons e
      have hlt' : (i : Int) < v.peers.length := by omega
      have hw := wrap_next (n := i) (by unfold cap16 at hl; omega)
      have hb1 : (i + 1) * 8 ≤ 140737488355328 := by unfold cap16 at hl; omega
      have hb2 : i ≤ 9223372036854775806 := by unfold cap16 at hl; omega
      have hmin : min i v.peers.length = i := Nat.min_eq_left hi
      have htk : (v.peers.map fun p => irow p.id).take (i + 1) = (v.peers.map fun p => irow p.id).take i ++ [[.int .i64 p.id]] := by
        rw [List.take_add_one, List.getElem?_map, hget]
        rfl
      have := ih (i + 1)
      rw [htk] at this
      simp -implicitDefEqProofs [h3, h9, h10, h11, hlt', hget, Peer.row, hw, hb1, hb2, hmin, Fits]
      exact this _ hd (by omega) (by simp [h3, h9, h10, h11]) (by simp [h3, h9, h10, h11]) (by simp [h3, h9, h10, h11]) (by simp)
  refine key _ (fun fr h3 => ?_) v.peers 0 _ rfl (Nat.zero_le _) rfl rfl rfl rfl
  simp -implicitDefEqProofs [h3]

theorem ref_Names (ps : List Peer) (hl : ps.length ≤ cap16) : Den PP 66 [peersD ps] [] (.ref 0 0 ps.length) [⟨ps.map fun p => irow p.id, 1, .mut⟩] := by
  refine den_of [] [] is_gimmalref1_Names ?_
  simp -implicitDefEqProofs [c_gimmalref1_Names, peersD]
  refine anyLoop_of (ps.length + 1) ?_
  have key : ∀ (Q : Ex → St → Prop) (hQ1 : ∀ fr, fr 3 = .ref 1 0 ps.length → Q .normal ⟨fr, [⟨[], 1, .mut⟩, ⟨ps.map fun p => irow p.id, 1, .mut⟩]⟩) (rest : List Peer) (i : Nat) (fr : Nat → D), ps.drop i = rest → i ≤ ps.length →
      fr 3 = .ref 1 0 i → fr 0 = .sl (ps.map Peer.row) ps.length → fr 4 = .int .i64 i → sLoop (cf 0 [] []) 2 c_gimmalref1_Names_L0 (blockQ 0 Q) (rest.length + 1) ⟨fr, [⟨[], 1, .mut⟩, ⟨(ps.map fun p => irow p.id).take i, 1, .mut⟩]⟩ := by
    intro Q hQ1 rest
    induction rest with
    | nil =>
      intro i fr e hi h3 h0 h4
      refine sLoop_body c_gimmalref1_Names_L0.eq_1 ?_
      have hi' := drop_nil e hi
      have hall : (ps.map fun p => irow p.id).take ps.length = ps.map fun p => irow p.id := List.take_of_length_le (by simp)
      simp -implicitDefEqProofs [h0, h3, h4, hi', hall]
      exact hQ1 _ (by simp [h0, h3, h4, hi'])
    | cons p rest ih =>
      intro i fr e hi h3 h0 h4
      refine sLoop_body c_gimmalref1_Names_L0.eq_1 ?_
      obtain ⟨hlt, hget, hd, hlen⟩ := drop_cons e
      have hlt' : (i : Int) < ps.length := by omega
      have hw := wrap_next (n := i) (by unfold cap16 at hl; omega)
      have hb1 : (i + 1) * 8 ≤ 140737488355328 := by unfold cap16 at hl; omega
      have hb2 : i ≤ 9223372036854775806 := by unfold cap16 at hl; omega
      have hmin : min i ps.length = i := Nat.min_eq_left hi
      have htk : (ps.map fun p => irow p.id).take (i + 1) = (ps.map fun p => irow p.id).take i ++ [[.int .i64 p.id]] := by
        rw [List.take_add_one, List.getElem?_map, hget]
        rfl
      have := ih (i + 1)
      rw [htk] at this
      simp -implicitDefEqProofs [h0, h3, h4, hlt', hget, Peer.row, hw, hb1, hb2, hmin, Fits]
      exact this _ hd (by omega) (by simp [h0, h3, h4]) (by simp [h0, h3, h4]) (by simp)
  refine key _ (fun fr h3 => ?_) ps 0 _ rfl (Nat.zero_le _) rfl rfl rfl
  simp -implicitDefEqProofs [h3]

theorem ref_has (xs : List Int) (x : Int) (hl : xs.length ≤ cap) : Den PP 88 [intsD xs, .int .i64 x] [] (.bool (xs.contains x)) [] := by
  refine den_of [] [] is_gimmalref1_has ?_
  simp -implicitDefEqProofs [c_gimmalref1_has, intsD]
  refine anyLoop_of (xs.length + 1) ?_
  have key : ∀ (Q : Ex → St → Prop) (r : Bool) (hQ1 : ∀ fr, r = false → Q .normal ⟨fr, []⟩) (hQ2 : ∀ fr bs, r = true → fr 4 = .bool true → Q .ret ⟨fr, bs⟩) (rest : List Int) (i : Nat) (fr : Nat → D), xs.drop i = rest → i ≤ xs.length →
      fr 0 = .sl (xs.map irow) xs.length → fr 1 = .int .i64 x → fr 5 = .int .i64 i → rest.contains x = r → sLoop (cf 0 [] []) 0 c_gimmalref1_has_L0 (blockQ 0 Q) (rest.length + 1) ⟨fr, []⟩ := by
    intro Q r hQ1 hQ2 rest
    induction rest with
    | nil =>
      intro i fr e hi h0 h1 h5 hm
      refine sLoop_body c_gimmalref1_has_L0.eq_1 ?_
      have hi' := drop_nil e hi
      simp -implicitDefEqProofs [h0, h1, h5, hi']
      exact hQ1 _ hm.symm
    | cons y rest ih =>
      intro i fr e hi h0 h1 h5 hm
      refine sLoop_body c_gimmalref1_has_L0.eq_1 ?_
      obtain ⟨hlt, hget, hd, hlen⟩ := drop_cons e
      have hlt' : (i : Int) < xs.length := by omega
      have hw := wrap_next (n := i) (by unfold cap at hl; omega)
      simp -implicitDefEqProofs [h0, h1, h5, hlt', hget, irow]
      refine condC_split (fun h2 => ?_) (fun h2 => ?_)
      all_goals simp -implicitDefEqProofs [h2, h0, h1, h5, hw]
      · exact hQ2 _ _ (by rw [← hm]; simp at h2; simp [h2]) (by rfl)
      · exact ih (i + 1) _ hd (by omega) (by simp [h0, h1, h5]) (by simp [h0, h1, h5]) (by simp) (by rw [← hm]; simp at h2; simp [Ne.symm h2])
  refine key _ (xs.contains x) (fun fr h => ?_) (fun fr bs h h2 => ?_) xs 0 _ rfl (Nat.zero_le _) rfl rfl rfl rfl
  · simp -implicitDefEqProofs [h]
    simpa using h
  · simp -implicitDefEqProofs [h, h2]
    simpa using h
end Go.AM
/- AM: what the library's functions over slices step through: slices of own blocks, rows written over others. -/
namespace Go.AM
set_option linter.unusedSimpArgs false
set_option linter.unusedVariables false

section
variable {c : Cfg} {K : St → Prop} {st : St} {dst : Option Nat} {p : Prop} [Decidable p]
theorem overK_if {d : D} {a b : Option St} (hp : p) (h : overK dst d a K) : overK dst d (if p then a else b) K := by rw [if_pos hp]; exact h
theorem appK2_else {a b : Option (D × St)} (hp : ¬ p) (h : appK2 dst b K) : appK2 dst (if p then a else b) K := by rw [if_neg hp]; exact h
theorem overK_else {d : D} {a b : Option St} (hp : ¬ p) (h : overK dst d b K) : overK dst d (if p then a else b) K := by rw [if_neg hp]; exact h
theorem optK_if {a b : Option St} (hp : p) (h : optK a K) : optK (if p then a else b) K := by rw [if_pos hp]; exact h
theorem outK_if {a b : Option Out} (hp : p) (h : outK st dst a K) : outK st dst (if p then a else b) K := by rw [if_pos hp]; exact h
theorem appK_if {e : Nat} {base : D} {a b : Option (List (List D))} (hp : p) (h : appK c dst e base a st K) : appK c dst e base (if p then a else b) st K := by rw [if_pos hp]; exact h
/-- A part of a slice in an own block. -/
theorem outK_slice {T : Tab} {t b off len e : Nat} {lo hi : Option D} {k : Blk} (l h : Nat) (hT : (T t).d = .slice e) (hb : st.bs[b]? = some k) (hlo : boundD 0 lo = some (l : Int)) (hhi : boundD len hi = some (h : Int))
    (h1 : l ≤ h) (h2 : off + h ≤ k.rows.length) (h3 : k.esz = (T e).size) (hne : l = 0 ∨ off + l < k.rows.length) (hK : K (st.put dst (.ref b (off + l) (h - l)))) : outK st dst (sliceD T st.bs t (.ref b off len) lo hi none) K := by
  have : sliceD T st.bs t (.ref b off len) lo hi none = some { d := .ref b (off + l) (h - l) } := by
    unfold sliceD
    rw [hT]
    simp only [hlo, hhi, hb]
    rw [if_pos (by refine ⟨by omega, by omega, by omega, h3⟩)]
    by_cases hl : l = 0
    · subst hl
      simp
    · rw [if_neg (by omega), if_pos (by simp; omega)]
      have : ((h : Int) - l).toNat = h - l := by omega
      simp [this]
  rw [this]
  refine ⟨by simp, ?_⟩
  rw [out_quiet]
  exact hK
/-- A part of a slice whose cells stay. -/
theorem outK_sliceS {T : Tab} {bs : List Blk} {t len e : Nat} {rows : List (List D)} {lo hi : Option D} (l h : Nat) (hT : (T t).d = .slice e) (hlo : boundD 0 lo = some (l : Int)) (hhi : boundD len hi = some (h : Int))
    (h1 : l ≤ h) (h2 : h ≤ rows.length) (h3 : ∀ r ∈ rows, r.length = (T e).size) (hK : K (st.put dst (.sl (rows.drop l) (h - l)))) : outK st dst (sliceD T bs t (.sl rows len) lo hi none) K := by
  have : sliceD T bs t (.sl rows len) lo hi none = some { d := .sl (rows.drop l) (h - l) } := by
    unfold sliceD
    rw [hT]
    simp only [hlo, hhi]
    rw [if_pos (by omega), if_pos h3]
    have : ((h : Int) - l).toNat = h - l := by omega
    simp [this]
  rw [this]
  refine ⟨by simp, ?_⟩
  rw [out_quiet]
  exact hK
/-- The empty part at the end of a block. -/
theorem outK_sliceE {T : Tab} {t b off len e : Nat} {lo hi : Option D} {k : Blk} (l : Nat) (hT : (T t).d = .slice e) (hb : st.bs[b]? = some k) (hlo : boundD 0 lo = some (l : Int)) (hhi : boundD len hi = some (l : Int))
    (h2 : off + l = k.rows.length) (h3 : k.esz = (T e).size) (hl : l ≠ 0) (hK : K (st.put dst (.sl [] 0))) : outK st dst (sliceD T st.bs t (.ref b off len) lo hi none) K := by
  have : sliceD T st.bs t (.ref b off len) lo hi none = some { d := .sl [] 0 } := by
    unfold sliceD
    rw [hT]
    simp only [hlo, hhi, hb]
    rw [if_pos (by refine ⟨by omega, by omega, by omega, h3⟩), if_neg (by omega), if_neg (by simp; omega)]
  rw [this]
  refine ⟨by simp, ?_⟩
  rw [out_quiet]
  exact hK
end

theorem outRows_of {esz j o l : Nat} {k' : Blk} {bs' : List Blk} {R : List (List D)} (hj : bs'[j]? = some k') (hm : k'.kind = .mut) (he : k'.esz = esz) (hl : o + l ≤ k'.rows.length) (hR : R = (k'.rows.drop o).take l) (h0 : j = 0 ∨ 0 < l) : outRows esz (.ref j o l) bs' R :=
  ⟨j, o, l, k', rfl, hj, hm, he, hl, hR, h0⟩

/-- It names no own block. -/
def D.still : D → Bool
  | .int _ _ => true
  | .bool _ => true
  | .nil => true
  | .zs _ => true
  | .sl _ _ => true
  | .mem _ => true
  | .undef => true
  | _ => false
def StillR (rows : List (List D)) : Prop := ∀ r ∈ rows, ∀ d ∈ r, d.still = true
theorem still_rids {d : D} (h : d.still = true) : d.rids = [] := by cases d <;> first | rfl | cases h
theorem still_mapR {d : D} (h : d.still = true) (fr fp : Nat → Nat → Nat → D) : d.mapR fr fp = d := by cases d <;> first | rfl | cases h
theorem still_ridsL : ∀ {r : List D}, (∀ d ∈ r, d.still = true) → ridsL r = [] := by
  intro r
  induction r with
  | nil => intro _; rfl
  | cons d ds ih =>
    intro h
    simp only [ridsL, still_rids (h d (by simp)), ih fun d hd => h d (by simp [hd])]
    rfl
theorem StillR.mapR {rows : List (List D)} (h : StillR rows) (fr fp : Nat → Nat → Nat → D) : rows.map (fun r => r.map (D.mapR fr fp)) = rows := by
  rw [List.map_congr_left (g := id), List.map_id]
  intro r hr
  rw [List.map_congr_left (g := id), List.map_id]
  · rfl
  · intro d hd
    exact still_mapR (h r hr d hd) fr fp
/-- A given block of whatever capacity: the rows that are known, and rows of nothing. -/
theorem gives_of {G : Con} {f esz : Nat} {rows : List (List D)} {rest : List D} {R : List (List D)} (hf : ∀ r ∈ rows, r.length = esz) (hst : StillR rows)
    (h : ∀ fl : List (List D), rows.length ≤ fl.length → (∀ r ∈ fl, r.length = esz) → StillR fl → fl.take rows.length = rows → (∀ i, i < rows.length → fl[i]? = rows[i]?) →
      ∃ r bs', G f (.ref 0 0 rows.length :: rest) [⟨fl, esz, .mut⟩] r bs' ∧ outRows esz r bs' R) : GivesC G f rows esz rest R := by
  intro cp hcp
  refine h _ (by simp) ?_ ?_ (by simp) ?_
  · intro r hr
    rcases List.mem_append.1 hr with h | h
    · exact hf r h
    · rw [(List.mem_replicate.1 h).2]; simp
  · intro r hr d hd
    rcases List.mem_append.1 hr with h | h
    · exact hst r h d hd
    · rw [(List.mem_replicate.1 h).2] at hd
      rw [(List.mem_replicate.1 hd).2]
      rfl
  · intro i hi
    rw [List.getElem?_append_left hi]
theorem StillR.append {a b : List (List D)} (h1 : StillR a) (h2 : StillR b) : StillR (a ++ b) := by
  intro r hr
  rcases List.mem_append.1 hr with h | h
  · exact h1 r h
  · exact h2 r h
theorem StillR.take {a : List (List D)} (h1 : StillR a) (n : Nat) : StillR (a.take n) := fun r hr => h1 r (List.mem_of_mem_take hr)
theorem StillR.drop {a : List (List D)} (h1 : StillR a) (n : Nat) : StillR (a.drop n) := fun r hr => h1 r (List.mem_of_mem_drop hr)
theorem StillR.ovr {a b : List (List D)} (h1 : StillR a) (h2 : StillR b) (p : Nat) : StillR (ovr a p b) := ((h1.take _).append h2).append (h1.drop _)
theorem StillR.set {a : List (List D)} {r : List D} (h1 : StillR a) (h2 : ∀ d ∈ r, d.still = true) (i : Nat) : StillR (a.set i r) := by
  intro x hx
  rcases List.mem_or_eq_of_mem_set hx with h | h
  · exact h1 x h
  · rw [h]; exact h2
theorem StillR.map {α : Type} (f : α → List D) (l : List α) (h : ∀ a ∈ l, ∀ d ∈ f a, d.still = true) : StillR (l.map f) := by
  intro r hr
  obtain ⟨a, ha, rfl⟩ := List.mem_map.1 hr
  exact h a ha
def insL {α : Type} (xs : List α) (i : Nat) (x : α) : List α := xs.take i ++ x :: xs.drop i
theorem insL_map {α β : Type} (f : α → β) (xs : List α) (i : Nat) (x : α) : (insL xs i x).map f = insL (xs.map f) i (f x) := by simp [insL, List.map_take, List.map_drop]
theorem insL_get {α : Type} {xs : List α} {i : Nat} {x : α} (hi : i ≤ xs.length) (j : Nat) : (insL xs i x)[j]? = if j < i then xs[j]? else if j = i then some x else xs[j - 1]? := by
  unfold insL
  have hl : (xs.take i).length = i := by simp; omega
  by_cases h1 : j < i
  · rw [if_pos h1, List.getElem?_append_left (by omega), List.getElem?_take_of_lt h1]
  · rw [if_neg h1, List.getElem?_append_right (by omega), hl]
    by_cases h2 : j = i
    · subst h2; simp
    · rw [if_neg h2]
      obtain ⟨m, hm⟩ : ∃ m, j - i = m + 1 := ⟨j - i - 1, by omega⟩
      rw [hm, List.getElem?_cons_succ, List.getElem?_drop]
      congr 1
      omega
@[simp] theorem insL_length {α : Type} (xs : List α) (i : Nat) (x : α) : (insL xs i x).length = xs.length + 1 := by simp [insL]; omega
@[simp] theorem fits_rep {esz m : Nat} {z : List D} : Fits esz (List.replicate m z) = (m = 0 ∨ (z.length = esz ∧ z.all D.isCell = true)) := by
  apply propext
  constructor
  · intro h
    by_cases hm : m = 0
    · exact .inl hm
    · exact .inr (h z (by simp [hm]))
  · rintro (rfl | h) r hr
    · simp at hr
    · rw [(List.mem_replicate.1 hr).2]; exact h
theorem StillR.sweep {rows : List (List D)} (h : StillR rows) (S : Nat → Bool) : rows.map (fun r => r.map (D.sweep S)) = rows := h.mapR _ _
theorem lent_still {bs : List Blk} (h : ∀ k ∈ bs, StillR k.rows) : lentRids bs = [] ∧ ∀ fr fp, bs.map (Blk.mapR fr fp) = bs := by
  constructor
  · unfold lentRids
    rw [List.flatMap_eq_nil_iff]
    intro k hk
    rw [List.flatMap_eq_nil_iff]
    intro r hr
    exact still_ridsL fun d hd => h k hk r hr d hd
  · intro fr fp
    rw [List.map_congr_left (g := id), List.map_id]
    intro k hk
    show { k with rows := _ } = k
    have := (h k hk).mapR fr fp
    rw [this]
theorem leave_lent {n0 b o l : Nat} {st : St} (hb : b < n0) (h : ∀ k ∈ st.bs.take n0, StillR k.rows) : leave n0 st (.ref b o l) = some (.ref b o l, st.bs.take n0) := by
  obtain ⟨h1, h2⟩ := lent_still h
  unfold leave
  simp only [D.rids, h1, List.append_nil]
  have : [b].filter (fun b => decide (n0 ≤ b)) = [] := by simp; omega
  rw [this]
  simp [expRef, hb, h2]
theorem leave_new {n0 b o l : Nat} {st : St} {k : Blk} (hb : n0 ≤ b) (hk : st.bs[b]? = some k) (hbox : k.kind.isBox = false) (h : ∀ k ∈ st.bs.take n0, StillR k.rows) : leave n0 st (.ref b o l) = some (.ref n0 o l, st.bs.take n0 ++ [k]) := by
  obtain ⟨h1, h2⟩ := lent_still h
  unfold leave
  simp only [D.rids, h1, List.append_nil]
  have : [b].filter (fun b => decide (n0 ≤ b)) = [b] := by simp; omega
  rw [this]
  have hnb : ¬ b < n0 := by omega
  have hnk : k.kind ≠ .box ∧ k.kind ≠ .ibox := by
    constructor <;> (intro h; rw [h] at hbox; cases hbox)
  simp [expRef, hnb, h2, hk]
  cases hkk : k.kind <;> simp [hkk] at hnk ⊢
section
variable {rows fl : List (List D)} {v : List D} {at_ n : Nat}
theorem ins_get (hn : rows.length = n) (hat : at_ ≤ n) (hfl : n ≤ fl.length) (htake : fl.take n = rows) (i : Nat) : (insL rows at_ v)[i]? = if i < at_ then fl[i]? else if i = at_ then some v else if i ≤ n then fl[i - 1]? else none := by
  rw [insL_get (by omega)]
  have hr : ∀ j, rows[j]? = if j < n then fl[j]? else none := by
    intro j
    rw [← htake, List.getElem?_take]
  rw [hr, hr]
  by_cases h1 : i < at_
  · rw [if_pos h1, if_pos h1, if_pos (by omega)]
  · rw [if_neg h1, if_neg h1]
    by_cases h2 : i = at_
    · rw [if_pos h2, if_pos h2]
    · rw [if_neg h2, if_neg h2]
      by_cases h3 : i ≤ n
      · rw [if_pos h3, if_pos (by omega)]
      · rw [if_neg h3, if_neg (by omega)]
theorem ins_rows1 (hn : rows.length = n) (hfl : n + 1 ≤ fl.length) (htake : fl.take n = rows) : insL rows n v = ((ovr fl n [v]).drop 0).take (n + 1) := by
  apply List.ext_getElem?
  intro i
  rw [ins_get hn (Nat.le_refl _) (by omega) htake, List.drop_zero, List.getElem?_take, ovr_get (by simpa using hfl)]
  simp only [List.length_singleton]
  by_cases h1 : i < n
  · rw [if_pos h1, if_pos (by omega), if_pos h1]
  · rw [if_neg h1]
    by_cases h2 : i = n
    · subst h2; simp
    · rw [if_neg h2, if_neg (by omega), if_neg (by omega)]
theorem ins_rows2 (hn : rows.length = n) (htake : fl.take n = rows) : insL rows n v = ((fl.take n ++ [v]).drop 0).take (n + 1) := by
  rw [htake, List.drop_zero, List.take_of_length_le (by simp; omega)]
  simp [insL, ← hn]
theorem ins_rowsC (hn : rows.length = n) (hat : at_ < n) (hfl : n + 1 ≤ fl.length) (htake : fl.take n = rows) :
    insL rows at_ v = ((ovr (ovr fl (at_ + 1) ((fl.drop at_).take (n - at_))) at_ [v]).drop 0).take (n + 1) := by
  have hl : ((fl.drop at_).take (n - at_)).length = n - at_ := by simp; omega
  have hl2 := ovr_length (rows := fl) (p := at_ + 1) (ys := (fl.drop at_).take (n - at_)) (by omega)
  apply List.ext_getElem?
  intro i
  rw [ins_get hn (by omega) (by omega) htake, List.drop_zero, List.getElem?_take, ovr_get (by simp; omega), ovr_get (by omega)]
  simp only [List.length_singleton, hl]
  by_cases h1 : i < at_
  · rw [if_pos h1, if_pos (by omega), if_pos h1, if_pos (by omega)]
  · rw [if_neg h1]
    by_cases h2 : i = at_
    · subst h2; simp; omega
    · rw [if_neg h2]
      by_cases h3 : i ≤ n
      · rw [if_pos h3, if_pos (by omega), if_neg h1, if_neg (by omega), if_neg (by omega), if_pos (by omega), List.getElem?_take_of_lt (by omega), List.getElem?_drop]
        congr 1
        omega
      · rw [if_neg h3, if_neg (by omega)]
theorem ins_rowsB {z : List D} (hn : rows.length = n) (hat : at_ < n) (hfl : fl.length = n) (htake : fl.take n = rows) :
    insL rows at_ v = ((ovr (ovr (fl.take at_ ++ List.replicate (n + 1 - at_) z) at_ [v]) (at_ + 1) ((fl.drop at_).take (n - at_))).drop 0).take (n + 1) := by
  have hl : ((fl.drop at_).take (n - at_)).length = n - at_ := by simp; omega
  have hl0 : (fl.take at_ ++ List.replicate (n + 1 - at_) z).length = n + 1 := by simp; omega
  have hl2 := ovr_length (rows := fl.take at_ ++ List.replicate (n + 1 - at_) z) (p := at_) (ys := [v]) (by rw [hl0]; simp; omega)
  apply List.ext_getElem?
  intro i
  rw [ins_get hn (by omega) (by omega) htake, List.drop_zero, List.getElem?_take, ovr_get (by rw [hl2, hl0]; omega), ovr_get (by rw [hl0]; simp; omega)]
  simp only [List.length_singleton, hl]
  by_cases h1 : i < at_
  · rw [if_pos h1, if_pos (by omega), if_pos (by omega), if_pos h1, List.getElem?_append_left (by simp; omega), List.getElem?_take_of_lt h1]
  · rw [if_neg h1]
    by_cases h2 : i = at_
    · subst h2; simp; omega
    · rw [if_neg h2]
      by_cases h3 : i ≤ n
      · rw [if_pos h3, if_pos (by omega), if_neg (by omega), if_pos (by omega), List.getElem?_take_of_lt (by omega), List.getElem?_drop]
        congr 1
        omega
      · rw [if_neg h3, if_neg (by omega)]
end
/-- A slice, with the rows of its length alone. -/
def D.cut : D → D
  | .sl rows len => .sl (rows.take len) len
  | d => d
theorem RepI.cutLen {w : World} {M : Foot} {v : Value} {rows : List (List D)} {len : Nat} (h : RepI w M v (.sl rows len)) : RepI w M v (.sl (rows.take len) len) := by
  cases h with
  | sl a _ cap _ esz g off vals h1 h2 hr ha hc hv =>
    refine .sl a len cap _ esz g off vals (by simp; omega) (by simp; omega) (fun r hx => hr r (List.mem_of_mem_take hx)) (fun hne => ha (by rintro rfl; exact hne (by simp))) (fun i j hi hj => hc i j (by simp at hi; omega) hj) ?_
    intro i j r d hi hj
    rw [List.getElem?_take] at hi
    split at hi
    · exact hv i j r d hi hj
    · cases hi
theorem Rep.cut {w : World} {M : Foot} {ρ : Nat → Loc} {v : Value} {d : D} (h : Rep w M ρ v d) : Rep w M ρ v d.cut := by
  cases d <;> try exact h
  exact .imm _ _ h.sl_inv.cutLen
theorem den_cut {P : Program} {f : Nat} {args : List D} {bs : List Blk} {r : D} {bs' : List Blk} (h : Den P f (args.map D.cut) bs r bs') : Den P f args bs r bs' := by
  refine ⟨h.1, fun w M0 ρ vals hM hS hs ha => h.2 w M0 ρ vals hM hS (by simpa using hs) ?_⟩
  intro i v d hv hd
  rw [List.getElem?_map] at hd
  cases hc : args[i]? with
  | none => simp [hc] at hd
  | some d0 => simp [hc] at hd; subst hd; exact (ha i v d0 hv hc).cut
attribute [simp] D.cut
@[simp] theorem take_map_app {α β : Type} (f : α → β) (l : List α) (r : List β) : (l.map f ++ r).take l.length = l.map f := List.take_left' (by simp)
/-- nil is an empty array of one's own. -/
theorem den_virt {P : Program} {f : Nat} {args : List D} (esz : Nat) (h : Den P f args [] .nil []) : Den P f args [] (.ref 0 0 0) [⟨[], esz, .mut⟩] := by
  refine ⟨h.1, fun w M0 ρ vals hM hS hs ha => (h.2 w M0 ρ vals hM hS hs ha).mono ?_⟩
  rintro e w' ⟨v, ρ', rfl, hr, hS', hlen, hlent, hp, har⟩
  obtain ⟨a, rfl⟩ := hr.nil_inv
  have hMM : Mof M0 (updL ρ' 0 .virt) [⟨[], esz, .mut⟩] = Mof M0 ρ' [] := by
    rw [Mof_nil]
    funext g o
    apply propext
    constructor
    · rintro (h | ⟨i, b', base, n, rl, ez, hi, hat, _⟩)
      · exact h
      · cases i with
        | zero => rw [updL_same] at hat; cases hat
        | succ i => simp at hi
    · exact .inl
  have hno : ∀ i, ρ' i = .absent := fun i => hS'.out i (Nat.zero_le _)
  have hat : ∀ i g base n rl ez, updL ρ' 0 .virt i ≠ .at_ g base n rl ez := by
    intro i g base n rl ez h
    by_cases hi : i = 0
    · subst hi; rw [updL_same] at h; cases h
    · rw [updL_ne _ _ hi, hno] at h; cases h
  refine ⟨_, updL ρ' 0 .virt, rfl, .refV 0 a (updL_same _ _ _), ⟨fun i b g base n rl ez _ h => absurd h (hat _ _ _ _ _ _), ?_, ?_, fun i j g _ _ _ _ _ _ _ _ h => absurd h (hat _ _ _ _ _ _), fun i g _ _ _ _ h => absurd h (hat _ _ _ _ _ _)⟩, by simp, fun i hi => absurd hi (by simp), by rw [hMM]; exact hp, ⟨har.size, har.os, har.tape, har.output, har.keep, fun i g base n rl ez _ h => absurd h (hat _ _ _ _ _ _)⟩⟩
  · intro i b hi hv
    cases i with
    | zero => simp at hi; subst hi; exact ⟨rfl, rfl⟩
    | succ i => simp at hi
  · intro i hi
    rw [updL_ne _ _ (by simp at hi; omega)]
    exact hno i
/-- A loop that counts to n. -/
theorem count_rule {c : Cfg} {k id : Nat} {x y : SC} {Q : Ex → St → Prop} {st : St} (n : Nat) (P : Nat → St → Prop) (N R : St → Prop) (hx : x = y)
    (h0 : P 0 st) (hlast : ∀ st, P n st → sCode c y st (roundQ (fun _ => False) id N R)) (hstep : ∀ i st, i < n → P i st → sCode c y st (roundQ (onK (P (i + 1)) k) id N R))
    (hN : ∀ st, N st → Q .normal st) (hR : ∀ st, R st → Q .ret st) : anyLoop c k x (blockQ id Q) st := by
  refine loop_rule n (fun m st => m ≤ n ∧ P (n - m) st) N R hx ⟨Nat.le_refl _, by simpa using h0⟩ (fun st h => hlast st (by simpa using h.2)) (fun m st h => ?_) hN hR
  have := hstep (n - (m + 1)) st (by omega) h.2
  rw [show n - (m + 1) + 1 = n - m by omega] at this
  refine sCode_mono _ _ _ _ ?_ this
  intro ex st' h'
  cases ex with
  | normal => exact ⟨by omega, h'⟩
  | exit i => exact h'
  | ret => exact h'
@[simp] theorem wrap_zero : IntKind.wrap .i64 0 = 0 := wrap_in (by omega) (by omega)
theorem splice_map {α : Type} (f : α → D) (W : List α) (k : Nat) (b : α) (hk : k < W.length) : List.take k (List.map f W) ++ f b :: List.drop (k + 1) (List.map f W) = List.map f (W.set k b) := by
  rw [List.map_set, List.set_eq_take_append_cons_drop, if_pos (by simpa using hk)]
end Go.AM
/- AM: contracts: the library's functions over slices. -/
namespace Go.AM
set_option linter.unusedSimpArgs false
set_option linter.unusedVariables false
set_option maxRecDepth 8000
set_option maxHeartbeats 0
theorem clone_int (rows : List (List D)) (hf : Fits 1 rows) (hl : rows.length * 8 ≤ 140737488355328) : Den PP 110 [.sl rows rows.length] [] (.ref 0 0 rows.length) [⟨rows, 1, .mut⟩] := by
  cases hr : rows with
  | nil =>
    refine den_zs (pre := []) (post := []) ?_ ?_
    · refine den_of [] [] is_slices_Clone_int_int ?_
      simp -implicitDefEqProofs [c_slices_Clone_int_int]
    · refine den_of [] [] is_slices_Clone_int_int ?_
      simp -implicitDefEqProofs [c_slices_Clone_int_int, Fits]
  | cons r rs =>
    rw [hr] at hf hl
    have h63 : (r :: rs).length ≤ 9223372036854775807 := by omega
    have hlen : 0 < (r :: rs).length := by simp
    generalize hn : (r :: rs).length = n at *
    generalize r :: rs = rows at *
    refine den_of [] [] is_slices_Clone_int_int ?_
    simp -implicitDefEqProofs [c_slices_Clone_int_int, hlen, List.take_of_length_le (Nat.le_of_eq hn), hf, hn, hl, h63]
theorem clone_Peer (rows : List (List D)) (hf : Fits 2 rows) (hl : rows.length * 16 ≤ 140737488355328) : Den PP 109 [.sl rows rows.length] [] (.ref 0 0 rows.length) [⟨rows, 2, .mut⟩] := by
  cases hr : rows with
  | nil =>
    refine den_zs (pre := []) (post := []) ?_ ?_
    · refine den_of [] [] is_slices_Clone_api_Peer_api_Peer ?_
      simp -implicitDefEqProofs [c_slices_Clone_api_Peer_api_Peer]
    · refine den_of [] [] is_slices_Clone_api_Peer_api_Peer ?_
      simp -implicitDefEqProofs [c_slices_Clone_api_Peer_api_Peer, Fits]
  | cons r rs =>
    rw [hr] at hf hl
    have h63 : (r :: rs).length ≤ 9223372036854775807 := by omega
    have hlen : 0 < (r :: rs).length := by simp
    generalize hn : (r :: rs).length = n at *
    generalize r :: rs = rows at *
    refine den_of [] [] is_slices_Clone_api_Peer_api_Peer ?_
    simp -implicitDefEqProofs [c_slices_Clone_api_Peer_api_Peer, hlen, List.take_of_length_le (Nat.le_of_eq hn), hf, hn, hl, h63]
theorem clone_Item (rows : List (List D)) (hf : Fits 5 rows) (hl : rows.length * 40 ≤ 140737488355328) : Den PP 83 [.sl rows rows.length] [] (.ref 0 0 rows.length) [⟨rows, 5, .mut⟩] := by
  cases hr : rows with
  | nil =>
    refine den_zs (pre := []) (post := []) ?_ ?_
    · refine den_of [] [] is_slices_Clone_api_Item_api_Item ?_
      simp -implicitDefEqProofs [c_slices_Clone_api_Item_api_Item]
    · refine den_of [] [] is_slices_Clone_api_Item_api_Item ?_
      simp -implicitDefEqProofs [c_slices_Clone_api_Item_api_Item, Fits]
  | cons r rs =>
    rw [hr] at hf hl
    have h63 : (r :: rs).length ≤ 9223372036854775807 := by omega
    have hlen : 0 < (r :: rs).length := by simp
    generalize hn : (r :: rs).length = n at *
    generalize r :: rs = rows at *
    refine den_of [] [] is_slices_Clone_api_Item_api_Item ?_
    simp -implicitDefEqProofs [c_slices_Clone_api_Item_api_Item, hlen, List.take_of_length_le (Nat.le_of_eq hn), hf, hn, hl, h63]
theorem clone_Told (rows : List (List D)) (hf : Fits 3 rows) (hl : rows.length * 24 ≤ 140737488355328) : Den PP 84 [.sl rows rows.length] [] (.ref 0 0 rows.length) [⟨rows, 3, .mut⟩] := by
  cases hr : rows with
  | nil =>
    refine den_zs (pre := []) (post := []) ?_ ?_
    · refine den_of [] [] is_slices_Clone_api_Told_api_Told ?_
      simp -implicitDefEqProofs [c_slices_Clone_api_Told_api_Told]
    · refine den_of [] [] is_slices_Clone_api_Told_api_Told ?_
      simp -implicitDefEqProofs [c_slices_Clone_api_Told_api_Told, Fits]
  | cons r rs =>
    rw [hr] at hf hl
    have h63 : (r :: rs).length ≤ 9223372036854775807 := by omega
    have hlen : 0 < (r :: rs).length := by simp
    generalize hn : (r :: rs).length = n at *
    generalize r :: rs = rows at *
    refine den_of [] [] is_slices_Clone_api_Told_api_Told ?_
    simp -implicitDefEqProofs [c_slices_Clone_api_Told_api_Told, hlen, List.take_of_length_le (Nat.le_of_eq hn), hf, hn, hl, h63]
end Go.AM
/- AM: contracts: a view's ends, a key's owner. -/
namespace Go.AM
set_option linter.unusedSimpArgs false
set_option linter.unusedVariables false
set_option maxRecDepth 8000
set_option maxHeartbeats 0
end Go.AM
/- AM: contracts: a key's owner. -/
namespace Go.AM
set_option linter.unusedSimpArgs false
set_option linter.unusedVariables false
set_option maxRecDepth 8000
set_option maxHeartbeats 0
theorem row_may (one : Int) (ids : List Int) (hl : ids.length ≤ cap) : Den PP 105 [.int .i64 one, intsD ids] [] (.bool (place one && decide (ids.length ≤ 64) && ids.all place)) [] := by
  have hc := ring_Places ids hl
  simp [intsD] at hc
  refine den_of [] [] is_row_may ?_
  simp -implicitDefEqProofs [c_row_may, intsD]
  refine callThen_of (ring_Place one) ?_
  simp -implicitDefEqProofs
  refine gOps_split (fun h => ?_) (fun h => ?_)
  rotate_left
  · simp -implicitDefEqProofs [h]
  simp -implicitDefEqProofs [h]
  refine gOps_dec (fun h2 => ?_) (fun h2 => ?_)
  rotate_left
  · simp -implicitDefEqProofs [h, h2]
    omega
  simp -implicitDefEqProofs [h2]
  refine callThen_of hc ?_
  simp -implicitDefEqProofs
  intros
  omega
theorem slices_MinFunc (key_ x : Int) (xs : List Int) (hl : xs.length < cap) : Den PP 106 [intsD (x :: xs), .fn 120 [] [.mem [.int .i64 key_]]] [] (.int .i64 (nearest key_ x xs)) [] := by
  refine den_of [] [] is_slices_MinFunc_int_int ?_
  have h0 : ¬ ((xs.length : Int) + 1 < 1) := by omega
  simp -implicitDefEqProofs [c_slices_MinFunc_int_int, intsD, h0, irow]
  refine anyLoop_of (xs.length + 1) ?_
  have key : ∀ (Q : Ex → St → Prop) (r : Int) (hQ1 : ∀ fr, fr 5 = .int .i64 r → Q .normal ⟨fr, []⟩) (ys : List Int) (hys : ys.length ≤ cap) (rest : List Int) (i : Nat) (m : Int) (fr : Nat → D), ys.drop i = rest → i ≤ ys.length →
      fr 0 = .sl (ys.map irow) ys.length → fr 1 = .fn 120 [] [.mem [.int .i64 key_]] → fr 5 = .int .i64 m → fr 6 = .int .i64 i → nearest key_ m rest = r → sLoop (cf 0 [] []) 0 c_slices_MinFunc_int_int_L0 (blockQ 0 Q) (rest.length + 1) ⟨fr, []⟩ := by
    intro Q r hQ1 ys hys rest
    induction rest with
    | nil =>
      intro i m fr e hi h0 h1 h5 h6 hm
      refine sLoop_body c_slices_MinFunc_int_int_L0.eq_1 ?_
      have hi' := drop_nil e hi
      simp -implicitDefEqProofs [h0, h1, h5, h6, hi']
      exact hQ1 _ (by rw [← hm]; simp [h0, h1, h5, h6, nearest])
    | cons y rest ih =>
      intro i m fr e hi h0 h1 h5 h6 hm
      refine sLoop_body c_slices_MinFunc_int_int_L0.eq_1 ?_
      obtain ⟨hlt, hget, hd, hlen⟩ := drop_cons e
      have hlt' : (i : Int) < ys.length := by omega
      have hw := wrap_next (n := i) (by unfold cap at hys; omega)
      simp only [nearest] at hm
      simp -implicitDefEqProofs [h0, h1, h5, h6, hlt', hget, irow]
      refine callThen_of (row_By_1 key_ y m) ?_
      simp -implicitDefEqProofs [cmpI_neg]
      refine condC_dec (fun h2 => ?_) (fun h2 => ?_)
      all_goals simp -implicitDefEqProofs [h2, h0, h1, h5, h6, hw, hlt', hget, irow]
      · exact ih (i + 1) y _ hd (by omega) (by simp [h0, h1, h5, h6]) (by simp [h0, h1, h5, h6]) (by simp) (by simp) (by rw [← hm, if_pos h2])
      · exact ih (i + 1) m _ hd (by omega) (by simp [h0, h1, h5, h6]) (by simp [h0, h1, h5, h6]) (by simp [h0, h1, h5, h6]) (by simp) (by rw [← hm, if_neg h2])
  refine key _ (nearest key_ x xs) (fun fr h => ?_) (x :: xs) (by simp; omega) xs 1 x _ rfl (by simp) rfl rfl rfl rfl rfl
  simp -implicitDefEqProofs [h]
theorem row_Owner (ids : List Int) (key : Int) (hl : ids.length ≤ cap) : Den PP 77 [intsD ids, .int .i64 key] [] (pairD (rowOwner ids key)) [] := by
  have hc := row_may key ids hl
  simp only [rowOwner, pairD]
  generalize (place key && decide (ids.length ≤ 64) && ids.all place) = b at *
  simp [intsD] at hc
  refine den_of [] [] is_row_Owner ?_
  simp -implicitDefEqProofs [c_row_Owner, intsD]
  refine callThen_of hc ?_
  simp -implicitDefEqProofs
  cases b
  · simp -implicitDefEqProofs
  simp -implicitDefEqProofs
  cases ids with
  | nil => simp -implicitDefEqProofs
  | cons x xs =>
    have hm := slices_MinFunc key x xs (by simpa [Nat.lt_iff_add_one_le] using hl)
    simp [intsD] at hm
    simp -implicitDefEqProofs
    refine callThen_of (row_By key) ?_
    simp -implicitDefEqProofs
    refine callThen_of hm ?_
    simp -implicitDefEqProofs
theorem view_Owner (v : View) (key : Int) (hs : v.small) : Den PP 48 [viewD v, .int .i64 key] [] (pairD (ownerV v key)) [] := by
  have hc := view_May v hs
  have hi := view_Ids v hs.1
  simp only [ownerV, pairD]
  simp [viewD, View.cells, peersD, intsD] at hc hi
  refine den_of [17] [] is_view_Owner ?_
  simp -implicitDefEqProofs [c_view_Owner, viewD, View.cells, peersD, intsD]
  refine callThen_of hc ?_
  simp -implicitDefEqProofs
  refine gOps_split (fun h => ?_) (fun h => ?_)
  rotate_left
  · simp -implicitDefEqProofs [h]
  simp -implicitDefEqProofs [h]
  refine callThen_of (ring_Place key) ?_
  simp -implicitDefEqProofs
  refine condC_not (fun h2 => ?_) (fun h2 => ?_)
  rotate_left
  · simp -implicitDefEqProofs [h, h2]
  simp -implicitDefEqProofs [h, h2]
  refine callThen_of hi ?_
  have hb1 : (v.peers.length + 1) * 8 ≤ 140737488355328 := by
    have := hs.1
    unfold cap16 at this
    omega
  have hb2 : v.peers.length ≤ 9223372036854775806 := by omega
  have ho := row_Owner (v.peers.map Peer.id ++ [v.id]) key (by unfold cap; simp; omega)
  simp [intsD, pairD, irow] at ho
  simp -implicitDefEqProofs [downTo, hb1, hb2, Fits]
  refine callThen_of ho ?_
  simp -implicitDefEqProofs
end Go.AM
/- AM: contracts: the document's answers about views. -/
namespace Go.AM
set_option linter.unusedSimpArgs false
set_option linter.unusedVariables false
set_option maxRecDepth 8000
set_option maxHeartbeats 0
theorem law_SameInts (xs ys : List Int) (hl : xs.length ≤ cap) : Den PP 62 [intsD xs, intsD ys] [] (.bool (decide (xs = ys))) [] := by
  refine den_of [] [] is_gimmallaw0_SameInts ?_
  simp -implicitDefEqProofs [c_gimmallaw0_SameInts, intsD]
  refine condC_split (fun h => ?_) (fun h => ?_)
  · simp -implicitDefEqProofs
    intro he
    subst he
    simp at h
  have hlen : xs.length = ys.length := by simp at h; omega
  simp -implicitDefEqProofs
  refine anyLoop_of (xs.length + 1) ?_
  have key : ∀ (Q : Ex → St → Prop) (r : Bool) (hQ1 : ∀ fr, r = true → Q .normal ⟨fr, []⟩) (hQ2 : ∀ fr bs, r = false → fr 4 = .bool false → Q .ret ⟨fr, bs⟩) (rest : List Int) (i : Nat) (fr : Nat → D), xs.drop i = rest → i ≤ xs.length →
      fr 0 = .sl (xs.map irow) xs.length → fr 1 = .sl (ys.map irow) ys.length → fr 5 = .int .i64 i → decide (rest = ys.drop i) = r → sLoop (cf 0 [] []) 0 c_gimmallaw0_SameInts_L0 (blockQ 0 Q) (rest.length + 1) ⟨fr, []⟩ := by
    intro Q r hQ1 hQ2 rest
    induction rest with
    | nil =>
      intro i fr e hi h0 h1 h5 hm
      refine sLoop_body c_gimmallaw0_SameInts_L0.eq_1 ?_
      have hi' := drop_nil e hi
      simp -implicitDefEqProofs [h0, h1, h5, hi']
      exact hQ1 _ (by rw [← hm, hi', hlen]; simp)
    | cons x rest ih =>
      intro i fr e hi h0 h1 h5 hm
      refine sLoop_body c_gimmallaw0_SameInts_L0.eq_1 ?_
      obtain ⟨hlt, hget, hd, hl2⟩ := drop_cons e
      have hlt' : (i : Int) < xs.length := by omega
      have hlt2 : (i : Int) < ys.length := by omega
      have hw := wrap_next (n := i) (by unfold cap at hl; omega)
      obtain ⟨y, hy⟩ : ∃ y, ys[i]? = some y := ⟨ys[i], by simp⟩
      have hyd : ys.drop i = y :: ys.drop (i + 1) := by
        rw [List.drop_eq_getElem_cons (by omega)]
        have : ys[i] = y := by
          have := (List.getElem?_eq_some_iff.1 hy).2
          exact this
        rw [this]
      simp -implicitDefEqProofs [h0, h1, h5, hlt', hlt2, hget, hy, irow]
      refine condC_split (fun h2 => ?_) (fun h2 => ?_)
      all_goals simp -implicitDefEqProofs [h2, h0, h1, h5, hw]
      · refine hQ2 _ _ ?_ (by rfl)
        rw [← hm, hyd]
        simp at h2
        simp [h2]
      · refine ih (i + 1) _ hd (by omega) (by simp [h0, h1, h5]) (by simp [h0, h1, h5]) (by simp) ?_
        rw [← hm, hyd]
        simp at h2
        simp [h2]
  refine key _ (decide (xs = ys)) (fun fr h => ?_) (fun fr bs h h2 => ?_) xs 0 _ rfl (Nat.zero_le _) rfl rfl rfl rfl
  · simp -implicitDefEqProofs [h]
  · simp -implicitDefEqProofs [h, h2]

theorem ref_PassiveMay (xs : List Int) (hl : xs.length ≤ cap) : Den PP 90 [intsD xs] [] (.bool (refPassiveMay xs)) [] := by
  have hc := ref_placesMay xs hl
  simp [intsD] at hc
  refine den_of [] [] is_gimmalref1_PassiveMay ?_
  simp -implicitDefEqProofs [c_gimmalref1_PassiveMay, intsD]
  refine anyLoop_of (xs.length + 1) ?_
  have key : ∀ (Q : Ex → St → Prop) (r : Bool) (hQ1 : ∀ fr, r = true → fr 0 = .sl (xs.map irow) xs.length → Q .normal ⟨fr, []⟩) (hQ2 : ∀ fr bs, r = false → fr 2 = .bool false → Q .ret ⟨fr, bs⟩) (n j : Nat) (fr : Nat → D), xs.length - j ≤ n → 1 ≤ j →
      fr 0 = .sl (xs.map irow) xs.length → fr 3 = .int .i64 j → incrAt xs j = r → sLoop (cf 0 [] []) 0 c_gimmalref1_PassiveMay_L0 (blockQ 0 Q) (n + 1) ⟨fr, []⟩ := by
    intro Q r hQ1 hQ2 n
    induction n with
    | zero =>
      intro j fr hn hj h0 h3 hm
      refine sLoop_body c_gimmalref1_PassiveMay_L0.eq_1 ?_
      have hx : ¬ (j < xs.length) := by omega
      simp -implicitDefEqProofs [h0, h3, hx]
      exact hQ1 _ (by rw [← hm]; exact incrAt_end (List.drop_of_length_le (by omega))) (by simp [h0, h3])
    | succ n ih =>
      intro j fr hn hj h0 h3 hm
      refine sLoop_body c_gimmalref1_PassiveMay_L0.eq_1 ?_
      by_cases hx : j < xs.length
      · have hlt' : (j : Int) < xs.length := by omega
        have hw := wrap_next (n := j) (by unfold cap at hl; omega)
        have hwp : IntKind.wrap .i64 ((j : Int) - 1) = ((j - 1 : Nat) : Int) := by unfold cap at hl; rw [wrap_in (by omega) (by omega)]; omega
        have hlt2 : ((j - 1 : Nat) : Int) < xs.length := by omega
        obtain ⟨x, hxv⟩ : ∃ x, xs[j]? = some x := ⟨xs[j], by simp⟩
        obtain ⟨y, hyv⟩ : ∃ y, xs[j - 1]? = some y := ⟨xs[j - 1], by simp⟩
        rw [incrAt_next hj hyv hxv] at hm
        simp -implicitDefEqProofs [h0, h3, hlt', hwp, hlt2, hxv, hyv, irow]
        refine condC_dec (fun h2 => ?_) (fun h2 => ?_)
        all_goals simp -implicitDefEqProofs [h2, h0, h3, hw]
        · exact hQ2 _ _ (by rw [← hm]; simp; intros; omega) (by rfl)
        · exact ih (j + 1) _ (by omega) (by omega) (by simp [h0, h3]) (by simp) (by rw [← hm]; simp [show y < x by omega])
      · simp -implicitDefEqProofs [h0, h3, hx]
        exact hQ1 _ (by rw [← hm]; exact incrAt_end (List.drop_of_length_le (by omega))) (by simp [h0, h3])
  refine key _ (incr xs) (fun fr h h0 => ?_) (fun fr bs h h2 => ?_) xs.length 1 _ (by omega) (by omega) rfl rfl (incrAt_start xs)
  · simp -implicitDefEqProofs [h, h0]
    refine callThen_of hc ?_
    simp -implicitDefEqProofs
    refine gOps_split (fun h2 => ?_) (fun h2 => ?_)
    all_goals simp -implicitDefEqProofs [h2, h, h0, refPassiveMay]
    omega
  · simp -implicitDefEqProofs [h, h2, refPassiveMay]
end Go.AM
/- AM: contracts: the document's peers. -/
namespace Go.AM
set_option linter.unusedSimpArgs false
set_option linter.unusedVariables false
set_option maxRecDepth 8000
set_option maxHeartbeats 0
theorem ref_PeersMay (base : Int) (ps : List Peer) (hl : ps.length ≤ cap) : Den PP 89 [.int .i64 base, peersD ps] [] (.bool (refPeersMay base ps)) [] := by
  refine den_of [] [] is_gimmalref1_PeersMay ?_
  simp -implicitDefEqProofs [c_gimmalref1_PeersMay, peersD]
  refine anyLoop_of (ps.length + 1) ?_
  have key : ∀ (Q : Ex → St → Prop) (r : Bool) (hQ1 : ∀ fr, r = true → fr 0 = .int .i64 base → fr 1 = .sl (ps.map Peer.row) ps.length → Q .normal ⟨fr, []⟩) (hQ2 : ∀ fr bs, r = false → fr 4 = .bool false → Q .ret ⟨fr, bs⟩) (rest : List Peer) (i : Nat) (fr : Nat → D), ps.drop i = rest → i ≤ ps.length →
      fr 0 = .int .i64 base → fr 1 = .sl (ps.map Peer.row) ps.length → fr 5 = .int .i64 i → refPeersOk base (if i = 0 then none else ps[i - 1]?) rest = r → sLoop (cf 0 [] []) 0 c_gimmalref1_PeersMay_L0 (blockQ 0 Q) (rest.length + 1) ⟨fr, []⟩ := by
    intro Q r hQ1 hQ2 rest
    induction rest with
    | nil =>
      intro i fr e hi h0 h1 h5 hm
      refine sLoop_body c_gimmalref1_PeersMay_L0.eq_1 ?_
      have hi' := drop_nil e hi
      simp -implicitDefEqProofs [h0, h1, h5, hi']
      exact hQ1 _ hm.symm (by simp [h0, h1, h5]) (by simp [h0, h1, h5])
    | cons p rest ih =>
      intro i fr e hi h0 h1 h5 hm
      refine sLoop_body c_gimmalref1_PeersMay_L0.eq_1 ?_
      obtain ⟨hlt, hget, hd, hlen⟩ := drop_cons e
      have hlt' : (i : Int) < ps.length := by omega
      have hw := wrap_next (n := i) (by unfold cap at hl; omega)
      have hprev : (if i + 1 = 0 then none else ps[i + 1 - 1]?) = some p := by simp [hget]
      simp only [refPeersOk] at hm
      simp -implicitDefEqProofs [h0, h1, h5, hlt', hget, Peer.row]
      refine callThen_of (ref_PlaceMay p.id) ?_
      simp -implicitDefEqProofs [h0, h1, h5]
      refine gOps_split (fun g1 => ?_) (fun g1 => ?_)
      rotate_left
      · simp -implicitDefEqProofs [g1, h0, h1, h5]
        exact hQ2 _ _ (by rw [← hm]; simp [g1]) (by rfl)
      simp -implicitDefEqProofs [g1, h0, h1, h5, hlt', hget, Peer.row]
      refine gOps_not (fun g2 => ?_) (fun g2 => ?_)
      · simp -implicitDefEqProofs [g2, h0, h1, h5]
        exact hQ2 _ _ (by rw [← hm]; simp at g2; simp [g2]) (by rfl)
      simp -implicitDefEqProofs [g2, h0, h1, h5, hlt', hget, Peer.row]
      refine gOps_ndec (fun g3 => ?_) (fun g3 => ?_)
      · simp -implicitDefEqProofs [g3, h0, h1, h5]
        exact hQ2 _ _ (by rw [← hm]; simp; intros; omega) (by rfl)
      simp -implicitDefEqProofs [g3, h0, h1, h5, hlt', hget, Peer.row]
      refine gOps_ndec (fun g4 => ?_) (fun g4 => ?_)
      · simp -implicitDefEqProofs [g4, h0, h1, h5]
        exact hQ2 _ _ (by rw [← hm]; simp; intros; omega) (by rfl)
      simp -implicitDefEqProofs [g4, h0, h1, h5, hlt', hget, Peer.row]
      have g2' : decide (p.id ≠ base) = true := by simp at g2; simp [g2]
      rw [g1, g2', decide_eq_true (show 0 ≤ p.missed by omega), decide_eq_true (show p.missed < 3 by omega)] at hm
      by_cases hi0 : i = 0
      · simp -implicitDefEqProofs [hi0, h0, h1, h5]
        rw [hi0] at hw
        simp -implicitDefEqProofs at hw
        simp -implicitDefEqProofs [hw]
        refine ih 1 _ (by rw [← hd, hi0]) (by omega) (by simp [h0, h1, h5]) (by simp [h0, h1, h5]) (by simp) ?_
        rw [hi0] at hprev hm
        rw [← hm]
        simp at hprev ⊢
        rw [hprev]
      · have hpos : 0 < i := by omega
        have hwp : IntKind.wrap .i64 ((i : Int) - 1) = ((i - 1 : Nat) : Int) := by unfold cap at hl; rw [wrap_in (by omega) (by omega)]; omega
        have hlt2 : ((i - 1 : Nat) : Int) < ps.length := by omega
        obtain ⟨q, hq⟩ : ∃ q, ps[i - 1]? = some q := ⟨ps[i - 1], by simp⟩
        rw [if_neg hi0, hq] at hm
        simp -implicitDefEqProofs [hpos, h0, h1, h5, hwp, hlt2, hq, Peer.row]
        refine callThen_of (ref_far base q.id) ?_
        simp -implicitDefEqProofs [h0, h1, h5, hlt', hget, Peer.row]
        refine callThen_of (ref_far base p.id) ?_
        simp -implicitDefEqProofs [h0, h1, h5]
        refine condC_dec (fun h2 => ?_) (fun h2 => ?_)
        all_goals simp -implicitDefEqProofs [h2, h0, h1, h5, hw]
        · exact hQ2 _ _ (by rw [← hm]; simp; intros; omega) (by rfl)
        · refine ih (i + 1) _ hd (by omega) (by simp [h0, h1, h5]) (by simp [h0, h1, h5]) (by simp) ?_
          rw [hprev, ← hm]
          simp [show far base q.id < far base p.id by omega]
  refine key _ (refPeersOk base none ps) (fun fr h h0 h1 => ?_) (fun fr bs h h4 => ?_) ps 0 _ rfl (Nat.zero_le _) rfl rfl rfl rfl
  · simp -implicitDefEqProofs [h, h0, h1]
    refine callThen_of (ref_PlaceMay base) ?_
    simp -implicitDefEqProofs [h0, h1]
    refine gOps_split (fun h2 => ?_) (fun h2 => ?_)
    all_goals simp -implicitDefEqProofs [h2, h, h0, h1, refPeersMay]
    omega
  · simp -implicitDefEqProofs [h, h4, refPeersMay]
end Go.AM
/- AM: contracts: the document's answers about views. -/
namespace Go.AM
set_option linter.unusedSimpArgs false
set_option linter.unusedVariables false
set_option maxRecDepth 8000
set_option maxHeartbeats 0
theorem law_SamePeers (xs ys : List Peer) (hl : xs.length ≤ cap) : Den PP 68 [peersD xs, peersD ys] [] (.bool (decide (xs = ys))) [] := by
  refine den_of [] [] is_gimmallaw0_SamePeers ?_
  simp -implicitDefEqProofs [c_gimmallaw0_SamePeers, peersD]
  refine condC_split (fun h => ?_) (fun h => ?_)
  · simp -implicitDefEqProofs
    grind
  have hlen : xs.length = ys.length := by simp at h; omega
  simp -implicitDefEqProofs
  refine list_rule xs (fun i rest => fun ⟨fr, bs⟩ => bs = [] ∧ fr 0 = .sl (xs.map Peer.row) xs.length ∧ fr 1 = .sl (ys.map Peer.row) ys.length ∧ fr 5 = .int .i64 i ∧ (rest = ys.drop i ↔ xs = ys))
    (fun ⟨fr, bs⟩ => bs = [] ∧ xs = ys) (fun ⟨fr, bs⟩ => fr 4 = .bool false ∧ ¬ xs = ys) c_gimmallaw0_SamePeers_L0.eq_1 ?_ ?_ ?_ ?_ ?_
  · exact ⟨rfl, rfl, rfl, rfl, by simp⟩
  · rintro i ⟨fr, bs⟩ hi ⟨rfl, h0, h1, h5, he⟩
    simp -implicitDefEqProofs [*]
    grind
  · rintro i a rest ⟨fr, bs⟩ hlt hget hg hd hd2 ⟨rfl, h0, h1, h5, he⟩
    have hlt' : (i : Int) < xs.length := by omega
    have hlt2 : i < ys.length := by omega
    have hlt3 : (i : Int) < ys.length := by omega
    have hw := wrap_next (n := i) (by unfold cap at hl; omega)
    rw [List.drop_eq_getElem_cons hlt2] at he
    generalize hy : ys[i] = b at he
    simp -implicitDefEqProofs [h0, h1, h5, hlt, hlt', hlt2, hlt3, hget, hg, hy, Peer.row, EQS]
    repeat' (first | (with_reducible refine gOps_dec (fun _ => ?_) (fun _ => ?_) <;> simp -implicitDefEqProofs [*, EQS]) | (with_reducible refine gOps_ndec (fun _ => ?_) (fun _ => ?_) <;> simp -implicitDefEqProofs [*, EQS]) | (with_reducible refine gOps_and (fun hq => ?_) (fun hq => ?_) <;> (try simp at hq) <;> simp -implicitDefEqProofs [*, EQS]) | (with_reducible refine gOps_or (fun hq => ?_) (fun hq => ?_) <;> (try simp at hq) <;> simp -implicitDefEqProofs [*, EQS]) | (with_reducible refine gOps_not (fun hq => ?_) (fun hq => ?_) <;> (try simp at hq) <;> simp -implicitDefEqProofs [*, EQS]) | (with_reducible refine gOps_split (fun hq => ?_) (fun hq => ?_) <;> (try simp at hq) <;> simp -implicitDefEqProofs [*, EQS]) | (with_reducible refine condC_dec (fun _ => ?_) (fun _ => ?_) <;> simp -implicitDefEqProofs [*, EQS]) | (with_reducible refine condC_ndec (fun _ => ?_) (fun _ => ?_) <;> simp -implicitDefEqProofs [*, EQS]) | (with_reducible refine condC_and (fun hq => ?_) (fun hq => ?_) <;> (try simp at hq) <;> simp -implicitDefEqProofs [*, EQS]) | (with_reducible refine condC_or (fun hq => ?_) (fun hq => ?_) <;> (try simp at hq) <;> simp -implicitDefEqProofs [*, EQS]) | (with_reducible refine condC_not (fun hq => ?_) (fun hq => ?_) <;> (try simp at hq) <;> simp -implicitDefEqProofs [*, EQS]) | (with_reducible refine condC_split (fun hq => ?_) (fun hq => ?_) <;> (try simp at hq) <;> simp -implicitDefEqProofs [*, EQS]) | (refine appK2_if (by omega) ?_; simp -implicitDefEqProofs [*, EQS]) | (refine pureV_if (by omega) ?_; simp -implicitDefEqProofs [*, EQS]))
    all_goals (obtain ⟨a1, a2⟩ := a; obtain ⟨b1, b2⟩ := b; grind)
  · rintro ⟨fr, bs⟩ ⟨rfl, h6⟩
    simp -implicitDefEqProofs [*]
  · rintro ⟨fr, bs⟩ h
    simp -implicitDefEqProofs [h.1, h.2]
theorem law_SameView (v w : View) (hs : v.small) : Den PP 35 [viewD v, viewD w] [] (.bool (decide (v = w))) [] := by
  have h1 := law_SamePeers v.peers w.peers (cap_of hs.1)
  have h2 := law_SameInts v.passive w.passive hs.2
  simp [peersD, intsD] at h1 h2
  refine den_of [] [] is_gimmallaw0_SameView ?_
  simp -implicitDefEqProofs [c_gimmallaw0_SameView, viewD, View.cells, peersD, intsD]
  repeat' (first | (refine callThen_of (by first | exact h1 | exact h2) ?_; simp -implicitDefEqProofs [*, peersD]) | (with_reducible refine gOps_dec (fun _ => ?_) (fun _ => ?_) <;> simp -implicitDefEqProofs [*, peersD]) | (with_reducible refine gOps_ndec (fun _ => ?_) (fun _ => ?_) <;> simp -implicitDefEqProofs [*, peersD]) | (with_reducible refine gOps_and (fun hq => ?_) (fun hq => ?_) <;> (try simp at hq) <;> simp -implicitDefEqProofs [*, peersD]) | (with_reducible refine gOps_or (fun hq => ?_) (fun hq => ?_) <;> (try simp at hq) <;> simp -implicitDefEqProofs [*, peersD]) | (with_reducible refine gOps_not (fun hq => ?_) (fun hq => ?_) <;> (try simp at hq) <;> simp -implicitDefEqProofs [*, peersD]) | (with_reducible refine gOps_split (fun hq => ?_) (fun hq => ?_) <;> (try simp at hq) <;> simp -implicitDefEqProofs [*, peersD]) | (with_reducible refine condC_dec (fun _ => ?_) (fun _ => ?_) <;> simp -implicitDefEqProofs [*, peersD]) | (with_reducible refine condC_ndec (fun _ => ?_) (fun _ => ?_) <;> simp -implicitDefEqProofs [*, peersD]) | (with_reducible refine condC_and (fun hq => ?_) (fun hq => ?_) <;> (try simp at hq) <;> simp -implicitDefEqProofs [*, peersD]) | (with_reducible refine condC_or (fun hq => ?_) (fun hq => ?_) <;> (try simp at hq) <;> simp -implicitDefEqProofs [*, peersD]) | (with_reducible refine condC_not (fun hq => ?_) (fun hq => ?_) <;> (try simp at hq) <;> simp -implicitDefEqProofs [*, peersD]) | (with_reducible refine condC_split (fun hq => ?_) (fun hq => ?_) <;> (try simp at hq) <;> simp -implicitDefEqProofs [*, peersD]) | (refine appK2_if (by omega) ?_; simp -implicitDefEqProofs [*, peersD]) | (refine pureV_if (by omega) ?_; simp -implicitDefEqProofs [*, peersD]))
  all_goals (obtain ⟨a, b, c⟩ := v; obtain ⟨a', b', c'⟩ := w; grind)
theorem law_CopyView (v : View) (hs : v.small) : Den PP 45 [viewD v] [] (.agg [.int .i64 v.id, .ref 0 0 v.peers.length, .ref 1 0 v.passive.length]) [⟨v.peers.map Peer.row, 2, .mut⟩, ⟨v.passive.map irow, 1, .mut⟩] := by
  obtain ⟨h1, h2⟩ := hs
  unfold cap16 at h1
  unfold cap at h2
  refine den_of [] [] is_gimmallaw0_CopyView ?_
  simp -implicitDefEqProofs [c_gimmallaw0_CopyView, viewD, View.cells, peersD, intsD]
  repeat' (first | (with_reducible refine gOps_dec (fun _ => ?_) (fun _ => ?_) <;> simp -implicitDefEqProofs [*]) | (with_reducible refine gOps_ndec (fun _ => ?_) (fun _ => ?_) <;> simp -implicitDefEqProofs [*]) | (with_reducible refine gOps_and (fun hq => ?_) (fun hq => ?_) <;> (try simp at hq) <;> simp -implicitDefEqProofs [*]) | (with_reducible refine gOps_or (fun hq => ?_) (fun hq => ?_) <;> (try simp at hq) <;> simp -implicitDefEqProofs [*]) | (with_reducible refine gOps_not (fun hq => ?_) (fun hq => ?_) <;> (try simp at hq) <;> simp -implicitDefEqProofs [*]) | (with_reducible refine gOps_split (fun hq => ?_) (fun hq => ?_) <;> (try simp at hq) <;> simp -implicitDefEqProofs [*]) | (with_reducible refine condC_dec (fun _ => ?_) (fun _ => ?_) <;> simp -implicitDefEqProofs [*]) | (with_reducible refine condC_ndec (fun _ => ?_) (fun _ => ?_) <;> simp -implicitDefEqProofs [*]) | (with_reducible refine condC_and (fun hq => ?_) (fun hq => ?_) <;> (try simp at hq) <;> simp -implicitDefEqProofs [*]) | (with_reducible refine condC_or (fun hq => ?_) (fun hq => ?_) <;> (try simp at hq) <;> simp -implicitDefEqProofs [*]) | (with_reducible refine condC_not (fun hq => ?_) (fun hq => ?_) <;> (try simp at hq) <;> simp -implicitDefEqProofs [*]) | (with_reducible refine condC_split (fun hq => ?_) (fun hq => ?_) <;> (try simp at hq) <;> simp -implicitDefEqProofs [*]) | (refine appK2_if (by omega) ?_; simp -implicitDefEqProofs [*]) | (refine pureV_if (by omega) ?_; simp -implicitDefEqProofs [*]))
end Go.AM
/- Plain law: places put in their row, taken out. -/
namespace Go.AM
set_option linter.unusedSimpArgs false
set_option linter.unusedVariables false

end Go.AM
/- Plain law: where a search by a comparison ends; stores by it. -/
namespace Go.AM
set_option linter.unusedSimpArgs false
set_option linter.unusedVariables false

def posC {α : Type} (c : α → Int) (xs : List α) : Nat := (xs.takeWhile fun x => decide (c x < 0)).length
def atC {α : Type} (c : α → Int) (xs : List α) : Bool := (xs[posC c xs]?).any fun x => decide (c x = 0)
def MonoC {α : Type} (c : α → Int) (xs : List α) : Prop := ∀ (i j : Nat) (x y : α), i ≤ j → xs[i]? = some x → xs[j]? = some y → c y < 0 → c x < 0
theorem posC_cons {α : Type} (c : α → Int) (a : α) (xs : List α) : posC c (a :: xs) = if c a < 0 then posC c xs + 1 else 0 := by
  unfold posC
  rw [List.takeWhile_cons]
  by_cases h : c a < 0 <;> simp [h]
theorem atC_nil {α : Type} (c : α → Int) : atC c [] = false := rfl
theorem atC_cons {α : Type} (c : α → Int) (a : α) (xs : List α) : atC c (a :: xs) = if c a < 0 then atC c xs else decide (c a = 0) := by
  unfold atC
  rw [posC_cons]
  by_cases h : c a < 0 <;> simp [h]
theorem posC_le {α : Type} (c : α → Int) (xs : List α) : posC c xs ≤ xs.length := by
  induction xs with
  | nil => simp [posC]
  | cons a xs ih => rw [posC_cons]; split <;> simp <;> omega
theorem posC_lo {α : Type} (c : α → Int) (xs : List α) : ∀ (i : Nat) (x : α), i < posC c xs → xs[i]? = some x → c x < 0 := by
  induction xs with
  | nil => intro i x h; simp [posC] at h
  | cons a xs ih =>
    intro i x h hx
    rw [posC_cons] at h
    by_cases ha : c a < 0
    · rw [if_pos ha] at h
      cases i with
      | zero => simp at hx; subst hx; exact ha
      | succ i => exact ih i x (by omega) (by simpa using hx)
    · rw [if_neg ha] at h; omega
theorem posC_at {α : Type} (c : α → Int) (xs : List α) : ∀ x, xs[posC c xs]? = some x → 0 ≤ c x := by
  induction xs with
  | nil => intro x h; simp [posC] at h
  | cons a xs ih =>
    intro x hx
    rw [posC_cons] at hx
    by_cases ha : c a < 0
    · rw [if_pos ha] at hx
      exact ih x (by simpa using hx)
    · rw [if_neg ha] at hx
      simp at hx
      subst hx
      omega
theorem posC_hi {α : Type} {c : α → Int} {xs : List α} (hm : MonoC c xs) : ∀ (i : Nat) (x : α), posC c xs ≤ i → xs[i]? = some x → 0 ≤ c x := by
  intro i x hi hx
  apply Classical.byContradiction
  intro hc
  have hlt : posC c xs < xs.length := by
    have := (List.getElem?_eq_some_iff.1 hx).1
    omega
  have h1 : xs[posC c xs]? = some xs[posC c xs] := by simp
  have h2 := hm _ _ _ _ hi h1 hx (by omega)
  have h3 := posC_at c xs _ h1
  omega
theorem atC_true {α : Type} {c : α → Int} {xs : List α} (h : atC c xs = true) : posC c xs < xs.length ∧ ∃ x, xs[posC c xs]? = some x ∧ c x = 0 := by
  unfold atC at h
  cases hx : xs[posC c xs]? with
  | none => rw [hx] at h; cases h
  | some x =>
    rw [hx] at h
    exact ⟨(List.getElem?_eq_some_iff.1 hx).1, x, rfl, by simpa using h⟩

def keyC (k : Int) (i : Item) : Int := cmpI i.key k
theorem cmpI_lt (a b : Int) : cmpI a b < 0 ↔ a < b := by unfold cmpI; split <;> (try split) <;> omega
theorem cmpI_eq (a b : Int) : cmpI a b = 0 ↔ a = b := by unfold cmpI; split <;> (try split) <;> omega
theorem risingK_get : ∀ {is : List Item}, risingK is → ∀ (i j : Nat) (x y : Item), i < j → is[i]? = some x → is[j]? = some y → x.key < y.key := by
  intro is
  induction is with
  | nil => intro _ i j x y _ h; simp at h
  | cons a is ih =>
    intro h i j x y hij hx hy
    rw [rising_cons] at h
    cases j with
    | zero => omega
    | succ j =>
      simp at hy
      cases i with
      | zero =>
        simp at hx
        subst hx
        exact h.1 y (List.mem_of_getElem? hy)
      | succ i => exact ih h.2 i j x y (by omega) (by simpa using hx) hy
theorem mono_key {is : List Item} (h : risingK is) (k : Int) : MonoC (keyC k) is := by
  intro i j x y hij hx hy hc
  unfold keyC at hc ⊢
  rw [cmpI_lt] at hc ⊢
  by_cases e : i = j
  · subst e
    rw [hx] at hy
    cases hy
    exact hc
  · have := risingK_get h i j x y (by omega) hx hy
    omega
theorem getS_at : ∀ {is : List Item}, risingK is → ∀ k, getS is k = if atC (keyC k) is then is[posC (keyC k) is]? else none := by
  intro is
  induction is with
  | nil => intro _ k; simp [getS, atC_nil]
  | cons a is ih =>
    intro h k
    rw [rising_cons] at h
    rw [getS_cons, posC_cons, atC_cons]
    simp only [keyC, cmpI_lt, cmpI_eq]
    by_cases h1 : a.key < k
    · rw [if_neg (by omega), if_pos h1, if_pos h1, ih h.2 k]
      simp [keyC]
    · by_cases h2 : a.key = k
      · simp [h1, h2]
      · simp [h1, h2]
        exact getS_above h.1 (by omega)
def getR (is : List Item) (k : Int) : Item × Bool := if storeMay is then (match getS is k with | some i => (i, true) | none => (zeroItem, false)) else (zeroItem, false)
end Go.AM
/- AM: contracts: binary search by a comparison. -/
namespace Go.AM
set_option linter.unusedSimpArgs false
set_option linter.unusedVariables false
set_option maxRecDepth 8000
set_option maxHeartbeats 0
theorem bsearch_Item (xs : List Item) (g : Nat) (key : Int) (c : Item → Int) (hc : ∀ x ∈ xs, Den PP g [.agg x.row, .int .i64 key] [] (.int .i64 (c x)) []) (hl : xs.length ≤ cap) (hr : MonoC c xs) :
    Den PP 80 [.sl (xs.map Item.row) xs.length, .int .i64 key, .fn g [] []] [] (.tup [.int .i64 (posC c xs), .bool (atC c xs)]) [] := by
  have hlo := posC_lo c xs
  have hhi := posC_hi hr
  have hat := posC_le c xs
  have hac : atC c xs = (xs[posC c xs]?).any fun x => decide (c x = 0) := rfl
  rw [hac]
  clear hac
  generalize posC c xs = at_ at *
  refine den_of [] [] is_slices_BinarySearchFunc_api_Item_api_Item_int ?_
  simp -implicitDefEqProofs [c_slices_BinarySearchFunc_api_Item_api_Item_int]
  refine loop_rule xs.length (fun m ⟨fr, bs⟩ => ∃ lo hi : Nat, bs = [] ∧ hi - lo ≤ m ∧ lo ≤ at_ ∧ at_ ≤ hi ∧ hi ≤ xs.length ∧ fr 0 = .sl (xs.map Item.row) xs.length ∧ fr 1 = .int .i64 key ∧ fr 2 = .fn g [] [] ∧ fr 8 = .int .i64 xs.length ∧ fr 9 = .int .i64 lo ∧ fr 10 = .int .i64 hi)
    (fun ⟨fr, bs⟩ => bs = [] ∧ fr 0 = .sl (xs.map Item.row) xs.length ∧ fr 1 = .int .i64 key ∧ fr 2 = .fn g [] [] ∧ fr 8 = .int .i64 xs.length ∧ fr 9 = .int .i64 at_) (fun _ => False) c_slices_BinarySearchFunc_api_Item_api_Item_int_L0.eq_1 ?_ ?_ ?_ ?_ ?_
  · exact ⟨0, xs.length, rfl, by omega, by omega, hat, by omega, rfl, rfl, rfl, rfl, rfl, rfl⟩
  · rintro ⟨fr, bs⟩ ⟨lo, hi, rfl, h1, h2, h3, h4, h0, h5, h9, h6, h7, h8⟩
    have e1 : lo = at_ := by omega
    have e2 : hi = at_ := by omega
    simp -implicitDefEqProofs [h0, h5, h9, h6, h7, h8, e1, e2]
  · rintro m ⟨fr, bs⟩ ⟨lo, hi, rfl, h1, h2, h3, h4, h0, h5, h9, h6, h7, h8⟩
    by_cases hlt : lo < hi
    · have hlt' : (lo : Int) < hi := by omega
      have hm := mid_eq (lo := lo) (hi := hi) (by omega) (by omega)
      have hml : (lo + hi) / 2 < xs.length := by omega
      have hml' : (((lo + hi) / 2 : Nat) : Int) < xs.length := by omega
      have hw := wrap_next (n := (lo + hi) / 2) (by unfold cap at hl; omega)
      have hb1 : lo ≤ (lo + hi) / 2 := by omega
      have hb2 : (lo + hi) / 2 < hi := by omega
      generalize (lo + hi) / 2 = mid at *
      obtain ⟨x, hx⟩ : ∃ x, xs[mid] = x := ⟨_, rfl⟩
      have hx' : xs[mid]? = some x := by simp [hml, hx]
      have hcx := hc x (List.mem_of_getElem? hx')
      simp only [Item.row] at hcx
      simp -implicitDefEqProofs [h0, h5, h9, h6, h7, h8, hlt', hlt, hm, hml, hml', hx, Item.row]
      refine callThen_of hcx ?_
      simp -implicitDefEqProofs
      refine condC_dec (fun hc => ?_) (fun hc => ?_)
      all_goals simp -implicitDefEqProofs [h0, h5, h9, h6, h7, h8, hc, hw]
      · have : mid < at_ := by
          apply Classical.byContradiction
          intro hx2
          have := hhi mid x (by omega) hx'
          omega
        exact ⟨mid + 1, hi, by omega, by omega, by omega, by omega, by simp, by simp⟩
      · have : at_ ≤ mid := by
          apply Classical.byContradiction
          intro hx2
          have := hlo mid x (by omega) hx'
          omega
        exact ⟨lo, mid, by omega, by omega, by omega, by omega, by simp, by simp⟩
    · have e1 : lo = at_ := by omega
      have e2 : hi = at_ := by omega
      simp -implicitDefEqProofs [h0, h5, h9, h6, h7, h8, e1, e2]
  · rintro ⟨fr, bs⟩ ⟨rfl, h0, h1, h2, h6, h7⟩
    simp -implicitDefEqProofs [h0, h1, h2, h6, h7]
    refine gOps_dec (fun hc2 => ?_) (fun hc2 => ?_)
    · obtain ⟨x, hx⟩ : ∃ x, xs[at_]'(by omega) = x := ⟨_, rfl⟩
      have hal : at_ < xs.length := by omega
      have hx' : xs[at_]? = some x := by simp [hx, hal]
      have hcx := hc x (List.mem_of_getElem? hx')
      simp only [Item.row] at hcx
      simp -implicitDefEqProofs [h0, h1, h2, h6, h7, hc2, hx, hal, Item.row]
      refine callThen_of hcx ?_
      simp -implicitDefEqProofs [h0, h1, h2, h6, h7, hc2, hx, hal, hx', Item.row]
    · have hp : xs[at_]? = none := by rw [List.getElem?_eq_none]; omega
      simp -implicitDefEqProofs [h0, h1, h2, h6, h7, hc2, hp]
  · rintro ⟨fr, bs⟩ h
    exact h.elim
end Go.AM
/- AM: contracts: binary search, places put and taken out. -/
namespace Go.AM
set_option linter.unusedSimpArgs false
set_option linter.unusedVariables false
set_option maxRecDepth 8000
set_option maxHeartbeats 0
end Go.AM
/- AM: contracts: the document's answers about views, more. -/
namespace Go.AM
set_option linter.unusedSimpArgs false
set_option linter.unusedVariables false
set_option maxRecDepth 8000
set_option maxHeartbeats 0
theorem ref_ViewMay (v : View) (hs : v.small) : Den PP 65 [viewD v] [] (.bool (refViewMay v)) [] := by
  have c1 := ref_Names v.peers hs.1
  have c2 := ref_has (v.peers.map Peer.id)
  have c3 := ref_PeersMay v.id v.peers (cap_of hs.1)
  have c4 := ref_PassiveMay v.passive hs.2
  simp [peersD, intsD, irow] at c1 c2 c3 c4
  have hw : IntKind.wrap .i64 ((v.peers.length : Int) + v.passive.length) = v.peers.length + v.passive.length := by
    obtain ⟨a, b⟩ := hs
    unfold cap16 at a
    unfold cap at b
    exact wrap_in (by omega) (by omega)
  obtain ⟨A, hA⟩ : ∃ A, v.passive.any (refOdd v) = A := ⟨_, rfl⟩
  refine den_of [] [] is_gimmalref1_ViewMay ?_
  simp -implicitDefEqProofs [c_gimmalref1_ViewMay, viewD, View.cells, peersD, intsD]
  refine callThen_of c1 ?_
  simp -implicitDefEqProofs
  refine list_rule v.passive (fun i rest => fun ⟨fr, bs⟩ => bs = [⟨[v.cells], 3, .box⟩] ∧ fr 1 = .ptr 0 0 0 ∧ fr 3 = .sl (v.peers.map fun p => irow p.id) v.peers.length ∧ fr 4 = .int .i64 i ∧ rest.any (refOdd v) = A)
    (fun ⟨fr, bs⟩ => bs = [⟨[v.cells], 3, .box⟩] ∧ fr 1 = .ptr 0 0 0 ∧ A = false) (fun ⟨fr, bs⟩ => fr 2 = .bool false ∧ A = true) c_gimmalref1_ViewMay_L0.eq_1 ?_ ?_ ?_ ?_ ?_
  · exact ⟨rfl, rfl, rfl, rfl, hA⟩
  · rintro i ⟨fr, bs⟩ hi ⟨rfl, h1, h3, h4, he⟩
    simp -implicitDefEqProofs [h1, h3, h4, hi, View.cells, intsD]
    simpa using he.symm
  · rintro i a rest ⟨fr, bs⟩ hlt hget hg hd hd2 ⟨rfl, h1, h3, h4, he⟩
    have hlt' : (i : Int) < v.passive.length := by omega
    have hw2 := wrap_next (n := i) (by have := hs.2; unfold cap at this; omega)
    have c2' := c2 a (cap_of hs.1)
    simp -implicitDefEqProofs [h1, h3, h4, hlt, hlt', hget, hg, hw2, View.cells, intsD, irow]
    repeat' (first | (refine callThen_of (by first | exact c2') ?_; simp -implicitDefEqProofs [*, View.cells, peersD]) | (with_reducible refine gOps_dec (fun _ => ?_) (fun _ => ?_) <;> simp -implicitDefEqProofs [*, View.cells, peersD]) | (with_reducible refine gOps_ndec (fun _ => ?_) (fun _ => ?_) <;> simp -implicitDefEqProofs [*, View.cells, peersD]) | (with_reducible refine gOps_and (fun hq => ?_) (fun hq => ?_) <;> (try simp at hq) <;> simp -implicitDefEqProofs [*, View.cells, peersD]) | (with_reducible refine gOps_or (fun hq => ?_) (fun hq => ?_) <;> (try simp at hq) <;> simp -implicitDefEqProofs [*, View.cells, peersD]) | (with_reducible refine gOps_not (fun hq => ?_) (fun hq => ?_) <;> (try simp at hq) <;> simp -implicitDefEqProofs [*, View.cells, peersD]) | (with_reducible refine gOps_split (fun hq => ?_) (fun hq => ?_) <;> (try simp at hq) <;> simp -implicitDefEqProofs [*, View.cells, peersD]) | (with_reducible refine condC_dec (fun _ => ?_) (fun _ => ?_) <;> simp -implicitDefEqProofs [*, View.cells, peersD]) | (with_reducible refine condC_ndec (fun _ => ?_) (fun _ => ?_) <;> simp -implicitDefEqProofs [*, View.cells, peersD]) | (with_reducible refine condC_and (fun hq => ?_) (fun hq => ?_) <;> (try simp at hq) <;> simp -implicitDefEqProofs [*, View.cells, peersD]) | (with_reducible refine condC_or (fun hq => ?_) (fun hq => ?_) <;> (try simp at hq) <;> simp -implicitDefEqProofs [*, View.cells, peersD]) | (with_reducible refine condC_not (fun hq => ?_) (fun hq => ?_) <;> (try simp at hq) <;> simp -implicitDefEqProofs [*, View.cells, peersD]) | (with_reducible refine condC_split (fun hq => ?_) (fun hq => ?_) <;> (try simp at hq) <;> simp -implicitDefEqProofs [*, View.cells, peersD]) | (refine appK2_if (by omega) ?_; simp -implicitDefEqProofs [*, View.cells, peersD]) | (refine pureV_if (by omega) ?_; simp -implicitDefEqProofs [*, View.cells, peersD]))
    all_goals grind [refOdd, irow]
  · rintro ⟨fr, bs⟩ ⟨rfl, h1, he⟩
    simp -implicitDefEqProofs [h1, he, hA, View.cells, intsD, peersD]
    repeat' (first | (refine callThen_of (by first | exact c3 | exact c4) ?_; simp -implicitDefEqProofs [*, refViewMay, hw]) | (with_reducible refine gOps_dec (fun _ => ?_) (fun _ => ?_) <;> simp -implicitDefEqProofs [*, refViewMay, hw]) | (with_reducible refine gOps_ndec (fun _ => ?_) (fun _ => ?_) <;> simp -implicitDefEqProofs [*, refViewMay, hw]) | (with_reducible refine gOps_and (fun hq => ?_) (fun hq => ?_) <;> (try simp at hq) <;> simp -implicitDefEqProofs [*, refViewMay, hw]) | (with_reducible refine gOps_or (fun hq => ?_) (fun hq => ?_) <;> (try simp at hq) <;> simp -implicitDefEqProofs [*, refViewMay, hw]) | (with_reducible refine gOps_not (fun hq => ?_) (fun hq => ?_) <;> (try simp at hq) <;> simp -implicitDefEqProofs [*, refViewMay, hw]) | (with_reducible refine gOps_split (fun hq => ?_) (fun hq => ?_) <;> (try simp at hq) <;> simp -implicitDefEqProofs [*, refViewMay, hw]) | (with_reducible refine condC_dec (fun _ => ?_) (fun _ => ?_) <;> simp -implicitDefEqProofs [*, refViewMay, hw]) | (with_reducible refine condC_ndec (fun _ => ?_) (fun _ => ?_) <;> simp -implicitDefEqProofs [*, refViewMay, hw]) | (with_reducible refine condC_and (fun hq => ?_) (fun hq => ?_) <;> (try simp at hq) <;> simp -implicitDefEqProofs [*, refViewMay, hw]) | (with_reducible refine condC_or (fun hq => ?_) (fun hq => ?_) <;> (try simp at hq) <;> simp -implicitDefEqProofs [*, refViewMay, hw]) | (with_reducible refine condC_not (fun hq => ?_) (fun hq => ?_) <;> (try simp at hq) <;> simp -implicitDefEqProofs [*, refViewMay, hw]) | (with_reducible refine condC_split (fun hq => ?_) (fun hq => ?_) <;> (try simp at hq) <;> simp -implicitDefEqProofs [*, refViewMay, hw]) | (refine appK2_if (by omega) ?_; simp -implicitDefEqProofs [*, refViewMay, hw]) | (refine pureV_if (by omega) ?_; simp -implicitDefEqProofs [*, refViewMay, hw]))
    omega
  · rintro ⟨fr, bs⟩ h
    simp -implicitDefEqProofs [h.1, h.2, hA, refViewMay]
theorem ref_ViewMay' (v : View) (hs : v.small) : Den PP 65 [viewD v] [] (.bool (viewMay v)) [] := by
  rw [← viewMay_eq]
  exact ref_ViewMay v hs
theorem ref_OwnerOf (ids : List Int) (key : Int) (hl : ids.length ≤ cap) : Den PP 67 [intsD ids, .int .i64 key] [] (pairD (rowOwner ids key)) [] := by
  have c1 := ref_placesMay ids hl
  simp [intsD] at c1
  obtain ⟨A, hA⟩ : ∃ A, ids.all place = A := ⟨_, rfl⟩
  rw [hA] at c1
  refine den_of [] [] is_gimmalref1_OwnerOf ?_
  simp -implicitDefEqProofs [c_gimmalref1_OwnerOf, intsD, pairD]
  cases ids with
  | nil =>
    simp at c1 hA
    subst hA
    simp -implicitDefEqProofs
    repeat' (first | (refine callThen_of (by first | exact c1 | exact ref_PlaceMay _) ?_; simp -implicitDefEqProofs [*, rowOwner]) | (with_reducible refine gOps_dec (fun _ => ?_) (fun _ => ?_) <;> simp -implicitDefEqProofs [*, rowOwner]) | (with_reducible refine gOps_ndec (fun _ => ?_) (fun _ => ?_) <;> simp -implicitDefEqProofs [*, rowOwner]) | (with_reducible refine gOps_and (fun hq => ?_) (fun hq => ?_) <;> (try simp at hq) <;> simp -implicitDefEqProofs [*, rowOwner]) | (with_reducible refine gOps_or (fun hq => ?_) (fun hq => ?_) <;> (try simp at hq) <;> simp -implicitDefEqProofs [*, rowOwner]) | (with_reducible refine gOps_not (fun hq => ?_) (fun hq => ?_) <;> (try simp at hq) <;> simp -implicitDefEqProofs [*, rowOwner]) | (with_reducible refine gOps_split (fun hq => ?_) (fun hq => ?_) <;> (try simp at hq) <;> simp -implicitDefEqProofs [*, rowOwner]) | (with_reducible refine condC_dec (fun _ => ?_) (fun _ => ?_) <;> simp -implicitDefEqProofs [*, rowOwner]) | (with_reducible refine condC_ndec (fun _ => ?_) (fun _ => ?_) <;> simp -implicitDefEqProofs [*, rowOwner]) | (with_reducible refine condC_and (fun hq => ?_) (fun hq => ?_) <;> (try simp at hq) <;> simp -implicitDefEqProofs [*, rowOwner]) | (with_reducible refine condC_or (fun hq => ?_) (fun hq => ?_) <;> (try simp at hq) <;> simp -implicitDefEqProofs [*, rowOwner]) | (with_reducible refine condC_not (fun hq => ?_) (fun hq => ?_) <;> (try simp at hq) <;> simp -implicitDefEqProofs [*, rowOwner]) | (with_reducible refine condC_split (fun hq => ?_) (fun hq => ?_) <;> (try simp at hq) <;> simp -implicitDefEqProofs [*, rowOwner]) | (refine appK2_if (by omega) ?_; simp -implicitDefEqProofs [*, rowOwner]) | (refine pureV_if (by omega) ?_; simp -implicitDefEqProofs [*, rowOwner]))
  | cons x xs =>
    simp at c1
    unfold cap at hl
    simp at hl
    obtain ⟨R, hR⟩ : ∃ R, rowOwner (x :: xs) key = R := ⟨_, rfl⟩
    unfold rowOwner at hR
    rw [hA] at hR
    simp -implicitDefEqProofs
    repeat' (first | (refine callThen_of (by first | exact c1 | exact ref_PlaceMay _) ?_; simp -implicitDefEqProofs [*, irow]) | (with_reducible refine gOps_dec (fun _ => ?_) (fun _ => ?_) <;> simp -implicitDefEqProofs [*, irow]) | (with_reducible refine gOps_ndec (fun _ => ?_) (fun _ => ?_) <;> simp -implicitDefEqProofs [*, irow]) | (with_reducible refine gOps_and (fun hq => ?_) (fun hq => ?_) <;> (try simp at hq) <;> simp -implicitDefEqProofs [*, irow]) | (with_reducible refine gOps_or (fun hq => ?_) (fun hq => ?_) <;> (try simp at hq) <;> simp -implicitDefEqProofs [*, irow]) | (with_reducible refine gOps_not (fun hq => ?_) (fun hq => ?_) <;> (try simp at hq) <;> simp -implicitDefEqProofs [*, irow]) | (with_reducible refine gOps_split (fun hq => ?_) (fun hq => ?_) <;> (try simp at hq) <;> simp -implicitDefEqProofs [*, irow]) | (with_reducible refine condC_dec (fun _ => ?_) (fun _ => ?_) <;> simp -implicitDefEqProofs [*, irow]) | (with_reducible refine condC_ndec (fun _ => ?_) (fun _ => ?_) <;> simp -implicitDefEqProofs [*, irow]) | (with_reducible refine condC_and (fun hq => ?_) (fun hq => ?_) <;> (try simp at hq) <;> simp -implicitDefEqProofs [*, irow]) | (with_reducible refine condC_or (fun hq => ?_) (fun hq => ?_) <;> (try simp at hq) <;> simp -implicitDefEqProofs [*, irow]) | (with_reducible refine condC_not (fun hq => ?_) (fun hq => ?_) <;> (try simp at hq) <;> simp -implicitDefEqProofs [*, irow]) | (with_reducible refine condC_split (fun hq => ?_) (fun hq => ?_) <;> (try simp at hq) <;> simp -implicitDefEqProofs [*, irow]) | (refine appK2_if (by omega) ?_; simp -implicitDefEqProofs [*, irow]) | (refine pureV_if (by omega) ?_; simp -implicitDefEqProofs [*, irow]))
    rotate_left
    all_goals try grind [rowOwner]
    refine list_rule xs (fun i rest => fun ⟨fr, bs⟩ => ∃ m, bs = [] ∧ fr 0 = .sl ((x :: xs).map irow) (xs.length + 1) ∧ fr 1 = .int .i64 key ∧ fr 6 = .int .i64 m ∧ fr 7 = .int .i64 (i + 1 : Nat) ∧ nearest key m rest = nearest key x xs)
      (fun ⟨fr, bs⟩ => bs = [] ∧ fr 6 = .int .i64 (nearest key x xs)) (fun ⟨fr, bs⟩ => False) c_gimmalref1_OwnerOf_L0.eq_1 ?_ ?_ ?_ ?_ ?_
    · exact ⟨x, rfl, rfl, rfl, rfl, rfl, rfl⟩
    · rintro i ⟨fr, bs⟩ hi ⟨m, rfl, h0, h1, h6, h7, he⟩
      simp -implicitDefEqProofs [h0, h1, h6, h7, hi]
      simpa [nearest] using he
    · rintro i a rest ⟨fr, bs⟩ hlt hget hg hd hd2 ⟨m, rfl, h0, h1, h6, h7, he⟩
      have hlt' : (i : Int) < xs.length := by omega
      have hlt2 : (i : Int) + 1 < xs.length + 1 := by omega
      have hw2 : IntKind.wrap .i64 ((i : Int) + 1 + 1) = (i : Int) + 1 + 1 := wrap_in (by omega) (by omega)
      have e1 : ((i : Int) + 1).toNat = i + 1 := by omega
      have e2 : (0 : Int) ≤ i + 1 := by omega
      simp -implicitDefEqProofs [h0, h1, h6, h7, hlt, hlt', hlt2, e1, e2, hget, hg, hw2, irow]
      repeat' (first | (refine callThen_of (by first | exact ref_far _ _) ?_; simp -implicitDefEqProofs [*, irow]) | (with_reducible refine gOps_dec (fun _ => ?_) (fun _ => ?_) <;> simp -implicitDefEqProofs [*, irow]) | (with_reducible refine gOps_ndec (fun _ => ?_) (fun _ => ?_) <;> simp -implicitDefEqProofs [*, irow]) | (with_reducible refine gOps_and (fun hq => ?_) (fun hq => ?_) <;> (try simp at hq) <;> simp -implicitDefEqProofs [*, irow]) | (with_reducible refine gOps_or (fun hq => ?_) (fun hq => ?_) <;> (try simp at hq) <;> simp -implicitDefEqProofs [*, irow]) | (with_reducible refine gOps_not (fun hq => ?_) (fun hq => ?_) <;> (try simp at hq) <;> simp -implicitDefEqProofs [*, irow]) | (with_reducible refine gOps_split (fun hq => ?_) (fun hq => ?_) <;> (try simp at hq) <;> simp -implicitDefEqProofs [*, irow]) | (with_reducible refine condC_dec (fun _ => ?_) (fun _ => ?_) <;> simp -implicitDefEqProofs [*, irow]) | (with_reducible refine condC_ndec (fun _ => ?_) (fun _ => ?_) <;> simp -implicitDefEqProofs [*, irow]) | (with_reducible refine condC_and (fun hq => ?_) (fun hq => ?_) <;> (try simp at hq) <;> simp -implicitDefEqProofs [*, irow]) | (with_reducible refine condC_or (fun hq => ?_) (fun hq => ?_) <;> (try simp at hq) <;> simp -implicitDefEqProofs [*, irow]) | (with_reducible refine condC_not (fun hq => ?_) (fun hq => ?_) <;> (try simp at hq) <;> simp -implicitDefEqProofs [*, irow]) | (with_reducible refine condC_split (fun hq => ?_) (fun hq => ?_) <;> (try simp at hq) <;> simp -implicitDefEqProofs [*, irow]) | (refine appK2_if (by omega) ?_; simp -implicitDefEqProofs [*, irow]) | (refine pureV_if (by omega) ?_; simp -implicitDefEqProofs [*, irow]))
      all_goals grind [nearest]
    · rintro ⟨fr, bs⟩ ⟨rfl, h1⟩
      simp -implicitDefEqProofs [h1]
      grind [rowOwner]
    · rintro ⟨fr, bs⟩ h
      exact h.elim
theorem ref_Owner (v : View) (key : Int) (hs : v.small) : Den PP 34 [viewD v, .int .i64 key] [] (pairD (ownerV v key)) [] := by
  rw [← refOwnerV_eq]
  have c1 := ref_ViewMay' v hs
  have c2 := ref_Names v.peers hs.1
  have hl := hs.1
  unfold cap16 at hl
  have c3 := ref_OwnerOf (v.id :: v.peers.map Peer.id) key (by unfold cap; simp; omega)
  simp [viewD, View.cells, peersD, intsD, irow, pairD] at c1 c2 c3
  rw [Nat.add_comm v.peers.length 1] at c3
  refine den_of [] [] is_gimmalref1_Owner ?_
  simp -implicitDefEqProofs [c_gimmalref1_Owner, viewD, View.cells, peersD, intsD]
  repeat' (first | (refine callThen_of (by first | exact c1 | exact c2 | exact c3 | exact ref_PlaceMay _) ?_; simp -implicitDefEqProofs [*, refOwnerV, pairD, irow, Fits]) | (with_reducible refine gOps_dec (fun _ => ?_) (fun _ => ?_) <;> simp -implicitDefEqProofs [*, refOwnerV, pairD, irow, Fits]) | (with_reducible refine gOps_ndec (fun _ => ?_) (fun _ => ?_) <;> simp -implicitDefEqProofs [*, refOwnerV, pairD, irow, Fits]) | (with_reducible refine gOps_and (fun hq => ?_) (fun hq => ?_) <;> (try simp at hq) <;> simp -implicitDefEqProofs [*, refOwnerV, pairD, irow, Fits]) | (with_reducible refine gOps_or (fun hq => ?_) (fun hq => ?_) <;> (try simp at hq) <;> simp -implicitDefEqProofs [*, refOwnerV, pairD, irow, Fits]) | (with_reducible refine gOps_not (fun hq => ?_) (fun hq => ?_) <;> (try simp at hq) <;> simp -implicitDefEqProofs [*, refOwnerV, pairD, irow, Fits]) | (with_reducible refine gOps_split (fun hq => ?_) (fun hq => ?_) <;> (try simp at hq) <;> simp -implicitDefEqProofs [*, refOwnerV, pairD, irow, Fits]) | (with_reducible refine condC_dec (fun _ => ?_) (fun _ => ?_) <;> simp -implicitDefEqProofs [*, refOwnerV, pairD, irow, Fits]) | (with_reducible refine condC_ndec (fun _ => ?_) (fun _ => ?_) <;> simp -implicitDefEqProofs [*, refOwnerV, pairD, irow, Fits]) | (with_reducible refine condC_and (fun hq => ?_) (fun hq => ?_) <;> (try simp at hq) <;> simp -implicitDefEqProofs [*, refOwnerV, pairD, irow, Fits]) | (with_reducible refine condC_or (fun hq => ?_) (fun hq => ?_) <;> (try simp at hq) <;> simp -implicitDefEqProofs [*, refOwnerV, pairD, irow, Fits]) | (with_reducible refine condC_not (fun hq => ?_) (fun hq => ?_) <;> (try simp at hq) <;> simp -implicitDefEqProofs [*, refOwnerV, pairD, irow, Fits]) | (with_reducible refine condC_split (fun hq => ?_) (fun hq => ?_) <;> (try simp at hq) <;> simp -implicitDefEqProofs [*, refOwnerV, pairD, irow, Fits]) | (refine appK2_if (by omega) ?_; simp -implicitDefEqProofs [*, refOwnerV, pairD, irow, Fits]) | (refine pureV_if (by omega) ?_; simp -implicitDefEqProofs [*, refOwnerV, pairD, irow, Fits]))
end Go.AM
/- AM: contracts: items, stores, nodes. -/
namespace Go.AM
set_option linter.unusedSimpArgs false
set_option linter.unusedVariables false
set_option maxRecDepth 8000
set_option maxHeartbeats 0
theorem version_May (c w : Int) : Den PP 93 [.agg [.int .i64 c, .int .i64 w]] [] (.bool (verMay c w)) [] := by
  refine den_of [] [] is_version_May ?_
  simp -implicitDefEqProofs [c_version_May]
  repeat' (first | (refine callThen_of (by first | exact ring_Place _) ?_; simp -implicitDefEqProofs [*, verMay]) | (with_reducible refine gOps_dec (fun _ => ?_) (fun _ => ?_) <;> simp -implicitDefEqProofs [*, verMay]) | (with_reducible refine gOps_ndec (fun _ => ?_) (fun _ => ?_) <;> simp -implicitDefEqProofs [*, verMay]) | (with_reducible refine gOps_and (fun hq => ?_) (fun hq => ?_) <;> (try simp at hq) <;> simp -implicitDefEqProofs [*, verMay]) | (with_reducible refine gOps_or (fun hq => ?_) (fun hq => ?_) <;> (try simp at hq) <;> simp -implicitDefEqProofs [*, verMay]) | (with_reducible refine gOps_not (fun hq => ?_) (fun hq => ?_) <;> (try simp at hq) <;> simp -implicitDefEqProofs [*, verMay]) | (with_reducible refine gOps_split (fun hq => ?_) (fun hq => ?_) <;> (try simp at hq) <;> simp -implicitDefEqProofs [*, verMay]) | (with_reducible refine condC_dec (fun _ => ?_) (fun _ => ?_) <;> simp -implicitDefEqProofs [*, verMay]) | (with_reducible refine condC_ndec (fun _ => ?_) (fun _ => ?_) <;> simp -implicitDefEqProofs [*, verMay]) | (with_reducible refine condC_and (fun hq => ?_) (fun hq => ?_) <;> (try simp at hq) <;> simp -implicitDefEqProofs [*, verMay]) | (with_reducible refine condC_or (fun hq => ?_) (fun hq => ?_) <;> (try simp at hq) <;> simp -implicitDefEqProofs [*, verMay]) | (with_reducible refine condC_not (fun hq => ?_) (fun hq => ?_) <;> (try simp at hq) <;> simp -implicitDefEqProofs [*, verMay]) | (with_reducible refine condC_split (fun hq => ?_) (fun hq => ?_) <;> (try simp at hq) <;> simp -implicitDefEqProofs [*, verMay]) | (refine appK2_if (by omega) ?_; simp -implicitDefEqProofs [*, verMay]) | (refine pureV_if (by omega) ?_; simp -implicitDefEqProofs [*, verMay]))
theorem ref_VersionMay (c w : Int) : Den PP 97 [.agg [.int .i64 c, .int .i64 w]] [] (.bool (verMay c w)) [] := by
  refine den_of [] [] is_gimmalref1_VersionMay ?_
  simp -implicitDefEqProofs [c_gimmalref1_VersionMay]
  repeat' (first | (refine callThen_of (by first | exact ref_PlaceMay _) ?_; simp -implicitDefEqProofs [*, verMay]) | (with_reducible refine gOps_dec (fun _ => ?_) (fun _ => ?_) <;> simp -implicitDefEqProofs [*, verMay]) | (with_reducible refine gOps_ndec (fun _ => ?_) (fun _ => ?_) <;> simp -implicitDefEqProofs [*, verMay]) | (with_reducible refine gOps_and (fun hq => ?_) (fun hq => ?_) <;> (try simp at hq) <;> simp -implicitDefEqProofs [*, verMay]) | (with_reducible refine gOps_or (fun hq => ?_) (fun hq => ?_) <;> (try simp at hq) <;> simp -implicitDefEqProofs [*, verMay]) | (with_reducible refine gOps_not (fun hq => ?_) (fun hq => ?_) <;> (try simp at hq) <;> simp -implicitDefEqProofs [*, verMay]) | (with_reducible refine gOps_split (fun hq => ?_) (fun hq => ?_) <;> (try simp at hq) <;> simp -implicitDefEqProofs [*, verMay]) | (with_reducible refine condC_dec (fun _ => ?_) (fun _ => ?_) <;> simp -implicitDefEqProofs [*, verMay]) | (with_reducible refine condC_ndec (fun _ => ?_) (fun _ => ?_) <;> simp -implicitDefEqProofs [*, verMay]) | (with_reducible refine condC_and (fun hq => ?_) (fun hq => ?_) <;> (try simp at hq) <;> simp -implicitDefEqProofs [*, verMay]) | (with_reducible refine condC_or (fun hq => ?_) (fun hq => ?_) <;> (try simp at hq) <;> simp -implicitDefEqProofs [*, verMay]) | (with_reducible refine condC_not (fun hq => ?_) (fun hq => ?_) <;> (try simp at hq) <;> simp -implicitDefEqProofs [*, verMay]) | (with_reducible refine condC_split (fun hq => ?_) (fun hq => ?_) <;> (try simp at hq) <;> simp -implicitDefEqProofs [*, verMay]) | (refine appK2_if (by omega) ?_; simp -implicitDefEqProofs [*, verMay]) | (refine pureV_if (by omega) ?_; simp -implicitDefEqProofs [*, verMay]))
theorem item_Byte (x : Int) : Den PP 92 [.int .i64 x] [] (.bool (byte x)) [] := by
  refine den_of [] [] is_item_Byte ?_
  simp -implicitDefEqProofs [c_item_Byte]
  repeat' (first | (with_reducible refine gOps_dec (fun _ => ?_) (fun _ => ?_) <;> simp -implicitDefEqProofs [*, byte]) | (with_reducible refine gOps_ndec (fun _ => ?_) (fun _ => ?_) <;> simp -implicitDefEqProofs [*, byte]) | (with_reducible refine gOps_and (fun hq => ?_) (fun hq => ?_) <;> (try simp at hq) <;> simp -implicitDefEqProofs [*, byte]) | (with_reducible refine gOps_or (fun hq => ?_) (fun hq => ?_) <;> (try simp at hq) <;> simp -implicitDefEqProofs [*, byte]) | (with_reducible refine gOps_not (fun hq => ?_) (fun hq => ?_) <;> (try simp at hq) <;> simp -implicitDefEqProofs [*, byte]) | (with_reducible refine gOps_split (fun hq => ?_) (fun hq => ?_) <;> (try simp at hq) <;> simp -implicitDefEqProofs [*, byte]) | (with_reducible refine condC_dec (fun _ => ?_) (fun _ => ?_) <;> simp -implicitDefEqProofs [*, byte]) | (with_reducible refine condC_ndec (fun _ => ?_) (fun _ => ?_) <;> simp -implicitDefEqProofs [*, byte]) | (with_reducible refine condC_and (fun hq => ?_) (fun hq => ?_) <;> (try simp at hq) <;> simp -implicitDefEqProofs [*, byte]) | (with_reducible refine condC_or (fun hq => ?_) (fun hq => ?_) <;> (try simp at hq) <;> simp -implicitDefEqProofs [*, byte]) | (with_reducible refine condC_not (fun hq => ?_) (fun hq => ?_) <;> (try simp at hq) <;> simp -implicitDefEqProofs [*, byte]) | (with_reducible refine condC_split (fun hq => ?_) (fun hq => ?_) <;> (try simp at hq) <;> simp -implicitDefEqProofs [*, byte]) | (refine appK2_if (by omega) ?_; simp -implicitDefEqProofs [*, byte]) | (refine pureV_if (by omega) ?_; simp -implicitDefEqProofs [*, byte]))
theorem ref_byteMay (x : Int) : Den PP 96 [.int .i64 x] [] (.bool (byte x)) [] := by
  refine den_of [] [] is_gimmalref1_byteMay ?_
  simp -implicitDefEqProofs [c_gimmalref1_byteMay]
  repeat' (first | (with_reducible refine gOps_dec (fun _ => ?_) (fun _ => ?_) <;> simp -implicitDefEqProofs [*, byte]) | (with_reducible refine gOps_ndec (fun _ => ?_) (fun _ => ?_) <;> simp -implicitDefEqProofs [*, byte]) | (with_reducible refine gOps_and (fun hq => ?_) (fun hq => ?_) <;> (try simp at hq) <;> simp -implicitDefEqProofs [*, byte]) | (with_reducible refine gOps_or (fun hq => ?_) (fun hq => ?_) <;> (try simp at hq) <;> simp -implicitDefEqProofs [*, byte]) | (with_reducible refine gOps_not (fun hq => ?_) (fun hq => ?_) <;> (try simp at hq) <;> simp -implicitDefEqProofs [*, byte]) | (with_reducible refine gOps_split (fun hq => ?_) (fun hq => ?_) <;> (try simp at hq) <;> simp -implicitDefEqProofs [*, byte]) | (with_reducible refine condC_dec (fun _ => ?_) (fun _ => ?_) <;> simp -implicitDefEqProofs [*, byte]) | (with_reducible refine condC_ndec (fun _ => ?_) (fun _ => ?_) <;> simp -implicitDefEqProofs [*, byte]) | (with_reducible refine condC_and (fun hq => ?_) (fun hq => ?_) <;> (try simp at hq) <;> simp -implicitDefEqProofs [*, byte]) | (with_reducible refine condC_or (fun hq => ?_) (fun hq => ?_) <;> (try simp at hq) <;> simp -implicitDefEqProofs [*, byte]) | (with_reducible refine condC_not (fun hq => ?_) (fun hq => ?_) <;> (try simp at hq) <;> simp -implicitDefEqProofs [*, byte]) | (with_reducible refine condC_split (fun hq => ?_) (fun hq => ?_) <;> (try simp at hq) <;> simp -implicitDefEqProofs [*, byte]) | (refine appK2_if (by omega) ?_; simp -implicitDefEqProofs [*, byte]) | (refine pureV_if (by omega) ?_; simp -implicitDefEqProofs [*, byte]))
  all_goals omega
theorem ref16_byteMay (x : Int) : Den PP 64 [.int .i64 x] [] (.bool (byte x)) [] := by
  refine den_of [] [] is_gimmalref16_byteMay ?_
  simp -implicitDefEqProofs [c_gimmalref16_byteMay]
  repeat' (first | (with_reducible refine gOps_dec (fun _ => ?_) (fun _ => ?_) <;> simp -implicitDefEqProofs [*, byte]) | (with_reducible refine gOps_ndec (fun _ => ?_) (fun _ => ?_) <;> simp -implicitDefEqProofs [*, byte]) | (with_reducible refine gOps_and (fun hq => ?_) (fun hq => ?_) <;> (try simp at hq) <;> simp -implicitDefEqProofs [*, byte]) | (with_reducible refine gOps_or (fun hq => ?_) (fun hq => ?_) <;> (try simp at hq) <;> simp -implicitDefEqProofs [*, byte]) | (with_reducible refine gOps_not (fun hq => ?_) (fun hq => ?_) <;> (try simp at hq) <;> simp -implicitDefEqProofs [*, byte]) | (with_reducible refine gOps_split (fun hq => ?_) (fun hq => ?_) <;> (try simp at hq) <;> simp -implicitDefEqProofs [*, byte]) | (with_reducible refine condC_dec (fun _ => ?_) (fun _ => ?_) <;> simp -implicitDefEqProofs [*, byte]) | (with_reducible refine condC_ndec (fun _ => ?_) (fun _ => ?_) <;> simp -implicitDefEqProofs [*, byte]) | (with_reducible refine condC_and (fun hq => ?_) (fun hq => ?_) <;> (try simp at hq) <;> simp -implicitDefEqProofs [*, byte]) | (with_reducible refine condC_or (fun hq => ?_) (fun hq => ?_) <;> (try simp at hq) <;> simp -implicitDefEqProofs [*, byte]) | (with_reducible refine condC_not (fun hq => ?_) (fun hq => ?_) <;> (try simp at hq) <;> simp -implicitDefEqProofs [*, byte]) | (with_reducible refine condC_split (fun hq => ?_) (fun hq => ?_) <;> (try simp at hq) <;> simp -implicitDefEqProofs [*, byte]) | (refine appK2_if (by omega) ?_; simp -implicitDefEqProofs [*, byte]) | (refine pureV_if (by omega) ?_; simp -implicitDefEqProofs [*, byte]))
  all_goals omega
theorem item_May (i : Item) : Den PP 70 [.agg i.row] [] (.bool (itemMay i)) [] := by
  refine den_of [] [] is_item_May ?_
  simp -implicitDefEqProofs [c_item_May, Item.row]
  repeat' (first | (refine callThen_of (by first | exact item_Byte _ | exact version_May _ _) ?_; simp -implicitDefEqProofs [*, itemMay]) | (with_reducible refine gOps_dec (fun _ => ?_) (fun _ => ?_) <;> simp -implicitDefEqProofs [*, itemMay]) | (with_reducible refine gOps_ndec (fun _ => ?_) (fun _ => ?_) <;> simp -implicitDefEqProofs [*, itemMay]) | (with_reducible refine gOps_and (fun hq => ?_) (fun hq => ?_) <;> (try simp at hq) <;> simp -implicitDefEqProofs [*, itemMay]) | (with_reducible refine gOps_or (fun hq => ?_) (fun hq => ?_) <;> (try simp at hq) <;> simp -implicitDefEqProofs [*, itemMay]) | (with_reducible refine gOps_not (fun hq => ?_) (fun hq => ?_) <;> (try simp at hq) <;> simp -implicitDefEqProofs [*, itemMay]) | (with_reducible refine gOps_split (fun hq => ?_) (fun hq => ?_) <;> (try simp at hq) <;> simp -implicitDefEqProofs [*, itemMay]) | (with_reducible refine condC_dec (fun _ => ?_) (fun _ => ?_) <;> simp -implicitDefEqProofs [*, itemMay]) | (with_reducible refine condC_ndec (fun _ => ?_) (fun _ => ?_) <;> simp -implicitDefEqProofs [*, itemMay]) | (with_reducible refine condC_and (fun hq => ?_) (fun hq => ?_) <;> (try simp at hq) <;> simp -implicitDefEqProofs [*, itemMay]) | (with_reducible refine condC_or (fun hq => ?_) (fun hq => ?_) <;> (try simp at hq) <;> simp -implicitDefEqProofs [*, itemMay]) | (with_reducible refine condC_not (fun hq => ?_) (fun hq => ?_) <;> (try simp at hq) <;> simp -implicitDefEqProofs [*, itemMay]) | (with_reducible refine condC_split (fun hq => ?_) (fun hq => ?_) <;> (try simp at hq) <;> simp -implicitDefEqProofs [*, itemMay]) | (refine appK2_if (by omega) ?_; simp -implicitDefEqProofs [*, itemMay]) | (refine pureV_if (by omega) ?_; simp -implicitDefEqProofs [*, itemMay]))
theorem ref_ItemMay (i : Item) : Den PP 72 [.agg i.row] [] (.bool (itemMay i)) [] := by
  refine den_of [] [] is_gimmalref1_ItemMay ?_
  simp -implicitDefEqProofs [c_gimmalref1_ItemMay, Item.row]
  repeat' (first | (refine callThen_of (by first | exact ref_byteMay _ | exact ref_VersionMay _ _) ?_; simp -implicitDefEqProofs [*, itemMay]) | (with_reducible refine gOps_dec (fun _ => ?_) (fun _ => ?_) <;> simp -implicitDefEqProofs [*, itemMay]) | (with_reducible refine gOps_ndec (fun _ => ?_) (fun _ => ?_) <;> simp -implicitDefEqProofs [*, itemMay]) | (with_reducible refine gOps_and (fun hq => ?_) (fun hq => ?_) <;> (try simp at hq) <;> simp -implicitDefEqProofs [*, itemMay]) | (with_reducible refine gOps_or (fun hq => ?_) (fun hq => ?_) <;> (try simp at hq) <;> simp -implicitDefEqProofs [*, itemMay]) | (with_reducible refine gOps_not (fun hq => ?_) (fun hq => ?_) <;> (try simp at hq) <;> simp -implicitDefEqProofs [*, itemMay]) | (with_reducible refine gOps_split (fun hq => ?_) (fun hq => ?_) <;> (try simp at hq) <;> simp -implicitDefEqProofs [*, itemMay]) | (with_reducible refine condC_dec (fun _ => ?_) (fun _ => ?_) <;> simp -implicitDefEqProofs [*, itemMay]) | (with_reducible refine condC_ndec (fun _ => ?_) (fun _ => ?_) <;> simp -implicitDefEqProofs [*, itemMay]) | (with_reducible refine condC_and (fun hq => ?_) (fun hq => ?_) <;> (try simp at hq) <;> simp -implicitDefEqProofs [*, itemMay]) | (with_reducible refine condC_or (fun hq => ?_) (fun hq => ?_) <;> (try simp at hq) <;> simp -implicitDefEqProofs [*, itemMay]) | (with_reducible refine condC_not (fun hq => ?_) (fun hq => ?_) <;> (try simp at hq) <;> simp -implicitDefEqProofs [*, itemMay]) | (with_reducible refine condC_split (fun hq => ?_) (fun hq => ?_) <;> (try simp at hq) <;> simp -implicitDefEqProofs [*, itemMay]) | (refine appK2_if (by omega) ?_; simp -implicitDefEqProofs [*, itemMay]) | (refine pureV_if (by omega) ?_; simp -implicitDefEqProofs [*, itemMay]))
theorem ref_ItemMay_raw (k c w v : Int) (g : Bool) : Den PP 72 [.agg [.int .i64 k, .int .i64 c, .int .i64 w, .int .i64 v, .bool g]] [] (.bool (itemMay ⟨k, c, w, v, g⟩)) [] := ref_ItemMay ⟨k, c, w, v, g⟩
theorem item_May_raw (k c w v : Int) (g : Bool) : Den PP 70 [.agg [.int .i64 k, .int .i64 c, .int .i64 w, .int .i64 v, .bool g]] [] (.bool (itemMay ⟨k, c, w, v, g⟩)) [] := item_May ⟨k, c, w, v, g⟩
def prevKey (is : List Item) (i : Nat) : Option Int := if i = 0 then none else (is[i - 1]?).map Item.key
theorem store_May (is : List Item) (hl : is.length ≤ cap16) : Den PP 79 [itemsD is] [] (.bool (storeMay is)) [] := by
  obtain ⟨A, hA⟩ : ∃ A, itemsOk none is = A := ⟨_, rfl⟩
  unfold cap16 at hl
  refine den_of [] [] is_store_May ?_
  simp -implicitDefEqProofs [c_store_May, itemsD]
  refine list_rule is (fun i rest => fun ⟨fr, bs⟩ => bs = [] ∧ fr 0 = itemsD is ∧ fr 5 = itemsD is ∧ fr 6 = .int .i64 is.length ∧ fr 7 = .int .i64 i ∧ itemsOk (prevKey is i) rest = A)
    (fun ⟨fr, bs⟩ => bs = [] ∧ fr 0 = itemsD is ∧ A = true) (fun ⟨fr, bs⟩ => fr 2 = .bool false ∧ A = false) c_store_May_L0.eq_1 ?_ ?_ ?_ ?_ ?_
  · exact ⟨rfl, rfl, rfl, rfl, rfl, hA⟩
  · rintro i ⟨fr, bs⟩ hi ⟨rfl, h0, h5, h6, h7, he⟩
    simp -implicitDefEqProofs [h0, h5, h6, h7, hi]
    simpa [itemsOk] using he.symm
  · rintro i a rest ⟨fr, bs⟩ hlt hget hg hd hd2 ⟨rfl, h0, h5, h6, h7, he⟩
    have hlt' : (i : Int) < is.length := by omega
    have hw := wrap_next (n := i) (by omega)
    have c1 := item_May a
    simp [Item.row] at c1
    simp only [itemsOk] at he
    have hp : prevKey is (i + 1) = some a.key := by simp [prevKey, hget]
    cases i with
    | zero =>
      simp [prevKey] at he
      simp -implicitDefEqProofs [h0, h5, h6, h7, hlt, hlt', hget, hg, itemsD, Item.row]
      repeat' (first | (refine callThen_of (by first | exact c1) ?_; simp -implicitDefEqProofs [*, itemsD, Item.row, hw]) | (with_reducible refine gOps_dec (fun _ => ?_) (fun _ => ?_) <;> simp -implicitDefEqProofs [*, itemsD, Item.row, hw]) | (with_reducible refine gOps_ndec (fun _ => ?_) (fun _ => ?_) <;> simp -implicitDefEqProofs [*, itemsD, Item.row, hw]) | (with_reducible refine gOps_and (fun hq => ?_) (fun hq => ?_) <;> (try simp at hq) <;> simp -implicitDefEqProofs [*, itemsD, Item.row, hw]) | (with_reducible refine gOps_or (fun hq => ?_) (fun hq => ?_) <;> (try simp at hq) <;> simp -implicitDefEqProofs [*, itemsD, Item.row, hw]) | (with_reducible refine gOps_not (fun hq => ?_) (fun hq => ?_) <;> (try simp at hq) <;> simp -implicitDefEqProofs [*, itemsD, Item.row, hw]) | (with_reducible refine gOps_split (fun hq => ?_) (fun hq => ?_) <;> (try simp at hq) <;> simp -implicitDefEqProofs [*, itemsD, Item.row, hw]) | (with_reducible refine condC_dec (fun _ => ?_) (fun _ => ?_) <;> simp -implicitDefEqProofs [*, itemsD, Item.row, hw]) | (with_reducible refine condC_ndec (fun _ => ?_) (fun _ => ?_) <;> simp -implicitDefEqProofs [*, itemsD, Item.row, hw]) | (with_reducible refine condC_and (fun hq => ?_) (fun hq => ?_) <;> (try simp at hq) <;> simp -implicitDefEqProofs [*, itemsD, Item.row, hw]) | (with_reducible refine condC_or (fun hq => ?_) (fun hq => ?_) <;> (try simp at hq) <;> simp -implicitDefEqProofs [*, itemsD, Item.row, hw]) | (with_reducible refine condC_not (fun hq => ?_) (fun hq => ?_) <;> (try simp at hq) <;> simp -implicitDefEqProofs [*, itemsD, Item.row, hw]) | (with_reducible refine condC_split (fun hq => ?_) (fun hq => ?_) <;> (try simp at hq) <;> simp -implicitDefEqProofs [*, itemsD, Item.row, hw]) | (refine appK2_if (by omega) ?_; simp -implicitDefEqProofs [*, itemsD, Item.row, hw]) | (refine pureV_if (by omega) ?_; simp -implicitDefEqProofs [*, itemsD, Item.row, hw]))
      all_goals grind
    | succ j =>
      have hj : j < is.length := by omega
      have hj' : (j : Int) < is.length := by omega
      have hjw : IntKind.wrap .i64 (j : Int) = j := wrap_in (by omega) (by omega)
      obtain ⟨b, hb⟩ : ∃ b, is[j] = b := ⟨_, rfl⟩
      have hpj : prevKey is (j + 1) = some b.key := by simp [prevKey, hj, hb]
      rw [hpj] at he
      simp -implicitDefEqProofs [h0, h5, h6, h7, hlt, hlt', hget, hg, itemsD, Item.row]
      repeat' (first | (refine callThen_of (by first | exact c1) ?_; simp -implicitDefEqProofs [*, itemsD, Item.row, hw, hb]) | (with_reducible refine gOps_dec (fun _ => ?_) (fun _ => ?_) <;> simp -implicitDefEqProofs [*, itemsD, Item.row, hw, hb]) | (with_reducible refine gOps_ndec (fun _ => ?_) (fun _ => ?_) <;> simp -implicitDefEqProofs [*, itemsD, Item.row, hw, hb]) | (with_reducible refine gOps_and (fun hq => ?_) (fun hq => ?_) <;> (try simp at hq) <;> simp -implicitDefEqProofs [*, itemsD, Item.row, hw, hb]) | (with_reducible refine gOps_or (fun hq => ?_) (fun hq => ?_) <;> (try simp at hq) <;> simp -implicitDefEqProofs [*, itemsD, Item.row, hw, hb]) | (with_reducible refine gOps_not (fun hq => ?_) (fun hq => ?_) <;> (try simp at hq) <;> simp -implicitDefEqProofs [*, itemsD, Item.row, hw, hb]) | (with_reducible refine gOps_split (fun hq => ?_) (fun hq => ?_) <;> (try simp at hq) <;> simp -implicitDefEqProofs [*, itemsD, Item.row, hw, hb]) | (with_reducible refine condC_dec (fun _ => ?_) (fun _ => ?_) <;> simp -implicitDefEqProofs [*, itemsD, Item.row, hw, hb]) | (with_reducible refine condC_ndec (fun _ => ?_) (fun _ => ?_) <;> simp -implicitDefEqProofs [*, itemsD, Item.row, hw, hb]) | (with_reducible refine condC_and (fun hq => ?_) (fun hq => ?_) <;> (try simp at hq) <;> simp -implicitDefEqProofs [*, itemsD, Item.row, hw, hb]) | (with_reducible refine condC_or (fun hq => ?_) (fun hq => ?_) <;> (try simp at hq) <;> simp -implicitDefEqProofs [*, itemsD, Item.row, hw, hb]) | (with_reducible refine condC_not (fun hq => ?_) (fun hq => ?_) <;> (try simp at hq) <;> simp -implicitDefEqProofs [*, itemsD, Item.row, hw, hb]) | (with_reducible refine condC_split (fun hq => ?_) (fun hq => ?_) <;> (try simp at hq) <;> simp -implicitDefEqProofs [*, itemsD, Item.row, hw, hb]) | (refine appK2_if (by omega) ?_; simp -implicitDefEqProofs [*, itemsD, Item.row, hw, hb]) | (refine pureV_if (by omega) ?_; simp -implicitDefEqProofs [*, itemsD, Item.row, hw, hb]))
      all_goals grind
  · rintro ⟨fr, bs⟩ ⟨rfl, h0, h1⟩
    simp -implicitDefEqProofs [h0, itemsD, storeMay, hA, h1]
    omega
  · rintro ⟨fr, bs⟩ h
    simp -implicitDefEqProofs [h.1, h.2, storeMay, hA]
theorem ref_StoreMay (is : List Item) (hl : is.length ≤ cap16) : Den PP 63 [itemsD is] [] (.bool (storeMay is)) [] := by
  obtain ⟨A, hA⟩ : ∃ A, itemsOk none is = A := ⟨_, rfl⟩
  unfold cap16 at hl
  refine den_of [] [] is_gimmalref1_StoreMay ?_
  simp -implicitDefEqProofs [c_gimmalref1_StoreMay, itemsD]
  refine list_rule is (fun i rest => fun ⟨fr, bs⟩ => bs = [] ∧ fr 0 = itemsD is ∧ fr 3 = .int .i64 i ∧ itemsOk (prevKey is i) rest = A)
    (fun ⟨fr, bs⟩ => bs = [] ∧ fr 0 = itemsD is ∧ A = true) (fun ⟨fr, bs⟩ => fr 2 = .bool false ∧ A = false) c_gimmalref1_StoreMay_L0.eq_1 ?_ ?_ ?_ ?_ ?_
  · exact ⟨rfl, rfl, rfl, hA⟩
  · rintro i ⟨fr, bs⟩ hi ⟨rfl, h0, h3, he⟩
    simp -implicitDefEqProofs [h0, h3, hi, itemsD]
    simpa [itemsOk] using he.symm
  · rintro i a rest ⟨fr, bs⟩ hlt hget hg hd hd2 ⟨rfl, h0, h3, he⟩
    have hlt' : (i : Int) < is.length := by omega
    have hw := wrap_next (n := i) (by omega)
    have c1 := ref_ItemMay a
    simp [Item.row] at c1
    simp only [itemsOk] at he
    have hp : prevKey is (i + 1) = some a.key := by simp [prevKey, hget]
    cases i with
    | zero =>
      simp [prevKey] at he
      simp -implicitDefEqProofs [h0, h3, hlt, hlt', hget, hg, itemsD, Item.row]
      repeat' (first | (refine callThen_of (by first | exact c1) ?_; simp -implicitDefEqProofs [*, itemsD, Item.row, hw]) | (with_reducible refine gOps_dec (fun _ => ?_) (fun _ => ?_) <;> simp -implicitDefEqProofs [*, itemsD, Item.row, hw]) | (with_reducible refine gOps_ndec (fun _ => ?_) (fun _ => ?_) <;> simp -implicitDefEqProofs [*, itemsD, Item.row, hw]) | (with_reducible refine gOps_and (fun hq => ?_) (fun hq => ?_) <;> (try simp at hq) <;> simp -implicitDefEqProofs [*, itemsD, Item.row, hw]) | (with_reducible refine gOps_or (fun hq => ?_) (fun hq => ?_) <;> (try simp at hq) <;> simp -implicitDefEqProofs [*, itemsD, Item.row, hw]) | (with_reducible refine gOps_not (fun hq => ?_) (fun hq => ?_) <;> (try simp at hq) <;> simp -implicitDefEqProofs [*, itemsD, Item.row, hw]) | (with_reducible refine gOps_split (fun hq => ?_) (fun hq => ?_) <;> (try simp at hq) <;> simp -implicitDefEqProofs [*, itemsD, Item.row, hw]) | (with_reducible refine condC_dec (fun _ => ?_) (fun _ => ?_) <;> simp -implicitDefEqProofs [*, itemsD, Item.row, hw]) | (with_reducible refine condC_ndec (fun _ => ?_) (fun _ => ?_) <;> simp -implicitDefEqProofs [*, itemsD, Item.row, hw]) | (with_reducible refine condC_and (fun hq => ?_) (fun hq => ?_) <;> (try simp at hq) <;> simp -implicitDefEqProofs [*, itemsD, Item.row, hw]) | (with_reducible refine condC_or (fun hq => ?_) (fun hq => ?_) <;> (try simp at hq) <;> simp -implicitDefEqProofs [*, itemsD, Item.row, hw]) | (with_reducible refine condC_not (fun hq => ?_) (fun hq => ?_) <;> (try simp at hq) <;> simp -implicitDefEqProofs [*, itemsD, Item.row, hw]) | (with_reducible refine condC_split (fun hq => ?_) (fun hq => ?_) <;> (try simp at hq) <;> simp -implicitDefEqProofs [*, itemsD, Item.row, hw]) | (refine appK2_if (by omega) ?_; simp -implicitDefEqProofs [*, itemsD, Item.row, hw]) | (refine pureV_if (by omega) ?_; simp -implicitDefEqProofs [*, itemsD, Item.row, hw]))
      all_goals grind
    | succ j =>
      have hj : j < is.length := by omega
      have hj' : (j : Int) < is.length := by omega
      have hjw : IntKind.wrap .i64 (j : Int) = j := wrap_in (by omega) (by omega)
      obtain ⟨b, hb⟩ : ∃ b, is[j] = b := ⟨_, rfl⟩
      have hpj : prevKey is (j + 1) = some b.key := by simp [prevKey, hj, hb]
      rw [hpj] at he
      simp -implicitDefEqProofs [h0, h3, hlt, hlt', hget, hg, itemsD, Item.row]
      repeat' (first | (refine callThen_of (by first | exact c1) ?_; simp -implicitDefEqProofs [*, itemsD, Item.row, hw, hb]) | (with_reducible refine gOps_dec (fun _ => ?_) (fun _ => ?_) <;> simp -implicitDefEqProofs [*, itemsD, Item.row, hw, hb]) | (with_reducible refine gOps_ndec (fun _ => ?_) (fun _ => ?_) <;> simp -implicitDefEqProofs [*, itemsD, Item.row, hw, hb]) | (with_reducible refine gOps_and (fun hq => ?_) (fun hq => ?_) <;> (try simp at hq) <;> simp -implicitDefEqProofs [*, itemsD, Item.row, hw, hb]) | (with_reducible refine gOps_or (fun hq => ?_) (fun hq => ?_) <;> (try simp at hq) <;> simp -implicitDefEqProofs [*, itemsD, Item.row, hw, hb]) | (with_reducible refine gOps_not (fun hq => ?_) (fun hq => ?_) <;> (try simp at hq) <;> simp -implicitDefEqProofs [*, itemsD, Item.row, hw, hb]) | (with_reducible refine gOps_split (fun hq => ?_) (fun hq => ?_) <;> (try simp at hq) <;> simp -implicitDefEqProofs [*, itemsD, Item.row, hw, hb]) | (with_reducible refine condC_dec (fun _ => ?_) (fun _ => ?_) <;> simp -implicitDefEqProofs [*, itemsD, Item.row, hw, hb]) | (with_reducible refine condC_ndec (fun _ => ?_) (fun _ => ?_) <;> simp -implicitDefEqProofs [*, itemsD, Item.row, hw, hb]) | (with_reducible refine condC_and (fun hq => ?_) (fun hq => ?_) <;> (try simp at hq) <;> simp -implicitDefEqProofs [*, itemsD, Item.row, hw, hb]) | (with_reducible refine condC_or (fun hq => ?_) (fun hq => ?_) <;> (try simp at hq) <;> simp -implicitDefEqProofs [*, itemsD, Item.row, hw, hb]) | (with_reducible refine condC_not (fun hq => ?_) (fun hq => ?_) <;> (try simp at hq) <;> simp -implicitDefEqProofs [*, itemsD, Item.row, hw, hb]) | (with_reducible refine condC_split (fun hq => ?_) (fun hq => ?_) <;> (try simp at hq) <;> simp -implicitDefEqProofs [*, itemsD, Item.row, hw, hb]) | (refine appK2_if (by omega) ?_; simp -implicitDefEqProofs [*, itemsD, Item.row, hw, hb]) | (refine pureV_if (by omega) ?_; simp -implicitDefEqProofs [*, itemsD, Item.row, hw, hb]))
      all_goals grind
  · rintro ⟨fr, bs⟩ ⟨rfl, h0, h1⟩
    simp -implicitDefEqProofs [h0, itemsD, storeMay, hA, h1]
    omega
  · rintro ⟨fr, bs⟩ h
    simp -implicitDefEqProofs [h.1, h.2, storeMay, hA]
theorem node_odd (t : Told) : Den PP 99 [.agg t.row] [] (.bool (toldOdd t)) [] := by
  refine den_of [] [] is_node_odd ?_
  simp -implicitDefEqProofs [c_node_odd, Told.row]
  repeat' (first | (refine callThen_of (by first | exact item_Byte _) ?_; simp -implicitDefEqProofs [*, toldOdd]) | (with_reducible refine gOps_dec (fun _ => ?_) (fun _ => ?_) <;> simp -implicitDefEqProofs [*, toldOdd]) | (with_reducible refine gOps_ndec (fun _ => ?_) (fun _ => ?_) <;> simp -implicitDefEqProofs [*, toldOdd]) | (with_reducible refine gOps_and (fun hq => ?_) (fun hq => ?_) <;> (try simp at hq) <;> simp -implicitDefEqProofs [*, toldOdd]) | (with_reducible refine gOps_or (fun hq => ?_) (fun hq => ?_) <;> (try simp at hq) <;> simp -implicitDefEqProofs [*, toldOdd]) | (with_reducible refine gOps_not (fun hq => ?_) (fun hq => ?_) <;> (try simp at hq) <;> simp -implicitDefEqProofs [*, toldOdd]) | (with_reducible refine gOps_split (fun hq => ?_) (fun hq => ?_) <;> (try simp at hq) <;> simp -implicitDefEqProofs [*, toldOdd]) | (with_reducible refine condC_dec (fun _ => ?_) (fun _ => ?_) <;> simp -implicitDefEqProofs [*, toldOdd]) | (with_reducible refine condC_ndec (fun _ => ?_) (fun _ => ?_) <;> simp -implicitDefEqProofs [*, toldOdd]) | (with_reducible refine condC_and (fun hq => ?_) (fun hq => ?_) <;> (try simp at hq) <;> simp -implicitDefEqProofs [*, toldOdd]) | (with_reducible refine condC_or (fun hq => ?_) (fun hq => ?_) <;> (try simp at hq) <;> simp -implicitDefEqProofs [*, toldOdd]) | (with_reducible refine condC_not (fun hq => ?_) (fun hq => ?_) <;> (try simp at hq) <;> simp -implicitDefEqProofs [*, toldOdd]) | (with_reducible refine condC_split (fun hq => ?_) (fun hq => ?_) <;> (try simp at hq) <;> simp -implicitDefEqProofs [*, toldOdd]) | (refine appK2_if (by omega) ?_; simp -implicitDefEqProofs [*, toldOdd]) | (refine pureV_if (by omega) ?_; simp -implicitDefEqProofs [*, toldOdd]))
end Go.AM
/- AM: contracts: nodes, sharing. -/
namespace Go.AM
set_option linter.unusedSimpArgs false
set_option linter.unusedVariables false
set_option maxRecDepth 8000
set_option maxHeartbeats 0
theorem slices_IndexFunc_Told (xs : List Told) (hl : xs.length ≤ cap) : Den PP 116 [toldsD xs, .fn 99 [] []] [] (.int .i64 (gIdx toldOdd 0 xs)) [] := by
  obtain ⟨A, hA⟩ : ∃ A, gIdx toldOdd 0 xs = A := ⟨_, rfl⟩
  unfold cap at hl
  refine den_of [] [] is_slices_IndexFunc_api_Told_api_Told ?_
  simp -implicitDefEqProofs [c_slices_IndexFunc_api_Told_api_Told, toldsD, hA]
  refine list_rule xs (fun i rest => fun ⟨fr, bs⟩ => bs = [] ∧ fr 0 = toldsD xs ∧ fr 1 = .fn 99 [] [] ∧ fr 7 = .int .i64 xs.length ∧ fr 8 = .int .i64 i ∧ gIdx toldOdd i rest = A)
    (fun ⟨fr, bs⟩ => bs = [] ∧ A = -1) (fun ⟨fr, bs⟩ => fr 4 = .int .i64 A) c_slices_IndexFunc_api_Told_api_Told_L0.eq_1 ?_ ?_ ?_ ?_ ?_
  · exact ⟨rfl, rfl, rfl, rfl, rfl, hA⟩
  · rintro i ⟨fr, bs⟩ hi ⟨rfl, h0, h1, h7, h8, he⟩
    simp -implicitDefEqProofs [h0, h1, h7, h8, hi]
    simpa [gIdx] using he.symm
  · rintro i a rest ⟨fr, bs⟩ hlt hget hg hd hd2 ⟨rfl, h0, h1, h7, h8, he⟩
    have hlt' : (i : Int) < xs.length := by omega
    have hw := wrap_next (n := i) (by omega)
    have c1 := node_odd a
    simp [Told.row] at c1
    simp only [gIdx] at he
    simp -implicitDefEqProofs [h0, h1, h7, h8, hlt, hlt', hget, hg, toldsD, Told.row]
    repeat' (first | (refine callThen_of (by first | exact c1) ?_; simp -implicitDefEqProofs [*, toldsD, Told.row, hw]) | (with_reducible refine gOps_dec (fun _ => ?_) (fun _ => ?_) <;> simp -implicitDefEqProofs [*, toldsD, Told.row, hw]) | (with_reducible refine gOps_ndec (fun _ => ?_) (fun _ => ?_) <;> simp -implicitDefEqProofs [*, toldsD, Told.row, hw]) | (with_reducible refine gOps_and (fun hq => ?_) (fun hq => ?_) <;> (try simp at hq) <;> simp -implicitDefEqProofs [*, toldsD, Told.row, hw]) | (with_reducible refine gOps_or (fun hq => ?_) (fun hq => ?_) <;> (try simp at hq) <;> simp -implicitDefEqProofs [*, toldsD, Told.row, hw]) | (with_reducible refine gOps_not (fun hq => ?_) (fun hq => ?_) <;> (try simp at hq) <;> simp -implicitDefEqProofs [*, toldsD, Told.row, hw]) | (with_reducible refine gOps_split (fun hq => ?_) (fun hq => ?_) <;> (try simp at hq) <;> simp -implicitDefEqProofs [*, toldsD, Told.row, hw]) | (with_reducible refine condC_dec (fun _ => ?_) (fun _ => ?_) <;> simp -implicitDefEqProofs [*, toldsD, Told.row, hw]) | (with_reducible refine condC_ndec (fun _ => ?_) (fun _ => ?_) <;> simp -implicitDefEqProofs [*, toldsD, Told.row, hw]) | (with_reducible refine condC_and (fun hq => ?_) (fun hq => ?_) <;> (try simp at hq) <;> simp -implicitDefEqProofs [*, toldsD, Told.row, hw]) | (with_reducible refine condC_or (fun hq => ?_) (fun hq => ?_) <;> (try simp at hq) <;> simp -implicitDefEqProofs [*, toldsD, Told.row, hw]) | (with_reducible refine condC_not (fun hq => ?_) (fun hq => ?_) <;> (try simp at hq) <;> simp -implicitDefEqProofs [*, toldsD, Told.row, hw]) | (with_reducible refine condC_split (fun hq => ?_) (fun hq => ?_) <;> (try simp at hq) <;> simp -implicitDefEqProofs [*, toldsD, Told.row, hw]) | (refine appK2_if (by omega) ?_; simp -implicitDefEqProofs [*, toldsD, Told.row, hw]) | (refine pureV_if (by omega) ?_; simp -implicitDefEqProofs [*, toldsD, Told.row, hw]))
    all_goals grind
  · rintro ⟨fr, bs⟩ ⟨rfl, h1⟩
    simp -implicitDefEqProofs [h1]
  · rintro ⟨fr, bs⟩ h
    simp -implicitDefEqProofs [h]
theorem slices_ContainsFunc_Told (xs : List Told) (hl : xs.length ≤ cap) : Den PP 98 [toldsD xs, .fn 99 [] []] [] (.bool (xs.any toldOdd)) [] := by
  have c1 := slices_IndexFunc_Told xs hl
  have h1 := gIdx_any toldOdd xs 0
  obtain ⟨A, hA⟩ : ∃ A, xs.any toldOdd = A := ⟨_, rfl⟩
  rw [hA] at h1
  simp [toldsD] at c1
  refine den_of [] [] is_slices_ContainsFunc_api_Told_api_Told ?_
  simp -implicitDefEqProofs [c_slices_ContainsFunc_api_Told_api_Told, toldsD]
  refine callThen_of c1 ?_
  simp -implicitDefEqProofs [h1, hA]
theorem node_May (x : Node) (hs : x.small) : Den PP 75 [nodeD x] [] (.bool (nodeMay x)) [] := by
  obtain ⟨h1, h2, h3⟩ := hs
  have c1 := view_May x.view h1
  have c2 := store_May x.items (by unfold cap16; omega)
  have c3 := slices_ContainsFunc_Told x.log (by unfold cap; omega)
  obtain ⟨A, hA⟩ : ∃ A, x.log.any toldOdd = A := ⟨_, rfl⟩
  rw [hA] at c3
  simp [viewD, View.cells, peersD, intsD, itemsD, toldsD] at c1 c2 c3
  obtain ⟨hp, hq⟩ := h1
  unfold cap16 at hp
  unfold cap at hq
  have w1 : IntKind.wrap .i64 ((x.view.peers.length : Int) + x.view.passive.length) = x.view.peers.length + x.view.passive.length := wrap_in (by omega) (by omega)
  have w2 : IntKind.wrap .i64 ((x.view.peers.length : Int) + x.view.passive.length + x.items.length) = x.view.peers.length + x.view.passive.length + x.items.length := wrap_in (by omega) (by omega)
  have w3 : IntKind.wrap .i64 ((x.view.peers.length : Int) + x.view.passive.length + x.items.length + x.log.length) = x.view.peers.length + x.view.passive.length + x.items.length + x.log.length := wrap_in (by omega) (by omega)
  refine den_of [] [] is_node_May ?_
  simp -implicitDefEqProofs [c_node_May, nodeD, Node.cells, peersD, intsD, itemsD, toldsD]
  repeat' (first | (refine callThen_of (by first | exact c1 | exact c2 | exact c3) ?_; simp -implicitDefEqProofs [*, w1, w2, w3]) | (with_reducible refine gOps_dec (fun _ => ?_) (fun _ => ?_) <;> simp -implicitDefEqProofs [*, w1, w2, w3]) | (with_reducible refine gOps_ndec (fun _ => ?_) (fun _ => ?_) <;> simp -implicitDefEqProofs [*, w1, w2, w3]) | (with_reducible refine gOps_and (fun hq => ?_) (fun hq => ?_) <;> (try simp at hq) <;> simp -implicitDefEqProofs [*, w1, w2, w3]) | (with_reducible refine gOps_or (fun hq => ?_) (fun hq => ?_) <;> (try simp at hq) <;> simp -implicitDefEqProofs [*, w1, w2, w3]) | (with_reducible refine gOps_not (fun hq => ?_) (fun hq => ?_) <;> (try simp at hq) <;> simp -implicitDefEqProofs [*, w1, w2, w3]) | (with_reducible refine gOps_split (fun hq => ?_) (fun hq => ?_) <;> (try simp at hq) <;> simp -implicitDefEqProofs [*, w1, w2, w3]) | (with_reducible refine condC_dec (fun _ => ?_) (fun _ => ?_) <;> simp -implicitDefEqProofs [*, w1, w2, w3]) | (with_reducible refine condC_ndec (fun _ => ?_) (fun _ => ?_) <;> simp -implicitDefEqProofs [*, w1, w2, w3]) | (with_reducible refine condC_and (fun hq => ?_) (fun hq => ?_) <;> (try simp at hq) <;> simp -implicitDefEqProofs [*, w1, w2, w3]) | (with_reducible refine condC_or (fun hq => ?_) (fun hq => ?_) <;> (try simp at hq) <;> simp -implicitDefEqProofs [*, w1, w2, w3]) | (with_reducible refine condC_not (fun hq => ?_) (fun hq => ?_) <;> (try simp at hq) <;> simp -implicitDefEqProofs [*, w1, w2, w3]) | (with_reducible refine condC_split (fun hq => ?_) (fun hq => ?_) <;> (try simp at hq) <;> simp -implicitDefEqProofs [*, w1, w2, w3]) | (refine appK2_if (by omega) ?_; simp -implicitDefEqProofs [*, w1, w2, w3]) | (refine pureV_if (by omega) ?_; simp -implicitDefEqProofs [*, w1, w2, w3]))
  all_goals simp only [nodeMay, emptyN, hA]
  all_goals grind
theorem node_Up (x : Node) (hs : x.small) : Den PP 46 [nodeD x] [] (.bool (nodeUp x)) [] := by
  have c1 := node_May x hs
  simp only [nodeD, Node.cells, peersD, intsD, itemsD, toldsD] at c1
  refine den_of [] [] is_node_Up ?_
  cases hu : x.up
  all_goals
    rw [hu] at c1
    simp -implicitDefEqProofs [c_node_Up, nodeD, Node.cells, peersD, intsD, itemsD, toldsD, hu]
    repeat' (first | (refine callThen_of (by first | exact c1) ?_; simp -implicitDefEqProofs [*]) | (with_reducible refine gOps_dec (fun _ => ?_) (fun _ => ?_) <;> simp -implicitDefEqProofs [*]) | (with_reducible refine gOps_ndec (fun _ => ?_) (fun _ => ?_) <;> simp -implicitDefEqProofs [*]) | (with_reducible refine gOps_and (fun hq => ?_) (fun hq => ?_) <;> (try simp at hq) <;> simp -implicitDefEqProofs [*]) | (with_reducible refine gOps_or (fun hq => ?_) (fun hq => ?_) <;> (try simp at hq) <;> simp -implicitDefEqProofs [*]) | (with_reducible refine gOps_not (fun hq => ?_) (fun hq => ?_) <;> (try simp at hq) <;> simp -implicitDefEqProofs [*]) | (with_reducible refine gOps_split (fun hq => ?_) (fun hq => ?_) <;> (try simp at hq) <;> simp -implicitDefEqProofs [*]) | (with_reducible refine condC_dec (fun _ => ?_) (fun _ => ?_) <;> simp -implicitDefEqProofs [*]) | (with_reducible refine condC_ndec (fun _ => ?_) (fun _ => ?_) <;> simp -implicitDefEqProofs [*]) | (with_reducible refine condC_and (fun hq => ?_) (fun hq => ?_) <;> (try simp at hq) <;> simp -implicitDefEqProofs [*]) | (with_reducible refine condC_or (fun hq => ?_) (fun hq => ?_) <;> (try simp at hq) <;> simp -implicitDefEqProofs [*]) | (with_reducible refine condC_not (fun hq => ?_) (fun hq => ?_) <;> (try simp at hq) <;> simp -implicitDefEqProofs [*]) | (with_reducible refine condC_split (fun hq => ?_) (fun hq => ?_) <;> (try simp at hq) <;> simp -implicitDefEqProofs [*]) | (refine appK2_if (by omega) ?_; simp -implicitDefEqProofs [*]) | (refine pureV_if (by omega) ?_; simp -implicitDefEqProofs [*]))
    all_goals simp [nodeUp, hu]
end Go.AM
/- AM: contracts: what the statements' own helpers do with items, messages, nodes. -/
namespace Go.AM
set_option linter.unusedSimpArgs false
set_option linter.unusedVariables false
set_option maxRecDepth 8000
set_option maxHeartbeats 0
theorem law_SameItems (xs ys : List Item) (hl : xs.length ≤ cap) : Den PP 33 [itemsD xs, itemsD ys] [] (.bool (decide (xs = ys))) [] := by
  refine den_of [] [] is_gimmallaw0_SameItems ?_
  simp -implicitDefEqProofs [c_gimmallaw0_SameItems, itemsD]
  refine condC_split (fun h => ?_) (fun h => ?_)
  · simp -implicitDefEqProofs
    grind
  have hlen : xs.length = ys.length := by simp at h; omega
  simp -implicitDefEqProofs
  refine list_rule xs (fun i rest => fun ⟨fr, bs⟩ => bs = [] ∧ fr 0 = .sl (xs.map Item.row) xs.length ∧ fr 1 = .sl (ys.map Item.row) ys.length ∧ fr 5 = .int .i64 i ∧ (rest = ys.drop i ↔ xs = ys))
    (fun ⟨fr, bs⟩ => bs = [] ∧ xs = ys) (fun ⟨fr, bs⟩ => fr 4 = .bool false ∧ ¬ xs = ys) c_gimmallaw0_SameItems_L0.eq_1 ?_ ?_ ?_ ?_ ?_
  · exact ⟨rfl, rfl, rfl, rfl, by simp⟩
  · rintro i ⟨fr, bs⟩ hi ⟨rfl, h0, h1, h5, he⟩
    simp -implicitDefEqProofs [*]
    grind
  · rintro i a rest ⟨fr, bs⟩ hlt hget hg hd hd2 ⟨rfl, h0, h1, h5, he⟩
    have hlt' : (i : Int) < xs.length := by omega
    have hlt2 : i < ys.length := by omega
    have hlt3 : (i : Int) < ys.length := by omega
    have hw := wrap_next (n := i) (by unfold cap at hl; omega)
    rw [List.drop_eq_getElem_cons hlt2] at he
    generalize hy : ys[i] = b at he
    simp -implicitDefEqProofs [h0, h1, h5, hlt, hlt', hlt2, hlt3, hget, hg, hy, Item.row, EQS]
    repeat' (first | (with_reducible refine gOps_dec (fun _ => ?_) (fun _ => ?_) <;> simp -implicitDefEqProofs [*, EQS, hw, Item.row]) | (with_reducible refine gOps_ndec (fun _ => ?_) (fun _ => ?_) <;> simp -implicitDefEqProofs [*, EQS, hw, Item.row]) | (with_reducible refine gOps_and (fun hq => ?_) (fun hq => ?_) <;> (try simp at hq) <;> simp -implicitDefEqProofs [*, EQS, hw, Item.row]) | (with_reducible refine gOps_or (fun hq => ?_) (fun hq => ?_) <;> (try simp at hq) <;> simp -implicitDefEqProofs [*, EQS, hw, Item.row]) | (with_reducible refine gOps_not (fun hq => ?_) (fun hq => ?_) <;> (try simp at hq) <;> simp -implicitDefEqProofs [*, EQS, hw, Item.row]) | (with_reducible refine gOps_split (fun hq => ?_) (fun hq => ?_) <;> (try simp at hq) <;> simp -implicitDefEqProofs [*, EQS, hw, Item.row]) | (with_reducible refine condC_dec (fun _ => ?_) (fun _ => ?_) <;> simp -implicitDefEqProofs [*, EQS, hw, Item.row]) | (with_reducible refine condC_ndec (fun _ => ?_) (fun _ => ?_) <;> simp -implicitDefEqProofs [*, EQS, hw, Item.row]) | (with_reducible refine condC_and (fun hq => ?_) (fun hq => ?_) <;> (try simp at hq) <;> simp -implicitDefEqProofs [*, EQS, hw, Item.row]) | (with_reducible refine condC_or (fun hq => ?_) (fun hq => ?_) <;> (try simp at hq) <;> simp -implicitDefEqProofs [*, EQS, hw, Item.row]) | (with_reducible refine condC_not (fun hq => ?_) (fun hq => ?_) <;> (try simp at hq) <;> simp -implicitDefEqProofs [*, EQS, hw, Item.row]) | (with_reducible refine condC_split (fun hq => ?_) (fun hq => ?_) <;> (try simp at hq) <;> simp -implicitDefEqProofs [*, EQS, hw, Item.row]) | (refine appK2_if (by omega) ?_; simp -implicitDefEqProofs [*, EQS, hw, Item.row]) | (refine pureV_if (by omega) ?_; simp -implicitDefEqProofs [*, EQS, hw, Item.row]))
    all_goals (obtain ⟨_, _, _, _, _⟩ := a; obtain ⟨_, _, _, _, _⟩ := b; grind)
  · rintro ⟨fr, bs⟩ ⟨rfl, h6⟩
    simp -implicitDefEqProofs [*]
  · rintro ⟨fr, bs⟩ h
    simp -implicitDefEqProofs [h.1, h.2]
theorem law_SameTolds (xs ys : List Told) (hl : xs.length ≤ cap) : Den PP 36 [toldsD xs, toldsD ys] [] (.bool (decide (xs = ys))) [] := by
  refine den_of [] [] is_gimmallaw0_SameTolds ?_
  simp -implicitDefEqProofs [c_gimmallaw0_SameTolds, toldsD]
  refine condC_split (fun h => ?_) (fun h => ?_)
  · simp -implicitDefEqProofs
    grind
  have hlen : xs.length = ys.length := by simp at h; omega
  simp -implicitDefEqProofs
  refine list_rule xs (fun i rest => fun ⟨fr, bs⟩ => bs = [] ∧ fr 0 = .sl (xs.map Told.row) xs.length ∧ fr 1 = .sl (ys.map Told.row) ys.length ∧ fr 5 = .int .i64 i ∧ (rest = ys.drop i ↔ xs = ys))
    (fun ⟨fr, bs⟩ => bs = [] ∧ xs = ys) (fun ⟨fr, bs⟩ => fr 4 = .bool false ∧ ¬ xs = ys) c_gimmallaw0_SameTolds_L0.eq_1 ?_ ?_ ?_ ?_ ?_
  · exact ⟨rfl, rfl, rfl, rfl, by simp⟩
  · rintro i ⟨fr, bs⟩ hi ⟨rfl, h0, h1, h5, he⟩
    simp -implicitDefEqProofs [*]
    grind
  · rintro i a rest ⟨fr, bs⟩ hlt hget hg hd hd2 ⟨rfl, h0, h1, h5, he⟩
    have hlt' : (i : Int) < xs.length := by omega
    have hlt2 : i < ys.length := by omega
    have hlt3 : (i : Int) < ys.length := by omega
    have hw := wrap_next (n := i) (by unfold cap at hl; omega)
    rw [List.drop_eq_getElem_cons hlt2] at he
    generalize hy : ys[i] = b at he
    simp -implicitDefEqProofs [h0, h1, h5, hlt, hlt', hlt2, hlt3, hget, hg, hy, Told.row, EQS]
    repeat' (first | (with_reducible refine gOps_dec (fun _ => ?_) (fun _ => ?_) <;> simp -implicitDefEqProofs [*, EQS, hw, Told.row]) | (with_reducible refine gOps_ndec (fun _ => ?_) (fun _ => ?_) <;> simp -implicitDefEqProofs [*, EQS, hw, Told.row]) | (with_reducible refine gOps_and (fun hq => ?_) (fun hq => ?_) <;> (try simp at hq) <;> simp -implicitDefEqProofs [*, EQS, hw, Told.row]) | (with_reducible refine gOps_or (fun hq => ?_) (fun hq => ?_) <;> (try simp at hq) <;> simp -implicitDefEqProofs [*, EQS, hw, Told.row]) | (with_reducible refine gOps_not (fun hq => ?_) (fun hq => ?_) <;> (try simp at hq) <;> simp -implicitDefEqProofs [*, EQS, hw, Told.row]) | (with_reducible refine gOps_split (fun hq => ?_) (fun hq => ?_) <;> (try simp at hq) <;> simp -implicitDefEqProofs [*, EQS, hw, Told.row]) | (with_reducible refine condC_dec (fun _ => ?_) (fun _ => ?_) <;> simp -implicitDefEqProofs [*, EQS, hw, Told.row]) | (with_reducible refine condC_ndec (fun _ => ?_) (fun _ => ?_) <;> simp -implicitDefEqProofs [*, EQS, hw, Told.row]) | (with_reducible refine condC_and (fun hq => ?_) (fun hq => ?_) <;> (try simp at hq) <;> simp -implicitDefEqProofs [*, EQS, hw, Told.row]) | (with_reducible refine condC_or (fun hq => ?_) (fun hq => ?_) <;> (try simp at hq) <;> simp -implicitDefEqProofs [*, EQS, hw, Told.row]) | (with_reducible refine condC_not (fun hq => ?_) (fun hq => ?_) <;> (try simp at hq) <;> simp -implicitDefEqProofs [*, EQS, hw, Told.row]) | (with_reducible refine condC_split (fun hq => ?_) (fun hq => ?_) <;> (try simp at hq) <;> simp -implicitDefEqProofs [*, EQS, hw, Told.row]) | (refine appK2_if (by omega) ?_; simp -implicitDefEqProofs [*, EQS, hw, Told.row]) | (refine pureV_if (by omega) ?_; simp -implicitDefEqProofs [*, EQS, hw, Told.row]))
    all_goals (obtain ⟨_, _, _⟩ := a; obtain ⟨_, _, _⟩ := b; grind)
  · rintro ⟨fr, bs⟩ ⟨rfl, h6⟩
    simp -implicitDefEqProofs [*]
  · rintro ⟨fr, bs⟩ h
    simp -implicitDefEqProofs [h.1, h.2]
theorem law_SameMsg (a b : Msg) (hl : a.ids.length ≤ cap) : Den PP 27 [msgD a, msgD b] [] (.bool (decide (a = b))) [] := by
  have h1 := law_SameInts a.ids b.ids hl
  simp only [intsD] at h1
  refine den_of [] [] is_gimmallaw0_SameMsg ?_
  simp -implicitDefEqProofs [c_gimmallaw0_SameMsg, msgD, Msg.row, intsD, EQS]
  repeat' (first | (refine callThen_of (by first | exact h1) ?_; simp -implicitDefEqProofs [*, EQS]) | (with_reducible refine gOps_dec (fun _ => ?_) (fun _ => ?_) <;> simp -implicitDefEqProofs [*, EQS]) | (with_reducible refine gOps_ndec (fun _ => ?_) (fun _ => ?_) <;> simp -implicitDefEqProofs [*, EQS]) | (with_reducible refine gOps_and (fun hq => ?_) (fun hq => ?_) <;> (try simp at hq) <;> simp -implicitDefEqProofs [*, EQS]) | (with_reducible refine gOps_or (fun hq => ?_) (fun hq => ?_) <;> (try simp at hq) <;> simp -implicitDefEqProofs [*, EQS]) | (with_reducible refine gOps_not (fun hq => ?_) (fun hq => ?_) <;> (try simp at hq) <;> simp -implicitDefEqProofs [*, EQS]) | (with_reducible refine gOps_split (fun hq => ?_) (fun hq => ?_) <;> (try simp at hq) <;> simp -implicitDefEqProofs [*, EQS]) | (with_reducible refine condC_dec (fun _ => ?_) (fun _ => ?_) <;> simp -implicitDefEqProofs [*, EQS]) | (with_reducible refine condC_ndec (fun _ => ?_) (fun _ => ?_) <;> simp -implicitDefEqProofs [*, EQS]) | (with_reducible refine condC_and (fun hq => ?_) (fun hq => ?_) <;> (try simp at hq) <;> simp -implicitDefEqProofs [*, EQS]) | (with_reducible refine condC_or (fun hq => ?_) (fun hq => ?_) <;> (try simp at hq) <;> simp -implicitDefEqProofs [*, EQS]) | (with_reducible refine condC_not (fun hq => ?_) (fun hq => ?_) <;> (try simp at hq) <;> simp -implicitDefEqProofs [*, EQS]) | (with_reducible refine condC_split (fun hq => ?_) (fun hq => ?_) <;> (try simp at hq) <;> simp -implicitDefEqProofs [*, EQS]) | (refine appK2_if (by omega) ?_; simp -implicitDefEqProofs [*, EQS]) | (refine pureV_if (by omega) ?_; simp -implicitDefEqProofs [*, EQS]))
  all_goals (obtain ⟨_, _, _, _, _, ⟨_, _, _, _, _⟩, _⟩ := a; obtain ⟨_, _, _, _, _, ⟨_, _, _, _, _⟩, _⟩ := b; grind)
theorem law_SameMsgs (xs ys : List Msg) (hl : xs.length ≤ cap16) (hi : ∀ m ∈ xs, m.ids.length ≤ cap) : Den PP 23 [msgsD xs, msgsD ys] [] (.bool (decide (xs = ys))) [] := by
  refine den_of [] [] is_gimmallaw0_SameMsgs ?_
  simp -implicitDefEqProofs [c_gimmallaw0_SameMsgs, msgsD]
  refine condC_split (fun h => ?_) (fun h => ?_)
  · simp -implicitDefEqProofs
    grind
  have hlen : xs.length = ys.length := by simp at h; omega
  simp -implicitDefEqProofs
  refine list_rule xs (fun i rest => fun ⟨fr, bs⟩ => bs = [] ∧ fr 0 = .sl (xs.map Msg.row) xs.length ∧ fr 1 = .sl (ys.map Msg.row) ys.length ∧ fr 5 = .int .i64 i ∧ (rest = ys.drop i ↔ xs = ys))
    (fun ⟨fr, bs⟩ => bs = [] ∧ xs = ys) (fun ⟨fr, bs⟩ => fr 4 = .bool false ∧ ¬ xs = ys) c_gimmallaw0_SameMsgs_L0.eq_1 ?_ ?_ ?_ ?_ ?_
  · exact ⟨rfl, rfl, rfl, rfl, by simp⟩
  · rintro i ⟨fr, bs⟩ hi ⟨rfl, h0, h1, h5, he⟩
    simp -implicitDefEqProofs [*]
    grind
  · rintro i a rest ⟨fr, bs⟩ hlt hget hg hd hd2 ⟨rfl, h0, h1, h5, he⟩
    have hlt' : (i : Int) < xs.length := by omega
    have hlt2 : i < ys.length := by omega
    have hlt3 : (i : Int) < ys.length := by omega
    have hw := wrap_next (n := i) (by unfold cap16 at hl; omega)
    rw [List.drop_eq_getElem_cons hlt2] at he
    generalize hy : ys[i] = b at he
    obtain ⟨e, hab⟩ : ∃ e, decide (a = b) = e := ⟨_, rfl⟩
    have c1 := law_SameMsg a b (hi a (List.mem_of_getElem? hget))
    rw [hab] at c1
    simp only [msgD, Msg.row] at c1
    simp -implicitDefEqProofs [h0, h1, h5, hlt, hlt', hlt2, hlt3, hget, hg, hy, Msg.row, EQS]
    repeat' (first | (refine callThen_of (by first | exact c1) ?_; simp -implicitDefEqProofs [*, EQS, hw, Msg.row]) | (with_reducible refine gOps_dec (fun _ => ?_) (fun _ => ?_) <;> simp -implicitDefEqProofs [*, EQS, hw, Msg.row]) | (with_reducible refine gOps_ndec (fun _ => ?_) (fun _ => ?_) <;> simp -implicitDefEqProofs [*, EQS, hw, Msg.row]) | (with_reducible refine gOps_and (fun hq => ?_) (fun hq => ?_) <;> (try simp at hq) <;> simp -implicitDefEqProofs [*, EQS, hw, Msg.row]) | (with_reducible refine gOps_or (fun hq => ?_) (fun hq => ?_) <;> (try simp at hq) <;> simp -implicitDefEqProofs [*, EQS, hw, Msg.row]) | (with_reducible refine gOps_not (fun hq => ?_) (fun hq => ?_) <;> (try simp at hq) <;> simp -implicitDefEqProofs [*, EQS, hw, Msg.row]) | (with_reducible refine gOps_split (fun hq => ?_) (fun hq => ?_) <;> (try simp at hq) <;> simp -implicitDefEqProofs [*, EQS, hw, Msg.row]) | (with_reducible refine condC_dec (fun _ => ?_) (fun _ => ?_) <;> simp -implicitDefEqProofs [*, EQS, hw, Msg.row]) | (with_reducible refine condC_ndec (fun _ => ?_) (fun _ => ?_) <;> simp -implicitDefEqProofs [*, EQS, hw, Msg.row]) | (with_reducible refine condC_and (fun hq => ?_) (fun hq => ?_) <;> (try simp at hq) <;> simp -implicitDefEqProofs [*, EQS, hw, Msg.row]) | (with_reducible refine condC_or (fun hq => ?_) (fun hq => ?_) <;> (try simp at hq) <;> simp -implicitDefEqProofs [*, EQS, hw, Msg.row]) | (with_reducible refine condC_not (fun hq => ?_) (fun hq => ?_) <;> (try simp at hq) <;> simp -implicitDefEqProofs [*, EQS, hw, Msg.row]) | (with_reducible refine condC_split (fun hq => ?_) (fun hq => ?_) <;> (try simp at hq) <;> simp -implicitDefEqProofs [*, EQS, hw, Msg.row]) | (refine appK2_if (by omega) ?_; simp -implicitDefEqProofs [*, EQS, hw, Msg.row]) | (refine pureV_if (by omega) ?_; simp -implicitDefEqProofs [*, EQS, hw, Msg.row]))
    all_goals (by_cases hq : a = b <;> grind)
  · rintro ⟨fr, bs⟩ ⟨rfl, h6⟩
    simp -implicitDefEqProofs [*]
  · rintro ⟨fr, bs⟩ h
    simp -implicitDefEqProofs [h.1, h.2]
theorem law_SameNode (x y : Node) (hs : x.small) : Den PP 22 [nodeD x, nodeD y] [] (.bool (decide (x = y))) [] := by
  have c1 := law_SameView x.view y.view hs.1
  have c2 := law_SameItems x.items y.items (by have := hs.2.1; unfold cap; omega)
  have c3 := law_SameTolds x.log y.log (by have := hs.2.2; unfold cap; omega)
  simp only [viewD, View.cells, peersD, intsD, itemsD, toldsD] at c1 c2 c3
  refine den_of [] [] is_gimmallaw0_SameNode ?_
  simp -implicitDefEqProofs [c_gimmallaw0_SameNode, nodeD, Node.cells, peersD, intsD, itemsD, toldsD]
  refine gOps_split (fun h => ?_) (fun h => ?_)
  all_goals simp -implicitDefEqProofs [h]
  all_goals repeat' (first | (refine callThen_of (by first | exact c1 | exact c2 | exact c3) ?_; simp -implicitDefEqProofs [*]) | (with_reducible refine gOps_dec (fun _ => ?_) (fun _ => ?_) <;> simp -implicitDefEqProofs [*]) | (with_reducible refine gOps_ndec (fun _ => ?_) (fun _ => ?_) <;> simp -implicitDefEqProofs [*]) | (with_reducible refine gOps_and (fun hq => ?_) (fun hq => ?_) <;> (try simp at hq) <;> simp -implicitDefEqProofs [*]) | (with_reducible refine gOps_or (fun hq => ?_) (fun hq => ?_) <;> (try simp at hq) <;> simp -implicitDefEqProofs [*]) | (with_reducible refine gOps_not (fun hq => ?_) (fun hq => ?_) <;> (try simp at hq) <;> simp -implicitDefEqProofs [*]) | (with_reducible refine gOps_split (fun hq => ?_) (fun hq => ?_) <;> (try simp at hq) <;> simp -implicitDefEqProofs [*]) | (with_reducible refine condC_dec (fun _ => ?_) (fun _ => ?_) <;> simp -implicitDefEqProofs [*]) | (with_reducible refine condC_ndec (fun _ => ?_) (fun _ => ?_) <;> simp -implicitDefEqProofs [*]) | (with_reducible refine condC_and (fun hq => ?_) (fun hq => ?_) <;> (try simp at hq) <;> simp -implicitDefEqProofs [*]) | (with_reducible refine condC_or (fun hq => ?_) (fun hq => ?_) <;> (try simp at hq) <;> simp -implicitDefEqProofs [*]) | (with_reducible refine condC_not (fun hq => ?_) (fun hq => ?_) <;> (try simp at hq) <;> simp -implicitDefEqProofs [*]) | (with_reducible refine condC_split (fun hq => ?_) (fun hq => ?_) <;> (try simp at hq) <;> simp -implicitDefEqProofs [*]) | (refine appK2_if (by omega) ?_; simp -implicitDefEqProofs [*]) | (refine pureV_if (by omega) ?_; simp -implicitDefEqProofs [*]))
  all_goals (obtain ⟨_, _, _, _⟩ := x; obtain ⟨_, _, _, _⟩ := y; grind)
theorem law_CopyNode (x : Node) (hs : x.small) : Den PP 14 [nodeD x] [] (.agg [.bool x.up, .int .i64 x.view.id, .ref 0 0 x.view.peers.length, .ref 1 0 x.view.passive.length, .ref 2 0 x.items.length, .ref 3 0 x.log.length])
    [⟨x.view.peers.map Peer.row, 2, .mut⟩, ⟨x.view.passive.map irow, 1, .mut⟩, ⟨x.items.map Item.row, 5, .mut⟩, ⟨x.log.map Told.row, 3, .mut⟩] := by
  have c1 := law_CopyView x.view hs.1
  simp only [viewD, View.cells, peersD, intsD] at c1
  obtain ⟨⟨h1, h2⟩, h3, h4⟩ := hs
  unfold cap16 at h1
  unfold cap at h2
  refine den_of [5] [] is_gimmallaw0_CopyNode ?_
  simp -implicitDefEqProofs [c_gimmallaw0_CopyNode, nodeD, Node.cells, peersD, intsD, itemsD, toldsD]
  repeat' (first | (refine callThen_of (by first | exact c1) ?_; simp -implicitDefEqProofs [*]) | (with_reducible refine gOps_dec (fun _ => ?_) (fun _ => ?_) <;> simp -implicitDefEqProofs [*]) | (with_reducible refine gOps_ndec (fun _ => ?_) (fun _ => ?_) <;> simp -implicitDefEqProofs [*]) | (with_reducible refine gOps_and (fun hq => ?_) (fun hq => ?_) <;> (try simp at hq) <;> simp -implicitDefEqProofs [*]) | (with_reducible refine gOps_or (fun hq => ?_) (fun hq => ?_) <;> (try simp at hq) <;> simp -implicitDefEqProofs [*]) | (with_reducible refine gOps_not (fun hq => ?_) (fun hq => ?_) <;> (try simp at hq) <;> simp -implicitDefEqProofs [*]) | (with_reducible refine gOps_split (fun hq => ?_) (fun hq => ?_) <;> (try simp at hq) <;> simp -implicitDefEqProofs [*]) | (with_reducible refine condC_dec (fun _ => ?_) (fun _ => ?_) <;> simp -implicitDefEqProofs [*]) | (with_reducible refine condC_ndec (fun _ => ?_) (fun _ => ?_) <;> simp -implicitDefEqProofs [*]) | (with_reducible refine condC_and (fun hq => ?_) (fun hq => ?_) <;> (try simp at hq) <;> simp -implicitDefEqProofs [*]) | (with_reducible refine condC_or (fun hq => ?_) (fun hq => ?_) <;> (try simp at hq) <;> simp -implicitDefEqProofs [*]) | (with_reducible refine condC_not (fun hq => ?_) (fun hq => ?_) <;> (try simp at hq) <;> simp -implicitDefEqProofs [*]) | (with_reducible refine condC_split (fun hq => ?_) (fun hq => ?_) <;> (try simp at hq) <;> simp -implicitDefEqProofs [*]) | (refine appK2_if (by omega) ?_; simp -implicitDefEqProofs [*]) | (refine pureV_if (by omega) ?_; simp -implicitDefEqProofs [*]))
theorem law_SpoilInts_nil : Den PP 61 [.nil] [] (.tup []) [] := by
  refine den_of [] [] is_gimmallaw0_SpoilInts ?_
  simp -implicitDefEqProofs [c_gimmallaw0_SpoilInts]
  refine loop_rule 0 (fun _ ⟨fr, bs⟩ => bs = [] ∧ fr 0 = .nil ∧ fr 2 = .int .i64 0) (fun ⟨fr, bs⟩ => bs = []) (fun _ => False) c_gimmallaw0_SpoilInts_L0.eq_1 ?_ ?_ ?_ ?_ ?_
  · exact ⟨rfl, rfl, rfl⟩
  · rintro ⟨fr, bs⟩ ⟨rfl, h0, h2⟩
    simp -implicitDefEqProofs [h0, h2]
  · rintro m ⟨fr, bs⟩ ⟨rfl, h0, h2⟩
    simp -implicitDefEqProofs [h0, h2]
  · rintro ⟨fr, bs⟩ rfl
    simp -implicitDefEqProofs
  · rintro ⟨fr, bs⟩ h
    exact h.elim
end Go.AM
/- AM: contracts: what the statements' helpers do with slices. -/
namespace Go.AM
set_option linter.unusedSimpArgs false
set_option linter.unusedVariables false
set_option maxRecDepth 8000
set_option maxHeartbeats 0
def spoilInt (a : Int) : Int := IntKind.wrap .i64 (-9 - a)
theorem spoil_Int (xs : List Int) (hl : xs.length ≤ cap16) : Den PP 61 [.ref 0 0 xs.length] [⟨xs.map irow, 1, .mut⟩] (.tup []) [⟨(xs.map spoilInt).map irow, 1, .mut⟩] := by
  unfold cap16 at hl
  refine den_of [] [] is_gimmallaw0_SpoilInts ?_
  simp -implicitDefEqProofs [c_gimmallaw0_SpoilInts]
  refine list_rule xs (fun i rest => fun ⟨fr, bs⟩ => ∃ done, bs = [⟨(done ++ rest).map irow, 1, .mut⟩] ∧ done.length = i ∧ done ++ rest.map spoilInt = xs.map spoilInt ∧ fr 0 = .ref 0 0 xs.length ∧ fr 2 = .int .i64 i)
    (fun ⟨fr, bs⟩ => bs = [⟨(xs.map spoilInt).map irow, 1, .mut⟩]) (fun ⟨fr, bs⟩ => False) c_gimmallaw0_SpoilInts_L0.eq_1 ?_ ?_ ?_ ?_ ?_
  · exact ⟨[], rfl, rfl, rfl, rfl, rfl⟩
  · rintro i ⟨fr, bs⟩ hi ⟨done, rfl, hd, he, h0, h2⟩
    simp -implicitDefEqProofs [h0, h2, hi]
    simp at he
    simp [he]
  · rintro i a rest ⟨fr, bs⟩ hlt hget hg hd hd2 ⟨done, rfl, hdl, he, h0, h2⟩
    have hlt' : (i : Int) < xs.length := by omega
    have hw := wrap_next (n := i) (by omega)
    have h3 : ∀ (A B : List (List D)) r, A.length = i → (A ++ r :: B)[i]? = some r := by intro A B r h; simp [← h]
    have h4 : ∀ (A B : List (List D)) r r', A.length = i → (A ++ r' :: B).set i r = A ++ r :: B := by intro A B r r' h; simp [← h]
    simp -implicitDefEqProofs [h0, h2, hlt', h3, h4, hdl, irow, hw, reach, downTo]
    exact ⟨done ++ [spoilInt a], by first | (simp [irow, spoilInt]; done) | (simp [irow, spoilInt]; rfl), by simp [hdl], by simpa using he⟩
  · rintro ⟨fr, bs⟩ rfl
    try simp -implicitDefEqProofs
  · rintro ⟨fr, bs⟩ h
    exact h.elim
def spoilPeer (a : Peer) : Peer := { a with missed := (IntKind.wrap .i64 (BitVec.ofInt IntKind.i64.bits a.missed ^^^ BitVec.ofInt IntKind.i64.bits 90).toNat) }
theorem spoil_Peer (xs : List Peer) (hl : xs.length ≤ cap16) : Den PP 87 [.ref 0 0 xs.length] [⟨xs.map Peer.row, 2, .mut⟩] (.tup []) [⟨(xs.map spoilPeer).map Peer.row, 2, .mut⟩] := by
  unfold cap16 at hl
  refine den_of [] [] is_gimmallaw0_SpoilPeers ?_
  simp -implicitDefEqProofs [c_gimmallaw0_SpoilPeers]
  refine list_rule xs (fun i rest => fun ⟨fr, bs⟩ => ∃ done, bs = [⟨(done ++ rest).map Peer.row, 2, .mut⟩] ∧ done.length = i ∧ done ++ rest.map spoilPeer = xs.map spoilPeer ∧ fr 0 = .ref 0 0 xs.length ∧ fr 2 = .int .i64 i)
    (fun ⟨fr, bs⟩ => bs = [⟨(xs.map spoilPeer).map Peer.row, 2, .mut⟩]) (fun ⟨fr, bs⟩ => False) c_gimmallaw0_SpoilPeers_L0.eq_1 ?_ ?_ ?_ ?_ ?_
  · exact ⟨[], rfl, rfl, rfl, rfl, rfl⟩
  · rintro i ⟨fr, bs⟩ hi ⟨done, rfl, hd, he, h0, h2⟩
    simp -implicitDefEqProofs [h0, h2, hi]
    simp at he
    simp [he]
  · rintro i a rest ⟨fr, bs⟩ hlt hget hg hd hd2 ⟨done, rfl, hdl, he, h0, h2⟩
    have hlt' : (i : Int) < xs.length := by omega
    have hw := wrap_next (n := i) (by omega)
    have h3 : ∀ (A B : List (List D)) r, A.length = i → (A ++ r :: B)[i]? = some r := by intro A B r h; simp [← h]
    have h4 : ∀ (A B : List (List D)) r r', A.length = i → (A ++ r' :: B).set i r = A ++ r :: B := by intro A B r r' h; simp [← h]
    simp -implicitDefEqProofs [h0, h2, hlt', h3, h4, hdl, Peer.row, hw, reach, downTo]
    exact ⟨done ++ [spoilPeer a], by first | (simp [Peer.row, spoilPeer]; done) | (simp [Peer.row, spoilPeer]; rfl), by simp [hdl], by simpa using he⟩
  · rintro ⟨fr, bs⟩ rfl
    try simp -implicitDefEqProofs
  · rintro ⟨fr, bs⟩ h
    exact h.elim
def spoilItem (a : Item) : Item := { a with value := (IntKind.wrap .i64 (BitVec.ofInt IntKind.i64.bits a.value ^^^ BitVec.ofInt IntKind.i64.bits 90).toNat) }
theorem spoil_Item (xs : List Item) (hl : xs.length ≤ cap16) : Den PP 59 [.ref 0 0 xs.length] [⟨xs.map Item.row, 5, .mut⟩] (.tup []) [⟨(xs.map spoilItem).map Item.row, 5, .mut⟩] := by
  unfold cap16 at hl
  refine den_of [] [] is_gimmallaw0_SpoilItems ?_
  simp -implicitDefEqProofs [c_gimmallaw0_SpoilItems]
  refine list_rule xs (fun i rest => fun ⟨fr, bs⟩ => ∃ done, bs = [⟨(done ++ rest).map Item.row, 5, .mut⟩] ∧ done.length = i ∧ done ++ rest.map spoilItem = xs.map spoilItem ∧ fr 0 = .ref 0 0 xs.length ∧ fr 2 = .int .i64 i)
    (fun ⟨fr, bs⟩ => bs = [⟨(xs.map spoilItem).map Item.row, 5, .mut⟩]) (fun ⟨fr, bs⟩ => False) c_gimmallaw0_SpoilItems_L0.eq_1 ?_ ?_ ?_ ?_ ?_
  · exact ⟨[], rfl, rfl, rfl, rfl, rfl⟩
  · rintro i ⟨fr, bs⟩ hi ⟨done, rfl, hd, he, h0, h2⟩
    simp -implicitDefEqProofs [h0, h2, hi]
    simp at he
    simp [he]
  · rintro i a rest ⟨fr, bs⟩ hlt hget hg hd hd2 ⟨done, rfl, hdl, he, h0, h2⟩
    have hlt' : (i : Int) < xs.length := by omega
    have hw := wrap_next (n := i) (by omega)
    have h3 : ∀ (A B : List (List D)) r, A.length = i → (A ++ r :: B)[i]? = some r := by intro A B r h; simp [← h]
    have h4 : ∀ (A B : List (List D)) r r', A.length = i → (A ++ r' :: B).set i r = A ++ r :: B := by intro A B r r' h; simp [← h]
    simp -implicitDefEqProofs [h0, h2, hlt', h3, h4, hdl, Item.row, hw, reach, downTo]
    exact ⟨done ++ [spoilItem a], by first | (simp [Item.row, spoilItem]; done) | (simp [Item.row, spoilItem]; rfl), by simp [hdl], by simpa using he⟩
  · rintro ⟨fr, bs⟩ rfl
    try simp -implicitDefEqProofs
  · rintro ⟨fr, bs⟩ h
    exact h.elim
def spoilTold (a : Told) : Told := { a with value := (IntKind.wrap .i64 (BitVec.ofInt IntKind.i64.bits a.value ^^^ BitVec.ofInt IntKind.i64.bits 90).toNat) }
theorem spoil_Told (xs : List Told) (hl : xs.length ≤ cap16) : Den PP 60 [.ref 0 0 xs.length] [⟨xs.map Told.row, 3, .mut⟩] (.tup []) [⟨(xs.map spoilTold).map Told.row, 3, .mut⟩] := by
  unfold cap16 at hl
  refine den_of [] [] is_gimmallaw0_SpoilTolds ?_
  simp -implicitDefEqProofs [c_gimmallaw0_SpoilTolds]
  refine list_rule xs (fun i rest => fun ⟨fr, bs⟩ => ∃ done, bs = [⟨(done ++ rest).map Told.row, 3, .mut⟩] ∧ done.length = i ∧ done ++ rest.map spoilTold = xs.map spoilTold ∧ fr 0 = .ref 0 0 xs.length ∧ fr 2 = .int .i64 i)
    (fun ⟨fr, bs⟩ => bs = [⟨(xs.map spoilTold).map Told.row, 3, .mut⟩]) (fun ⟨fr, bs⟩ => False) c_gimmallaw0_SpoilTolds_L0.eq_1 ?_ ?_ ?_ ?_ ?_
  · exact ⟨[], rfl, rfl, rfl, rfl, rfl⟩
  · rintro i ⟨fr, bs⟩ hi ⟨done, rfl, hd, he, h0, h2⟩
    simp -implicitDefEqProofs [h0, h2, hi]
    simp at he
    simp [he]
  · rintro i a rest ⟨fr, bs⟩ hlt hget hg hd hd2 ⟨done, rfl, hdl, he, h0, h2⟩
    have hlt' : (i : Int) < xs.length := by omega
    have hw := wrap_next (n := i) (by omega)
    have h3 : ∀ (A B : List (List D)) r, A.length = i → (A ++ r :: B)[i]? = some r := by intro A B r h; simp [← h]
    have h4 : ∀ (A B : List (List D)) r r', A.length = i → (A ++ r' :: B).set i r = A ++ r :: B := by intro A B r r' h; simp [← h]
    simp -implicitDefEqProofs [h0, h2, hlt', h3, h4, hdl, Told.row, hw, reach, downTo]
    exact ⟨done ++ [spoilTold a], by first | (simp [Told.row, spoilTold]; done) | (simp [Told.row, spoilTold]; rfl), by simp [hdl], by simpa using he⟩
  · rintro ⟨fr, bs⟩ rfl
    try simp -implicitDefEqProofs
  · rintro ⟨fr, bs⟩ h
    exact h.elim
end Go.AM
/- AM: contracts: the document's best, its put; what a node takes. -/
namespace Go.AM
set_option linter.unusedSimpArgs false
set_option linter.unusedVariables false
set_option maxRecDepth 8000
set_option maxHeartbeats 0
end Go.AM
/- AM: contracts: the best of two, a store's item, its put. -/
namespace Go.AM
set_option linter.unusedSimpArgs false
set_option linter.unusedVariables false
set_option maxRecDepth 8000
set_option maxHeartbeats 0
theorem store_byKey (x : Item) (k : Int) : Den PP 81 [.agg x.row, .int .i64 k] [] (.int .i64 (keyC k x)) [] := by
  refine den_of [] [] is_store_byKey ?_
  simp -implicitDefEqProofs [c_store_byKey, Item.row, keyC]
  repeat' (first | (refine callThen_of (by first | exact cmp_Compare _ _) ?_; simp -implicitDefEqProofs [*]) | (with_reducible refine gOps_dec (fun _ => ?_) (fun _ => ?_) <;> simp -implicitDefEqProofs [*]) | (with_reducible refine gOps_ndec (fun _ => ?_) (fun _ => ?_) <;> simp -implicitDefEqProofs [*]) | (with_reducible refine gOps_and (fun hq => ?_) (fun hq => ?_) <;> (try simp at hq) <;> simp -implicitDefEqProofs [*]) | (with_reducible refine gOps_or (fun hq => ?_) (fun hq => ?_) <;> (try simp at hq) <;> simp -implicitDefEqProofs [*]) | (with_reducible refine gOps_not (fun hq => ?_) (fun hq => ?_) <;> (try simp at hq) <;> simp -implicitDefEqProofs [*]) | (with_reducible refine gOps_split (fun hq => ?_) (fun hq => ?_) <;> (try simp at hq) <;> simp -implicitDefEqProofs [*]) | (with_reducible refine condC_dec (fun _ => ?_) (fun _ => ?_) <;> simp -implicitDefEqProofs [*]) | (with_reducible refine condC_ndec (fun _ => ?_) (fun _ => ?_) <;> simp -implicitDefEqProofs [*]) | (with_reducible refine condC_and (fun hq => ?_) (fun hq => ?_) <;> (try simp at hq) <;> simp -implicitDefEqProofs [*]) | (with_reducible refine condC_or (fun hq => ?_) (fun hq => ?_) <;> (try simp at hq) <;> simp -implicitDefEqProofs [*]) | (with_reducible refine condC_not (fun hq => ?_) (fun hq => ?_) <;> (try simp at hq) <;> simp -implicitDefEqProofs [*]) | (with_reducible refine condC_split (fun hq => ?_) (fun hq => ?_) <;> (try simp at hq) <;> simp -implicitDefEqProofs [*]) | (refine appK2_if (by omega) ?_; simp -implicitDefEqProofs [*]) | (refine pureV_if (by omega) ?_; simp -implicitDefEqProofs [*]))
theorem store_Get (is : List Item) (k : Int) (hl : is.length ≤ cap16) : Den PP 49 [itemsD is, .int .i64 k] [] (.tup [.agg (getR is k).1.row, .bool (getR is k).2]) [] := by
  have c1 := store_May is hl
  have c2 := fun h => bsearch_Item is 81 k (keyC k) (fun x _ => store_byKey x k) (by unfold cap; unfold cap16 at hl; omega) h
  simp only [itemsD] at c1
  refine den_of [] [] is_store_Get ?_
  simp -implicitDefEqProofs [c_store_Get, itemsD]
  refine callThen_of c1 ?_
  simp -implicitDefEqProofs
  refine condC_not (fun h1 => ?_) (fun h1 => ?_)
  rotate_left
  · simp -implicitDefEqProofs [h1, getR, zeroItem, Item.row]
  obtain ⟨hm, hr, h16⟩ := (storeMay_iff is).1 h1
  have hg := getS_at hr k
  have hat := fun h => atC_true (c := keyC k) (xs := is) h
  have c3 := c2 (mono_key hr k)
  clear c2 c1
  generalize atC (keyC k) is = A at *
  generalize posC (keyC k) is = p at *
  simp -implicitDefEqProofs [h1]
  refine callThen_of c3 ?_
  cases A with
  | false =>
    simp -implicitDefEqProofs [h1, hg, getR, zeroItem, Item.row]
  | true =>
    obtain ⟨hlt, x, hx, hx0⟩ := hat rfl
    have hlt' : (p : Int) < is.length := by omega
    simp at hg
    rw [hx] at hg
    have hxr : (is.map Item.row)[p]? = some x.row := by simp [hx]
    have hx2 : is[p] = x := by simpa [hlt] using hx
    simp -implicitDefEqProofs [h1, hg, getR, hlt', hlt, hx2, Item.row]
theorem ref_GetStore (is : List Item) (k : Int) (hl : is.length ≤ cap16) : Den PP 31 [itemsD is, .int .i64 k] [] (.tup [.agg (getR is k).1.row, .bool (getR is k).2]) [] := by
  have c1 := ref_StoreMay is hl
  simp only [itemsD] at c1
  unfold cap16 at hl
  refine den_of [] [] is_gimmalref1_GetStore ?_
  simp -implicitDefEqProofs [c_gimmalref1_GetStore, itemsD]
  obtain ⟨r, hr⟩ : ∃ r, getR is k = r := ⟨_, rfl⟩
  rw [hr]
  unfold getR at hr
  obtain ⟨S, hS⟩ : ∃ S, storeMay is = S := ⟨_, rfl⟩
  rw [hS] at hr c1
  refine list_rule is (fun i rest => fun ⟨fr, bs⟩ => bs = [⟨[zeroItem.row], 5, .box⟩] ∧ fr 0 = itemsD is ∧ fr 1 = .int .i64 k ∧ fr 4 = .ptr 0 0 0 ∧ fr 6 = .int .i64 i ∧ (S = true → getS is k = getS rest k))
    (fun ⟨fr, bs⟩ => bs = [⟨[zeroItem.row], 5, .box⟩] ∧ fr 4 = .ptr 0 0 0 ∧ (S = true → getS is k = none)) (fun ⟨fr, bs⟩ => bs = [⟨[r.1.row], 5, .box⟩] ∧ fr 4 = .ptr 0 0 0 ∧ fr 5 = .bool r.2) c_gimmalref1_GetStore_L0.eq_1 ?_ ?_ ?_ ?_ ?_
  · exact ⟨by simp [zeroItem, Item.row], rfl, rfl, rfl, rfl, fun _ => rfl⟩
  · rintro i ⟨fr, bs⟩ hi ⟨rfl, h0, h1, h4, h6, he⟩
    simp -implicitDefEqProofs [h0, h1, h4, h6, hi, itemsD]
    simpa [getS] using he
  · rintro i a rest ⟨fr, bs⟩ hlt hget hg hd hd2 ⟨rfl, h0, h1, h4, h6, he⟩
    have hlt' : (i : Int) < is.length := by omega
    have hw := wrap_next (n := i) (by omega)
    rw [getS_cons] at he
    simp -implicitDefEqProofs [h0, h1, h4, h6, hlt', itemsD]
    refine callThen_of c1 ?_
    cases S with
    | false =>
      simp -implicitDefEqProofs [h0, h1, h4, h6]
    | true =>
      simp only [forall_const] at he
      by_cases hk : a.key = k
      · rw [if_pos hk] at he
        rw [he] at hr
        simp at hr
        subst hr
        simp -implicitDefEqProofs [h0, h1, h4, h6, hlt, hlt', hget, hg, itemsD, hk, Item.row]
      · rw [if_neg hk] at he
        clear hr
        simp -implicitDefEqProofs [h0, h1, h4, h6, hlt, hlt', hget, hg, itemsD, hk, Item.row]
        exact ⟨hw, he⟩
  · rintro ⟨fr, bs⟩ ⟨rfl, h4, he⟩
    simp -implicitDefEqProofs [h4]
    cases S with
    | false => simp at hr; subst hr; simp [zeroItem, Item.row]
    | true => rw [he rfl] at hr; simp at hr; subst hr; simp [zeroItem, Item.row]
  · rintro ⟨fr, bs⟩ ⟨rfl, h4, h5⟩
    simp -implicitDefEqProofs [h4, h5, Item.row]
end Go.AM
/- AM: contracts: a store's put. -/
namespace Go.AM
set_option linter.unusedSimpArgs false
set_option linter.unusedVariables false
set_option maxRecDepth 8000
set_option maxHeartbeats 0
end Go.AM
/- AM: contracts: what chapter 9's statements build on. -/
namespace Go.AM
set_option linter.unusedSimpArgs false
set_option linter.unusedVariables false
set_option maxRecDepth 8000
set_option maxHeartbeats 0
end Go.AM
/- AM: contracts: the document's nodes and sharing; chapter 18's helpers. -/
namespace Go.AM
set_option linter.unusedSimpArgs false
set_option linter.unusedVariables false
set_option maxRecDepth 8000
set_option maxHeartbeats 0
theorem ref_NodeMay (x : Node) (hs : x.small) : Den PP 32 [nodeD x] [] (.bool (nodeMay x)) [] := by
  obtain ⟨h1, h2, h3⟩ := hs
  have c1 := ref_ViewMay' x.view h1
  have c2 := ref_StoreMay x.items (by unfold cap16; omega)
  obtain ⟨A, hA⟩ : ∃ A, x.log.any toldOdd = A := ⟨_, rfl⟩
  simp only [viewD, View.cells, peersD, intsD, itemsD, toldsD] at c1 c2
  obtain ⟨hp, hq⟩ := h1
  unfold cap16 at hp
  unfold cap at hq
  have w1 : IntKind.wrap .i64 ((x.view.peers.length : Int) + x.view.passive.length) = x.view.peers.length + x.view.passive.length := wrap_in (by omega) (by omega)
  have w2 : IntKind.wrap .i64 ((x.view.peers.length : Int) + x.view.passive.length + x.items.length) = x.view.peers.length + x.view.passive.length + x.items.length := wrap_in (by omega) (by omega)
  have w3 : IntKind.wrap .i64 ((x.view.peers.length : Int) + x.view.passive.length + x.items.length + x.log.length) = x.view.peers.length + x.view.passive.length + x.items.length + x.log.length := wrap_in (by omega) (by omega)
  refine den_of [] [] is_gimmalref16_NodeMay ?_
  cases hu : x.up with
  | false =>
    have hm : nodeMay x = (emptyN x && place x.view.id) := by
      cases he : emptyN x with
      | false => simp [nodeMay, hu, he]
      | true =>
        simp only [emptyN, decide_eq_true_eq] at he
        have e1 : x.view.peers = [] := List.eq_nil_of_length_eq_zero (by omega)
        have e2 : x.view.passive = [] := List.eq_nil_of_length_eq_zero (by omega)
        have e3 : x.items = [] := List.eq_nil_of_length_eq_zero (by omega)
        have e4 : x.log = [] := List.eq_nil_of_length_eq_zero (by omega)
        simp [nodeMay, emptyN, hu, e1, e2, e3, e4, viewMay, peersMay, peersOk, passiveMay, ups, storeMay, itemsOk]
    simp -implicitDefEqProofs [c_gimmalref16_NodeMay, nodeD, Node.cells, peersD, intsD, itemsD, toldsD, hu]
    repeat' (first | (refine callThen_of (by first | exact ref_PlaceMay _) ?_; simp -implicitDefEqProofs [*, w1, w2, w3]) | (with_reducible refine gOps_dec (fun _ => ?_) (fun _ => ?_) <;> simp -implicitDefEqProofs [*, w1, w2, w3]) | (with_reducible refine gOps_ndec (fun _ => ?_) (fun _ => ?_) <;> simp -implicitDefEqProofs [*, w1, w2, w3]) | (with_reducible refine gOps_and (fun hq => ?_) (fun hq => ?_) <;> (try simp at hq) <;> simp -implicitDefEqProofs [*, w1, w2, w3]) | (with_reducible refine gOps_or (fun hq => ?_) (fun hq => ?_) <;> (try simp at hq) <;> simp -implicitDefEqProofs [*, w1, w2, w3]) | (with_reducible refine gOps_not (fun hq => ?_) (fun hq => ?_) <;> (try simp at hq) <;> simp -implicitDefEqProofs [*, w1, w2, w3]) | (with_reducible refine gOps_split (fun hq => ?_) (fun hq => ?_) <;> (try simp at hq) <;> simp -implicitDefEqProofs [*, w1, w2, w3]) | (with_reducible refine condC_dec (fun _ => ?_) (fun _ => ?_) <;> simp -implicitDefEqProofs [*, w1, w2, w3]) | (with_reducible refine condC_ndec (fun _ => ?_) (fun _ => ?_) <;> simp -implicitDefEqProofs [*, w1, w2, w3]) | (with_reducible refine condC_and (fun hq => ?_) (fun hq => ?_) <;> (try simp at hq) <;> simp -implicitDefEqProofs [*, w1, w2, w3]) | (with_reducible refine condC_or (fun hq => ?_) (fun hq => ?_) <;> (try simp at hq) <;> simp -implicitDefEqProofs [*, w1, w2, w3]) | (with_reducible refine condC_not (fun hq => ?_) (fun hq => ?_) <;> (try simp at hq) <;> simp -implicitDefEqProofs [*, w1, w2, w3]) | (with_reducible refine condC_split (fun hq => ?_) (fun hq => ?_) <;> (try simp at hq) <;> simp -implicitDefEqProofs [*, w1, w2, w3]) | (refine appK2_if (by omega) ?_; simp -implicitDefEqProofs [*, w1, w2, w3]) | (refine pureV_if (by omega) ?_; simp -implicitDefEqProofs [*, w1, w2, w3]))
    all_goals grind [emptyN]
  | true =>
    simp -implicitDefEqProofs [c_gimmalref16_NodeMay, nodeD, Node.cells, peersD, intsD, itemsD, toldsD, hu]
    refine list_rule x.log (fun i rest => fun ⟨fr, bs⟩ => bs = [⟨[x.cells], 6, .box⟩] ∧ fr 1 = .ptr 0 0 0 ∧ fr 3 = .int .i64 i ∧ rest.any toldOdd = A)
      (fun ⟨fr, bs⟩ => bs = [⟨[x.cells], 6, .box⟩] ∧ fr 1 = .ptr 0 0 0 ∧ A = false) (fun ⟨fr, bs⟩ => fr 2 = .bool false ∧ A = true) c_gimmalref16_NodeMay_L0.eq_1 ?_ ?_ ?_ ?_ ?_
    · refine ⟨?_, rfl, rfl, hA⟩
      simp [Node.cells, hu, peersD, intsD, itemsD, toldsD]
    · rintro i ⟨fr, bs⟩ hi ⟨rfl, h1, h3, he⟩
      simp -implicitDefEqProofs [h1, h3, hi, Node.cells, toldsD]
      simpa using he.symm
    · rintro i a rest ⟨fr, bs⟩ hlt hget hg hd hd2 ⟨rfl, h1, h3, he⟩
      have hlt' : (i : Int) < x.log.length := by omega
      have hw := wrap_next (n := i) (by omega)
      have hodd : toldOdd a = (!byte a.key || !byte a.value || (!a.has && !decide (a.value = 0))) := rfl
      simp -implicitDefEqProofs [h1, h3, hlt, hlt', hget, hg, Node.cells, peersD, intsD, itemsD, toldsD, Told.row]
      repeat' (first | (refine callThen_of (by first | exact ref16_byteMay _) ?_; simp -implicitDefEqProofs [*, Node.cells, peersD, intsD, itemsD, toldsD, Told.row, hw]) | (with_reducible refine gOps_dec (fun _ => ?_) (fun _ => ?_) <;> simp -implicitDefEqProofs [*, Node.cells, peersD, intsD, itemsD, toldsD, Told.row, hw]) | (with_reducible refine gOps_ndec (fun _ => ?_) (fun _ => ?_) <;> simp -implicitDefEqProofs [*, Node.cells, peersD, intsD, itemsD, toldsD, Told.row, hw]) | (with_reducible refine gOps_and (fun hq => ?_) (fun hq => ?_) <;> (try simp at hq) <;> simp -implicitDefEqProofs [*, Node.cells, peersD, intsD, itemsD, toldsD, Told.row, hw]) | (with_reducible refine gOps_or (fun hq => ?_) (fun hq => ?_) <;> (try simp at hq) <;> simp -implicitDefEqProofs [*, Node.cells, peersD, intsD, itemsD, toldsD, Told.row, hw]) | (with_reducible refine gOps_not (fun hq => ?_) (fun hq => ?_) <;> (try simp at hq) <;> simp -implicitDefEqProofs [*, Node.cells, peersD, intsD, itemsD, toldsD, Told.row, hw]) | (with_reducible refine gOps_split (fun hq => ?_) (fun hq => ?_) <;> (try simp at hq) <;> simp -implicitDefEqProofs [*, Node.cells, peersD, intsD, itemsD, toldsD, Told.row, hw]) | (with_reducible refine condC_dec (fun _ => ?_) (fun _ => ?_) <;> simp -implicitDefEqProofs [*, Node.cells, peersD, intsD, itemsD, toldsD, Told.row, hw]) | (with_reducible refine condC_ndec (fun _ => ?_) (fun _ => ?_) <;> simp -implicitDefEqProofs [*, Node.cells, peersD, intsD, itemsD, toldsD, Told.row, hw]) | (with_reducible refine condC_and (fun hq => ?_) (fun hq => ?_) <;> (try simp at hq) <;> simp -implicitDefEqProofs [*, Node.cells, peersD, intsD, itemsD, toldsD, Told.row, hw]) | (with_reducible refine condC_or (fun hq => ?_) (fun hq => ?_) <;> (try simp at hq) <;> simp -implicitDefEqProofs [*, Node.cells, peersD, intsD, itemsD, toldsD, Told.row, hw]) | (with_reducible refine condC_not (fun hq => ?_) (fun hq => ?_) <;> (try simp at hq) <;> simp -implicitDefEqProofs [*, Node.cells, peersD, intsD, itemsD, toldsD, Told.row, hw]) | (with_reducible refine condC_split (fun hq => ?_) (fun hq => ?_) <;> (try simp at hq) <;> simp -implicitDefEqProofs [*, Node.cells, peersD, intsD, itemsD, toldsD, Told.row, hw]) | (refine appK2_if (by omega) ?_; simp -implicitDefEqProofs [*, Node.cells, peersD, intsD, itemsD, toldsD, Told.row, hw]) | (refine pureV_if (by omega) ?_; simp -implicitDefEqProofs [*, Node.cells, peersD, intsD, itemsD, toldsD, Told.row, hw]))
      all_goals grind
    · rintro ⟨fr, bs⟩ ⟨rfl, h1, he⟩
      simp -implicitDefEqProofs [h1, he, Node.cells, peersD, intsD, itemsD, toldsD]
      repeat' (first | (refine callThen_of (by first | exact c1 | exact c2) ?_; simp -implicitDefEqProofs [*]) | (with_reducible refine gOps_dec (fun _ => ?_) (fun _ => ?_) <;> simp -implicitDefEqProofs [*]) | (with_reducible refine gOps_ndec (fun _ => ?_) (fun _ => ?_) <;> simp -implicitDefEqProofs [*]) | (with_reducible refine gOps_and (fun hq => ?_) (fun hq => ?_) <;> (try simp at hq) <;> simp -implicitDefEqProofs [*]) | (with_reducible refine gOps_or (fun hq => ?_) (fun hq => ?_) <;> (try simp at hq) <;> simp -implicitDefEqProofs [*]) | (with_reducible refine gOps_not (fun hq => ?_) (fun hq => ?_) <;> (try simp at hq) <;> simp -implicitDefEqProofs [*]) | (with_reducible refine gOps_split (fun hq => ?_) (fun hq => ?_) <;> (try simp at hq) <;> simp -implicitDefEqProofs [*]) | (with_reducible refine condC_dec (fun _ => ?_) (fun _ => ?_) <;> simp -implicitDefEqProofs [*]) | (with_reducible refine condC_ndec (fun _ => ?_) (fun _ => ?_) <;> simp -implicitDefEqProofs [*]) | (with_reducible refine condC_and (fun hq => ?_) (fun hq => ?_) <;> (try simp at hq) <;> simp -implicitDefEqProofs [*]) | (with_reducible refine condC_or (fun hq => ?_) (fun hq => ?_) <;> (try simp at hq) <;> simp -implicitDefEqProofs [*]) | (with_reducible refine condC_not (fun hq => ?_) (fun hq => ?_) <;> (try simp at hq) <;> simp -implicitDefEqProofs [*]) | (with_reducible refine condC_split (fun hq => ?_) (fun hq => ?_) <;> (try simp at hq) <;> simp -implicitDefEqProofs [*]) | (refine appK2_if (by omega) ?_; simp -implicitDefEqProofs [*]) | (refine pureV_if (by omega) ?_; simp -implicitDefEqProofs [*]))
      all_goals simp only [nodeMay, hA, he, hu]
      all_goals grind
    · rintro ⟨fr, bs⟩ h
      simp -implicitDefEqProofs [h.1, h.2, nodeMay, hA]
theorem ref_upMay (x : Node) (hs : x.small) : Den PP 52 [nodeD x] [] (.bool (nodeUp x)) [] := by
  have c1 := ref_NodeMay x hs
  simp only [nodeD, Node.cells, peersD, intsD, itemsD, toldsD] at c1
  refine den_of [] [] is_gimmalref16_upMay ?_
  cases hu : x.up
  all_goals
    rw [hu] at c1
    simp -implicitDefEqProofs [c_gimmalref16_upMay, nodeD, Node.cells, peersD, intsD, itemsD, toldsD, hu]
    repeat' (first | (refine callThen_of (by first | exact c1) ?_; simp -implicitDefEqProofs [*]) | (with_reducible refine gOps_dec (fun _ => ?_) (fun _ => ?_) <;> simp -implicitDefEqProofs [*]) | (with_reducible refine gOps_ndec (fun _ => ?_) (fun _ => ?_) <;> simp -implicitDefEqProofs [*]) | (with_reducible refine gOps_and (fun hq => ?_) (fun hq => ?_) <;> (try simp at hq) <;> simp -implicitDefEqProofs [*]) | (with_reducible refine gOps_or (fun hq => ?_) (fun hq => ?_) <;> (try simp at hq) <;> simp -implicitDefEqProofs [*]) | (with_reducible refine gOps_not (fun hq => ?_) (fun hq => ?_) <;> (try simp at hq) <;> simp -implicitDefEqProofs [*]) | (with_reducible refine gOps_split (fun hq => ?_) (fun hq => ?_) <;> (try simp at hq) <;> simp -implicitDefEqProofs [*]) | (with_reducible refine condC_dec (fun _ => ?_) (fun _ => ?_) <;> simp -implicitDefEqProofs [*]) | (with_reducible refine condC_ndec (fun _ => ?_) (fun _ => ?_) <;> simp -implicitDefEqProofs [*]) | (with_reducible refine condC_and (fun hq => ?_) (fun hq => ?_) <;> (try simp at hq) <;> simp -implicitDefEqProofs [*]) | (with_reducible refine condC_or (fun hq => ?_) (fun hq => ?_) <;> (try simp at hq) <;> simp -implicitDefEqProofs [*]) | (with_reducible refine condC_not (fun hq => ?_) (fun hq => ?_) <;> (try simp at hq) <;> simp -implicitDefEqProofs [*]) | (with_reducible refine condC_split (fun hq => ?_) (fun hq => ?_) <;> (try simp at hq) <;> simp -implicitDefEqProofs [*]) | (refine appK2_if (by omega) ?_; simp -implicitDefEqProofs [*]) | (refine pureV_if (by omega) ?_; simp -implicitDefEqProofs [*]))
    all_goals simp [nodeUp, hu]
def spoilM (m : Msg) : Msg := { m with kind := IntKind.wrap .i64 (BitVec.ofInt IntKind.i64.bits m.kind ^^^ BitVec.ofInt IntKind.i64.bits 90).toNat }
theorem law_SpoilMsgs (ms : List Msg) (hl : ms.length ≤ cap16) : Den PP 26 [.ref 0 0 ms.length] [⟨ms.map Msg.row0, 11, .mut⟩] (.tup []) [⟨(ms.map spoilM).map Msg.row0, 11, .mut⟩] := by
  unfold cap16 at hl
  refine den_of [] [] is_gimmallaw0_SpoilMsgs ?_
  simp -implicitDefEqProofs [c_gimmallaw0_SpoilMsgs]
  refine list_rule ms (fun i rest => fun ⟨fr, bs⟩ => ∃ done, bs = [⟨(done ++ rest).map Msg.row0, 11, .mut⟩] ∧ done.length = i ∧ done ++ rest.map spoilM = ms.map spoilM ∧ fr 0 = .ref 0 0 ms.length ∧ fr 2 = .int .i64 i)
    (fun ⟨fr, bs⟩ => bs = [⟨(ms.map spoilM).map Msg.row0, 11, .mut⟩]) (fun ⟨fr, bs⟩ => False) c_gimmallaw0_SpoilMsgs_L0.eq_1 ?_ ?_ ?_ ?_ ?_
  · exact ⟨[], rfl, rfl, rfl, rfl, rfl⟩
  · rintro i ⟨fr, bs⟩ hi ⟨done, rfl, hd, he, h0, h2⟩
    simp -implicitDefEqProofs [h0, h2, hi]
    simp at he
    simp [he]
  · rintro i a rest ⟨fr, bs⟩ hlt hget hg hd hd2 ⟨done, rfl, hdl, he, h0, h2⟩
    have hlt' : (i : Int) < ms.length := by omega
    have hw := wrap_next (n := i) (by omega)
    have h3 : ∀ r, (done.map Msg.row0 ++ r :: rest.map Msg.row0)[i]? = some r := by intro r; simp [← hdl]
    have h4 : ∀ r r', (done.map Msg.row0 ++ r' :: rest.map Msg.row0).set i r = done.map Msg.row0 ++ r :: rest.map Msg.row0 := by intro r r'; simp [← hdl]
    simp -implicitDefEqProofs [h0, h2, hlt', h3, Msg.row0]
    refine callThen_of law_SpoilInts_nil ?_
    simp -implicitDefEqProofs [h0, h2, hlt', h3, h4, Msg.row0, hw, reach, downTo]
    exact ⟨done ++ [spoilM a], by simp [Msg.row0, spoilM]; rfl, by simp [hdl], by simpa using he⟩
  · rintro ⟨fr, bs⟩ rfl
    simp -implicitDefEqProofs
  · rintro ⟨fr, bs⟩ h
    exact h.elim
end Go.AM
/- AM: what is handed in, told. -/
namespace Go.AM
set_option linter.unusedSimpArgs false
set_option linter.unusedVariables false
set_option maxRecDepth 8000
theorem tell_int {n : Nat} {cs : List D} (h : Tell TT (n + 1) 3 cs) : ∃ x, cs = [.int .i64 x] ∧ in64 x := by
  simp [Tell] at h
  obtain ⟨x, rfl, hx⟩ := h
  exact ⟨x, rfl, wf64 hx⟩
theorem tell_bool {n : Nat} {cs : List D} (h : Tell TT (n + 1) 4 cs) : ∃ x, cs = [.bool x] := by
  simpa [Tell] using h
theorem tell_ints {n : Nat} {cs : List D} (h : Tell TT (n + 2) 23 cs) : ∃ xs : List Int, cs = [intsD xs] ∧ xs.length * 8 ≤ 140737488351232 ∧ ∀ x ∈ xs, in64 x := by
  unfold Tell at h
  simp at h
  obtain ⟨rows, rfl, hl, hr⟩ := h
  obtain ⟨xs, rfl, hx⟩ := rows_of (f := irow) (Q := in64) rows fun r h => by
    obtain ⟨x, rfl, hx⟩ := tell_int (hr r h)
    exact ⟨x, rfl, hx⟩
  exact ⟨xs, by simp [intsD], by simpa using hl, hx⟩
theorem tell_Peer {n : Nat} {cs : List D} (h : Tell TT (n + 2) 102 cs) : ∃ p : Peer, cs = p.row ∧ in64 p.id ∧ in64 p.missed := by
  unfold Tell at h
  simp [Tell.TellFs] at h
  obtain ⟨a, b, rfl, h1, h2⟩ := h
  obtain ⟨x, rfl, hx⟩ := tell_int h1
  obtain ⟨y, rfl, hy⟩ := tell_int h2
  exact ⟨⟨x, y⟩, rfl, hx, hy⟩
theorem tell_peers {n : Nat} {cs : List D} (h : Tell TT (n + 3) 22 cs) : ∃ ps : List Peer, cs = [peersD ps] ∧ ps.length * 16 ≤ 140737488351232 ∧ ∀ p ∈ ps, in64 p.id ∧ in64 p.missed := by
  unfold Tell at h
  simp at h
  obtain ⟨rows, rfl, hl, hr⟩ := h
  obtain ⟨xs, rfl, hx⟩ := rows_of (f := Peer.row) (Q := fun p => in64 p.id ∧ in64 p.missed) rows fun r h => tell_Peer (hr r h)
  exact ⟨xs, by simp [peersD], by simpa using hl, hx⟩
def View.tame (v : View) : Prop := v.peers.length * 16 ≤ 140737488351232 ∧ v.passive.length * 8 ≤ 140737488351232 ∧ in64 v.id ∧ (∀ p ∈ v.peers, in64 p.id ∧ in64 p.missed) ∧ ∀ x ∈ v.passive, in64 x
theorem View.tame.small {v : View} (h : v.tame) : v.small := by
  obtain ⟨h1, h2, _⟩ := h
  unfold View.small cap16 cap
  omega
theorem tell_View {n : Nat} {cs : List D} (h : Tell TT (n + 4) 25 cs) : ∃ v : View, cs = v.cells ∧ v.tame := by
  unfold Tell at h
  simp [Tell.TellFs] at h
  obtain ⟨a, r, rfl, h1, b, c, rfl, h2, h3⟩ := h
  obtain ⟨x, rfl, hx⟩ := tell_int h1
  obtain ⟨ps, rfl, hp, hp2⟩ := tell_peers h2
  obtain ⟨xs, rfl, hq, hq2⟩ := tell_ints h3
  exact ⟨⟨x, ps, xs⟩, rfl, hp, hq, hx, hp2, hq2⟩
theorem tell_Version {n : Nat} {cs : List D} (h : Tell TT (n + 2) 31 cs) : ∃ c w : Int, cs = [.int .i64 c, .int .i64 w] ∧ in64 c ∧ in64 w := by
  unfold Tell at h
  simp [Tell.TellFs] at h
  obtain ⟨a, b, rfl, h1, h2⟩ := h
  obtain ⟨x, rfl, hx⟩ := tell_int h1
  obtain ⟨y, rfl, hy⟩ := tell_int h2
  exact ⟨x, y, rfl, hx, hy⟩
def Item.tame (i : Item) : Prop := in64 i.key ∧ in64 i.count ∧ in64 i.writer ∧ in64 i.value
theorem tell_Item {n : Nat} {cs : List D} (h : Tell TT (n + 3) 33 cs) : ∃ i : Item, cs = i.row ∧ i.tame := by
  unfold Tell at h
  simp [Tell.TellFs] at h
  obtain ⟨a, r1, rfl, h1, b, r2, rfl, h2, c, d, rfl, h3, h4⟩ := h
  obtain ⟨x, rfl, hx⟩ := tell_int h1
  obtain ⟨y, z, rfl, hy, hz⟩ := tell_Version h2
  obtain ⟨u, rfl, hu⟩ := tell_int h3
  obtain ⟨g, rfl⟩ := tell_bool h4
  exact ⟨⟨x, y, z, u, g⟩, rfl, hx, hy, hz, hu⟩
theorem tell_items {n : Nat} {cs : List D} (h : Tell TT (n + 4) 26 cs) : ∃ is : List Item, cs = [itemsD is] ∧ is.length * 40 ≤ 140737488351232 ∧ ∀ i ∈ is, i.tame := by
  unfold Tell at h
  simp at h
  obtain ⟨rows, rfl, hl, hr⟩ := h
  obtain ⟨xs, rfl, hx⟩ := rows_of (f := Item.row) (Q := Item.tame) rows fun r h => tell_Item (hr r h)
  exact ⟨xs, by simp [itemsD], by simpa using hl, hx⟩
theorem tell_Told {n : Nat} {cs : List D} (h : Tell TT (n + 2) 66 cs) : ∃ t : Told, cs = t.row ∧ in64 t.key ∧ in64 t.value := by
  unfold Tell at h
  simp [Tell.TellFs] at h
  obtain ⟨a, r1, rfl, h1, b, c, rfl, h2, h3⟩ := h
  obtain ⟨x, rfl, hx⟩ := tell_int h1
  obtain ⟨g, rfl⟩ := tell_bool h2
  obtain ⟨u, rfl, hu⟩ := tell_int h3
  exact ⟨⟨x, g, u⟩, rfl, hx, hu⟩
theorem tell_tolds {n : Nat} {cs : List D} (h : Tell TT (n + 3) 27 cs) : ∃ ts : List Told, cs = [toldsD ts] ∧ ts.length * 24 ≤ 140737488351232 ∧ ∀ t ∈ ts, in64 t.key ∧ in64 t.value := by
  unfold Tell at h
  simp at h
  obtain ⟨rows, rfl, hl, hr⟩ := h
  obtain ⟨xs, rfl, hx⟩ := rows_of (f := Told.row) (Q := fun t => in64 t.key ∧ in64 t.value) rows fun r h => tell_Told (hr r h)
  exact ⟨xs, by simp [toldsD], by simpa using hl, hx⟩
def Node.tame (x : Node) : Prop := x.view.tame ∧ x.items.length * 40 ≤ 140737488351232 ∧ (∀ i ∈ x.items, i.tame) ∧ x.log.length * 24 ≤ 140737488351232 ∧ ∀ t ∈ x.log, in64 t.key ∧ in64 t.value
theorem Node.tame.small {x : Node} (h : x.tame) : x.small := ⟨h.1.small, h.2.1, h.2.2.2.1⟩
theorem tell_Node {n : Nat} {cs : List D} (h : Tell TT (n + 5) 29 cs) : ∃ x : Node, cs = x.cells ∧ x.tame := by
  unfold Tell at h
  simp [Tell.TellFs] at h
  obtain ⟨a, r1, rfl, h1, b, r2, rfl, h2, c, d, rfl, h3, h4⟩ := h
  obtain ⟨u, rfl⟩ := tell_bool h1
  obtain ⟨v, rfl, hv⟩ := tell_View h2
  obtain ⟨is, rfl, h5, h6⟩ := tell_items h3
  obtain ⟨ts, rfl, h7, h8⟩ := tell_tolds h4
  exact ⟨⟨u, v, is, ts⟩, rfl, hv, h5, h6, h7, h8⟩
theorem arg_Node {n : Nat} {d : D} (h : TellArg TT (n + 5) 29 d) : ∃ x : Node, d = nodeD x ∧ x.tame := by
  simp [TellArg] at h
  obtain ⟨cs, rfl, h⟩ := h
  obtain ⟨v, rfl, hv⟩ := tell_Node h
  exact ⟨v, rfl, hv⟩
theorem arg_Item {n : Nat} {d : D} (h : TellArg TT (n + 3) 33 d) : ∃ x : Item, d = .agg x.row ∧ x.tame := by
  simp [TellArg] at h
  obtain ⟨cs, rfl, h⟩ := h
  obtain ⟨v, rfl, hv⟩ := tell_Item h
  exact ⟨v, rfl, hv⟩
theorem arg_items {n : Nat} {d : D} (h : TellArg TT (n + 4) 26 d) : ∃ x : List Item, d = itemsD x ∧ x.length * 40 ≤ 140737488351232 ∧ ∀ i ∈ x, i.tame := by
  simp [TellArg] at h
  obtain ⟨xs, hx, h2⟩ := tell_items h
  simp at hx
  exact ⟨xs, hx, h2⟩
theorem arg_ints {n : Nat} {d : D} (h : TellArg TT (n + 2) 23 d) : ∃ x : List Int, d = intsD x ∧ x.length * 8 ≤ 140737488351232 ∧ ∀ i ∈ x, in64 i := by
  simp [TellArg] at h
  obtain ⟨xs, hx, h2⟩ := tell_ints h
  simp at hx
  exact ⟨xs, hx, h2⟩
theorem arg_peers {n : Nat} {d : D} (h : TellArg TT (n + 3) 22 d) : ∃ x : List Peer, d = peersD x ∧ x.length * 16 ≤ 140737488351232 ∧ ∀ p ∈ x, in64 p.id ∧ in64 p.missed := by
  simp [TellArg] at h
  obtain ⟨xs, hx, h2⟩ := tell_peers h
  simp at hx
  exact ⟨xs, hx, h2⟩
theorem arg_bool {n : Nat} {d : D} (h : TellArg TT (n + 1) 4 d) : ∃ x, d = .bool x ∧ True := by
  simp [TellArg] at h
  obtain ⟨x, hx⟩ := tell_bool h
  simp at hx
  exact ⟨x, hx, trivial⟩
theorem arg_int {n : Nat} {d : D} (h : TellArg TT (n + 1) 3 d) : ∃ x, d = .int .i64 x ∧ in64 x := by
  simp [TellArg] at h
  obtain ⟨x, hx, h2⟩ := tell_int h
  simp at hx
  exact ⟨x, hx, h2⟩
theorem arg_View {n : Nat} {d : D} (h : TellArg TT (n + 4) 25 d) : ∃ v : View, d = viewD v ∧ v.tame := by
  simp [TellArg] at h
  obtain ⟨cs, rfl, h⟩ := h
  obtain ⟨v, rfl, hv⟩ := tell_View h
  exact ⟨v, rfl, hv⟩
end Go.AM
/- Plain law: stores: put twice, in another row. -/
namespace Go.AM
set_option linter.unusedSimpArgs false
set_option linter.unusedVariables false

end Go.AM
namespace Go.AM
end Go.AM
/- AM: contracts: a node is copied, takes an item. -/
namespace Go.AM
set_option linter.unusedSimpArgs false
set_option linter.unusedVariables false
set_option maxRecDepth 8000
set_option maxHeartbeats 0
theorem fit_of {α : Type} {f : α → List D} {n : Nat} (h : ∀ a, (f a).length = n ∧ (f a).all D.isCell = true) (xs : List α) : Fits n (xs.map f) := by
  intro r hr
  obtain ⟨a, _, rfl⟩ := List.mem_map.1 hr
  exact h a
theorem view_Copy (v : View) (hs : v.small) : Den PP 82 [viewD v] [] (.agg [.int .i64 v.id, .ref 0 0 v.peers.length, .ref 1 0 v.passive.length]) [⟨v.peers.map Peer.row, 2, .mut⟩, ⟨v.passive.map irow, 1, .mut⟩] := by
  obtain ⟨h1, h2⟩ := hs
  unfold cap16 at h1
  unfold cap at h2
  have c1 := clone_Peer (v.peers.map Peer.row) (fit_of (f := Peer.row) (n := 2) (fun _ => ⟨rfl, rfl⟩) _) (by simp; omega)
  have c2 := clone_int (v.passive.map irow) (fit_of (f := irow) (n := 1) (fun _ => ⟨rfl, rfl⟩) _) (by simp; omega)
  simp only [List.length_map] at c1 c2
  refine den_of [5, 8] [] is_view_Copy ?_
  simp -implicitDefEqProofs [c_view_Copy, viewD, View.cells, peersD, intsD]
  refine callThen_of c1 ?_
  simp -implicitDefEqProofs [downTo]
  refine callThen_of c2 ?_
  simp -implicitDefEqProofs [downTo]
def copyD (x : Node) : D := .agg [.bool x.up, .int .i64 x.view.id, .ref 0 0 x.view.peers.length, .ref 1 0 x.view.passive.length, .ref 2 0 x.items.length, .ref 3 0 x.log.length]
def nodeB (x : Node) : List Blk := [⟨x.view.peers.map Peer.row, 2, .mut⟩, ⟨x.view.passive.map irow, 1, .mut⟩, ⟨x.items.map Item.row, 5, .mut⟩, ⟨x.log.map Told.row, 3, .mut⟩]
theorem node_Copy (x : Node) (hs : x.small) : Den PP 51 [nodeD x] [] (copyD x) (nodeB x) := by
  have c1 := view_Copy x.view hs.1
  obtain ⟨⟨h1, h2⟩, h3, h4⟩ := hs
  unfold cap16 at h1
  unfold cap at h2
  have c2 := clone_Item (x.items.map Item.row) (fit_of (f := Item.row) (n := 5) (fun _ => ⟨rfl, rfl⟩) _) (by simp; omega)
  have c3 := clone_Told (x.log.map Told.row) (fit_of (f := Told.row) (n := 3) (fun _ => ⟨rfl, rfl⟩) _) (by simp; omega)
  simp only [List.length_map, viewD, View.cells, peersD, intsD] at c1 c2 c3
  unfold copyD nodeB
  refine den_of [5, 8, 11] [] is_node_Copy ?_
  simp -implicitDefEqProofs [c_node_Copy, nodeD, Node.cells, peersD, intsD, itemsD, toldsD]
  refine callThen_of c1 ?_
  simp -implicitDefEqProofs [downTo]
  refine callThen_of c2 ?_
  simp -implicitDefEqProofs [downTo]
  refine callThen_of c3 ?_
  simp -implicitDefEqProofs [downTo]
theorem ref_copyNode (x : Node) (hs : x.small) : Den PP 55 [nodeD x] [] (copyD x) (nodeB x) := by
  obtain ⟨⟨h1, h2⟩, h3, h4⟩ := hs
  unfold cap16 at h1
  unfold cap at h2
  have f1 : Fits 2 (x.view.peers.map Peer.row) := fit_of (f := Peer.row) (n := 2) (fun _ => ⟨rfl, rfl⟩) _
  have f2 : Fits 1 (x.view.passive.map irow) := fit_of (f := irow) (n := 1) (fun _ => ⟨rfl, rfl⟩) _
  have f3 : Fits 5 (x.items.map Item.row) := fit_of (f := Item.row) (n := 5) (fun _ => ⟨rfl, rfl⟩) _
  have f4 : Fits 3 (x.log.map Told.row) := fit_of (f := Told.row) (n := 3) (fun _ => ⟨rfl, rfl⟩) _
  have t1 : List.take x.view.peers.length (x.view.peers.map Peer.row) = x.view.peers.map Peer.row := List.take_of_length_le (by simp)
  have t2 : List.take x.view.passive.length (x.view.passive.map irow) = x.view.passive.map irow := List.take_of_length_le (by simp)
  have t3 : List.take x.items.length (x.items.map Item.row) = x.items.map Item.row := List.take_of_length_le (by simp)
  have t4 : List.take x.log.length (x.log.map Told.row) = x.log.map Told.row := List.take_of_length_le (by simp)
  unfold copyD nodeB
  refine den_of [] [] is_gimmalref16_copyNode ?_
  simp -implicitDefEqProofs [c_gimmalref16_copyNode, nodeD, Node.cells, peersD, intsD, itemsD, toldsD, t1, t2, t3, t4, f1, f2, f3, f4]
  repeat' (first | (refine callThen_of (by first | exact ring_Place _ | exact den_nrm (ring_Place _) | exact den_nrm (by simpa using ring_Place _)) ?_; simp -implicitDefEqProofs [*, t1, t2, t3, t4, f1, f2, f3, f4]) | (with_reducible refine gOps_dec (fun _ => ?_) (fun _ => ?_) <;> simp -implicitDefEqProofs [*, t1, t2, t3, t4, f1, f2, f3, f4]) | (with_reducible refine gOps_ndec (fun _ => ?_) (fun _ => ?_) <;> simp -implicitDefEqProofs [*, t1, t2, t3, t4, f1, f2, f3, f4]) | (with_reducible refine gOps_and (fun hq => ?_) (fun hq => ?_) <;> (try simp at hq) <;> simp -implicitDefEqProofs [*, t1, t2, t3, t4, f1, f2, f3, f4]) | (with_reducible refine gOps_or (fun hq => ?_) (fun hq => ?_) <;> (try simp at hq) <;> simp -implicitDefEqProofs [*, t1, t2, t3, t4, f1, f2, f3, f4]) | (with_reducible refine gOps_not (fun hq => ?_) (fun hq => ?_) <;> (try simp at hq) <;> simp -implicitDefEqProofs [*, t1, t2, t3, t4, f1, f2, f3, f4]) | (with_reducible refine gOps_split (fun hq => ?_) (fun hq => ?_) <;> (try simp at hq) <;> simp -implicitDefEqProofs [*, t1, t2, t3, t4, f1, f2, f3, f4]) | (with_reducible refine condC_dec (fun _ => ?_) (fun _ => ?_) <;> simp -implicitDefEqProofs [*, t1, t2, t3, t4, f1, f2, f3, f4]) | (with_reducible refine condC_ndec (fun _ => ?_) (fun _ => ?_) <;> simp -implicitDefEqProofs [*, t1, t2, t3, t4, f1, f2, f3, f4]) | (with_reducible refine condC_and (fun hq => ?_) (fun hq => ?_) <;> (try simp at hq) <;> simp -implicitDefEqProofs [*, t1, t2, t3, t4, f1, f2, f3, f4]) | (with_reducible refine condC_or (fun hq => ?_) (fun hq => ?_) <;> (try simp at hq) <;> simp -implicitDefEqProofs [*, t1, t2, t3, t4, f1, f2, f3, f4]) | (with_reducible refine condC_not (fun hq => ?_) (fun hq => ?_) <;> (try simp at hq) <;> simp -implicitDefEqProofs [*, t1, t2, t3, t4, f1, f2, f3, f4]) | (with_reducible refine condC_split (fun hq => ?_) (fun hq => ?_) <;> (try simp at hq) <;> simp -implicitDefEqProofs [*, t1, t2, t3, t4, f1, f2, f3, f4]) | (refine appK2_if (by omega) ?_; simp -implicitDefEqProofs [*, t1, t2, t3, t4, f1, f2, f3, f4]) | (refine pureV_if (by omega) ?_; simp -implicitDefEqProofs [*, t1, t2, t3, t4, f1, f2, f3, f4]))
end Go.AM
/- AM: contracts: the document's take; a node spoiled. -/
namespace Go.AM
set_option linter.unusedSimpArgs false
set_option linter.unusedVariables false
set_option maxRecDepth 8000
set_option maxHeartbeats 0
theorem law_SpoilPeers_nil : Den PP 87 [.nil] [] (.tup []) [] := by
  refine den_of [] [] is_gimmallaw0_SpoilPeers ?_
  simp -implicitDefEqProofs [c_gimmallaw0_SpoilPeers]
  refine loop_rule 0 (fun _ ⟨fr, bs⟩ => bs = [] ∧ fr 0 = .nil ∧ fr 2 = .int .i64 0) (fun ⟨fr, bs⟩ => bs = []) (fun _ => False) c_gimmallaw0_SpoilPeers_L0.eq_1 ?_ ?_ ?_ ?_ ?_
  · exact ⟨rfl, rfl, rfl⟩
  · rintro ⟨fr, bs⟩ ⟨rfl, h0, h2⟩
    simp -implicitDefEqProofs [h0, h2]
  · rintro m ⟨fr, bs⟩ ⟨rfl, h0, h2⟩
    simp -implicitDefEqProofs [h0, h2]
  · rintro ⟨fr, bs⟩ rfl
    simp -implicitDefEqProofs
  · rintro ⟨fr, bs⟩ h
    exact h.elim
theorem law_SpoilItems_nil : Den PP 59 [.nil] [] (.tup []) [] := by
  refine den_of [] [] is_gimmallaw0_SpoilItems ?_
  simp -implicitDefEqProofs [c_gimmallaw0_SpoilItems]
  refine loop_rule 0 (fun _ ⟨fr, bs⟩ => bs = [] ∧ fr 0 = .nil ∧ fr 2 = .int .i64 0) (fun ⟨fr, bs⟩ => bs = []) (fun _ => False) c_gimmallaw0_SpoilItems_L0.eq_1 ?_ ?_ ?_ ?_ ?_
  · exact ⟨rfl, rfl, rfl⟩
  · rintro ⟨fr, bs⟩ ⟨rfl, h0, h2⟩
    simp -implicitDefEqProofs [h0, h2]
  · rintro m ⟨fr, bs⟩ ⟨rfl, h0, h2⟩
    simp -implicitDefEqProofs [h0, h2]
  · rintro ⟨fr, bs⟩ rfl
    simp -implicitDefEqProofs
  · rintro ⟨fr, bs⟩ h
    exact h.elim
theorem law_SpoilTolds_nil : Den PP 60 [.nil] [] (.tup []) [] := by
  refine den_of [] [] is_gimmallaw0_SpoilTolds ?_
  simp -implicitDefEqProofs [c_gimmallaw0_SpoilTolds]
  refine loop_rule 0 (fun _ ⟨fr, bs⟩ => bs = [] ∧ fr 0 = .nil ∧ fr 2 = .int .i64 0) (fun ⟨fr, bs⟩ => bs = []) (fun _ => False) c_gimmallaw0_SpoilTolds_L0.eq_1 ?_ ?_ ?_ ?_ ?_
  · exact ⟨rfl, rfl, rfl⟩
  · rintro ⟨fr, bs⟩ ⟨rfl, h0, h2⟩
    simp -implicitDefEqProofs [h0, h2]
  · rintro m ⟨fr, bs⟩ ⟨rfl, h0, h2⟩
    simp -implicitDefEqProofs [h0, h2]
  · rintro ⟨fr, bs⟩ rfl
    simp -implicitDefEqProofs
  · rintro ⟨fr, bs⟩ h
    exact h.elim
theorem law_SpoilView_nil (i : Int) : Den PP 58 [.agg [.int .i64 i, .nil, .nil]] [] (.tup []) [] := by
  refine den_of [] [3, 6] is_gimmallaw0_SpoilView ?_
  simp -implicitDefEqProofs [c_gimmallaw0_SpoilView]
  refine lendThen_frame [] rfl (by decide) (by simp) law_SpoilPeers_nil (by simp) (by simp [lentBs]) ?_
  simp -implicitDefEqProofs [framed]
  refine lendThen_frame [] rfl (by decide) (by simp) law_SpoilInts_nil (by simp) (by simp [lentBs]) ?_
  simp -implicitDefEqProofs [framed]
theorem law_SpoilView (v : View) (hs : v.peers.length ≤ cap16) (hp : v.passive.length ≤ cap16) : Den PP 58 [.agg [.int .i64 v.id, .ref 0 0 v.peers.length, .ref 1 0 v.passive.length]] [⟨v.peers.map Peer.row, 2, .mut⟩, ⟨v.passive.map irow, 1, .mut⟩] (.tup []) [⟨(v.peers.map spoilPeer).map Peer.row, 2, .mut⟩, ⟨(v.passive.map spoilInt).map irow, 1, .mut⟩] := by
  have s1 := spoil_Peer v.peers hs
  have s2 := spoil_Int v.passive hp
  refine den_of [] [3, 6] is_gimmallaw0_SpoilView ?_
  simp -implicitDefEqProofs [c_gimmallaw0_SpoilView]
  refine lendThen_frame [0] rfl (by decide) (by simp) s1 (by simp) (by simp [lentBs]) ?_
  simp -implicitDefEqProofs [framed]
  refine lendThen_frame [1] rfl (by decide) (by simp) s2 (by simp) (by simp [lentBs]) ?_
  simp -implicitDefEqProofs [framed]
theorem law_SpoilNode_nil (u : Bool) (i : Int) : Den PP 25 [.agg [.bool u, .int .i64 i, .nil, .nil, .nil, .nil]] [] (.tup []) [] := by
  refine den_of [] [3, 6, 9] is_gimmallaw0_SpoilNode ?_
  simp -implicitDefEqProofs [c_gimmallaw0_SpoilNode]
  refine lendThen_frame [] rfl (by decide) (by simp) (law_SpoilView_nil i) (by simp) (by simp [lentBs]) ?_
  simp -implicitDefEqProofs [framed]
  refine lendThen_frame [] rfl (by decide) (by simp) law_SpoilItems_nil (by simp) (by simp [lentBs]) ?_
  simp -implicitDefEqProofs [framed]
  refine lendThen_frame [] rfl (by decide) (by simp) law_SpoilTolds_nil (by simp) (by simp [lentBs]) ?_
  simp -implicitDefEqProofs [framed]
def spoilN (x : Node) : Node := ⟨x.up, ⟨x.view.id, x.view.peers.map spoilPeer, x.view.passive.map spoilInt⟩, x.items.map spoilItem, x.log.map spoilTold⟩
theorem law_SpoilNode (x : Node) (h1 : x.view.peers.length ≤ cap16) (h2 : x.view.passive.length ≤ cap16) (h3 : x.items.length ≤ cap16) (h4 : x.log.length ≤ cap16) : Den PP 25 [copyD x] (nodeB x) (.tup []) (nodeB (spoilN x)) := by
  have s1 := law_SpoilView x.view h1 h2
  have s2 := spoil_Item x.items h3
  have s3 := spoil_Told x.log h4
  unfold copyD nodeB spoilN
  refine den_of [] [3, 6, 9] is_gimmallaw0_SpoilNode ?_
  simp -implicitDefEqProofs [c_gimmallaw0_SpoilNode]
  refine lendThen_frame [0, 1] rfl (by decide) (by simp) s1 (by simp) (by simp [lentBs]) ?_
  simp -implicitDefEqProofs [framed]
  refine lendThen_frame [2] rfl (by decide) (by simp) s2 (by simp) (by simp [lentBs]) ?_
  simp -implicitDefEqProofs [framed]
  refine lendThen_frame [3] rfl (by decide) (by simp) s3 (by simp) (by simp [lentBs]) ?_
  simp -implicitDefEqProofs [framed]
end Go.AM
/- AM: chapter 20's statements: Takes. -/
namespace Go.AM
set_option linter.unusedSimpArgs false
set_option linter.unusedVariables false
set_option maxRecDepth 8000
set_option maxHeartbeats 0
def itT (k c : Int) : Item := ⟨k, c, 1, c % 256, false⟩
def nodeT : Node := ⟨true, ⟨100, [⟨101, 2⟩, ⟨200, 0⟩, ⟨90, 1⟩], [7]⟩, [⟨95, 1, 1, 1, false⟩, ⟨99, 3, 1, 3, false⟩, ⟨250, 2, 1, 2, false⟩], []⟩
theorem small_nodeT : nodeT.small := by unfold Node.small View.small cap16 cap; decide
theorem nodeUp_parts {x : Node} (h : nodeUp x = true) : x.up = true ∧ viewMay x.view = true ∧ storeMay x.items = true ∧ x.log.length ≤ 64 ∧ x.log.any toldOdd = false := by
  simp only [nodeUp, nodeMay, Bool.and_eq_true, decide_eq_true_eq, Bool.not_eq_true'] at h
  exact ⟨h.1, h.2.1.1.1.2, h.2.1.1.2, h.2.1.2, h.2.2⟩
theorem nodeUp_small {x : Node} (h : nodeUp x = true) : x.view.peers.length ≤ 16 ∧ x.view.passive.length ≤ 16 ∧ x.items.length ≤ 16 ∧ x.log.length ≤ 64 := by
  obtain ⟨h1, h2, h3, h4, h5⟩ := nodeUp_parts h
  have h6 := (viewMay_parts h2).2.2.1
  have h7 := ((storeMay_iff _).1 h3).2.2
  omega
end Go.AM
/- AM: contracts: what a node was told is noted. -/
namespace Go.AM
set_option linter.unusedSimpArgs false
set_option linter.unusedVariables false
set_option maxRecDepth 8000
set_option maxHeartbeats 0
def toldOf (key : Int) (i : Item) (has : Bool) : Told := ⟨key, has && !i.gone, if has && !i.gone then i.value else 0⟩
theorem ask_note (x : Node) (key : Int) (i : Item) (has : Bool) (hs : x.small) (hl : x.log.length ≤ 64) : Den PP 50 [nodeD x, .int .i64 key, .agg i.row, .bool has] [] (.agg [.bool x.up, .int .i64 x.view.id, .ref 0 0 x.view.peers.length, .ref 1 0 x.view.passive.length, .ref 2 0 x.items.length, .ref 3 (x.log.length + 1 - 64) (x.log.length + 1 - (x.log.length + 1 - 64))])
    [⟨x.view.peers.map Peer.row, 2, .mut⟩, ⟨x.view.passive.map irow, 1, .mut⟩, ⟨x.items.map Item.row, 5, .mut⟩, ⟨(x.log ++ [toldOf key i has]).map Told.row, 3, .mut⟩] := by
  have c1 := node_Copy x hs
  obtain ⟨ik, ic, iw, iv, ig⟩ := i
  simp only [nodeD, Node.cells, peersD, intsD, itemsD, toldsD, Item.row, copyD, nodeB] at c1 ⊢
  have hm : (if IntKind.wrap .i64 ((x.log.length : Int) + 1 - 64) < 0 then 0 else IntKind.wrap .i64 ((x.log.length : Int) + 1 - 64)) = ((x.log.length + 1 - 64 : Nat) : Int) := by
    rw [wrap_in (by omega) (by omega)]; split <;> omega
  refine den_of [12] [] is_ask_note ?_
  cases has <;> cases ig
  all_goals
    simp -implicitDefEqProofs [c_ask_note]
    refine callThen_of c1 ?_
    simp -implicitDefEqProofs [downTo]
  case false.false | false.true | true.true =>
    refine ⟨by simp [Fits], ?_⟩
    repeat' (first | (refine callThen_of (by first | exact ring_Place _ | exact den_nrm (ring_Place _) | exact den_nrm (by simpa using ring_Place _)) ?_; simp -implicitDefEqProofs [*, downTo]) | (with_reducible refine gOps_dec (fun _ => ?_) (fun _ => ?_) <;> simp -implicitDefEqProofs [*, downTo]) | (with_reducible refine gOps_ndec (fun _ => ?_) (fun _ => ?_) <;> simp -implicitDefEqProofs [*, downTo]) | (with_reducible refine gOps_and (fun hq => ?_) (fun hq => ?_) <;> (try simp at hq) <;> simp -implicitDefEqProofs [*, downTo]) | (with_reducible refine gOps_or (fun hq => ?_) (fun hq => ?_) <;> (try simp at hq) <;> simp -implicitDefEqProofs [*, downTo]) | (with_reducible refine gOps_not (fun hq => ?_) (fun hq => ?_) <;> (try simp at hq) <;> simp -implicitDefEqProofs [*, downTo]) | (with_reducible refine gOps_split (fun hq => ?_) (fun hq => ?_) <;> (try simp at hq) <;> simp -implicitDefEqProofs [*, downTo]) | (with_reducible refine condC_dec (fun _ => ?_) (fun _ => ?_) <;> simp -implicitDefEqProofs [*, downTo]) | (with_reducible refine condC_ndec (fun _ => ?_) (fun _ => ?_) <;> simp -implicitDefEqProofs [*, downTo]) | (with_reducible refine condC_and (fun hq => ?_) (fun hq => ?_) <;> (try simp at hq) <;> simp -implicitDefEqProofs [*, downTo]) | (with_reducible refine condC_or (fun hq => ?_) (fun hq => ?_) <;> (try simp at hq) <;> simp -implicitDefEqProofs [*, downTo]) | (with_reducible refine condC_not (fun hq => ?_) (fun hq => ?_) <;> (try simp at hq) <;> simp -implicitDefEqProofs [*, downTo]) | (with_reducible refine condC_split (fun hq => ?_) (fun hq => ?_) <;> (try simp at hq) <;> simp -implicitDefEqProofs [*, downTo]) | (refine appK2_if (by omega) ?_; simp -implicitDefEqProofs [*, downTo]) | (refine pureV_if (by omega) ?_; simp -implicitDefEqProofs [*, downTo]))
    simp -implicitDefEqProofs [minL, minF, hm]
    refine outK_slice (x.log.length + 1 - 64) (x.log.length + 1) (by simp; rfl) rfl (by simp [boundD, hm]) (by first | rfl | omega | (simp [boundD]; done) | (simp [boundD]; omega) | (simp; done) | (simp; omega) | (simp [*]; done) | (simp [*]; omega)) (by omega) (by first | rfl | omega | (simp [boundD]; done) | (simp [boundD]; omega) | (simp; done) | (simp; omega) | (simp [*]; done) | (simp [*]; omega)) rfl (by first | rfl | omega | (simp [boundD]; done) | (simp [boundD]; omega) | (simp; done) | (simp; omega) | (simp [*]; done) | (simp [*]; omega)) ?_
    simp -implicitDefEqProofs [toldOf, Told.row]
  case true.false =>
    repeat' apply And.intro
    all_goals try (simp [Fits]; done)
    all_goals
      repeat' (first | (refine callThen_of (by first | exact ring_Place _ | exact den_nrm (ring_Place _) | exact den_nrm (by simpa using ring_Place _)) ?_; simp -implicitDefEqProofs [*, downTo]) | (with_reducible refine gOps_dec (fun _ => ?_) (fun _ => ?_) <;> simp -implicitDefEqProofs [*, downTo]) | (with_reducible refine gOps_ndec (fun _ => ?_) (fun _ => ?_) <;> simp -implicitDefEqProofs [*, downTo]) | (with_reducible refine gOps_and (fun hq => ?_) (fun hq => ?_) <;> (try simp at hq) <;> simp -implicitDefEqProofs [*, downTo]) | (with_reducible refine gOps_or (fun hq => ?_) (fun hq => ?_) <;> (try simp at hq) <;> simp -implicitDefEqProofs [*, downTo]) | (with_reducible refine gOps_not (fun hq => ?_) (fun hq => ?_) <;> (try simp at hq) <;> simp -implicitDefEqProofs [*, downTo]) | (with_reducible refine gOps_split (fun hq => ?_) (fun hq => ?_) <;> (try simp at hq) <;> simp -implicitDefEqProofs [*, downTo]) | (with_reducible refine condC_dec (fun _ => ?_) (fun _ => ?_) <;> simp -implicitDefEqProofs [*, downTo]) | (with_reducible refine condC_ndec (fun _ => ?_) (fun _ => ?_) <;> simp -implicitDefEqProofs [*, downTo]) | (with_reducible refine condC_and (fun hq => ?_) (fun hq => ?_) <;> (try simp at hq) <;> simp -implicitDefEqProofs [*, downTo]) | (with_reducible refine condC_or (fun hq => ?_) (fun hq => ?_) <;> (try simp at hq) <;> simp -implicitDefEqProofs [*, downTo]) | (with_reducible refine condC_not (fun hq => ?_) (fun hq => ?_) <;> (try simp at hq) <;> simp -implicitDefEqProofs [*, downTo]) | (with_reducible refine condC_split (fun hq => ?_) (fun hq => ?_) <;> (try simp at hq) <;> simp -implicitDefEqProofs [*, downTo]) | (refine appK2_if (by omega) ?_; simp -implicitDefEqProofs [*, downTo]) | (refine pureV_if (by omega) ?_; simp -implicitDefEqProofs [*, downTo]))
      simp -implicitDefEqProofs [minL, minF, hm]
      refine outK_slice (x.log.length + 1 - 64) (x.log.length + 1) (by simp; rfl) rfl (by simp [boundD, hm]) (by first | rfl | omega | (simp [boundD]; done) | (simp [boundD]; omega) | (simp; done) | (simp; omega) | (simp [*]; done) | (simp [*]; omega)) (by omega) (by first | rfl | omega | (simp [boundD]; done) | (simp [boundD]; omega) | (simp; done) | (simp; omega) | (simp [*]; done) | (simp [*]; omega)) rfl (by first | rfl | omega | (simp [boundD]; done) | (simp [boundD]; omega) | (simp; done) | (simp; omega) | (simp [*]; done) | (simp [*]; omega)) ?_
      simp -implicitDefEqProofs [toldOf, Told.row]
end Go.AM
/- AM: contracts: messages that may be. -/
namespace Go.AM
set_option linter.unusedSimpArgs false
set_option linter.unusedVariables false
set_option maxRecDepth 8000
set_option maxHeartbeats 0
theorem ref_MsgMay (m : Msg) (hl : m.ids.length ≤ cap) : Den PP 57 [msgD m] [] (.bool (msgMay m)) [] := by
  obtain ⟨kind, from_, to, ids, key, ⟨ik, ic, iw, iv, ig⟩, has⟩ := m
  have c1 := ref_placesMay ids hl
  obtain ⟨A, hA⟩ : ∃ A, ids.all place = A := ⟨_, rfl⟩
  rw [hA] at c1
  simp only [intsD] at c1
  refine den_of [] [] is_gimmalref1_MsgMay ?_
  simp -implicitDefEqProofs [c_gimmalref1_MsgMay, msgD, Msg.row, intsD, EQS]
  repeat' (first | (refine callThen_of (by first | exact c1 | exact ref_ItemMay_raw _ _ _ _ _ | exact ref_PlaceMay _) ?_; simp -implicitDefEqProofs [*, EQS]) | (with_reducible refine gOps_dec (fun _ => ?_) (fun _ => ?_) <;> simp -implicitDefEqProofs [*, EQS]) | (with_reducible refine gOps_ndec (fun _ => ?_) (fun _ => ?_) <;> simp -implicitDefEqProofs [*, EQS]) | (with_reducible refine gOps_and (fun hq => ?_) (fun hq => ?_) <;> (try simp at hq) <;> simp -implicitDefEqProofs [*, EQS]) | (with_reducible refine gOps_or (fun hq => ?_) (fun hq => ?_) <;> (try simp at hq) <;> simp -implicitDefEqProofs [*, EQS]) | (with_reducible refine gOps_not (fun hq => ?_) (fun hq => ?_) <;> (try simp at hq) <;> simp -implicitDefEqProofs [*, EQS]) | (with_reducible refine gOps_split (fun hq => ?_) (fun hq => ?_) <;> (try simp at hq) <;> simp -implicitDefEqProofs [*, EQS]) | (with_reducible refine condC_dec (fun _ => ?_) (fun _ => ?_) <;> simp -implicitDefEqProofs [*, EQS]) | (with_reducible refine condC_ndec (fun _ => ?_) (fun _ => ?_) <;> simp -implicitDefEqProofs [*, EQS]) | (with_reducible refine condC_and (fun hq => ?_) (fun hq => ?_) <;> (try simp at hq) <;> simp -implicitDefEqProofs [*, EQS]) | (with_reducible refine condC_or (fun hq => ?_) (fun hq => ?_) <;> (try simp at hq) <;> simp -implicitDefEqProofs [*, EQS]) | (with_reducible refine condC_not (fun hq => ?_) (fun hq => ?_) <;> (try simp at hq) <;> simp -implicitDefEqProofs [*, EQS]) | (with_reducible refine condC_split (fun hq => ?_) (fun hq => ?_) <;> (try simp at hq) <;> simp -implicitDefEqProofs [*, EQS]) | (refine appK2_if (by omega) ?_; simp -implicitDefEqProofs [*, EQS]) | (refine pureV_if (by omega) ?_; simp -implicitDefEqProofs [*, EQS]))
  all_goals (simp only [msgMay, hA, zeroItem, Item.mk.injEq]; first | (simp [*]; done) | (simp [*]; grind) | grind)
def noneM (ids : List Int) (key : Int) (i : Item) (has : Bool) : Bool := decide (ids.length = 0) && decide (key = 0) && decide (i = zeroItem) && !has
theorem msg_none_raw (kind f t key ik ic iw iv : Int) (ig has : Bool) (ids : List Int) : Den PP 111 [.agg [.int .i64 kind, .int .i64 f, .int .i64 t, .sl (ids.map irow) ids.length, .int .i64 key, .int .i64 ik, .int .i64 ic, .int .i64 iw, .int .i64 iv, .bool ig, .bool has]] [] (.bool (noneM ids key ⟨ik, ic, iw, iv, ig⟩ has)) [] := by
  refine den_of [] [] is_msg_none ?_
  simp -implicitDefEqProofs [c_msg_none, EQS]
  repeat' (first | (with_reducible refine gOps_dec (fun _ => ?_) (fun _ => ?_) <;> simp -implicitDefEqProofs [*, EQS]) | (with_reducible refine gOps_ndec (fun _ => ?_) (fun _ => ?_) <;> simp -implicitDefEqProofs [*, EQS]) | (with_reducible refine gOps_and (fun hq => ?_) (fun hq => ?_) <;> (try simp at hq) <;> simp -implicitDefEqProofs [*, EQS]) | (with_reducible refine gOps_or (fun hq => ?_) (fun hq => ?_) <;> (try simp at hq) <;> simp -implicitDefEqProofs [*, EQS]) | (with_reducible refine gOps_not (fun hq => ?_) (fun hq => ?_) <;> (try simp at hq) <;> simp -implicitDefEqProofs [*, EQS]) | (with_reducible refine gOps_split (fun hq => ?_) (fun hq => ?_) <;> (try simp at hq) <;> simp -implicitDefEqProofs [*, EQS]) | (with_reducible refine condC_dec (fun _ => ?_) (fun _ => ?_) <;> simp -implicitDefEqProofs [*, EQS]) | (with_reducible refine condC_ndec (fun _ => ?_) (fun _ => ?_) <;> simp -implicitDefEqProofs [*, EQS]) | (with_reducible refine condC_and (fun hq => ?_) (fun hq => ?_) <;> (try simp at hq) <;> simp -implicitDefEqProofs [*, EQS]) | (with_reducible refine condC_or (fun hq => ?_) (fun hq => ?_) <;> (try simp at hq) <;> simp -implicitDefEqProofs [*, EQS]) | (with_reducible refine condC_not (fun hq => ?_) (fun hq => ?_) <;> (try simp at hq) <;> simp -implicitDefEqProofs [*, EQS]) | (with_reducible refine condC_split (fun hq => ?_) (fun hq => ?_) <;> (try simp at hq) <;> simp -implicitDefEqProofs [*, EQS]) | (refine appK2_if (by omega) ?_; simp -implicitDefEqProofs [*, EQS]) | (refine pureV_if (by omega) ?_; simp -implicitDefEqProofs [*, EQS]))
  all_goals (simp only [noneM, zeroItem, Item.mk.injEq]; first | (simp [*]; done) | (simp [*]; grind) | grind)
theorem msg_none_nil (kind f t key ik ic iw iv : Int) (ig has : Bool) : Den PP 111 [.agg [.int .i64 kind, .int .i64 f, .int .i64 t, .nil, .int .i64 key, .int .i64 ik, .int .i64 ic, .int .i64 iw, .int .i64 iv, .bool ig, .bool has]] [] (.bool (noneM [] key ⟨ik, ic, iw, iv, ig⟩ has)) [] := by
  refine den_of [] [] is_msg_none ?_
  simp -implicitDefEqProofs [c_msg_none, EQS]
  repeat' (first | (with_reducible refine gOps_dec (fun _ => ?_) (fun _ => ?_) <;> simp -implicitDefEqProofs [*, EQS]) | (with_reducible refine gOps_ndec (fun _ => ?_) (fun _ => ?_) <;> simp -implicitDefEqProofs [*, EQS]) | (with_reducible refine gOps_and (fun hq => ?_) (fun hq => ?_) <;> (try simp at hq) <;> simp -implicitDefEqProofs [*, EQS]) | (with_reducible refine gOps_or (fun hq => ?_) (fun hq => ?_) <;> (try simp at hq) <;> simp -implicitDefEqProofs [*, EQS]) | (with_reducible refine gOps_not (fun hq => ?_) (fun hq => ?_) <;> (try simp at hq) <;> simp -implicitDefEqProofs [*, EQS]) | (with_reducible refine gOps_split (fun hq => ?_) (fun hq => ?_) <;> (try simp at hq) <;> simp -implicitDefEqProofs [*, EQS]) | (with_reducible refine condC_dec (fun _ => ?_) (fun _ => ?_) <;> simp -implicitDefEqProofs [*, EQS]) | (with_reducible refine condC_ndec (fun _ => ?_) (fun _ => ?_) <;> simp -implicitDefEqProofs [*, EQS]) | (with_reducible refine condC_and (fun hq => ?_) (fun hq => ?_) <;> (try simp at hq) <;> simp -implicitDefEqProofs [*, EQS]) | (with_reducible refine condC_or (fun hq => ?_) (fun hq => ?_) <;> (try simp at hq) <;> simp -implicitDefEqProofs [*, EQS]) | (with_reducible refine condC_not (fun hq => ?_) (fun hq => ?_) <;> (try simp at hq) <;> simp -implicitDefEqProofs [*, EQS]) | (with_reducible refine condC_split (fun hq => ?_) (fun hq => ?_) <;> (try simp at hq) <;> simp -implicitDefEqProofs [*, EQS]) | (refine appK2_if (by omega) ?_; simp -implicitDefEqProofs [*, EQS]) | (refine pureV_if (by omega) ?_; simp -implicitDefEqProofs [*, EQS]))
  all_goals (simp only [noneM, zeroItem, Item.mk.injEq]; first | (simp [*]; done) | (simp [*]; grind) | grind)
theorem msg_May (m : Msg) (hl : m.ids.length ≤ cap) : Den PP 85 [msgD m] [] (.bool (msgMay m)) [] := by
  obtain ⟨kind, from_, to, ids, key, ⟨ik, ic, iw, iv, ig⟩, has⟩ := m
  have c1 := ring_Places ids hl
  obtain ⟨A, hA⟩ : ∃ A, ids.all place = A := ⟨_, rfl⟩
  rw [hA] at c1
  simp only [intsD] at c1
  refine den_of [] [] is_msg_May ?_
  simp -implicitDefEqProofs [c_msg_May, msgD, Msg.row, intsD, EQS]
  repeat' (first | (refine callThen_of (by first | exact c1 | exact item_May_raw _ _ _ _ _ | exact ring_Place _ | exact msg_none_raw _ _ _ _ _ _ _ _ _ _ _ | exact msg_none_nil _ _ _ _ _ _ _ _ _ _ | exact den_nrm (msg_none_nil _ _ _ _ _ _ _ _ _ _) | exact den_nrm (by simpa using msg_none_nil _ _ _ _ _ _ _ _ _ _)) ?_; simp -implicitDefEqProofs [*, EQS]) | (with_reducible refine gOps_dec (fun _ => ?_) (fun _ => ?_) <;> simp -implicitDefEqProofs [*, EQS]) | (with_reducible refine gOps_ndec (fun _ => ?_) (fun _ => ?_) <;> simp -implicitDefEqProofs [*, EQS]) | (with_reducible refine gOps_and (fun hq => ?_) (fun hq => ?_) <;> (try simp at hq) <;> simp -implicitDefEqProofs [*, EQS]) | (with_reducible refine gOps_or (fun hq => ?_) (fun hq => ?_) <;> (try simp at hq) <;> simp -implicitDefEqProofs [*, EQS]) | (with_reducible refine gOps_not (fun hq => ?_) (fun hq => ?_) <;> (try simp at hq) <;> simp -implicitDefEqProofs [*, EQS]) | (with_reducible refine gOps_split (fun hq => ?_) (fun hq => ?_) <;> (try simp at hq) <;> simp -implicitDefEqProofs [*, EQS]) | (with_reducible refine condC_dec (fun _ => ?_) (fun _ => ?_) <;> simp -implicitDefEqProofs [*, EQS]) | (with_reducible refine condC_ndec (fun _ => ?_) (fun _ => ?_) <;> simp -implicitDefEqProofs [*, EQS]) | (with_reducible refine condC_and (fun hq => ?_) (fun hq => ?_) <;> (try simp at hq) <;> simp -implicitDefEqProofs [*, EQS]) | (with_reducible refine condC_or (fun hq => ?_) (fun hq => ?_) <;> (try simp at hq) <;> simp -implicitDefEqProofs [*, EQS]) | (with_reducible refine condC_not (fun hq => ?_) (fun hq => ?_) <;> (try simp at hq) <;> simp -implicitDefEqProofs [*, EQS]) | (with_reducible refine condC_split (fun hq => ?_) (fun hq => ?_) <;> (try simp at hq) <;> simp -implicitDefEqProofs [*, EQS]) | (refine appK2_if (by omega) ?_; simp -implicitDefEqProofs [*, EQS]) | (refine pureV_if (by omega) ?_; simp -implicitDefEqProofs [*, EQS]))
  all_goals (try simp only [noneM, zeroItem, Item.mk.injEq] at *)
  all_goals (simp only [msgMay, hA, zeroItem, Item.mk.injEq]; first | (simp [*]; done) | (simp [*]; grind) | grind)
end Go.AM
/- Plain law: a store takes items twice. -/
namespace Go.AM
set_option linter.unusedSimpArgs false
set_option linter.unusedVariables false

end Go.AM
/- AM: chapter 20's statements: TakeTwice, TakeBest. -/
namespace Go.AM
set_option linter.unusedSimpArgs false
set_option linter.unusedVariables false
set_option maxRecDepth 8000
set_option maxHeartbeats 0
def zeroNode : Node := ⟨false, ⟨0, [], []⟩, [], []⟩
theorem small_zero : zeroNode.small := by unfold Node.small View.small cap16 cap zeroNode; simp
end Go.AM
/- AM: contracts: asking, answering, being told; the document's. -/
namespace Go.AM
set_option linter.unusedSimpArgs false
set_option linter.unusedVariables false
set_option maxRecDepth 8000
set_option maxHeartbeats 0
def noteD (x : Node) (pre xs : List Told) : D := .agg [.bool x.up, .int .i64 x.view.id, .ref 0 0 x.view.peers.length, .ref 1 0 x.view.passive.length, .ref 2 0 x.items.length, .ref 3 pre.length xs.length]
def noteB (x : Node) (pre xs : List Told) : List Blk := [⟨x.view.peers.map Peer.row, 2, .mut⟩, ⟨x.view.passive.map irow, 1, .mut⟩, ⟨x.items.map Item.row, 5, .mut⟩, ⟨(pre ++ xs).map Told.row, 3, .mut⟩]
def logPre (x : Node) (t : Told) : List Told := (x.log ++ [t]).take (x.log.length + 1 - 64)
def logOf (x : Node) (t : Told) : List Told := (x.log ++ [t]).drop (x.log.length + 1 - 64)
theorem log_len (x : Node) (t : Told) : (logPre x t).length = x.log.length + 1 - 64 ∧ (logOf x t).length = x.log.length + 1 - (x.log.length + 1 - 64) ∧ logPre x t ++ logOf x t = x.log ++ [t] := by
  unfold logPre logOf
  refine ⟨by simp; omega, by simp, List.take_append_drop _ _⟩
theorem ask_note' (x : Node) (key : Int) (i : Item) (has : Bool) (hs : x.small) (hl : x.log.length ≤ 64) : Den PP 50 [nodeD x, .int .i64 key, .agg i.row, .bool has] [] (noteD x (logPre x (toldOf key i has)) (logOf x (toldOf key i has))) (noteB x (logPre x (toldOf key i has)) (logOf x (toldOf key i has))) := by
  have := ask_note x key i has hs hl
  obtain ⟨h1, h2, h3⟩ := log_len x (toldOf key i has)
  unfold noteD noteB
  rw [h1, h2, h3]
  exact this
theorem ref_noted (x : Node) (key : Int) (i : Item) (has : Bool) (hs : x.small) (hl : x.log.length ≤ 64) : Den PP 54 [nodeD x, .int .i64 key, .agg i.row, .bool has] [] (noteD x (logPre x (toldOf key i has)) (logOf x (toldOf key i has))) (noteB x (logPre x (toldOf key i has)) (logOf x (toldOf key i has))) := by
  have c1 := ref_copyNode x hs
  obtain ⟨h1, h2, h3⟩ := log_len x (toldOf key i has)
  unfold noteD noteB
  rw [h1, h2, h3]
  clear h1 h2 h3
  obtain ⟨ik, ic, iw, iv, ig⟩ := i
  simp only [nodeD, Node.cells, peersD, intsD, itemsD, toldsD, Item.row, copyD, nodeB] at c1 ⊢
  refine den_of [13] [] is_gimmalref16_noted ?_
  by_cases h64 : x.log.length = 64
  · have w : (64 : Int) < (x.log.length : Int) + 1 := by omega
    have w2 : 64 < x.log.length + 1 := by omega
    cases has <;> cases ig
    all_goals
      simp -implicitDefEqProofs [c_gimmalref16_noted]
      refine callThen_of c1 ?_
      simp -implicitDefEqProofs [downTo]
      repeat' (first | (with_reducible refine gOps_dec (fun _ => ?_) (fun _ => ?_) <;> simp -implicitDefEqProofs [*, w, w2]) | (with_reducible refine gOps_ndec (fun _ => ?_) (fun _ => ?_) <;> simp -implicitDefEqProofs [*, w, w2]) | (with_reducible refine gOps_and (fun hq => ?_) (fun hq => ?_) <;> (try simp at hq) <;> simp -implicitDefEqProofs [*, w, w2]) | (with_reducible refine gOps_or (fun hq => ?_) (fun hq => ?_) <;> (try simp at hq) <;> simp -implicitDefEqProofs [*, w, w2]) | (with_reducible refine gOps_not (fun hq => ?_) (fun hq => ?_) <;> (try simp at hq) <;> simp -implicitDefEqProofs [*, w, w2]) | (with_reducible refine gOps_split (fun hq => ?_) (fun hq => ?_) <;> (try simp at hq) <;> simp -implicitDefEqProofs [*, w, w2]) | (with_reducible refine condC_dec (fun _ => ?_) (fun _ => ?_) <;> simp -implicitDefEqProofs [*, w, w2]) | (with_reducible refine condC_ndec (fun _ => ?_) (fun _ => ?_) <;> simp -implicitDefEqProofs [*, w, w2]) | (with_reducible refine condC_and (fun hq => ?_) (fun hq => ?_) <;> (try simp at hq) <;> simp -implicitDefEqProofs [*, w, w2]) | (with_reducible refine condC_or (fun hq => ?_) (fun hq => ?_) <;> (try simp at hq) <;> simp -implicitDefEqProofs [*, w, w2]) | (with_reducible refine condC_not (fun hq => ?_) (fun hq => ?_) <;> (try simp at hq) <;> simp -implicitDefEqProofs [*, w, w2]) | (with_reducible refine condC_split (fun hq => ?_) (fun hq => ?_) <;> (try simp at hq) <;> simp -implicitDefEqProofs [*, w, w2]) | (refine appK2_if (by omega) ?_; simp -implicitDefEqProofs [*, w, w2]) | (refine pureV_if (by omega) ?_; simp -implicitDefEqProofs [*, w, w2]))
      refine ⟨by simp [Fits], ?_⟩
      refine outK_slice 1 65 (by simp; rfl) rfl (by first | rfl | omega | (simp [boundD]; done) | (simp [boundD]; omega) | (simp; done) | (simp; omega) | (simp [*]; done) | (simp [*]; omega)) (by first | rfl | omega | (simp [boundD]; done) | (simp [boundD]; omega) | (simp; done) | (simp; omega) | (simp [*]; done) | (simp [*]; omega)) (by omega) (by first | rfl | omega | (simp [boundD]; done) | (simp [boundD]; omega) | (simp; done) | (simp; omega) | (simp [*]; done) | (simp [*]; omega)) rfl (by first | rfl | omega | (simp [boundD]; done) | (simp [boundD]; omega) | (simp; done) | (simp; omega) | (simp [*]; done) | (simp [*]; omega)) ?_
      simp -implicitDefEqProofs [toldOf, Told.row, h64]
  · have w : ¬ (64 : Int) < (x.log.length : Int) + 1 := by omega
    have w2 : x.log.length + 1 - 64 = 0 := by omega
    have w3 : x.log.length - 63 = 0 := by omega
    cases has <;> cases ig
    all_goals
      simp -implicitDefEqProofs [c_gimmalref16_noted]
      refine callThen_of c1 ?_
      simp -implicitDefEqProofs [downTo]
      repeat' (first | (with_reducible refine gOps_dec (fun _ => ?_) (fun _ => ?_) <;> simp -implicitDefEqProofs [*, w]) | (with_reducible refine gOps_ndec (fun _ => ?_) (fun _ => ?_) <;> simp -implicitDefEqProofs [*, w]) | (with_reducible refine gOps_and (fun hq => ?_) (fun hq => ?_) <;> (try simp at hq) <;> simp -implicitDefEqProofs [*, w]) | (with_reducible refine gOps_or (fun hq => ?_) (fun hq => ?_) <;> (try simp at hq) <;> simp -implicitDefEqProofs [*, w]) | (with_reducible refine gOps_not (fun hq => ?_) (fun hq => ?_) <;> (try simp at hq) <;> simp -implicitDefEqProofs [*, w]) | (with_reducible refine gOps_split (fun hq => ?_) (fun hq => ?_) <;> (try simp at hq) <;> simp -implicitDefEqProofs [*, w]) | (with_reducible refine condC_dec (fun _ => ?_) (fun _ => ?_) <;> simp -implicitDefEqProofs [*, w]) | (with_reducible refine condC_ndec (fun _ => ?_) (fun _ => ?_) <;> simp -implicitDefEqProofs [*, w]) | (with_reducible refine condC_and (fun hq => ?_) (fun hq => ?_) <;> (try simp at hq) <;> simp -implicitDefEqProofs [*, w]) | (with_reducible refine condC_or (fun hq => ?_) (fun hq => ?_) <;> (try simp at hq) <;> simp -implicitDefEqProofs [*, w]) | (with_reducible refine condC_not (fun hq => ?_) (fun hq => ?_) <;> (try simp at hq) <;> simp -implicitDefEqProofs [*, w]) | (with_reducible refine condC_split (fun hq => ?_) (fun hq => ?_) <;> (try simp at hq) <;> simp -implicitDefEqProofs [*, w]) | (refine appK2_if (by omega) ?_; simp -implicitDefEqProofs [*, w]) | (refine pureV_if (by omega) ?_; simp -implicitDefEqProofs [*, w]))
      refine ⟨by simp [Fits], ?_⟩
      repeat' (first | (with_reducible refine gOps_dec (fun _ => ?_) (fun _ => ?_) <;> simp -implicitDefEqProofs [*, w, w2, w3, toldOf, Told.row]) | (with_reducible refine gOps_ndec (fun _ => ?_) (fun _ => ?_) <;> simp -implicitDefEqProofs [*, w, w2, w3, toldOf, Told.row]) | (with_reducible refine gOps_and (fun hq => ?_) (fun hq => ?_) <;> (try simp at hq) <;> simp -implicitDefEqProofs [*, w, w2, w3, toldOf, Told.row]) | (with_reducible refine gOps_or (fun hq => ?_) (fun hq => ?_) <;> (try simp at hq) <;> simp -implicitDefEqProofs [*, w, w2, w3, toldOf, Told.row]) | (with_reducible refine gOps_not (fun hq => ?_) (fun hq => ?_) <;> (try simp at hq) <;> simp -implicitDefEqProofs [*, w, w2, w3, toldOf, Told.row]) | (with_reducible refine gOps_split (fun hq => ?_) (fun hq => ?_) <;> (try simp at hq) <;> simp -implicitDefEqProofs [*, w, w2, w3, toldOf, Told.row]) | (with_reducible refine condC_dec (fun _ => ?_) (fun _ => ?_) <;> simp -implicitDefEqProofs [*, w, w2, w3, toldOf, Told.row]) | (with_reducible refine condC_ndec (fun _ => ?_) (fun _ => ?_) <;> simp -implicitDefEqProofs [*, w, w2, w3, toldOf, Told.row]) | (with_reducible refine condC_and (fun hq => ?_) (fun hq => ?_) <;> (try simp at hq) <;> simp -implicitDefEqProofs [*, w, w2, w3, toldOf, Told.row]) | (with_reducible refine condC_or (fun hq => ?_) (fun hq => ?_) <;> (try simp at hq) <;> simp -implicitDefEqProofs [*, w, w2, w3, toldOf, Told.row]) | (with_reducible refine condC_not (fun hq => ?_) (fun hq => ?_) <;> (try simp at hq) <;> simp -implicitDefEqProofs [*, w, w2, w3, toldOf, Told.row]) | (with_reducible refine condC_split (fun hq => ?_) (fun hq => ?_) <;> (try simp at hq) <;> simp -implicitDefEqProofs [*, w, w2, w3, toldOf, Told.row]) | (refine appK2_if (by omega) ?_; simp -implicitDefEqProofs [*, w, w2, w3, toldOf, Told.row]) | (refine pureV_if (by omega) ?_; simp -implicitDefEqProofs [*, w, w2, w3, toldOf, Told.row]))
def toB (x : Node) (m : Msg) (kind : Int) : Bool := nodeUp x && (msgMay m && (decide (m.kind = kind) && decide (m.to = x.view.id)))
theorem ask_to (x : Node) (m : Msg) (kind : Int) (hs : x.small) (hl : m.ids.length ≤ cap) : Den PP 56 [.mem x.cells, .mem m.row, .int .i64 kind] [] (.bool (toB x m kind)) [] := by
  have c1 := node_Up x hs
  have c2 := msg_May m hl
  unfold toB
  generalize nodeUp x = U at *
  generalize msgMay m = M at *
  simp only [nodeD, Node.cells, peersD, intsD, itemsD, toldsD, Item.row, msgD, Msg.row] at c1 c2 ⊢
  refine den_of [] [] is_ask_to ?_
  cases U <;> cases M
  all_goals
    simp -implicitDefEqProofs [c_ask_to]
    repeat' (first | (refine callThen_of (by first | exact c1 | exact c2) ?_; simp -implicitDefEqProofs [*]) | (with_reducible refine gOps_dec (fun _ => ?_) (fun _ => ?_) <;> simp -implicitDefEqProofs [*]) | (with_reducible refine gOps_ndec (fun _ => ?_) (fun _ => ?_) <;> simp -implicitDefEqProofs [*]) | (with_reducible refine gOps_and (fun hq => ?_) (fun hq => ?_) <;> (try simp at hq) <;> simp -implicitDefEqProofs [*]) | (with_reducible refine gOps_or (fun hq => ?_) (fun hq => ?_) <;> (try simp at hq) <;> simp -implicitDefEqProofs [*]) | (with_reducible refine gOps_not (fun hq => ?_) (fun hq => ?_) <;> (try simp at hq) <;> simp -implicitDefEqProofs [*]) | (with_reducible refine gOps_split (fun hq => ?_) (fun hq => ?_) <;> (try simp at hq) <;> simp -implicitDefEqProofs [*]) | (with_reducible refine condC_dec (fun _ => ?_) (fun _ => ?_) <;> simp -implicitDefEqProofs [*]) | (with_reducible refine condC_ndec (fun _ => ?_) (fun _ => ?_) <;> simp -implicitDefEqProofs [*]) | (with_reducible refine condC_and (fun hq => ?_) (fun hq => ?_) <;> (try simp at hq) <;> simp -implicitDefEqProofs [*]) | (with_reducible refine condC_or (fun hq => ?_) (fun hq => ?_) <;> (try simp at hq) <;> simp -implicitDefEqProofs [*]) | (with_reducible refine condC_not (fun hq => ?_) (fun hq => ?_) <;> (try simp at hq) <;> simp -implicitDefEqProofs [*]) | (with_reducible refine condC_split (fun hq => ?_) (fun hq => ?_) <;> (try simp at hq) <;> simp -implicitDefEqProofs [*]) | (refine appK2_if (by omega) ?_; simp -implicitDefEqProofs [*]) | (refine pureV_if (by omega) ?_; simp -implicitDefEqProofs [*]))
  all_goals (first | (simp [*]; done) | grind)
def askOf (x : Node) (to key : Int) : Msg := ⟨2, x.view.id, to, [], key, zeroItem, false⟩
def gotT (x : Node) (key : Int) : Told := toldOf key (getR x.items key).1 (getR x.items key).2
theorem nodeUp_log {x : Node} (h : nodeUp x = true) : x.log.length ≤ 64 := (nodeUp_parts h).2.2.2.1
theorem ask_Get_no (x : Node) (key : Int) (hs : x.small) (h : (nodeUp x && place key) = false) : Den PP 16 [nodeD x, .int .i64 key] [] (.tup [.agg [.bool false, .int .i64 0, .nil, .nil, .nil, .nil], .ref 0 0 0, .int .i64 2100]) [⟨[], 11, .mut⟩] := by
  have c1 := node_Up x hs
  have c2 := ring_Place key
  generalize nodeUp x = U at *
  generalize place key = M at *
  simp only [nodeD, Node.cells, peersD, intsD, itemsD, toldsD, Item.row] at c1 c2 ⊢
  refine den_of [] [] is_ask_Get ?_
  cases U <;> cases M
  all_goals
    simp at h
  all_goals
    simp -implicitDefEqProofs [c_ask_Get]
    repeat' (first | (refine callThen_of (by first | exact c1 | exact c2) ?_; simp -implicitDefEqProofs [*]) | (with_reducible refine gOps_dec (fun _ => ?_) (fun _ => ?_) <;> simp -implicitDefEqProofs [*]) | (with_reducible refine gOps_ndec (fun _ => ?_) (fun _ => ?_) <;> simp -implicitDefEqProofs [*]) | (with_reducible refine gOps_and (fun hq => ?_) (fun hq => ?_) <;> (try simp at hq) <;> simp -implicitDefEqProofs [*]) | (with_reducible refine gOps_or (fun hq => ?_) (fun hq => ?_) <;> (try simp at hq) <;> simp -implicitDefEqProofs [*]) | (with_reducible refine gOps_not (fun hq => ?_) (fun hq => ?_) <;> (try simp at hq) <;> simp -implicitDefEqProofs [*]) | (with_reducible refine gOps_split (fun hq => ?_) (fun hq => ?_) <;> (try simp at hq) <;> simp -implicitDefEqProofs [*]) | (with_reducible refine condC_dec (fun _ => ?_) (fun _ => ?_) <;> simp -implicitDefEqProofs [*]) | (with_reducible refine condC_ndec (fun _ => ?_) (fun _ => ?_) <;> simp -implicitDefEqProofs [*]) | (with_reducible refine condC_and (fun hq => ?_) (fun hq => ?_) <;> (try simp at hq) <;> simp -implicitDefEqProofs [*]) | (with_reducible refine condC_or (fun hq => ?_) (fun hq => ?_) <;> (try simp at hq) <;> simp -implicitDefEqProofs [*]) | (with_reducible refine condC_not (fun hq => ?_) (fun hq => ?_) <;> (try simp at hq) <;> simp -implicitDefEqProofs [*]) | (with_reducible refine condC_split (fun hq => ?_) (fun hq => ?_) <;> (try simp at hq) <;> simp -implicitDefEqProofs [*]) | (refine appK2_if (by omega) ?_; simp -implicitDefEqProofs [*]) | (refine pureV_if (by omega) ?_; simp -implicitDefEqProofs [*]))
theorem ask_Get_own (x : Node) (key : Int) (hs : x.small) (h1 : nodeUp x = true) (h2 : place key = true) (h3 : (ownerV x.view key).1 = x.view.id) : Den PP 16 [nodeD x, .int .i64 key] [] (.tup [noteD x (logPre x (gotT x key)) (logOf x (gotT x key)), .ref 4 0 0, .int .i64 0]) (noteB x (logPre x (gotT x key)) (logOf x (gotT x key)) ++ [⟨[], 11, .mut⟩]) := by
  have c1 := node_Up x hs
  have c2 := ring_Place key
  have c3 := view_Owner x.view key hs.1
  have c4 := store_Get x.items key (by have := hs.2.1; unfold cap16; omega)
  have c5 := ask_note' x key (getR x.items key).1 (getR x.items key).2 hs (nodeUp_log h1)
  rw [h1] at c1
  rw [h2] at c2
  unfold gotT
  generalize getR x.items key = r at *
  obtain ⟨⟨ik, ic, iw, iv, ig⟩, g2⟩ := r
  generalize hlp : logPre x (toldOf key _ _) = pre at *
  generalize hlo : logOf x (toldOf key _ _) = xs at *
  clear hlp hlo
  generalize ownerV x.view key = o at *
  obtain ⟨o1, o2⟩ := o
  simp only at h3
  subst h3
  simp only [nodeD, Node.cells, viewD, View.cells, peersD, intsD, itemsD, toldsD, Item.row, noteD, noteB, pairD] at c1 c2 c3 c4 c5 ⊢
  clear h1 h2
  refine den_of [45] [] is_ask_Get ?_
  simp -implicitDefEqProofs [c_ask_Get]
  repeat' (first | (refine callThen_of (by first | exact c1 | exact c2 | exact c3 | exact c4 | exact c5) ?_; simp -implicitDefEqProofs [*, downTo]) | (with_reducible refine gOps_dec (fun _ => ?_) (fun _ => ?_) <;> simp -implicitDefEqProofs [*, downTo]) | (with_reducible refine gOps_ndec (fun _ => ?_) (fun _ => ?_) <;> simp -implicitDefEqProofs [*, downTo]) | (with_reducible refine gOps_and (fun hq => ?_) (fun hq => ?_) <;> (try simp at hq) <;> simp -implicitDefEqProofs [*, downTo]) | (with_reducible refine gOps_or (fun hq => ?_) (fun hq => ?_) <;> (try simp at hq) <;> simp -implicitDefEqProofs [*, downTo]) | (with_reducible refine gOps_not (fun hq => ?_) (fun hq => ?_) <;> (try simp at hq) <;> simp -implicitDefEqProofs [*, downTo]) | (with_reducible refine gOps_split (fun hq => ?_) (fun hq => ?_) <;> (try simp at hq) <;> simp -implicitDefEqProofs [*, downTo]) | (with_reducible refine condC_dec (fun _ => ?_) (fun _ => ?_) <;> simp -implicitDefEqProofs [*, downTo]) | (with_reducible refine condC_ndec (fun _ => ?_) (fun _ => ?_) <;> simp -implicitDefEqProofs [*, downTo]) | (with_reducible refine condC_and (fun hq => ?_) (fun hq => ?_) <;> (try simp at hq) <;> simp -implicitDefEqProofs [*, downTo]) | (with_reducible refine condC_or (fun hq => ?_) (fun hq => ?_) <;> (try simp at hq) <;> simp -implicitDefEqProofs [*, downTo]) | (with_reducible refine condC_not (fun hq => ?_) (fun hq => ?_) <;> (try simp at hq) <;> simp -implicitDefEqProofs [*, downTo]) | (with_reducible refine condC_split (fun hq => ?_) (fun hq => ?_) <;> (try simp at hq) <;> simp -implicitDefEqProofs [*, downTo]) | (refine appK2_if (by omega) ?_; simp -implicitDefEqProofs [*, downTo]) | (refine pureV_if (by omega) ?_; simp -implicitDefEqProofs [*, downTo]))
theorem ask_Get_far (x : Node) (key : Int) (hs : x.small) (h1 : nodeUp x = true) (h2 : place key = true) (h3 : (ownerV x.view key).1 ≠ x.view.id) : Den PP 16 [nodeD x, .int .i64 key] [] (.tup [copyD x, .ref 4 0 1, .int .i64 0]) (nodeB x ++ [⟨[askOf x (ownerV x.view key).1 key].map Msg.row0, 11, .mut⟩]) := by
  have c1 := node_Up x hs
  have c2 := ring_Place key
  have c3 := view_Owner x.view key hs.1
  have c5 := node_Copy x hs
  rw [h1] at c1
  rw [h2] at c2
  generalize ownerV x.view key = o at *
  obtain ⟨o1, o2⟩ := o
  simp only at h3
  simp only [nodeD, Node.cells, viewD, View.cells, peersD, intsD, itemsD, toldsD, Item.row, copyD, nodeB, pairD, askOf, zeroItem, Msg.row0, List.map_cons, List.map_nil] at c1 c2 c3 c5 ⊢
  clear h1 h2
  refine den_of [47] [] is_ask_Get ?_
  simp -implicitDefEqProofs [c_ask_Get]
  repeat' (first | (refine callThen_of (by first | exact c1 | exact c2 | exact c3) ?_; simp -implicitDefEqProofs [*, downTo, h3]) | (with_reducible refine gOps_dec (fun _ => ?_) (fun _ => ?_) <;> simp -implicitDefEqProofs [*, downTo, h3]) | (with_reducible refine gOps_ndec (fun _ => ?_) (fun _ => ?_) <;> simp -implicitDefEqProofs [*, downTo, h3]) | (with_reducible refine gOps_and (fun hq => ?_) (fun hq => ?_) <;> (try simp at hq) <;> simp -implicitDefEqProofs [*, downTo, h3]) | (with_reducible refine gOps_or (fun hq => ?_) (fun hq => ?_) <;> (try simp at hq) <;> simp -implicitDefEqProofs [*, downTo, h3]) | (with_reducible refine gOps_not (fun hq => ?_) (fun hq => ?_) <;> (try simp at hq) <;> simp -implicitDefEqProofs [*, downTo, h3]) | (with_reducible refine gOps_split (fun hq => ?_) (fun hq => ?_) <;> (try simp at hq) <;> simp -implicitDefEqProofs [*, downTo, h3]) | (with_reducible refine condC_dec (fun _ => ?_) (fun _ => ?_) <;> simp -implicitDefEqProofs [*, downTo, h3]) | (with_reducible refine condC_ndec (fun _ => ?_) (fun _ => ?_) <;> simp -implicitDefEqProofs [*, downTo, h3]) | (with_reducible refine condC_and (fun hq => ?_) (fun hq => ?_) <;> (try simp at hq) <;> simp -implicitDefEqProofs [*, downTo, h3]) | (with_reducible refine condC_or (fun hq => ?_) (fun hq => ?_) <;> (try simp at hq) <;> simp -implicitDefEqProofs [*, downTo, h3]) | (with_reducible refine condC_not (fun hq => ?_) (fun hq => ?_) <;> (try simp at hq) <;> simp -implicitDefEqProofs [*, downTo, h3]) | (with_reducible refine condC_split (fun hq => ?_) (fun hq => ?_) <;> (try simp at hq) <;> simp -implicitDefEqProofs [*, downTo, h3]) | (refine appK2_if (by omega) ?_; simp -implicitDefEqProofs [*, downTo, h3]) | (refine pureV_if (by omega) ?_; simp -implicitDefEqProofs [*, downTo, h3]))
  repeat' apply And.intro
  all_goals repeat' (first | (refine callThen_of (by first | exact c5) ?_; simp -implicitDefEqProofs [*, downTo, h3]) | (with_reducible refine gOps_dec (fun _ => ?_) (fun _ => ?_) <;> simp -implicitDefEqProofs [*, downTo, h3]) | (with_reducible refine gOps_ndec (fun _ => ?_) (fun _ => ?_) <;> simp -implicitDefEqProofs [*, downTo, h3]) | (with_reducible refine gOps_and (fun hq => ?_) (fun hq => ?_) <;> (try simp at hq) <;> simp -implicitDefEqProofs [*, downTo, h3]) | (with_reducible refine gOps_or (fun hq => ?_) (fun hq => ?_) <;> (try simp at hq) <;> simp -implicitDefEqProofs [*, downTo, h3]) | (with_reducible refine gOps_not (fun hq => ?_) (fun hq => ?_) <;> (try simp at hq) <;> simp -implicitDefEqProofs [*, downTo, h3]) | (with_reducible refine gOps_split (fun hq => ?_) (fun hq => ?_) <;> (try simp at hq) <;> simp -implicitDefEqProofs [*, downTo, h3]) | (with_reducible refine condC_dec (fun _ => ?_) (fun _ => ?_) <;> simp -implicitDefEqProofs [*, downTo, h3]) | (with_reducible refine condC_ndec (fun _ => ?_) (fun _ => ?_) <;> simp -implicitDefEqProofs [*, downTo, h3]) | (with_reducible refine condC_and (fun hq => ?_) (fun hq => ?_) <;> (try simp at hq) <;> simp -implicitDefEqProofs [*, downTo, h3]) | (with_reducible refine condC_or (fun hq => ?_) (fun hq => ?_) <;> (try simp at hq) <;> simp -implicitDefEqProofs [*, downTo, h3]) | (with_reducible refine condC_not (fun hq => ?_) (fun hq => ?_) <;> (try simp at hq) <;> simp -implicitDefEqProofs [*, downTo, h3]) | (with_reducible refine condC_split (fun hq => ?_) (fun hq => ?_) <;> (try simp at hq) <;> simp -implicitDefEqProofs [*, downTo, h3]) | (refine appK2_if (by omega) ?_; simp -implicitDefEqProofs [*, downTo, h3]) | (refine pureV_if (by omega) ?_; simp -implicitDefEqProofs [*, downTo, h3]))
theorem ref_Get_no (x : Node) (key : Int) (hs : x.small) (h : (nodeUp x && place key) = false) : Den PP 17 [nodeD x, .int .i64 key] [] (.tup [.agg [.bool false, .int .i64 0, .nil, .nil, .nil, .nil], .ref 0 0 0, .int .i64 2100]) [⟨[], 11, .mut⟩] := by
  have c1 := ref_upMay x hs
  have c2 := ref_PlaceMay key
  generalize nodeUp x = U at *
  generalize place key = M at *
  simp only [nodeD, Node.cells, peersD, intsD, itemsD, toldsD, Item.row] at c1 c2 ⊢
  refine den_of [] [] is_gimmalref16_Get ?_
  cases U <;> cases M
  all_goals
    simp at h
  all_goals
    simp -implicitDefEqProofs [c_gimmalref16_Get]
    repeat' (first | (refine callThen_of (by first | exact c1 | exact c2) ?_; simp -implicitDefEqProofs [*]) | (with_reducible refine gOps_dec (fun _ => ?_) (fun _ => ?_) <;> simp -implicitDefEqProofs [*]) | (with_reducible refine gOps_ndec (fun _ => ?_) (fun _ => ?_) <;> simp -implicitDefEqProofs [*]) | (with_reducible refine gOps_and (fun hq => ?_) (fun hq => ?_) <;> (try simp at hq) <;> simp -implicitDefEqProofs [*]) | (with_reducible refine gOps_or (fun hq => ?_) (fun hq => ?_) <;> (try simp at hq) <;> simp -implicitDefEqProofs [*]) | (with_reducible refine gOps_not (fun hq => ?_) (fun hq => ?_) <;> (try simp at hq) <;> simp -implicitDefEqProofs [*]) | (with_reducible refine gOps_split (fun hq => ?_) (fun hq => ?_) <;> (try simp at hq) <;> simp -implicitDefEqProofs [*]) | (with_reducible refine condC_dec (fun _ => ?_) (fun _ => ?_) <;> simp -implicitDefEqProofs [*]) | (with_reducible refine condC_ndec (fun _ => ?_) (fun _ => ?_) <;> simp -implicitDefEqProofs [*]) | (with_reducible refine condC_and (fun hq => ?_) (fun hq => ?_) <;> (try simp at hq) <;> simp -implicitDefEqProofs [*]) | (with_reducible refine condC_or (fun hq => ?_) (fun hq => ?_) <;> (try simp at hq) <;> simp -implicitDefEqProofs [*]) | (with_reducible refine condC_not (fun hq => ?_) (fun hq => ?_) <;> (try simp at hq) <;> simp -implicitDefEqProofs [*]) | (with_reducible refine condC_split (fun hq => ?_) (fun hq => ?_) <;> (try simp at hq) <;> simp -implicitDefEqProofs [*]) | (refine appK2_if (by omega) ?_; simp -implicitDefEqProofs [*]) | (refine pureV_if (by omega) ?_; simp -implicitDefEqProofs [*]))
theorem ref_Get_own (x : Node) (key : Int) (hs : x.small) (h1 : nodeUp x = true) (h2 : place key = true) (h3 : (ownerV x.view key).1 = x.view.id) : Den PP 17 [nodeD x, .int .i64 key] [] (.tup [noteD x (logPre x (gotT x key)) (logOf x (gotT x key)), .ref 4 0 0, .int .i64 0]) (noteB x (logPre x (gotT x key)) (logOf x (gotT x key)) ++ [⟨[], 11, .mut⟩]) := by
  have c1 := ref_upMay x hs
  have c2 := ref_PlaceMay key
  have c3 := ref_Owner x.view key hs.1
  have c4 := ref_GetStore x.items key (by have := hs.2.1; unfold cap16; omega)
  have c5 := ref_noted x key (getR x.items key).1 (getR x.items key).2 hs (nodeUp_log h1)
  rw [h1] at c1
  rw [h2] at c2
  unfold gotT
  generalize getR x.items key = r at *
  obtain ⟨⟨ik, ic, iw, iv, ig⟩, g2⟩ := r
  generalize hlp : logPre x (toldOf key _ _) = pre at *
  generalize hlo : logOf x (toldOf key _ _) = xs at *
  clear hlp hlo
  generalize ownerV x.view key = o at *
  obtain ⟨o1, o2⟩ := o
  simp only at h3
  subst h3
  simp only [nodeD, Node.cells, viewD, View.cells, peersD, intsD, itemsD, toldsD, Item.row, noteD, noteB, pairD] at c1 c2 c3 c4 c5 ⊢
  clear h1 h2
  refine den_of [43] [] is_gimmalref16_Get ?_
  simp -implicitDefEqProofs [c_gimmalref16_Get]
  repeat' (first | (refine callThen_of (by first | exact c1 | exact c2 | exact c3 | exact c4 | exact c5) ?_; simp -implicitDefEqProofs [*, downTo]) | (with_reducible refine gOps_dec (fun _ => ?_) (fun _ => ?_) <;> simp -implicitDefEqProofs [*, downTo]) | (with_reducible refine gOps_ndec (fun _ => ?_) (fun _ => ?_) <;> simp -implicitDefEqProofs [*, downTo]) | (with_reducible refine gOps_and (fun hq => ?_) (fun hq => ?_) <;> (try simp at hq) <;> simp -implicitDefEqProofs [*, downTo]) | (with_reducible refine gOps_or (fun hq => ?_) (fun hq => ?_) <;> (try simp at hq) <;> simp -implicitDefEqProofs [*, downTo]) | (with_reducible refine gOps_not (fun hq => ?_) (fun hq => ?_) <;> (try simp at hq) <;> simp -implicitDefEqProofs [*, downTo]) | (with_reducible refine gOps_split (fun hq => ?_) (fun hq => ?_) <;> (try simp at hq) <;> simp -implicitDefEqProofs [*, downTo]) | (with_reducible refine condC_dec (fun _ => ?_) (fun _ => ?_) <;> simp -implicitDefEqProofs [*, downTo]) | (with_reducible refine condC_ndec (fun _ => ?_) (fun _ => ?_) <;> simp -implicitDefEqProofs [*, downTo]) | (with_reducible refine condC_and (fun hq => ?_) (fun hq => ?_) <;> (try simp at hq) <;> simp -implicitDefEqProofs [*, downTo]) | (with_reducible refine condC_or (fun hq => ?_) (fun hq => ?_) <;> (try simp at hq) <;> simp -implicitDefEqProofs [*, downTo]) | (with_reducible refine condC_not (fun hq => ?_) (fun hq => ?_) <;> (try simp at hq) <;> simp -implicitDefEqProofs [*, downTo]) | (with_reducible refine condC_split (fun hq => ?_) (fun hq => ?_) <;> (try simp at hq) <;> simp -implicitDefEqProofs [*, downTo]) | (refine appK2_if (by omega) ?_; simp -implicitDefEqProofs [*, downTo]) | (refine pureV_if (by omega) ?_; simp -implicitDefEqProofs [*, downTo]))
theorem ref_Get_far (x : Node) (key : Int) (hs : x.small) (h1 : nodeUp x = true) (h2 : place key = true) (h3 : (ownerV x.view key).1 ≠ x.view.id) : Den PP 17 [nodeD x, .int .i64 key] [] (.tup [copyD x, .ref 4 0 1, .int .i64 0]) (nodeB x ++ [⟨[askOf x (ownerV x.view key).1 key].map Msg.row0, 11, .mut⟩]) := by
  have c1 := ref_upMay x hs
  have c2 := ref_PlaceMay key
  have c3 := ref_Owner x.view key hs.1
  have c5 := ref_copyNode x hs
  rw [h1] at c1
  rw [h2] at c2
  generalize ownerV x.view key = o at *
  obtain ⟨o1, o2⟩ := o
  simp only at h3
  simp only [nodeD, Node.cells, viewD, View.cells, peersD, intsD, itemsD, toldsD, Item.row, copyD, nodeB, pairD, askOf, zeroItem, Msg.row0, List.map_cons, List.map_nil] at c1 c2 c3 c5 ⊢
  clear h1 h2
  refine den_of [45] [] is_gimmalref16_Get ?_
  simp -implicitDefEqProofs [c_gimmalref16_Get]
  repeat' (first | (refine callThen_of (by first | exact c1 | exact c2 | exact c3) ?_; simp -implicitDefEqProofs [*, downTo, h3]) | (with_reducible refine gOps_dec (fun _ => ?_) (fun _ => ?_) <;> simp -implicitDefEqProofs [*, downTo, h3]) | (with_reducible refine gOps_ndec (fun _ => ?_) (fun _ => ?_) <;> simp -implicitDefEqProofs [*, downTo, h3]) | (with_reducible refine gOps_and (fun hq => ?_) (fun hq => ?_) <;> (try simp at hq) <;> simp -implicitDefEqProofs [*, downTo, h3]) | (with_reducible refine gOps_or (fun hq => ?_) (fun hq => ?_) <;> (try simp at hq) <;> simp -implicitDefEqProofs [*, downTo, h3]) | (with_reducible refine gOps_not (fun hq => ?_) (fun hq => ?_) <;> (try simp at hq) <;> simp -implicitDefEqProofs [*, downTo, h3]) | (with_reducible refine gOps_split (fun hq => ?_) (fun hq => ?_) <;> (try simp at hq) <;> simp -implicitDefEqProofs [*, downTo, h3]) | (with_reducible refine condC_dec (fun _ => ?_) (fun _ => ?_) <;> simp -implicitDefEqProofs [*, downTo, h3]) | (with_reducible refine condC_ndec (fun _ => ?_) (fun _ => ?_) <;> simp -implicitDefEqProofs [*, downTo, h3]) | (with_reducible refine condC_and (fun hq => ?_) (fun hq => ?_) <;> (try simp at hq) <;> simp -implicitDefEqProofs [*, downTo, h3]) | (with_reducible refine condC_or (fun hq => ?_) (fun hq => ?_) <;> (try simp at hq) <;> simp -implicitDefEqProofs [*, downTo, h3]) | (with_reducible refine condC_not (fun hq => ?_) (fun hq => ?_) <;> (try simp at hq) <;> simp -implicitDefEqProofs [*, downTo, h3]) | (with_reducible refine condC_split (fun hq => ?_) (fun hq => ?_) <;> (try simp at hq) <;> simp -implicitDefEqProofs [*, downTo, h3]) | (refine appK2_if (by omega) ?_; simp -implicitDefEqProofs [*, downTo, h3]) | (refine pureV_if (by omega) ?_; simp -implicitDefEqProofs [*, downTo, h3]))
  repeat' apply And.intro
  all_goals repeat' (first | (refine callThen_of (by first | exact c5) ?_; simp -implicitDefEqProofs [*, downTo, h3]) | (with_reducible refine gOps_dec (fun _ => ?_) (fun _ => ?_) <;> simp -implicitDefEqProofs [*, downTo, h3]) | (with_reducible refine gOps_ndec (fun _ => ?_) (fun _ => ?_) <;> simp -implicitDefEqProofs [*, downTo, h3]) | (with_reducible refine gOps_and (fun hq => ?_) (fun hq => ?_) <;> (try simp at hq) <;> simp -implicitDefEqProofs [*, downTo, h3]) | (with_reducible refine gOps_or (fun hq => ?_) (fun hq => ?_) <;> (try simp at hq) <;> simp -implicitDefEqProofs [*, downTo, h3]) | (with_reducible refine gOps_not (fun hq => ?_) (fun hq => ?_) <;> (try simp at hq) <;> simp -implicitDefEqProofs [*, downTo, h3]) | (with_reducible refine gOps_split (fun hq => ?_) (fun hq => ?_) <;> (try simp at hq) <;> simp -implicitDefEqProofs [*, downTo, h3]) | (with_reducible refine condC_dec (fun _ => ?_) (fun _ => ?_) <;> simp -implicitDefEqProofs [*, downTo, h3]) | (with_reducible refine condC_ndec (fun _ => ?_) (fun _ => ?_) <;> simp -implicitDefEqProofs [*, downTo, h3]) | (with_reducible refine condC_and (fun hq => ?_) (fun hq => ?_) <;> (try simp at hq) <;> simp -implicitDefEqProofs [*, downTo, h3]) | (with_reducible refine condC_or (fun hq => ?_) (fun hq => ?_) <;> (try simp at hq) <;> simp -implicitDefEqProofs [*, downTo, h3]) | (with_reducible refine condC_not (fun hq => ?_) (fun hq => ?_) <;> (try simp at hq) <;> simp -implicitDefEqProofs [*, downTo, h3]) | (with_reducible refine condC_split (fun hq => ?_) (fun hq => ?_) <;> (try simp at hq) <;> simp -implicitDefEqProofs [*, downTo, h3]) | (refine appK2_if (by omega) ?_; simp -implicitDefEqProofs [*, downTo, h3]) | (refine pureV_if (by omega) ?_; simp -implicitDefEqProofs [*, downTo, h3]))
def tellOf (x : Node) (m : Msg) : Msg := ⟨3, x.view.id, m.from_, [], m.key, (getR x.items m.key).1, (getR x.items m.key).2⟩
theorem ask_Answer_no (x : Node) (m : Msg) (hs : x.small) (hl : m.ids.length ≤ cap) (h : toB x m 2 = false) : Den PP 18 [nodeD x, msgD m] [] (.tup [.ref 0 0 0, .int .i64 2100]) [⟨[], 11, .mut⟩] := by
  have c1 := ask_to x m 2 hs hl
  rw [h] at c1
  simp only [nodeD, Node.cells, peersD, intsD, itemsD, toldsD, Item.row, msgD, Msg.row] at c1 ⊢
  refine den_of [] [] is_ask_Answer ?_
  simp -implicitDefEqProofs [c_ask_Answer]
  repeat' (first | (refine callThen_of (by first | exact c1) ?_; simp -implicitDefEqProofs [*]) | (with_reducible refine gOps_dec (fun _ => ?_) (fun _ => ?_) <;> simp -implicitDefEqProofs [*]) | (with_reducible refine gOps_ndec (fun _ => ?_) (fun _ => ?_) <;> simp -implicitDefEqProofs [*]) | (with_reducible refine gOps_and (fun hq => ?_) (fun hq => ?_) <;> (try simp at hq) <;> simp -implicitDefEqProofs [*]) | (with_reducible refine gOps_or (fun hq => ?_) (fun hq => ?_) <;> (try simp at hq) <;> simp -implicitDefEqProofs [*]) | (with_reducible refine gOps_not (fun hq => ?_) (fun hq => ?_) <;> (try simp at hq) <;> simp -implicitDefEqProofs [*]) | (with_reducible refine gOps_split (fun hq => ?_) (fun hq => ?_) <;> (try simp at hq) <;> simp -implicitDefEqProofs [*]) | (with_reducible refine condC_dec (fun _ => ?_) (fun _ => ?_) <;> simp -implicitDefEqProofs [*]) | (with_reducible refine condC_ndec (fun _ => ?_) (fun _ => ?_) <;> simp -implicitDefEqProofs [*]) | (with_reducible refine condC_and (fun hq => ?_) (fun hq => ?_) <;> (try simp at hq) <;> simp -implicitDefEqProofs [*]) | (with_reducible refine condC_or (fun hq => ?_) (fun hq => ?_) <;> (try simp at hq) <;> simp -implicitDefEqProofs [*]) | (with_reducible refine condC_not (fun hq => ?_) (fun hq => ?_) <;> (try simp at hq) <;> simp -implicitDefEqProofs [*]) | (with_reducible refine condC_split (fun hq => ?_) (fun hq => ?_) <;> (try simp at hq) <;> simp -implicitDefEqProofs [*]) | (refine appK2_if (by omega) ?_; simp -implicitDefEqProofs [*]) | (refine pureV_if (by omega) ?_; simp -implicitDefEqProofs [*]))
theorem ask_Answer_ok (x : Node) (m : Msg) (hs : x.small) (hl : m.ids.length ≤ cap) (h : toB x m 2 = true) : Den PP 18 [nodeD x, msgD m] [] (.tup [.ref 0 0 1, .int .i64 0]) [⟨[tellOf x m].map Msg.row0, 11, .mut⟩] := by
  have c1 := ask_to x m 2 hs hl
  have c4 := store_Get x.items m.key (by have := hs.2.1; unfold cap16; omega)
  rw [h] at c1
  unfold tellOf
  generalize getR x.items m.key = r at *
  obtain ⟨⟨ik, ic, iw, iv, ig⟩, g2⟩ := r
  simp only [nodeD, Node.cells, peersD, intsD, itemsD, toldsD, Item.row, msgD, Msg.row, Msg.row0, List.map_cons, List.map_nil] at c1 c4 ⊢
  clear h
  refine den_of [] [] is_ask_Answer ?_
  simp -implicitDefEqProofs [c_ask_Answer]
  repeat' (first | (refine callThen_of (by first | exact c1 | exact c4) ?_; simp -implicitDefEqProofs [*, downTo]) | (with_reducible refine gOps_dec (fun _ => ?_) (fun _ => ?_) <;> simp -implicitDefEqProofs [*, downTo]) | (with_reducible refine gOps_ndec (fun _ => ?_) (fun _ => ?_) <;> simp -implicitDefEqProofs [*, downTo]) | (with_reducible refine gOps_and (fun hq => ?_) (fun hq => ?_) <;> (try simp at hq) <;> simp -implicitDefEqProofs [*, downTo]) | (with_reducible refine gOps_or (fun hq => ?_) (fun hq => ?_) <;> (try simp at hq) <;> simp -implicitDefEqProofs [*, downTo]) | (with_reducible refine gOps_not (fun hq => ?_) (fun hq => ?_) <;> (try simp at hq) <;> simp -implicitDefEqProofs [*, downTo]) | (with_reducible refine gOps_split (fun hq => ?_) (fun hq => ?_) <;> (try simp at hq) <;> simp -implicitDefEqProofs [*, downTo]) | (with_reducible refine condC_dec (fun _ => ?_) (fun _ => ?_) <;> simp -implicitDefEqProofs [*, downTo]) | (with_reducible refine condC_ndec (fun _ => ?_) (fun _ => ?_) <;> simp -implicitDefEqProofs [*, downTo]) | (with_reducible refine condC_and (fun hq => ?_) (fun hq => ?_) <;> (try simp at hq) <;> simp -implicitDefEqProofs [*, downTo]) | (with_reducible refine condC_or (fun hq => ?_) (fun hq => ?_) <;> (try simp at hq) <;> simp -implicitDefEqProofs [*, downTo]) | (with_reducible refine condC_not (fun hq => ?_) (fun hq => ?_) <;> (try simp at hq) <;> simp -implicitDefEqProofs [*, downTo]) | (with_reducible refine condC_split (fun hq => ?_) (fun hq => ?_) <;> (try simp at hq) <;> simp -implicitDefEqProofs [*, downTo]) | (refine appK2_if (by omega) ?_; simp -implicitDefEqProofs [*, downTo]) | (refine pureV_if (by omega) ?_; simp -implicitDefEqProofs [*, downTo]))
  repeat' apply And.intro
  all_goals repeat' (first | (with_reducible refine gOps_dec (fun _ => ?_) (fun _ => ?_) <;> simp -implicitDefEqProofs [*, downTo]) | (with_reducible refine gOps_ndec (fun _ => ?_) (fun _ => ?_) <;> simp -implicitDefEqProofs [*, downTo]) | (with_reducible refine gOps_and (fun hq => ?_) (fun hq => ?_) <;> (try simp at hq) <;> simp -implicitDefEqProofs [*, downTo]) | (with_reducible refine gOps_or (fun hq => ?_) (fun hq => ?_) <;> (try simp at hq) <;> simp -implicitDefEqProofs [*, downTo]) | (with_reducible refine gOps_not (fun hq => ?_) (fun hq => ?_) <;> (try simp at hq) <;> simp -implicitDefEqProofs [*, downTo]) | (with_reducible refine gOps_split (fun hq => ?_) (fun hq => ?_) <;> (try simp at hq) <;> simp -implicitDefEqProofs [*, downTo]) | (with_reducible refine condC_dec (fun _ => ?_) (fun _ => ?_) <;> simp -implicitDefEqProofs [*, downTo]) | (with_reducible refine condC_ndec (fun _ => ?_) (fun _ => ?_) <;> simp -implicitDefEqProofs [*, downTo]) | (with_reducible refine condC_and (fun hq => ?_) (fun hq => ?_) <;> (try simp at hq) <;> simp -implicitDefEqProofs [*, downTo]) | (with_reducible refine condC_or (fun hq => ?_) (fun hq => ?_) <;> (try simp at hq) <;> simp -implicitDefEqProofs [*, downTo]) | (with_reducible refine condC_not (fun hq => ?_) (fun hq => ?_) <;> (try simp at hq) <;> simp -implicitDefEqProofs [*, downTo]) | (with_reducible refine condC_split (fun hq => ?_) (fun hq => ?_) <;> (try simp at hq) <;> simp -implicitDefEqProofs [*, downTo]) | (refine appK2_if (by omega) ?_; simp -implicitDefEqProofs [*, downTo]) | (refine pureV_if (by omega) ?_; simp -implicitDefEqProofs [*, downTo]))
theorem ref_Answer_no (x : Node) (m : Msg) (hs : x.small) (hl : m.ids.length ≤ cap) (h : toB x m 2 = false) : Den PP 19 [nodeD x, msgD m] [] (.tup [.ref 0 0 0, .int .i64 2100]) [⟨[], 11, .mut⟩] := by
  have c1 := ref_upMay x hs
  have c2 := ref_MsgMay m hl
  unfold toB at h
  generalize nodeUp x = U at *
  generalize msgMay m = M at *
  simp only [nodeD, Node.cells, peersD, intsD, itemsD, toldsD, Item.row, msgD, Msg.row] at c1 c2 ⊢
  refine den_of [] [] is_gimmalref16_Answer ?_
  cases U <;> cases M
  all_goals
    simp at h
  all_goals
    simp -implicitDefEqProofs [c_gimmalref16_Answer]
    repeat' (first | (refine callThen_of (by first | exact c1 | exact c2) ?_; simp -implicitDefEqProofs [*]) | (with_reducible refine gOps_dec (fun _ => ?_) (fun _ => ?_) <;> simp -implicitDefEqProofs [*]) | (with_reducible refine gOps_ndec (fun _ => ?_) (fun _ => ?_) <;> simp -implicitDefEqProofs [*]) | (with_reducible refine gOps_and (fun hq => ?_) (fun hq => ?_) <;> (try simp at hq) <;> simp -implicitDefEqProofs [*]) | (with_reducible refine gOps_or (fun hq => ?_) (fun hq => ?_) <;> (try simp at hq) <;> simp -implicitDefEqProofs [*]) | (with_reducible refine gOps_not (fun hq => ?_) (fun hq => ?_) <;> (try simp at hq) <;> simp -implicitDefEqProofs [*]) | (with_reducible refine gOps_split (fun hq => ?_) (fun hq => ?_) <;> (try simp at hq) <;> simp -implicitDefEqProofs [*]) | (with_reducible refine condC_dec (fun _ => ?_) (fun _ => ?_) <;> simp -implicitDefEqProofs [*]) | (with_reducible refine condC_ndec (fun _ => ?_) (fun _ => ?_) <;> simp -implicitDefEqProofs [*]) | (with_reducible refine condC_and (fun hq => ?_) (fun hq => ?_) <;> (try simp at hq) <;> simp -implicitDefEqProofs [*]) | (with_reducible refine condC_or (fun hq => ?_) (fun hq => ?_) <;> (try simp at hq) <;> simp -implicitDefEqProofs [*]) | (with_reducible refine condC_not (fun hq => ?_) (fun hq => ?_) <;> (try simp at hq) <;> simp -implicitDefEqProofs [*]) | (with_reducible refine condC_split (fun hq => ?_) (fun hq => ?_) <;> (try simp at hq) <;> simp -implicitDefEqProofs [*]) | (refine appK2_if (by omega) ?_; simp -implicitDefEqProofs [*]) | (refine pureV_if (by omega) ?_; simp -implicitDefEqProofs [*]))
  all_goals (exfalso; grind)
theorem ref_Answer_ok (x : Node) (m : Msg) (hs : x.small) (hl : m.ids.length ≤ cap) (h : toB x m 2 = true) : Den PP 19 [nodeD x, msgD m] [] (.tup [.ref 0 0 1, .int .i64 0]) [⟨[tellOf x m].map Msg.row0, 11, .mut⟩] := by
  have c1 := ref_upMay x hs
  have c2 := ref_MsgMay m hl
  have c4 := ref_GetStore x.items m.key (by have := hs.2.1; unfold cap16; omega)
  unfold toB at h
  simp only [Bool.and_eq_true, decide_eq_true_eq] at h
  obtain ⟨h1, h2, h3, h4⟩ := h
  rw [h1] at c1
  rw [h2] at c2
  clear h1 h2
  unfold tellOf
  generalize getR x.items m.key = r at *
  obtain ⟨⟨ik, ic, iw, iv, ig⟩, g2⟩ := r
  simp only [nodeD, Node.cells, peersD, intsD, itemsD, toldsD, Item.row, msgD, Msg.row, Msg.row0, List.map_cons, List.map_nil, h3, h4] at c1 c2 c4 ⊢
  refine den_of [] [] is_gimmalref16_Answer ?_
  simp -implicitDefEqProofs [c_gimmalref16_Answer]
  repeat' (first | (refine callThen_of (by first | exact c1 | exact c2 | exact c4) ?_; simp -implicitDefEqProofs [*, downTo]) | (with_reducible refine gOps_dec (fun _ => ?_) (fun _ => ?_) <;> simp -implicitDefEqProofs [*, downTo]) | (with_reducible refine gOps_ndec (fun _ => ?_) (fun _ => ?_) <;> simp -implicitDefEqProofs [*, downTo]) | (with_reducible refine gOps_and (fun hq => ?_) (fun hq => ?_) <;> (try simp at hq) <;> simp -implicitDefEqProofs [*, downTo]) | (with_reducible refine gOps_or (fun hq => ?_) (fun hq => ?_) <;> (try simp at hq) <;> simp -implicitDefEqProofs [*, downTo]) | (with_reducible refine gOps_not (fun hq => ?_) (fun hq => ?_) <;> (try simp at hq) <;> simp -implicitDefEqProofs [*, downTo]) | (with_reducible refine gOps_split (fun hq => ?_) (fun hq => ?_) <;> (try simp at hq) <;> simp -implicitDefEqProofs [*, downTo]) | (with_reducible refine condC_dec (fun _ => ?_) (fun _ => ?_) <;> simp -implicitDefEqProofs [*, downTo]) | (with_reducible refine condC_ndec (fun _ => ?_) (fun _ => ?_) <;> simp -implicitDefEqProofs [*, downTo]) | (with_reducible refine condC_and (fun hq => ?_) (fun hq => ?_) <;> (try simp at hq) <;> simp -implicitDefEqProofs [*, downTo]) | (with_reducible refine condC_or (fun hq => ?_) (fun hq => ?_) <;> (try simp at hq) <;> simp -implicitDefEqProofs [*, downTo]) | (with_reducible refine condC_not (fun hq => ?_) (fun hq => ?_) <;> (try simp at hq) <;> simp -implicitDefEqProofs [*, downTo]) | (with_reducible refine condC_split (fun hq => ?_) (fun hq => ?_) <;> (try simp at hq) <;> simp -implicitDefEqProofs [*, downTo]) | (refine appK2_if (by omega) ?_; simp -implicitDefEqProofs [*, downTo]) | (refine pureV_if (by omega) ?_; simp -implicitDefEqProofs [*, downTo]))
  repeat' apply And.intro
  all_goals repeat' (first | (with_reducible refine gOps_dec (fun _ => ?_) (fun _ => ?_) <;> simp -implicitDefEqProofs [*, downTo]) | (with_reducible refine gOps_ndec (fun _ => ?_) (fun _ => ?_) <;> simp -implicitDefEqProofs [*, downTo]) | (with_reducible refine gOps_and (fun hq => ?_) (fun hq => ?_) <;> (try simp at hq) <;> simp -implicitDefEqProofs [*, downTo]) | (with_reducible refine gOps_or (fun hq => ?_) (fun hq => ?_) <;> (try simp at hq) <;> simp -implicitDefEqProofs [*, downTo]) | (with_reducible refine gOps_not (fun hq => ?_) (fun hq => ?_) <;> (try simp at hq) <;> simp -implicitDefEqProofs [*, downTo]) | (with_reducible refine gOps_split (fun hq => ?_) (fun hq => ?_) <;> (try simp at hq) <;> simp -implicitDefEqProofs [*, downTo]) | (with_reducible refine condC_dec (fun _ => ?_) (fun _ => ?_) <;> simp -implicitDefEqProofs [*, downTo]) | (with_reducible refine condC_ndec (fun _ => ?_) (fun _ => ?_) <;> simp -implicitDefEqProofs [*, downTo]) | (with_reducible refine condC_and (fun hq => ?_) (fun hq => ?_) <;> (try simp at hq) <;> simp -implicitDefEqProofs [*, downTo]) | (with_reducible refine condC_or (fun hq => ?_) (fun hq => ?_) <;> (try simp at hq) <;> simp -implicitDefEqProofs [*, downTo]) | (with_reducible refine condC_not (fun hq => ?_) (fun hq => ?_) <;> (try simp at hq) <;> simp -implicitDefEqProofs [*, downTo]) | (with_reducible refine condC_split (fun hq => ?_) (fun hq => ?_) <;> (try simp at hq) <;> simp -implicitDefEqProofs [*, downTo]) | (refine appK2_if (by omega) ?_; simp -implicitDefEqProofs [*, downTo]) | (refine pureV_if (by omega) ?_; simp -implicitDefEqProofs [*, downTo]))
theorem ask_Told_no (x : Node) (m : Msg) (hs : x.small) (hl : m.ids.length ≤ cap) (h : toB x m 3 = false) : Den PP 20 [nodeD x, msgD m] [] (.tup [.agg [.bool false, .int .i64 0, .nil, .nil, .nil, .nil], .int .i64 2100]) [] := by
  have c1 := ask_to x m 3 hs hl
  rw [h] at c1
  simp only [nodeD, Node.cells, peersD, intsD, itemsD, toldsD, Item.row, msgD, Msg.row] at c1 ⊢
  refine den_of [] [] is_ask_Told ?_
  simp -implicitDefEqProofs [c_ask_Told]
  repeat' (first | (refine callThen_of (by first | exact c1) ?_; simp -implicitDefEqProofs [*]) | (with_reducible refine gOps_dec (fun _ => ?_) (fun _ => ?_) <;> simp -implicitDefEqProofs [*]) | (with_reducible refine gOps_ndec (fun _ => ?_) (fun _ => ?_) <;> simp -implicitDefEqProofs [*]) | (with_reducible refine gOps_and (fun hq => ?_) (fun hq => ?_) <;> (try simp at hq) <;> simp -implicitDefEqProofs [*]) | (with_reducible refine gOps_or (fun hq => ?_) (fun hq => ?_) <;> (try simp at hq) <;> simp -implicitDefEqProofs [*]) | (with_reducible refine gOps_not (fun hq => ?_) (fun hq => ?_) <;> (try simp at hq) <;> simp -implicitDefEqProofs [*]) | (with_reducible refine gOps_split (fun hq => ?_) (fun hq => ?_) <;> (try simp at hq) <;> simp -implicitDefEqProofs [*]) | (with_reducible refine condC_dec (fun _ => ?_) (fun _ => ?_) <;> simp -implicitDefEqProofs [*]) | (with_reducible refine condC_ndec (fun _ => ?_) (fun _ => ?_) <;> simp -implicitDefEqProofs [*]) | (with_reducible refine condC_and (fun hq => ?_) (fun hq => ?_) <;> (try simp at hq) <;> simp -implicitDefEqProofs [*]) | (with_reducible refine condC_or (fun hq => ?_) (fun hq => ?_) <;> (try simp at hq) <;> simp -implicitDefEqProofs [*]) | (with_reducible refine condC_not (fun hq => ?_) (fun hq => ?_) <;> (try simp at hq) <;> simp -implicitDefEqProofs [*]) | (with_reducible refine condC_split (fun hq => ?_) (fun hq => ?_) <;> (try simp at hq) <;> simp -implicitDefEqProofs [*]) | (refine appK2_if (by omega) ?_; simp -implicitDefEqProofs [*]) | (refine pureV_if (by omega) ?_; simp -implicitDefEqProofs [*]))
def mT (m : Msg) : Told := toldOf m.key m.item m.has
theorem ask_Told_ok (x : Node) (m : Msg) (hs : x.small) (hl : m.ids.length ≤ cap) (h : toB x m 3 = true) : Den PP 20 [nodeD x, msgD m] [] (.tup [noteD x (logPre x (mT m)) (logOf x (mT m)), .int .i64 0]) (noteB x (logPre x (mT m)) (logOf x (mT m))) := by
  have c1 := ask_to x m 3 hs hl
  rw [h] at c1
  unfold toB at h
  simp only [Bool.and_eq_true, decide_eq_true_eq] at h
  have c5 := ask_note' x m.key m.item m.has hs (nodeUp_log h.1)
  clear h
  unfold mT
  generalize logPre x (toldOf m.key m.item m.has) = pre at *
  generalize logOf x (toldOf m.key m.item m.has) = xs at *
  simp only [nodeD, Node.cells, peersD, intsD, itemsD, toldsD, Item.row, msgD, Msg.row, noteD, noteB] at c1 c5 ⊢
  refine den_of [16] [] is_ask_Told ?_
  simp -implicitDefEqProofs [c_ask_Told]
  repeat' (first | (refine callThen_of (by first | exact c1 | exact c5) ?_; simp -implicitDefEqProofs [*, downTo]) | (with_reducible refine gOps_dec (fun _ => ?_) (fun _ => ?_) <;> simp -implicitDefEqProofs [*, downTo]) | (with_reducible refine gOps_ndec (fun _ => ?_) (fun _ => ?_) <;> simp -implicitDefEqProofs [*, downTo]) | (with_reducible refine gOps_and (fun hq => ?_) (fun hq => ?_) <;> (try simp at hq) <;> simp -implicitDefEqProofs [*, downTo]) | (with_reducible refine gOps_or (fun hq => ?_) (fun hq => ?_) <;> (try simp at hq) <;> simp -implicitDefEqProofs [*, downTo]) | (with_reducible refine gOps_not (fun hq => ?_) (fun hq => ?_) <;> (try simp at hq) <;> simp -implicitDefEqProofs [*, downTo]) | (with_reducible refine gOps_split (fun hq => ?_) (fun hq => ?_) <;> (try simp at hq) <;> simp -implicitDefEqProofs [*, downTo]) | (with_reducible refine condC_dec (fun _ => ?_) (fun _ => ?_) <;> simp -implicitDefEqProofs [*, downTo]) | (with_reducible refine condC_ndec (fun _ => ?_) (fun _ => ?_) <;> simp -implicitDefEqProofs [*, downTo]) | (with_reducible refine condC_and (fun hq => ?_) (fun hq => ?_) <;> (try simp at hq) <;> simp -implicitDefEqProofs [*, downTo]) | (with_reducible refine condC_or (fun hq => ?_) (fun hq => ?_) <;> (try simp at hq) <;> simp -implicitDefEqProofs [*, downTo]) | (with_reducible refine condC_not (fun hq => ?_) (fun hq => ?_) <;> (try simp at hq) <;> simp -implicitDefEqProofs [*, downTo]) | (with_reducible refine condC_split (fun hq => ?_) (fun hq => ?_) <;> (try simp at hq) <;> simp -implicitDefEqProofs [*, downTo]) | (refine appK2_if (by omega) ?_; simp -implicitDefEqProofs [*, downTo]) | (refine pureV_if (by omega) ?_; simp -implicitDefEqProofs [*, downTo]))
theorem ref_Told_no (x : Node) (m : Msg) (hs : x.small) (hl : m.ids.length ≤ cap) (h : toB x m 3 = false) : Den PP 21 [nodeD x, msgD m] [] (.tup [.agg [.bool false, .int .i64 0, .nil, .nil, .nil, .nil], .int .i64 2100]) [] := by
  have c1 := ref_upMay x hs
  have c2 := ref_MsgMay m hl
  unfold toB at h
  generalize nodeUp x = U at *
  generalize msgMay m = M at *
  simp only [nodeD, Node.cells, peersD, intsD, itemsD, toldsD, Item.row, msgD, Msg.row] at c1 c2 ⊢
  refine den_of [] [] is_gimmalref16_Told ?_
  cases U <;> cases M
  all_goals
    simp at h
  all_goals
    simp -implicitDefEqProofs [c_gimmalref16_Told]
    repeat' (first | (refine callThen_of (by first | exact c1 | exact c2) ?_; simp -implicitDefEqProofs [*]) | (with_reducible refine gOps_dec (fun _ => ?_) (fun _ => ?_) <;> simp -implicitDefEqProofs [*]) | (with_reducible refine gOps_ndec (fun _ => ?_) (fun _ => ?_) <;> simp -implicitDefEqProofs [*]) | (with_reducible refine gOps_and (fun hq => ?_) (fun hq => ?_) <;> (try simp at hq) <;> simp -implicitDefEqProofs [*]) | (with_reducible refine gOps_or (fun hq => ?_) (fun hq => ?_) <;> (try simp at hq) <;> simp -implicitDefEqProofs [*]) | (with_reducible refine gOps_not (fun hq => ?_) (fun hq => ?_) <;> (try simp at hq) <;> simp -implicitDefEqProofs [*]) | (with_reducible refine gOps_split (fun hq => ?_) (fun hq => ?_) <;> (try simp at hq) <;> simp -implicitDefEqProofs [*]) | (with_reducible refine condC_dec (fun _ => ?_) (fun _ => ?_) <;> simp -implicitDefEqProofs [*]) | (with_reducible refine condC_ndec (fun _ => ?_) (fun _ => ?_) <;> simp -implicitDefEqProofs [*]) | (with_reducible refine condC_and (fun hq => ?_) (fun hq => ?_) <;> (try simp at hq) <;> simp -implicitDefEqProofs [*]) | (with_reducible refine condC_or (fun hq => ?_) (fun hq => ?_) <;> (try simp at hq) <;> simp -implicitDefEqProofs [*]) | (with_reducible refine condC_not (fun hq => ?_) (fun hq => ?_) <;> (try simp at hq) <;> simp -implicitDefEqProofs [*]) | (with_reducible refine condC_split (fun hq => ?_) (fun hq => ?_) <;> (try simp at hq) <;> simp -implicitDefEqProofs [*]) | (refine appK2_if (by omega) ?_; simp -implicitDefEqProofs [*]) | (refine pureV_if (by omega) ?_; simp -implicitDefEqProofs [*]))
  all_goals (exfalso; grind)
theorem ref_Told_ok (x : Node) (m : Msg) (hs : x.small) (hl : m.ids.length ≤ cap) (h : toB x m 3 = true) : Den PP 21 [nodeD x, msgD m] [] (.tup [noteD x (logPre x (mT m)) (logOf x (mT m)), .int .i64 0]) (noteB x (logPre x (mT m)) (logOf x (mT m))) := by
  have c1 := ref_upMay x hs
  have c2 := ref_MsgMay m hl
  unfold toB at h
  simp only [Bool.and_eq_true, decide_eq_true_eq] at h
  obtain ⟨h1, h2, h3, h4⟩ := h
  have c5 := ref_noted x m.key m.item m.has hs (nodeUp_log h1)
  rw [h1] at c1
  rw [h2] at c2
  clear h1 h2
  unfold mT
  generalize logPre x (toldOf m.key m.item m.has) = pre at *
  generalize logOf x (toldOf m.key m.item m.has) = xs at *
  simp only [nodeD, Node.cells, peersD, intsD, itemsD, toldsD, Item.row, msgD, Msg.row, noteD, noteB, h3, h4] at c1 c2 c5 ⊢
  refine den_of [35] [] is_gimmalref16_Told ?_
  simp -implicitDefEqProofs [c_gimmalref16_Told]
  repeat' (first | (refine callThen_of (by first | exact c1 | exact c2 | exact c5) ?_; simp -implicitDefEqProofs [*, downTo]) | (with_reducible refine gOps_dec (fun _ => ?_) (fun _ => ?_) <;> simp -implicitDefEqProofs [*, downTo]) | (with_reducible refine gOps_ndec (fun _ => ?_) (fun _ => ?_) <;> simp -implicitDefEqProofs [*, downTo]) | (with_reducible refine gOps_and (fun hq => ?_) (fun hq => ?_) <;> (try simp at hq) <;> simp -implicitDefEqProofs [*, downTo]) | (with_reducible refine gOps_or (fun hq => ?_) (fun hq => ?_) <;> (try simp at hq) <;> simp -implicitDefEqProofs [*, downTo]) | (with_reducible refine gOps_not (fun hq => ?_) (fun hq => ?_) <;> (try simp at hq) <;> simp -implicitDefEqProofs [*, downTo]) | (with_reducible refine gOps_split (fun hq => ?_) (fun hq => ?_) <;> (try simp at hq) <;> simp -implicitDefEqProofs [*, downTo]) | (with_reducible refine condC_dec (fun _ => ?_) (fun _ => ?_) <;> simp -implicitDefEqProofs [*, downTo]) | (with_reducible refine condC_ndec (fun _ => ?_) (fun _ => ?_) <;> simp -implicitDefEqProofs [*, downTo]) | (with_reducible refine condC_and (fun hq => ?_) (fun hq => ?_) <;> (try simp at hq) <;> simp -implicitDefEqProofs [*, downTo]) | (with_reducible refine condC_or (fun hq => ?_) (fun hq => ?_) <;> (try simp at hq) <;> simp -implicitDefEqProofs [*, downTo]) | (with_reducible refine condC_not (fun hq => ?_) (fun hq => ?_) <;> (try simp at hq) <;> simp -implicitDefEqProofs [*, downTo]) | (with_reducible refine condC_split (fun hq => ?_) (fun hq => ?_) <;> (try simp at hq) <;> simp -implicitDefEqProofs [*, downTo]) | (refine appK2_if (by omega) ?_; simp -implicitDefEqProofs [*, downTo]) | (refine pureV_if (by omega) ?_; simp -implicitDefEqProofs [*, downTo]))
end Go.AM
