/- What the proof of this claim stands on, part 11. -/
import Derived.Test.YtbchikkljpmocaaAmZ10
/- AM: contracts: a greeting is taken. -/
namespace Go.AM
set_option linter.unusedSimpArgs false
set_option linter.unusedVariables false
set_option maxRecDepth 8000
set_option maxHeartbeats 0
theorem hello_Take_no (v : View) (a : Int) (ids : List Int) (hs : v.small) (hl : ids.length ≤ cap) (h : helloOk v a ids = false) : Den PP 17 [viewD v, .int .i64 a, intsD ids] [] (.tup [.agg [.int .i64 0, .nil, .nil], .int .i64 1000]) [] := by
  have c1 := view_May v hs
  have c2 := ring_Place a
  have c3 := ring_Places ids hl
  have e1 : decide (ids.length ≤ 16) = !decide ((16 : Int) < ids.length) := by
    rw [← decide_not, decide_eq_decide]; omega
  unfold helloOk at h
  rw [e1] at h
  clear e1
  simp only [viewD, View.cells, peersD, intsD] at c1 c3 ⊢
  generalize viewMay v = A at *
  generalize place a = B at *
  generalize ids.all place = C at *
  refine den_of [37] [38, 60] is_hello_Take ?_
  cases A <;> cases B <;> cases C
  all_goals
    simp -implicitDefEqProofs [c_hello_Take]
    repeat' (first | (refine callThen_of (by first | exact c1 | exact c2 | exact c3) ?_; simp -implicitDefEqProofs [*]) | (with_reducible refine gOps_dec (fun _ => ?_) (fun _ => ?_) <;> simp -implicitDefEqProofs [*]) | (with_reducible refine gOps_ndec (fun _ => ?_) (fun _ => ?_) <;> simp -implicitDefEqProofs [*]) | (with_reducible refine gOps_and (fun hq => ?_) (fun hq => ?_) <;> (try simp at hq) <;> simp -implicitDefEqProofs [*]) | (with_reducible refine gOps_or (fun hq => ?_) (fun hq => ?_) <;> (try simp at hq) <;> simp -implicitDefEqProofs [*]) | (with_reducible refine gOps_not (fun hq => ?_) (fun hq => ?_) <;> (try simp at hq) <;> simp -implicitDefEqProofs [*]) | (with_reducible refine gOps_split (fun hq => ?_) (fun hq => ?_) <;> (try simp at hq) <;> simp -implicitDefEqProofs [*]) | (with_reducible refine condC_dec (fun _ => ?_) (fun _ => ?_) <;> simp -implicitDefEqProofs [*]) | (with_reducible refine condC_ndec (fun _ => ?_) (fun _ => ?_) <;> simp -implicitDefEqProofs [*]) | (with_reducible refine condC_and (fun hq => ?_) (fun hq => ?_) <;> (try simp at hq) <;> simp -implicitDefEqProofs [*]) | (with_reducible refine condC_or (fun hq => ?_) (fun hq => ?_) <;> (try simp at hq) <;> simp -implicitDefEqProofs [*]) | (with_reducible refine condC_not (fun hq => ?_) (fun hq => ?_) <;> (try simp at hq) <;> simp -implicitDefEqProofs [*]) | (with_reducible refine condC_split (fun hq => ?_) (fun hq => ?_) <;> (try simp at hq) <;> simp -implicitDefEqProofs [*]) | (refine appK2_if (by omega) ?_; simp -implicitDefEqProofs [*]) | (refine pureV_if (by omega) ?_; simp -implicitDefEqProofs [*]))
  all_goals (exfalso; simp at h; grind)
theorem tellV_full {v : View} (h : 16 ≤ sizeV v) (x : Int) : tellV v x = v := by
  unfold tellV
  split
  · rename_i hc
    simp only [Bool.and_eq_true, Bool.not_eq_true'] at hc
    apply knownV_no
    unfold roomV
    rw [hc.2]
    unfold sizeV at h
    simp
    omega
  · rfl
theorem tells_full {v : View} (h : 16 ≤ sizeV v) : ∀ ids : List Int, ids.foldl tellV v = v := by
  intro ids
  induction ids with
  | nil => rfl
  | cons x ids ih => rw [List.foldl_cons, tellV_full h, ih]
theorem take_next {ids : List Int} {i : Nat} {x : Int} (h : ids[i]? = some x) (w0 : View) : (ids.take (i + 1)).foldl tellV w0 = tellV ((ids.take i).foldl tellV w0) x := by
  rw [List.take_add_one, h]
  simp
def B_Take (w : View) (bs : List Blk) : Prop := (∃ d0 d2 d3, bs = [d0, ⟨[[.int .i64 0, .nil, .nil]], 3, .box⟩, d2, d3, viewBox w 5 6, psB w, xsB w]) ∨ ∃ d0 d2 d3 d5 d6, bs = [d0, ⟨[[.int .i64 0, .nil, .nil]], 3, .box⟩, d2, d3, viewBox w 7 8, d5, d6, psB w, xsB w]
theorem hello_Take_yes (v : View) (a : Int) (ids : List Int) (hs : v.small) (h : helloOk v a ids = true) (hr : roomV v a = true) : Den PP 17 [viewD v, .int .i64 a, intsD ids] [] (.tup [.agg [.int .i64 v.id, .ref 0 0 (helloV v a ids).peers.length, .ref 1 0 (helloV v a ids).passive.length], .int .i64 0]) [psB (helloV v a ids), xsB (helloV v a ids)] := by
  obtain ⟨k1, k2, k3, k4, k5⟩ := helloOk_parts h
  have hcap : ids.length ≤ cap := by unfold cap; omega
  have c1 := view_May v hs
  have c2 := ring_Place a
  have c3 := ring_Places ids hcap
  have c4 := view_Copy v hs
  rw [k1] at c1
  rw [k2] at c2
  rw [show ids.all place = true from List.all_eq_true.2 k5] at c3
  have c5 := hello_heard v a k1 k2 k3
  rw [if_pos hr] at c5
  have hw0 := (knownV_may k1 k2 k3).1
  have hid0 := knownV_id v a
  have hk4 : ¬ (16 : Int) < ids.length := by omega
  unfold helloV
  generalize knownV v a = w0 at *
  have key : ∀ i, viewMay ((ids.take i).foldl tellV w0) = true ∧ ((ids.take i).foldl tellV w0).id = v.id := by
    intro i
    obtain ⟨e1, e2⟩ := tells_may (ids.take i) w0 hw0 (fun x hx => k5 x (List.mem_of_mem_take hx))
    exact ⟨e1, by rw [e2, hid0]⟩
  simp only [viewD, View.cells, peersD, intsD, viewBox, psB, xsB] at c1 c3 c4 c5 ⊢
  clear k1 k2 hs h hr
  refine den_of [37] [38, 60] is_hello_Take ?_
  simp -implicitDefEqProofs [c_hello_Take, hk4, k3]
  repeat' (first | (refine callThen_of (by first | exact c1 | exact c2 | exact c3 | exact c4) ?_; simp -implicitDefEqProofs [*, downTo, hk4, k3]) | (with_reducible refine gOps_dec (fun _ => ?_) (fun _ => ?_) <;> simp -implicitDefEqProofs [*, downTo, hk4, k3]) | (with_reducible refine gOps_ndec (fun _ => ?_) (fun _ => ?_) <;> simp -implicitDefEqProofs [*, downTo, hk4, k3]) | (with_reducible refine gOps_and (fun hq => ?_) (fun hq => ?_) <;> (try simp at hq) <;> simp -implicitDefEqProofs [*, downTo, hk4, k3]) | (with_reducible refine gOps_or (fun hq => ?_) (fun hq => ?_) <;> (try simp at hq) <;> simp -implicitDefEqProofs [*, downTo, hk4, k3]) | (with_reducible refine gOps_not (fun hq => ?_) (fun hq => ?_) <;> (try simp at hq) <;> simp -implicitDefEqProofs [*, downTo, hk4, k3]) | (with_reducible refine gOps_split (fun hq => ?_) (fun hq => ?_) <;> (try simp at hq) <;> simp -implicitDefEqProofs [*, downTo, hk4, k3]) | (with_reducible refine condC_dec (fun _ => ?_) (fun _ => ?_) <;> simp -implicitDefEqProofs [*, downTo, hk4, k3]) | (with_reducible refine condC_ndec (fun _ => ?_) (fun _ => ?_) <;> simp -implicitDefEqProofs [*, downTo, hk4, k3]) | (with_reducible refine condC_and (fun hq => ?_) (fun hq => ?_) <;> (try simp at hq) <;> simp -implicitDefEqProofs [*, downTo, hk4, k3]) | (with_reducible refine condC_or (fun hq => ?_) (fun hq => ?_) <;> (try simp at hq) <;> simp -implicitDefEqProofs [*, downTo, hk4, k3]) | (with_reducible refine condC_not (fun hq => ?_) (fun hq => ?_) <;> (try simp at hq) <;> simp -implicitDefEqProofs [*, downTo, hk4, k3]) | (with_reducible refine condC_split (fun hq => ?_) (fun hq => ?_) <;> (try simp at hq) <;> simp -implicitDefEqProofs [*, downTo, hk4, k3]) | (refine appK2_if (by omega) ?_; simp -implicitDefEqProofs [*, downTo, hk4, k3]) | (refine pureV_if (by omega) ?_; simp -implicitDefEqProofs [*, downTo, hk4, k3]))
  refine lendThen_frame [4, 2, 3] rfl (by decide) (by simp) c5 (by simp) (by simp [lentBs]) ?_
  simp -implicitDefEqProofs [framed]
  refine list_keep ids (fun i rest => fun ⟨fr, bs⟩ => B_Take ((ids.take i).foldl tellV w0) bs ∧ fr 6 = .ptr 1 0 0 ∧ fr 8 = .ptr 4 0 0 ∧ fr 40 = .sl (ids.map irow) ids.length ∧ fr 41 = .int .i64 ids.length ∧ fr 42 = .int .i64 i)
    (fun ⟨fr, bs⟩ => B_Take (ids.foldl tellV w0) bs ∧ fr 6 = .ptr 1 0 0 ∧ fr 8 = .ptr 4 0 0) (fun _ => False) c_hello_Take_L0.eq_1 ?_ ?_ ?_ ?_ ?_
  · exact ⟨.inl ⟨_, _, _, by simp [viewBox, psB, xsB]; exact ⟨rfl, rfl, rfl⟩⟩, by simp, by simp, by simp, by simp, by simp⟩
  · rintro i ⟨fr, bs⟩ hi ⟨hB, h6, h8, h40, h41, h42⟩
    rw [hi, List.take_length] at hB
    simp -implicitDefEqProofs [h6, h8, h40, h41, h42, hi]
    exact hB
  · rintro i x rest ⟨fr, bs⟩ hlt hget hg hd hd2 ⟨hB, h6, h8, h40, h41, h42⟩
    obtain ⟨w, hw⟩ : ∃ w, w = (ids.take i).foldl tellV w0 := ⟨_, rfl⟩
    rw [← hw] at hB
    have hlt' : (i : Int) < ids.length := by omega
    have hwr := wrap_next (n := i) (by omega)
    have hx := k5 x (List.mem_of_getElem? hget)
    have hkey := key i
    rw [← hw] at hkey
    obtain ⟨hm, hid⟩ := hkey
    have hnext := take_next hget w0
    rw [← hw] at hnext
    obtain ⟨p1, p2, p3, p4⟩ := viewMay_parts hm
    have v1 := view_Peer w x (by unfold cap; omega) (peersMay_rowed p1)
    rw [peerIs_mem p1 hx] at v1
    have v2 := view_Passive w x (by unfold cap; omega)
    have v3 : x ≠ w.id → _ := fun hn => hello_heard w x hm hx hn
    clear c1 c2 c3 c4 c5 key hw p1 p2 p3 p4
    obtain ⟨A, hA⟩ : ∃ A, (w.peers.map Peer.id).contains x = A := ⟨_, rfl⟩
    obtain ⟨C, hC⟩ : ∃ C, w.passive.contains x = C := ⟨_, rfl⟩
    have hkn : knowsV w x = (A || C) := by rw [← hA, ← hC]; rfl
    rw [hA] at v1
    rw [hC] at v2
    clear hA hC
    simp only [View.cells, peersD, intsD] at v1 v2
    have hr7 : List.range 7 = [0, 1, 2, 3, 4, 5, 6] := rfl
    clear hid hm
    by_cases hn : x = w.id
    · have ht : tellV w x = w := by unfold tellV; simp [hn]
      rw [ht] at hnext
      rcases hB with ⟨d0, d2, d3, rfl⟩ | ⟨d0, d2, d3, d5, d6, rfl⟩
      · simp -implicitDefEqProofs [h6, h8, h40, h41, h42, hlt, hlt', hget, hg, hn, hwr, viewBox, psB, xsB, irow]
        refine ⟨[], ⟨by simp, by simp, by simp⟩, ?_⟩
        unfold keepSt pickSt
        dsimp only
        try rw [hnext]
        exact ⟨.inl ⟨_, _, _, by simp [lentBs, hr7, viewBox, psB, xsB, irow]; repeat' (first | rfl | apply And.intro)⟩, by simp [h6, hr7], by simp [h8, hr7], by simp [h40], by simp [h41], by simp⟩
      · simp -implicitDefEqProofs [h6, h8, h40, h41, h42, hlt, hlt', hget, hg, hn, hwr, viewBox, psB, xsB, irow]
        refine ⟨[7, 8], ⟨by simp, by simp, by simp⟩, ?_⟩
        unfold keepSt pickSt
        dsimp only
        try rw [hnext]
        exact ⟨.inr ⟨_, _, _, _, _, by simp [lentBs, hr7, viewBox, psB, xsB, irow]; repeat' (first | rfl | apply And.intro)⟩, by simp [h6, hr7], by simp [h8, hr7], by simp [h40], by simp [h41], by simp⟩
    · have v4 := v3 hn
      clear v3
      cases hAC : (A || C) with
      | true =>
        have ht : tellV w x = w := by unfold tellV; simp [hkn, hAC]
        rw [ht] at hnext
        clear v4 hkn ht
        rcases hB with ⟨d0, d2, d3, rfl⟩ | ⟨d0, d2, d3, d5, d6, rfl⟩
        · cases A <;> cases C
          all_goals try (simp at hAC; done)
          all_goals
            clear hAC
            simp -implicitDefEqProofs [h6, h8, h40, h41, h42, hlt, hlt', hget, hg, hn, hwr, viewBox, psB, xsB, irow]
            repeat' (first | (refine callThen_of (by first | exact v1 | exact v2) ?_; simp -implicitDefEqProofs [*, h6, h8, h40, h41, h42, hlt, hlt', hget, hg, hn, hwr, viewBox, psB, xsB, irow]) | (with_reducible refine gOps_dec (fun _ => ?_) (fun _ => ?_) <;> simp -implicitDefEqProofs [*, h6, h8, h40, h41, h42, hlt, hlt', hget, hg, hn, hwr, viewBox, psB, xsB, irow]) | (with_reducible refine gOps_ndec (fun _ => ?_) (fun _ => ?_) <;> simp -implicitDefEqProofs [*, h6, h8, h40, h41, h42, hlt, hlt', hget, hg, hn, hwr, viewBox, psB, xsB, irow]) | (with_reducible refine gOps_and (fun hq => ?_) (fun hq => ?_) <;> (try simp at hq) <;> simp -implicitDefEqProofs [*, h6, h8, h40, h41, h42, hlt, hlt', hget, hg, hn, hwr, viewBox, psB, xsB, irow]) | (with_reducible refine gOps_or (fun hq => ?_) (fun hq => ?_) <;> (try simp at hq) <;> simp -implicitDefEqProofs [*, h6, h8, h40, h41, h42, hlt, hlt', hget, hg, hn, hwr, viewBox, psB, xsB, irow]) | (with_reducible refine gOps_not (fun hq => ?_) (fun hq => ?_) <;> (try simp at hq) <;> simp -implicitDefEqProofs [*, h6, h8, h40, h41, h42, hlt, hlt', hget, hg, hn, hwr, viewBox, psB, xsB, irow]) | (with_reducible refine gOps_split (fun hq => ?_) (fun hq => ?_) <;> (try simp at hq) <;> simp -implicitDefEqProofs [*, h6, h8, h40, h41, h42, hlt, hlt', hget, hg, hn, hwr, viewBox, psB, xsB, irow]) | (with_reducible refine condC_dec (fun _ => ?_) (fun _ => ?_) <;> simp -implicitDefEqProofs [*, h6, h8, h40, h41, h42, hlt, hlt', hget, hg, hn, hwr, viewBox, psB, xsB, irow]) | (with_reducible refine condC_ndec (fun _ => ?_) (fun _ => ?_) <;> simp -implicitDefEqProofs [*, h6, h8, h40, h41, h42, hlt, hlt', hget, hg, hn, hwr, viewBox, psB, xsB, irow]) | (with_reducible refine condC_and (fun hq => ?_) (fun hq => ?_) <;> (try simp at hq) <;> simp -implicitDefEqProofs [*, h6, h8, h40, h41, h42, hlt, hlt', hget, hg, hn, hwr, viewBox, psB, xsB, irow]) | (with_reducible refine condC_or (fun hq => ?_) (fun hq => ?_) <;> (try simp at hq) <;> simp -implicitDefEqProofs [*, h6, h8, h40, h41, h42, hlt, hlt', hget, hg, hn, hwr, viewBox, psB, xsB, irow]) | (with_reducible refine condC_not (fun hq => ?_) (fun hq => ?_) <;> (try simp at hq) <;> simp -implicitDefEqProofs [*, h6, h8, h40, h41, h42, hlt, hlt', hget, hg, hn, hwr, viewBox, psB, xsB, irow]) | (with_reducible refine condC_split (fun hq => ?_) (fun hq => ?_) <;> (try simp at hq) <;> simp -implicitDefEqProofs [*, h6, h8, h40, h41, h42, hlt, hlt', hget, hg, hn, hwr, viewBox, psB, xsB, irow]) | (refine appK2_if (by omega) ?_; simp -implicitDefEqProofs [*, h6, h8, h40, h41, h42, hlt, hlt', hget, hg, hn, hwr, viewBox, psB, xsB, irow]) | (refine pureV_if (by omega) ?_; simp -implicitDefEqProofs [*, h6, h8, h40, h41, h42, hlt, hlt', hget, hg, hn, hwr, viewBox, psB, xsB, irow]))
            refine ⟨[], ⟨by simp, by simp, by simp⟩, ?_⟩
            unfold keepSt pickSt
            dsimp only
            try rw [hnext]
            exact ⟨.inl ⟨_, _, _, by simp [lentBs, hr7, viewBox, psB, xsB, irow]; repeat' (first | rfl | apply And.intro)⟩, by simp [h6, hr7], by simp [h8, hr7], by simp [h40], by simp [h41], by simp⟩
        · cases A <;> cases C
          all_goals try (simp at hAC; done)
          all_goals
            clear hAC
            simp -implicitDefEqProofs [h6, h8, h40, h41, h42, hlt, hlt', hget, hg, hn, hwr, viewBox, psB, xsB, irow]
            repeat' (first | (refine callThen_of (by first | exact v1 | exact v2) ?_; simp -implicitDefEqProofs [*, h6, h8, h40, h41, h42, hlt, hlt', hget, hg, hn, hwr, viewBox, psB, xsB, irow]) | (with_reducible refine gOps_dec (fun _ => ?_) (fun _ => ?_) <;> simp -implicitDefEqProofs [*, h6, h8, h40, h41, h42, hlt, hlt', hget, hg, hn, hwr, viewBox, psB, xsB, irow]) | (with_reducible refine gOps_ndec (fun _ => ?_) (fun _ => ?_) <;> simp -implicitDefEqProofs [*, h6, h8, h40, h41, h42, hlt, hlt', hget, hg, hn, hwr, viewBox, psB, xsB, irow]) | (with_reducible refine gOps_and (fun hq => ?_) (fun hq => ?_) <;> (try simp at hq) <;> simp -implicitDefEqProofs [*, h6, h8, h40, h41, h42, hlt, hlt', hget, hg, hn, hwr, viewBox, psB, xsB, irow]) | (with_reducible refine gOps_or (fun hq => ?_) (fun hq => ?_) <;> (try simp at hq) <;> simp -implicitDefEqProofs [*, h6, h8, h40, h41, h42, hlt, hlt', hget, hg, hn, hwr, viewBox, psB, xsB, irow]) | (with_reducible refine gOps_not (fun hq => ?_) (fun hq => ?_) <;> (try simp at hq) <;> simp -implicitDefEqProofs [*, h6, h8, h40, h41, h42, hlt, hlt', hget, hg, hn, hwr, viewBox, psB, xsB, irow]) | (with_reducible refine gOps_split (fun hq => ?_) (fun hq => ?_) <;> (try simp at hq) <;> simp -implicitDefEqProofs [*, h6, h8, h40, h41, h42, hlt, hlt', hget, hg, hn, hwr, viewBox, psB, xsB, irow]) | (with_reducible refine condC_dec (fun _ => ?_) (fun _ => ?_) <;> simp -implicitDefEqProofs [*, h6, h8, h40, h41, h42, hlt, hlt', hget, hg, hn, hwr, viewBox, psB, xsB, irow]) | (with_reducible refine condC_ndec (fun _ => ?_) (fun _ => ?_) <;> simp -implicitDefEqProofs [*, h6, h8, h40, h41, h42, hlt, hlt', hget, hg, hn, hwr, viewBox, psB, xsB, irow]) | (with_reducible refine condC_and (fun hq => ?_) (fun hq => ?_) <;> (try simp at hq) <;> simp -implicitDefEqProofs [*, h6, h8, h40, h41, h42, hlt, hlt', hget, hg, hn, hwr, viewBox, psB, xsB, irow]) | (with_reducible refine condC_or (fun hq => ?_) (fun hq => ?_) <;> (try simp at hq) <;> simp -implicitDefEqProofs [*, h6, h8, h40, h41, h42, hlt, hlt', hget, hg, hn, hwr, viewBox, psB, xsB, irow]) | (with_reducible refine condC_not (fun hq => ?_) (fun hq => ?_) <;> (try simp at hq) <;> simp -implicitDefEqProofs [*, h6, h8, h40, h41, h42, hlt, hlt', hget, hg, hn, hwr, viewBox, psB, xsB, irow]) | (with_reducible refine condC_split (fun hq => ?_) (fun hq => ?_) <;> (try simp at hq) <;> simp -implicitDefEqProofs [*, h6, h8, h40, h41, h42, hlt, hlt', hget, hg, hn, hwr, viewBox, psB, xsB, irow]) | (refine appK2_if (by omega) ?_; simp -implicitDefEqProofs [*, h6, h8, h40, h41, h42, hlt, hlt', hget, hg, hn, hwr, viewBox, psB, xsB, irow]) | (refine pureV_if (by omega) ?_; simp -implicitDefEqProofs [*, h6, h8, h40, h41, h42, hlt, hlt', hget, hg, hn, hwr, viewBox, psB, xsB, irow]))
            refine ⟨[7, 8], ⟨by simp, by simp, by simp⟩, ?_⟩
            unfold keepSt pickSt
            dsimp only
            try rw [hnext]
            exact ⟨.inr ⟨_, _, _, _, _, by simp [lentBs, hr7, viewBox, psB, xsB, irow]; repeat' (first | rfl | apply And.intro)⟩, by simp [h6, hr7], by simp [h8, hr7], by simp [h40], by simp [h41], by simp⟩
      | false =>
        simp only [Bool.or_eq_false_iff] at hAC
        obtain ⟨rfl, rfl⟩ := hAC
        have ht : tellV w x = knownV w x := by unfold tellV; simp [hkn, hn]
        rw [ht] at hnext
        clear ht hkn
        cases hr : roomV w x with
        | false =>
          rw [knownV_no hr] at hnext
          rw [if_neg (by simp [hr])] at v4
          clear hr
          simp only [viewBox, psB, xsB] at v4
          rcases hB with ⟨d0, d2, d3, rfl⟩ | ⟨d0, d2, d3, d5, d6, rfl⟩
          · simp -implicitDefEqProofs [h6, h8, h40, h41, h42, hlt, hlt', hget, hg, hn, hwr, viewBox, psB, xsB, irow]
            repeat' (first | (refine callThen_of (by first | exact v1 | exact v2) ?_; simp -implicitDefEqProofs [*, h6, h8, h40, h41, h42, hlt, hlt', hget, hg, hn, hwr, viewBox, psB, xsB, irow]) | (with_reducible refine gOps_dec (fun _ => ?_) (fun _ => ?_) <;> simp -implicitDefEqProofs [*, h6, h8, h40, h41, h42, hlt, hlt', hget, hg, hn, hwr, viewBox, psB, xsB, irow]) | (with_reducible refine gOps_ndec (fun _ => ?_) (fun _ => ?_) <;> simp -implicitDefEqProofs [*, h6, h8, h40, h41, h42, hlt, hlt', hget, hg, hn, hwr, viewBox, psB, xsB, irow]) | (with_reducible refine gOps_and (fun hq => ?_) (fun hq => ?_) <;> (try simp at hq) <;> simp -implicitDefEqProofs [*, h6, h8, h40, h41, h42, hlt, hlt', hget, hg, hn, hwr, viewBox, psB, xsB, irow]) | (with_reducible refine gOps_or (fun hq => ?_) (fun hq => ?_) <;> (try simp at hq) <;> simp -implicitDefEqProofs [*, h6, h8, h40, h41, h42, hlt, hlt', hget, hg, hn, hwr, viewBox, psB, xsB, irow]) | (with_reducible refine gOps_not (fun hq => ?_) (fun hq => ?_) <;> (try simp at hq) <;> simp -implicitDefEqProofs [*, h6, h8, h40, h41, h42, hlt, hlt', hget, hg, hn, hwr, viewBox, psB, xsB, irow]) | (with_reducible refine gOps_split (fun hq => ?_) (fun hq => ?_) <;> (try simp at hq) <;> simp -implicitDefEqProofs [*, h6, h8, h40, h41, h42, hlt, hlt', hget, hg, hn, hwr, viewBox, psB, xsB, irow]) | (with_reducible refine condC_dec (fun _ => ?_) (fun _ => ?_) <;> simp -implicitDefEqProofs [*, h6, h8, h40, h41, h42, hlt, hlt', hget, hg, hn, hwr, viewBox, psB, xsB, irow]) | (with_reducible refine condC_ndec (fun _ => ?_) (fun _ => ?_) <;> simp -implicitDefEqProofs [*, h6, h8, h40, h41, h42, hlt, hlt', hget, hg, hn, hwr, viewBox, psB, xsB, irow]) | (with_reducible refine condC_and (fun hq => ?_) (fun hq => ?_) <;> (try simp at hq) <;> simp -implicitDefEqProofs [*, h6, h8, h40, h41, h42, hlt, hlt', hget, hg, hn, hwr, viewBox, psB, xsB, irow]) | (with_reducible refine condC_or (fun hq => ?_) (fun hq => ?_) <;> (try simp at hq) <;> simp -implicitDefEqProofs [*, h6, h8, h40, h41, h42, hlt, hlt', hget, hg, hn, hwr, viewBox, psB, xsB, irow]) | (with_reducible refine condC_not (fun hq => ?_) (fun hq => ?_) <;> (try simp at hq) <;> simp -implicitDefEqProofs [*, h6, h8, h40, h41, h42, hlt, hlt', hget, hg, hn, hwr, viewBox, psB, xsB, irow]) | (with_reducible refine condC_split (fun hq => ?_) (fun hq => ?_) <;> (try simp at hq) <;> simp -implicitDefEqProofs [*, h6, h8, h40, h41, h42, hlt, hlt', hget, hg, hn, hwr, viewBox, psB, xsB, irow]) | (refine appK2_if (by omega) ?_; simp -implicitDefEqProofs [*, h6, h8, h40, h41, h42, hlt, hlt', hget, hg, hn, hwr, viewBox, psB, xsB, irow]) | (refine pureV_if (by omega) ?_; simp -implicitDefEqProofs [*, h6, h8, h40, h41, h42, hlt, hlt', hget, hg, hn, hwr, viewBox, psB, xsB, irow]))
            refine lendThen_frame [4, 5, 6] rfl (by decide) (by simp) v4 (by simp) (by simp [lentBs]) ?_
            simp -implicitDefEqProofs [framed, h6, h8, h40, h41, h42, hlt, hlt', hget, hg, hn, hwr, viewBox, psB, xsB, irow]
            refine ⟨[], ⟨by simp, by simp, by simp⟩, ?_⟩
            unfold keepSt pickSt
            dsimp only
            try rw [hnext]
            exact ⟨.inl ⟨_, _, _, by simp [lentBs, hr7, viewBox, psB, xsB, irow]; repeat' (first | rfl | apply And.intro)⟩, by simp [h6, hr7], by simp [h8, hr7], by simp [h40], by simp [h41], by simp⟩
          · simp -implicitDefEqProofs [h6, h8, h40, h41, h42, hlt, hlt', hget, hg, hn, hwr, viewBox, psB, xsB, irow]
            repeat' (first | (refine callThen_of (by first | exact v1 | exact v2) ?_; simp -implicitDefEqProofs [*, h6, h8, h40, h41, h42, hlt, hlt', hget, hg, hn, hwr, viewBox, psB, xsB, irow]) | (with_reducible refine gOps_dec (fun _ => ?_) (fun _ => ?_) <;> simp -implicitDefEqProofs [*, h6, h8, h40, h41, h42, hlt, hlt', hget, hg, hn, hwr, viewBox, psB, xsB, irow]) | (with_reducible refine gOps_ndec (fun _ => ?_) (fun _ => ?_) <;> simp -implicitDefEqProofs [*, h6, h8, h40, h41, h42, hlt, hlt', hget, hg, hn, hwr, viewBox, psB, xsB, irow]) | (with_reducible refine gOps_and (fun hq => ?_) (fun hq => ?_) <;> (try simp at hq) <;> simp -implicitDefEqProofs [*, h6, h8, h40, h41, h42, hlt, hlt', hget, hg, hn, hwr, viewBox, psB, xsB, irow]) | (with_reducible refine gOps_or (fun hq => ?_) (fun hq => ?_) <;> (try simp at hq) <;> simp -implicitDefEqProofs [*, h6, h8, h40, h41, h42, hlt, hlt', hget, hg, hn, hwr, viewBox, psB, xsB, irow]) | (with_reducible refine gOps_not (fun hq => ?_) (fun hq => ?_) <;> (try simp at hq) <;> simp -implicitDefEqProofs [*, h6, h8, h40, h41, h42, hlt, hlt', hget, hg, hn, hwr, viewBox, psB, xsB, irow]) | (with_reducible refine gOps_split (fun hq => ?_) (fun hq => ?_) <;> (try simp at hq) <;> simp -implicitDefEqProofs [*, h6, h8, h40, h41, h42, hlt, hlt', hget, hg, hn, hwr, viewBox, psB, xsB, irow]) | (with_reducible refine condC_dec (fun _ => ?_) (fun _ => ?_) <;> simp -implicitDefEqProofs [*, h6, h8, h40, h41, h42, hlt, hlt', hget, hg, hn, hwr, viewBox, psB, xsB, irow]) | (with_reducible refine condC_ndec (fun _ => ?_) (fun _ => ?_) <;> simp -implicitDefEqProofs [*, h6, h8, h40, h41, h42, hlt, hlt', hget, hg, hn, hwr, viewBox, psB, xsB, irow]) | (with_reducible refine condC_and (fun hq => ?_) (fun hq => ?_) <;> (try simp at hq) <;> simp -implicitDefEqProofs [*, h6, h8, h40, h41, h42, hlt, hlt', hget, hg, hn, hwr, viewBox, psB, xsB, irow]) | (with_reducible refine condC_or (fun hq => ?_) (fun hq => ?_) <;> (try simp at hq) <;> simp -implicitDefEqProofs [*, h6, h8, h40, h41, h42, hlt, hlt', hget, hg, hn, hwr, viewBox, psB, xsB, irow]) | (with_reducible refine condC_not (fun hq => ?_) (fun hq => ?_) <;> (try simp at hq) <;> simp -implicitDefEqProofs [*, h6, h8, h40, h41, h42, hlt, hlt', hget, hg, hn, hwr, viewBox, psB, xsB, irow]) | (with_reducible refine condC_split (fun hq => ?_) (fun hq => ?_) <;> (try simp at hq) <;> simp -implicitDefEqProofs [*, h6, h8, h40, h41, h42, hlt, hlt', hget, hg, hn, hwr, viewBox, psB, xsB, irow]) | (refine appK2_if (by omega) ?_; simp -implicitDefEqProofs [*, h6, h8, h40, h41, h42, hlt, hlt', hget, hg, hn, hwr, viewBox, psB, xsB, irow]) | (refine pureV_if (by omega) ?_; simp -implicitDefEqProofs [*, h6, h8, h40, h41, h42, hlt, hlt', hget, hg, hn, hwr, viewBox, psB, xsB, irow]))
            refine lendThen_frame [4, 7, 8] rfl (by decide) (by simp) v4 (by simp) (by simp [lentBs]) ?_
            simp -implicitDefEqProofs [framed, h6, h8, h40, h41, h42, hlt, hlt', hget, hg, hn, hwr, viewBox, psB, xsB, irow]
            refine ⟨[7, 8], ⟨by simp, by simp, by simp⟩, ?_⟩
            unfold keepSt pickSt
            dsimp only
            try rw [hnext]
            exact ⟨.inr ⟨_, _, _, _, _, by simp [lentBs, hr7, viewBox, psB, xsB, irow]; repeat' (first | rfl | apply And.intro)⟩, by simp [h6, hr7], by simp [h8, hr7], by simp [h40], by simp [h41], by simp⟩
        | true =>
          rw [if_pos hr] at v4
          generalize knownV w x = w2 at *
          clear hr
          simp only [viewBox, psB, xsB] at v4
          rcases hB with ⟨d0, d2, d3, rfl⟩ | ⟨d0, d2, d3, d5, d6, rfl⟩
          · simp -implicitDefEqProofs [h6, h8, h40, h41, h42, hlt, hlt', hget, hg, hn, hwr, viewBox, psB, xsB, irow]
            repeat' (first | (refine callThen_of (by first | exact v1 | exact v2) ?_; simp -implicitDefEqProofs [*, h6, h8, h40, h41, h42, hlt, hlt', hget, hg, hn, hwr, viewBox, psB, xsB, irow]) | (with_reducible refine gOps_dec (fun _ => ?_) (fun _ => ?_) <;> simp -implicitDefEqProofs [*, h6, h8, h40, h41, h42, hlt, hlt', hget, hg, hn, hwr, viewBox, psB, xsB, irow]) | (with_reducible refine gOps_ndec (fun _ => ?_) (fun _ => ?_) <;> simp -implicitDefEqProofs [*, h6, h8, h40, h41, h42, hlt, hlt', hget, hg, hn, hwr, viewBox, psB, xsB, irow]) | (with_reducible refine gOps_and (fun hq => ?_) (fun hq => ?_) <;> (try simp at hq) <;> simp -implicitDefEqProofs [*, h6, h8, h40, h41, h42, hlt, hlt', hget, hg, hn, hwr, viewBox, psB, xsB, irow]) | (with_reducible refine gOps_or (fun hq => ?_) (fun hq => ?_) <;> (try simp at hq) <;> simp -implicitDefEqProofs [*, h6, h8, h40, h41, h42, hlt, hlt', hget, hg, hn, hwr, viewBox, psB, xsB, irow]) | (with_reducible refine gOps_not (fun hq => ?_) (fun hq => ?_) <;> (try simp at hq) <;> simp -implicitDefEqProofs [*, h6, h8, h40, h41, h42, hlt, hlt', hget, hg, hn, hwr, viewBox, psB, xsB, irow]) | (with_reducible refine gOps_split (fun hq => ?_) (fun hq => ?_) <;> (try simp at hq) <;> simp -implicitDefEqProofs [*, h6, h8, h40, h41, h42, hlt, hlt', hget, hg, hn, hwr, viewBox, psB, xsB, irow]) | (with_reducible refine condC_dec (fun _ => ?_) (fun _ => ?_) <;> simp -implicitDefEqProofs [*, h6, h8, h40, h41, h42, hlt, hlt', hget, hg, hn, hwr, viewBox, psB, xsB, irow]) | (with_reducible refine condC_ndec (fun _ => ?_) (fun _ => ?_) <;> simp -implicitDefEqProofs [*, h6, h8, h40, h41, h42, hlt, hlt', hget, hg, hn, hwr, viewBox, psB, xsB, irow]) | (with_reducible refine condC_and (fun hq => ?_) (fun hq => ?_) <;> (try simp at hq) <;> simp -implicitDefEqProofs [*, h6, h8, h40, h41, h42, hlt, hlt', hget, hg, hn, hwr, viewBox, psB, xsB, irow]) | (with_reducible refine condC_or (fun hq => ?_) (fun hq => ?_) <;> (try simp at hq) <;> simp -implicitDefEqProofs [*, h6, h8, h40, h41, h42, hlt, hlt', hget, hg, hn, hwr, viewBox, psB, xsB, irow]) | (with_reducible refine condC_not (fun hq => ?_) (fun hq => ?_) <;> (try simp at hq) <;> simp -implicitDefEqProofs [*, h6, h8, h40, h41, h42, hlt, hlt', hget, hg, hn, hwr, viewBox, psB, xsB, irow]) | (with_reducible refine condC_split (fun hq => ?_) (fun hq => ?_) <;> (try simp at hq) <;> simp -implicitDefEqProofs [*, h6, h8, h40, h41, h42, hlt, hlt', hget, hg, hn, hwr, viewBox, psB, xsB, irow]) | (refine appK2_if (by omega) ?_; simp -implicitDefEqProofs [*, h6, h8, h40, h41, h42, hlt, hlt', hget, hg, hn, hwr, viewBox, psB, xsB, irow]) | (refine pureV_if (by omega) ?_; simp -implicitDefEqProofs [*, h6, h8, h40, h41, h42, hlt, hlt', hget, hg, hn, hwr, viewBox, psB, xsB, irow]))
            refine lendThen_frame [4, 5, 6] rfl (by decide) (by simp) v4 (by simp) (by simp [lentBs]) ?_
            simp -implicitDefEqProofs [framed, h6, h8, h40, h41, h42, hlt, hlt', hget, hg, hn, hwr, viewBox, psB, xsB, irow]
            refine ⟨[7, 8], ⟨by simp, by simp, by simp⟩, ?_⟩
            unfold keepSt pickSt
            dsimp only
            try rw [hnext]
            exact ⟨.inr ⟨_, _, _, _, _, by simp [lentBs, hr7, viewBox, psB, xsB, irow]; repeat' (first | rfl | apply And.intro)⟩, by simp [h6, hr7], by simp [h8, hr7], by simp [h40], by simp [h41], by simp⟩
          · simp -implicitDefEqProofs [h6, h8, h40, h41, h42, hlt, hlt', hget, hg, hn, hwr, viewBox, psB, xsB, irow]
            repeat' (first | (refine callThen_of (by first | exact v1 | exact v2) ?_; simp -implicitDefEqProofs [*, h6, h8, h40, h41, h42, hlt, hlt', hget, hg, hn, hwr, viewBox, psB, xsB, irow]) | (with_reducible refine gOps_dec (fun _ => ?_) (fun _ => ?_) <;> simp -implicitDefEqProofs [*, h6, h8, h40, h41, h42, hlt, hlt', hget, hg, hn, hwr, viewBox, psB, xsB, irow]) | (with_reducible refine gOps_ndec (fun _ => ?_) (fun _ => ?_) <;> simp -implicitDefEqProofs [*, h6, h8, h40, h41, h42, hlt, hlt', hget, hg, hn, hwr, viewBox, psB, xsB, irow]) | (with_reducible refine gOps_and (fun hq => ?_) (fun hq => ?_) <;> (try simp at hq) <;> simp -implicitDefEqProofs [*, h6, h8, h40, h41, h42, hlt, hlt', hget, hg, hn, hwr, viewBox, psB, xsB, irow]) | (with_reducible refine gOps_or (fun hq => ?_) (fun hq => ?_) <;> (try simp at hq) <;> simp -implicitDefEqProofs [*, h6, h8, h40, h41, h42, hlt, hlt', hget, hg, hn, hwr, viewBox, psB, xsB, irow]) | (with_reducible refine gOps_not (fun hq => ?_) (fun hq => ?_) <;> (try simp at hq) <;> simp -implicitDefEqProofs [*, h6, h8, h40, h41, h42, hlt, hlt', hget, hg, hn, hwr, viewBox, psB, xsB, irow]) | (with_reducible refine gOps_split (fun hq => ?_) (fun hq => ?_) <;> (try simp at hq) <;> simp -implicitDefEqProofs [*, h6, h8, h40, h41, h42, hlt, hlt', hget, hg, hn, hwr, viewBox, psB, xsB, irow]) | (with_reducible refine condC_dec (fun _ => ?_) (fun _ => ?_) <;> simp -implicitDefEqProofs [*, h6, h8, h40, h41, h42, hlt, hlt', hget, hg, hn, hwr, viewBox, psB, xsB, irow]) | (with_reducible refine condC_ndec (fun _ => ?_) (fun _ => ?_) <;> simp -implicitDefEqProofs [*, h6, h8, h40, h41, h42, hlt, hlt', hget, hg, hn, hwr, viewBox, psB, xsB, irow]) | (with_reducible refine condC_and (fun hq => ?_) (fun hq => ?_) <;> (try simp at hq) <;> simp -implicitDefEqProofs [*, h6, h8, h40, h41, h42, hlt, hlt', hget, hg, hn, hwr, viewBox, psB, xsB, irow]) | (with_reducible refine condC_or (fun hq => ?_) (fun hq => ?_) <;> (try simp at hq) <;> simp -implicitDefEqProofs [*, h6, h8, h40, h41, h42, hlt, hlt', hget, hg, hn, hwr, viewBox, psB, xsB, irow]) | (with_reducible refine condC_not (fun hq => ?_) (fun hq => ?_) <;> (try simp at hq) <;> simp -implicitDefEqProofs [*, h6, h8, h40, h41, h42, hlt, hlt', hget, hg, hn, hwr, viewBox, psB, xsB, irow]) | (with_reducible refine condC_split (fun hq => ?_) (fun hq => ?_) <;> (try simp at hq) <;> simp -implicitDefEqProofs [*, h6, h8, h40, h41, h42, hlt, hlt', hget, hg, hn, hwr, viewBox, psB, xsB, irow]) | (refine appK2_if (by omega) ?_; simp -implicitDefEqProofs [*, h6, h8, h40, h41, h42, hlt, hlt', hget, hg, hn, hwr, viewBox, psB, xsB, irow]) | (refine pureV_if (by omega) ?_; simp -implicitDefEqProofs [*, h6, h8, h40, h41, h42, hlt, hlt', hget, hg, hn, hwr, viewBox, psB, xsB, irow]))
            refine lendThen_frame [4, 7, 8] rfl (by decide) (by simp) v4 (by simp) (by simp [lentBs]) ?_
            simp -implicitDefEqProofs [framed, h6, h8, h40, h41, h42, hlt, hlt', hget, hg, hn, hwr, viewBox, psB, xsB, irow]
            refine ⟨[9, 10], ⟨by simp, by simp, by simp⟩, ?_⟩
            unfold keepSt pickSt
            dsimp only
            try rw [hnext]
            exact ⟨.inr ⟨_, _, _, _, _, by simp [lentBs, hr7, viewBox, psB, xsB, irow]; repeat' (first | rfl | apply And.intro)⟩, by simp [h6, hr7], by simp [h8, hr7], by simp [h40], by simp [h41], by simp⟩
  · rintro ⟨fr, bs⟩ ⟨hB, h6, h8⟩
    have hWid := (key ids.length).2
    rw [List.take_length] at hWid
    generalize ids.foldl tellV w0 = W at *
    rcases hB with ⟨d0, d2, d3, rfl⟩ | ⟨d0, d2, d3, d5, d6, rfl⟩
    · simp -implicitDefEqProofs [h6, h8, viewBox, psB, xsB, hWid]
    · simp -implicitDefEqProofs [h6, h8, viewBox, psB, xsB, hWid]
  · rintro ⟨fr, bs⟩ h
    exact h.elim
theorem hello_Take_full (v : View) (a : Int) (ids : List Int) (hs : v.small) (h : helloOk v a ids = true) (hr : roomV v a = false) : Den PP 17 [viewD v, .int .i64 a, intsD ids] [] (.tup [.agg [.int .i64 v.id, .ref 0 0 (helloV v a ids).peers.length, .ref 1 0 (helloV v a ids).passive.length], .int .i64 0]) [psB (helloV v a ids), xsB (helloV v a ids)] := by
  obtain ⟨k1, k2, k3, k4, k5⟩ := helloOk_parts h
  have hcap : ids.length ≤ cap := by unfold cap; omega
  have hsz : 16 ≤ sizeV v := by
    unfold roomV at hr
    simp at hr
    unfold sizeV
    exact hr.2
  have hW : helloV v a ids = v := by unfold helloV; rw [knownV_no hr, tells_full hsz]
  rw [hW]
  clear hW
  have c1 := view_May v hs
  have c2 := ring_Place a
  have c3 := ring_Places ids hcap
  have c4 := view_Copy v hs
  have hm := k1
  rw [k1] at c1
  rw [k2] at c2
  rw [show ids.all place = true from List.all_eq_true.2 k5] at c3
  have c5 := hello_heard v a k1 k2 k3
  rw [if_neg (by simp [hr])] at c5
  have hk4 : ¬ (16 : Int) < ids.length := by omega
  simp only [viewD, View.cells, peersD, intsD, viewBox, psB, xsB] at c1 c3 c4 c5 ⊢
  clear k1 k2 hs h hr
  refine den_of [37] [38, 60] is_hello_Take ?_
  simp -implicitDefEqProofs [c_hello_Take, hk4, k3]
  repeat' (first | (refine callThen_of (by first | exact c1 | exact c2 | exact c3 | exact c4) ?_; simp -implicitDefEqProofs [*, downTo, hk4, k3]) | (with_reducible refine gOps_dec (fun _ => ?_) (fun _ => ?_) <;> simp -implicitDefEqProofs [*, downTo, hk4, k3]) | (with_reducible refine gOps_ndec (fun _ => ?_) (fun _ => ?_) <;> simp -implicitDefEqProofs [*, downTo, hk4, k3]) | (with_reducible refine gOps_and (fun hq => ?_) (fun hq => ?_) <;> (try simp at hq) <;> simp -implicitDefEqProofs [*, downTo, hk4, k3]) | (with_reducible refine gOps_or (fun hq => ?_) (fun hq => ?_) <;> (try simp at hq) <;> simp -implicitDefEqProofs [*, downTo, hk4, k3]) | (with_reducible refine gOps_not (fun hq => ?_) (fun hq => ?_) <;> (try simp at hq) <;> simp -implicitDefEqProofs [*, downTo, hk4, k3]) | (with_reducible refine gOps_split (fun hq => ?_) (fun hq => ?_) <;> (try simp at hq) <;> simp -implicitDefEqProofs [*, downTo, hk4, k3]) | (with_reducible refine condC_dec (fun _ => ?_) (fun _ => ?_) <;> simp -implicitDefEqProofs [*, downTo, hk4, k3]) | (with_reducible refine condC_ndec (fun _ => ?_) (fun _ => ?_) <;> simp -implicitDefEqProofs [*, downTo, hk4, k3]) | (with_reducible refine condC_and (fun hq => ?_) (fun hq => ?_) <;> (try simp at hq) <;> simp -implicitDefEqProofs [*, downTo, hk4, k3]) | (with_reducible refine condC_or (fun hq => ?_) (fun hq => ?_) <;> (try simp at hq) <;> simp -implicitDefEqProofs [*, downTo, hk4, k3]) | (with_reducible refine condC_not (fun hq => ?_) (fun hq => ?_) <;> (try simp at hq) <;> simp -implicitDefEqProofs [*, downTo, hk4, k3]) | (with_reducible refine condC_split (fun hq => ?_) (fun hq => ?_) <;> (try simp at hq) <;> simp -implicitDefEqProofs [*, downTo, hk4, k3]) | (refine appK2_if (by omega) ?_; simp -implicitDefEqProofs [*, downTo, hk4, k3]) | (refine pureV_if (by omega) ?_; simp -implicitDefEqProofs [*, downTo, hk4, k3]))
  refine lendThen_frame [4, 2, 3] rfl (by decide) (by simp) c5 (by simp) (by simp [lentBs]) ?_
  simp -implicitDefEqProofs [framed]
  refine list_keep ids (fun i rest => fun ⟨fr, bs⟩ => (∃ d0, bs = [d0, ⟨[[.int .i64 0, .nil, .nil]], 3, .box⟩, psB v, xsB v, viewBox v 2 3]) ∧ fr 6 = .ptr 1 0 0 ∧ fr 8 = .ptr 4 0 0 ∧ fr 40 = .sl (ids.map irow) ids.length ∧ fr 41 = .int .i64 ids.length ∧ fr 42 = .int .i64 i)
    (fun ⟨fr, bs⟩ => (∃ d0, bs = [d0, ⟨[[.int .i64 0, .nil, .nil]], 3, .box⟩, psB v, xsB v, viewBox v 2 3]) ∧ fr 6 = .ptr 1 0 0 ∧ fr 8 = .ptr 4 0 0) (fun _ => False) c_hello_Take_L0.eq_1 ?_ ?_ ?_ ?_ ?_
  · exact ⟨⟨_, by simp [viewBox, psB, xsB]; rfl⟩, by simp, by simp, by simp, by simp, by simp⟩
  · rintro i ⟨fr, bs⟩ hi ⟨hB, h6, h8, h40, h41, h42⟩
    simp -implicitDefEqProofs [h6, h8, h40, h41, h42, hi]
    exact hB
  · rintro i x rest ⟨fr, bs⟩ hlt hget hg hd hd2 ⟨⟨d0, rfl⟩, h6, h8, h40, h41, h42⟩
    have hlt' : (i : Int) < ids.length := by omega
    have hwr := wrap_next (n := i) (by omega)
    have hx := k5 x (List.mem_of_getElem? hget)
    obtain ⟨p1, p2, p3, p4⟩ := viewMay_parts hm
    have v1 := view_Peer v x (by unfold cap; omega) (peersMay_rowed p1)
    rw [peerIs_mem p1 hx] at v1
    have v2 := view_Passive v x (by unfold cap; omega)
    have v3 : x ≠ v.id → _ := fun hn => hello_heard v x hm hx hn
    clear c1 c2 c3 c4 c5 p1 p2 p3 p4
    have hroom : knowsV v x = false → roomV v x = false := by
      intro hk
      unfold roomV
      unfold sizeV at hsz
      simp [hk, hsz]
    obtain ⟨A, hA⟩ : ∃ A, (v.peers.map Peer.id).contains x = A := ⟨_, rfl⟩
    obtain ⟨C, hC⟩ : ∃ C, v.passive.contains x = C := ⟨_, rfl⟩
    have hkn : knowsV v x = (A || C) := by rw [← hA, ← hC]; rfl
    rw [hA] at v1
    rw [hC] at v2
    clear hA hC
    simp only [View.cells, peersD, intsD] at v1 v2
    have hr5 : List.range 5 = [0, 1, 2, 3, 4] := rfl
    clear hm hsz
    by_cases hn : x = v.id
    · simp -implicitDefEqProofs [h6, h8, h40, h41, h42, hlt, hlt', hget, hg, hn, hwr, viewBox, psB, xsB, irow]
      refine ⟨[], ⟨by simp, by simp, by simp⟩, ?_⟩
      unfold keepSt pickSt
      dsimp only
      exact ⟨⟨_, by simp [lentBs, hr5, viewBox, psB, xsB, irow]; repeat' (first | rfl | apply And.intro)⟩, by simp [h6, hr5], by simp [h8, hr5], by simp [h40], by simp [h41], by simp⟩
    · have v4 := v3 hn
      clear v3
      cases hAC : (A || C) with
      | true =>
        clear v4 hkn hroom
        cases A <;> cases C
        all_goals try (simp at hAC; done)
        all_goals
          clear hAC
          simp -implicitDefEqProofs [h6, h8, h40, h41, h42, hlt, hlt', hget, hg, hn, hwr, viewBox, psB, xsB, irow]
          repeat' (first | (refine callThen_of (by first | exact v1 | exact v2) ?_; simp -implicitDefEqProofs [*, h6, h8, h40, h41, h42, hlt, hlt', hget, hg, hn, hwr, viewBox, psB, xsB, irow]) | (with_reducible refine gOps_dec (fun _ => ?_) (fun _ => ?_) <;> simp -implicitDefEqProofs [*, h6, h8, h40, h41, h42, hlt, hlt', hget, hg, hn, hwr, viewBox, psB, xsB, irow]) | (with_reducible refine gOps_ndec (fun _ => ?_) (fun _ => ?_) <;> simp -implicitDefEqProofs [*, h6, h8, h40, h41, h42, hlt, hlt', hget, hg, hn, hwr, viewBox, psB, xsB, irow]) | (with_reducible refine gOps_and (fun hq => ?_) (fun hq => ?_) <;> (try simp at hq) <;> simp -implicitDefEqProofs [*, h6, h8, h40, h41, h42, hlt, hlt', hget, hg, hn, hwr, viewBox, psB, xsB, irow]) | (with_reducible refine gOps_or (fun hq => ?_) (fun hq => ?_) <;> (try simp at hq) <;> simp -implicitDefEqProofs [*, h6, h8, h40, h41, h42, hlt, hlt', hget, hg, hn, hwr, viewBox, psB, xsB, irow]) | (with_reducible refine gOps_not (fun hq => ?_) (fun hq => ?_) <;> (try simp at hq) <;> simp -implicitDefEqProofs [*, h6, h8, h40, h41, h42, hlt, hlt', hget, hg, hn, hwr, viewBox, psB, xsB, irow]) | (with_reducible refine gOps_split (fun hq => ?_) (fun hq => ?_) <;> (try simp at hq) <;> simp -implicitDefEqProofs [*, h6, h8, h40, h41, h42, hlt, hlt', hget, hg, hn, hwr, viewBox, psB, xsB, irow]) | (with_reducible refine condC_dec (fun _ => ?_) (fun _ => ?_) <;> simp -implicitDefEqProofs [*, h6, h8, h40, h41, h42, hlt, hlt', hget, hg, hn, hwr, viewBox, psB, xsB, irow]) | (with_reducible refine condC_ndec (fun _ => ?_) (fun _ => ?_) <;> simp -implicitDefEqProofs [*, h6, h8, h40, h41, h42, hlt, hlt', hget, hg, hn, hwr, viewBox, psB, xsB, irow]) | (with_reducible refine condC_and (fun hq => ?_) (fun hq => ?_) <;> (try simp at hq) <;> simp -implicitDefEqProofs [*, h6, h8, h40, h41, h42, hlt, hlt', hget, hg, hn, hwr, viewBox, psB, xsB, irow]) | (with_reducible refine condC_or (fun hq => ?_) (fun hq => ?_) <;> (try simp at hq) <;> simp -implicitDefEqProofs [*, h6, h8, h40, h41, h42, hlt, hlt', hget, hg, hn, hwr, viewBox, psB, xsB, irow]) | (with_reducible refine condC_not (fun hq => ?_) (fun hq => ?_) <;> (try simp at hq) <;> simp -implicitDefEqProofs [*, h6, h8, h40, h41, h42, hlt, hlt', hget, hg, hn, hwr, viewBox, psB, xsB, irow]) | (with_reducible refine condC_split (fun hq => ?_) (fun hq => ?_) <;> (try simp at hq) <;> simp -implicitDefEqProofs [*, h6, h8, h40, h41, h42, hlt, hlt', hget, hg, hn, hwr, viewBox, psB, xsB, irow]) | (refine appK2_if (by omega) ?_; simp -implicitDefEqProofs [*, h6, h8, h40, h41, h42, hlt, hlt', hget, hg, hn, hwr, viewBox, psB, xsB, irow]) | (refine pureV_if (by omega) ?_; simp -implicitDefEqProofs [*, h6, h8, h40, h41, h42, hlt, hlt', hget, hg, hn, hwr, viewBox, psB, xsB, irow]))
          refine ⟨[], ⟨by simp, by simp, by simp⟩, ?_⟩
          unfold keepSt pickSt
          dsimp only
          exact ⟨⟨_, by simp [lentBs, hr5, viewBox, psB, xsB, irow]; repeat' (first | rfl | apply And.intro)⟩, by simp [h6, hr5], by simp [h8, hr5], by simp [h40], by simp [h41], by simp⟩
      | false =>
        rw [hAC] at hkn
        simp only [Bool.or_eq_false_iff] at hAC
        obtain ⟨rfl, rfl⟩ := hAC
        rw [if_neg (by simp [hroom hkn])] at v4
        clear hkn hroom
        simp only [viewBox, psB, xsB] at v4
        simp -implicitDefEqProofs [h6, h8, h40, h41, h42, hlt, hlt', hget, hg, hn, hwr, viewBox, psB, xsB, irow]
        repeat' (first | (refine callThen_of (by first | exact v1 | exact v2) ?_; simp -implicitDefEqProofs [*, h6, h8, h40, h41, h42, hlt, hlt', hget, hg, hn, hwr, viewBox, psB, xsB, irow]) | (with_reducible refine gOps_dec (fun _ => ?_) (fun _ => ?_) <;> simp -implicitDefEqProofs [*, h6, h8, h40, h41, h42, hlt, hlt', hget, hg, hn, hwr, viewBox, psB, xsB, irow]) | (with_reducible refine gOps_ndec (fun _ => ?_) (fun _ => ?_) <;> simp -implicitDefEqProofs [*, h6, h8, h40, h41, h42, hlt, hlt', hget, hg, hn, hwr, viewBox, psB, xsB, irow]) | (with_reducible refine gOps_and (fun hq => ?_) (fun hq => ?_) <;> (try simp at hq) <;> simp -implicitDefEqProofs [*, h6, h8, h40, h41, h42, hlt, hlt', hget, hg, hn, hwr, viewBox, psB, xsB, irow]) | (with_reducible refine gOps_or (fun hq => ?_) (fun hq => ?_) <;> (try simp at hq) <;> simp -implicitDefEqProofs [*, h6, h8, h40, h41, h42, hlt, hlt', hget, hg, hn, hwr, viewBox, psB, xsB, irow]) | (with_reducible refine gOps_not (fun hq => ?_) (fun hq => ?_) <;> (try simp at hq) <;> simp -implicitDefEqProofs [*, h6, h8, h40, h41, h42, hlt, hlt', hget, hg, hn, hwr, viewBox, psB, xsB, irow]) | (with_reducible refine gOps_split (fun hq => ?_) (fun hq => ?_) <;> (try simp at hq) <;> simp -implicitDefEqProofs [*, h6, h8, h40, h41, h42, hlt, hlt', hget, hg, hn, hwr, viewBox, psB, xsB, irow]) | (with_reducible refine condC_dec (fun _ => ?_) (fun _ => ?_) <;> simp -implicitDefEqProofs [*, h6, h8, h40, h41, h42, hlt, hlt', hget, hg, hn, hwr, viewBox, psB, xsB, irow]) | (with_reducible refine condC_ndec (fun _ => ?_) (fun _ => ?_) <;> simp -implicitDefEqProofs [*, h6, h8, h40, h41, h42, hlt, hlt', hget, hg, hn, hwr, viewBox, psB, xsB, irow]) | (with_reducible refine condC_and (fun hq => ?_) (fun hq => ?_) <;> (try simp at hq) <;> simp -implicitDefEqProofs [*, h6, h8, h40, h41, h42, hlt, hlt', hget, hg, hn, hwr, viewBox, psB, xsB, irow]) | (with_reducible refine condC_or (fun hq => ?_) (fun hq => ?_) <;> (try simp at hq) <;> simp -implicitDefEqProofs [*, h6, h8, h40, h41, h42, hlt, hlt', hget, hg, hn, hwr, viewBox, psB, xsB, irow]) | (with_reducible refine condC_not (fun hq => ?_) (fun hq => ?_) <;> (try simp at hq) <;> simp -implicitDefEqProofs [*, h6, h8, h40, h41, h42, hlt, hlt', hget, hg, hn, hwr, viewBox, psB, xsB, irow]) | (with_reducible refine condC_split (fun hq => ?_) (fun hq => ?_) <;> (try simp at hq) <;> simp -implicitDefEqProofs [*, h6, h8, h40, h41, h42, hlt, hlt', hget, hg, hn, hwr, viewBox, psB, xsB, irow]) | (refine appK2_if (by omega) ?_; simp -implicitDefEqProofs [*, h6, h8, h40, h41, h42, hlt, hlt', hget, hg, hn, hwr, viewBox, psB, xsB, irow]) | (refine pureV_if (by omega) ?_; simp -implicitDefEqProofs [*, h6, h8, h40, h41, h42, hlt, hlt', hget, hg, hn, hwr, viewBox, psB, xsB, irow]))
        refine lendThen_frame [4, 2, 3] rfl (by decide) (by simp) v4 (by simp) (by simp [lentBs]) ?_
        simp -implicitDefEqProofs [framed, h6, h8, h40, h41, h42, hlt, hlt', hget, hg, hn, hwr, viewBox, psB, xsB, irow]
        refine ⟨[], ⟨by simp, by simp, by simp⟩, ?_⟩
        unfold keepSt pickSt
        dsimp only
        exact ⟨⟨_, by simp [lentBs, hr5, viewBox, psB, xsB, irow]; repeat' (first | rfl | apply And.intro)⟩, by simp [h6, hr5], by simp [h8, hr5], by simp [h40], by simp [h41], by simp⟩
  · rintro ⟨fr, bs⟩ ⟨⟨d0, rfl⟩, h6, h8⟩
    simp -implicitDefEqProofs [h6, h8, viewBox, psB, xsB]
  · rintro ⟨fr, bs⟩ h
    exact h.elim
theorem hello_Take (v : View) (a : Int) (ids : List Int) (hs : v.small) (h : helloOk v a ids = true) : Den PP 17 [viewD v, .int .i64 a, intsD ids] [] (.tup [.agg [.int .i64 v.id, .ref 0 0 (helloV v a ids).peers.length, .ref 1 0 (helloV v a ids).passive.length], .int .i64 0]) [psB (helloV v a ids), xsB (helloV v a ids)] := by
  cases hr : roomV v a with
  | true => exact hello_Take_yes v a ids hs h hr
  | false => exact hello_Take_full v a ids hs h hr
end Go.AM
/- AM: contracts: the document's take; a node spoiled. -/
namespace Go.AM
set_option linter.unusedSimpArgs false
set_option linter.unusedVariables false
set_option maxRecDepth 8000
set_option maxHeartbeats 0
end Go.AM
/- AM: contracts: the document's greeting; chapter 10's statements: Hellos. -/
namespace Go.AM
set_option linter.unusedSimpArgs false
set_option linter.unusedVariables false
set_option maxRecDepth 8000
set_option maxHeartbeats 0
end Go.AM
/- AM: chapter 10's statements: Hellos. -/
namespace Go.AM
set_option linter.unusedSimpArgs false
set_option linter.unusedVariables false
set_option maxRecDepth 8000
set_option maxHeartbeats 0
def givenH : View := ⟨100, [⟨101, 2⟩, ⟨200, 0⟩, ⟨90, 1⟩], [7, 150]⟩
theorem small_givenH : givenH.small := by unfold View.small cap16 cap; decide
theorem law10_given : Den PP 26 [] [] (.agg [.int .i64 100, .ref 0 0 3, .ref 1 0 2]) [⟨givenH.peers.map Peer.row, 2, .mut⟩, ⟨givenH.passive.map irow, 1, .mut⟩] := by
  refine den_of [] [] is_gimmallaw10_given ?_
  simp -implicitDefEqProofs [c_gimmallaw10_given, givenH, Peer.row, irow]
theorem law10_awake : Den PP 23 [] [] (.bool true) [] := by
  have g0 := law10_given
  have g1 := hello_Take givenH 150 [7, 100, 102, 101] small_givenH (by decide +kernel)
  have g2 := hello_Take_no givenH 100 [] small_givenH (by unfold cap; simp) (by decide +kernel)
  have g3 := hello_Take_no givenH 150 [256] small_givenH (by unfold cap; simp) (by decide +kernel)
  have e1 : helloV givenH 150 [7, 100, 102, 101] = ⟨100, [⟨101, 2⟩, ⟨102, 0⟩, ⟨150, 0⟩, ⟨200, 0⟩, ⟨90, 1⟩], [7]⟩ := by decide +kernel
  rw [e1] at g1
  have g4 := law_SameView ⟨100, [⟨101, 2⟩, ⟨102, 0⟩, ⟨150, 0⟩, ⟨200, 0⟩, ⟨90, 1⟩], [7]⟩ ⟨100, [⟨101, 2⟩, ⟨102, 0⟩, ⟨150, 0⟩, ⟨200, 0⟩, ⟨90, 1⟩], [7]⟩ (by unfold View.small cap16 cap; decide)
  clear e1
  simp [givenH, viewD, View.cells, peersD, intsD, psB, xsB, Peer.row, irow] at g0 g1 g2 g3 g4
  refine den_of [] [] is_gimmallaw10_awake ?_
  simp -implicitDefEqProofs [c_gimmallaw10_awake]
  repeat' (first | (refine callThen_of (by first | exact g0 | exact g1 | exact den_nrm (g1) | exact den_nrm (by simpa using g1) | exact g2 | exact den_nrm (g2) | exact den_nrm (by simpa using g2) | exact g3 | exact den_nrm (g3) | exact den_nrm (by simpa using g3) | exact g4 | exact den_nrm (g4) | exact den_nrm (by simpa using g4) | exact law_Num _) ?_; simp -implicitDefEqProofs [*, downTo]) | (with_reducible refine gOps_dec (fun _ => ?_) (fun _ => ?_) <;> simp -implicitDefEqProofs [*, downTo]) | (with_reducible refine gOps_ndec (fun _ => ?_) (fun _ => ?_) <;> simp -implicitDefEqProofs [*, downTo]) | (with_reducible refine gOps_and (fun hq => ?_) (fun hq => ?_) <;> (try simp at hq) <;> simp -implicitDefEqProofs [*, downTo]) | (with_reducible refine gOps_or (fun hq => ?_) (fun hq => ?_) <;> (try simp at hq) <;> simp -implicitDefEqProofs [*, downTo]) | (with_reducible refine gOps_not (fun hq => ?_) (fun hq => ?_) <;> (try simp at hq) <;> simp -implicitDefEqProofs [*, downTo]) | (with_reducible refine gOps_split (fun hq => ?_) (fun hq => ?_) <;> (try simp at hq) <;> simp -implicitDefEqProofs [*, downTo]) | (with_reducible refine condC_dec (fun _ => ?_) (fun _ => ?_) <;> simp -implicitDefEqProofs [*, downTo]) | (with_reducible refine condC_ndec (fun _ => ?_) (fun _ => ?_) <;> simp -implicitDefEqProofs [*, downTo]) | (with_reducible refine condC_and (fun hq => ?_) (fun hq => ?_) <;> (try simp at hq) <;> simp -implicitDefEqProofs [*, downTo]) | (with_reducible refine condC_or (fun hq => ?_) (fun hq => ?_) <;> (try simp at hq) <;> simp -implicitDefEqProofs [*, downTo]) | (with_reducible refine condC_not (fun hq => ?_) (fun hq => ?_) <;> (try simp at hq) <;> simp -implicitDefEqProofs [*, downTo]) | (with_reducible refine condC_split (fun hq => ?_) (fun hq => ?_) <;> (try simp at hq) <;> simp -implicitDefEqProofs [*, downTo]) | (refine appK2_if (by omega) ?_; simp -implicitDefEqProofs [*, downTo]) | (refine pureV_if (by omega) ?_; simp -implicitDefEqProofs [*, downTo]))
end Go.AM
/- Plain law: greetings, told twice, told in another row. -/
namespace Go.AM
set_option linter.unusedSimpArgs false
set_option linter.unusedVariables false

theorem tells_noop {w : View} : ∀ {ids : List Int}, (∀ x ∈ ids, tellV w x = w) → ids.foldl tellV w = w := by
  intro ids
  induction ids with
  | nil => intro _; rfl
  | cons x ids ih => intro h; rw [List.foldl_cons, h x (by simp), ih (fun y hy => h y (by simp [hy]))]
theorem tellV_noop {w : View} {x : Int} (h : x = w.id ∨ knowsV w x = true ∨ 16 ≤ sizeV w) : tellV w x = w := by
  rcases h with h | h | h
  · unfold tellV; simp [h]
  · unfold tellV; simp [h]
  · unfold tellV
    split
    · rename_i hc
      simp only [Bool.and_eq_true, Bool.not_eq_true'] at hc
      apply knownV_no
      unfold roomV
      rw [hc.2]
      unfold sizeV at h
      simp
      omega
    · rfl
structure Greeted (v : View) (a : Int) (ids : List Int) (w : View) : Prop where
  may : viewMay w = true
  id : w.id = v.id
  peers : ∀ q, q ∈ w.peers → q = ⟨a, 0⟩ ∨ (q ∈ v.peers ∧ q.id ≠ a) ∨ (q.missed = 0 ∧ q.id ∈ ids ∧ q.id ≠ v.id ∧ q.id ≠ a ∧ knowsV v q.id = false)
  kept : ∀ q, q ∈ v.peers → q.id ≠ a → q ∈ w.peers
  heard : ⟨a, 0⟩ ∈ w.peers
  passive : ∀ y, y ∈ w.passive ↔ y ∈ v.passive ∧ y ≠ a
  told : ∀ x ∈ ids, x = v.id ∨ knowsV w x = true ∨ 16 ≤ sizeV w
  size : sizeV w ≤ sizeV v + 1 + ids.length
theorem hello_greeted {v : View} {a : Int} {ids : List Int} (h : helloOk v a ids = true) (hr : roomV v a = true) : Greeted v a ids (helloV v a ids) := by
  obtain ⟨h1, h2, h3, h4, h5⟩ := helloOk_parts h
  obtain ⟨m1, m2⟩ := helloV_may h
  have hw := (knownV_may h1 h2 h3).1
  obtain ⟨a1, a2, a3, a4, a5, a6⟩ := tells_mem ids (knownV v a) hw h5
  have hk : knowsV (knownV v a) a = true := (knowsV_iff _ _).2 (.inl ⟨⟨a, 0⟩, (knownV_peers hr _).2 (.inl rfl), rfl⟩)
  have hid := knownV_id v a
  refine ⟨m1, m2, ?_, ?_, ?_, ?_, ?_, ?_⟩
  · intro q hq
    rcases a5 q hq with h | ⟨b1, b2, b3, b4⟩
    · rcases (knownV_peers hr q).1 h with h | h
      · exact .inl h
      · exact .inr (.inl h)
    · have hqa : q.id ≠ a := by intro e; rw [e, hk] at b4; cases b4
      refine .inr (.inr ⟨b1, b2, by rw [hid] at b3; exact b3, hqa, ?_⟩)
      cases hkv : knowsV v q.id with
      | false => rfl
      | true =>
        have : knowsV (knownV v a) q.id = true := by
          rw [knowsV_iff] at hkv ⊢
          rcases hkv with ⟨p, hp, he⟩ | hp
          · exact .inl ⟨p, (knownV_peers hr p).2 (.inr ⟨hp, by rw [he]; exact hqa⟩), he⟩
          · exact .inr ((knownV_passive hr _).2 ⟨hp, hqa⟩)
        rw [this] at b4; cases b4
  · intro q hq hn
    exact a1 q ((knownV_peers hr q).2 (.inr ⟨hq, hn⟩))
  · exact a1 _ ((knownV_peers hr _).2 (.inl rfl))
  · intro y
    show y ∈ (ids.foldl tellV (knownV v a)).passive ↔ _
    rw [a2, knownV_passive hr]
  · intro x hx
    have := a6 x hx
    rw [hid] at this
    exact this
  · have := knownV_size h1 hr
    show sizeV (ids.foldl tellV (knownV v a)) ≤ _
    split at this <;> omega
end Go.AM
/- AM: chapter 10's statements: HelloTwice, HelloRow. -/
namespace Go.AM
set_option linter.unusedSimpArgs false
set_option linter.unusedVariables false
set_option maxRecDepth 8000
set_option maxHeartbeats 0
end Go.AM
/- AM: chapter 10's statements: HelloForms. -/
namespace Go.AM
set_option linter.unusedSimpArgs false
set_option linter.unusedVariables false
set_option maxRecDepth 8000
set_option maxHeartbeats 0
@[simp] theorem nrmLL_repG (n : Nat) (r : List D) : nrmLL (List.replicate n r) = List.replicate n (nrmL r) := by
  induction n with
  | zero => rfl
  | succ n ih => simp [List.replicate_succ, nrmLL, ih]
end Go.AM
/- AM: chapter 10's statements: HelloFull. -/
namespace Go.AM
set_option linter.unusedSimpArgs false
set_option linter.unusedVariables false
set_option maxRecDepth 8000
set_option maxHeartbeats 0
end Go.AM
/- AM: chapter 10's statements: HelloKeeps. -/
namespace Go.AM
set_option linter.unusedSimpArgs false
set_option linter.unusedVariables false
set_option maxRecDepth 8000
set_option maxHeartbeats 0
theorem law10_in (xs : List Int) (x : Int) (hl : xs.length ≤ cap) : Den PP 25 [intsD xs, .int .i64 x] [] (.bool (xs.contains x)) [] := by
  refine den_of [] [] is_gimmallaw10_in ?_
  simp -implicitDefEqProofs [c_gimmallaw10_in, intsD]
  refine anyLoop_of (xs.length + 1) ?_
  have key : ∀ (Q : Ex → St → Prop) (r : Bool) (hQ1 : ∀ fr, r = false → Q .normal ⟨fr, []⟩) (hQ2 : ∀ fr bs, r = true → fr 4 = .bool true → Q .ret ⟨fr, bs⟩) (rest : List Int) (i : Nat) (fr : Nat → D), xs.drop i = rest → i ≤ xs.length →
      fr 0 = .sl (xs.map irow) xs.length → fr 1 = .int .i64 x → fr 5 = .int .i64 i → rest.contains x = r → sLoop (cf 0 [] []) 0 c_gimmallaw10_in_L0 (blockQ 0 Q) (rest.length + 1) ⟨fr, []⟩ := by
    intro Q r hQ1 hQ2 rest
    induction rest with
    | nil =>
      intro i fr e hi h0 h1 h5 hm
      refine sLoop_body c_gimmallaw10_in_L0.eq_1 ?_
      have hi' := drop_nil e hi
      simp -implicitDefEqProofs [h0, h1, h5, hi']
      exact hQ1 _ hm.symm
    | cons y rest ih =>
      intro i fr e hi h0 h1 h5 hm
      refine sLoop_body c_gimmallaw10_in_L0.eq_1 ?_
      obtain ⟨hlt, hget, hd, hlen⟩ := drop_cons e
      have hlt' : (i : Int) < xs.length := by omega
      have hw := wrap_next (n := i) (by unfold cap at hl; omega)
      simp -implicitDefEqProofs [h0, h1, h5, hlt', hget, irow]
      refine condC_split (fun h2 => ?_) (fun h2 => ?_)
      all_goals simp -implicitDefEqProofs [h2, h0, h1, h5, hw]
      · exact hQ2 _ _ (by rw [← hm]; simp at h2; simp [h2]) (by rfl)
      · exact ih (i + 1) _ hd (by omega) (by simp [h0, h1, h5]) (by simp [h0, h1, h5]) (by simp) (by rw [← hm]; simp at h2; simp [Ne.symm h2])
  refine key _ (xs.contains x) (fun fr h => ?_) (fun fr bs h h2 => ?_) xs 0 _ rfl (Nat.zero_le _) rfl rfl rfl rfl
  · simp -implicitDefEqProofs [h]
    simpa using h
  · simp -implicitDefEqProofs [h, h2]
    simpa using h
end Go.AM
/- AM: chapter 10's statements: HelloAll. -/
namespace Go.AM
set_option linter.unusedSimpArgs false
set_option linter.unusedVariables false
set_option maxRecDepth 8000
set_option maxHeartbeats 0
structure AllOk (L : List Int) (w : View) : Prop where
  may : viewMay w = true
  id : w.id = 100
  pas : w.passive = []
  mem : ∀ y, knowsV w y = true ↔ y ∈ L
  pl : ∀ y ∈ L, place y = true
  no : (100 : Int) ∉ L
  len : w.peers.length = L.length
theorem all_step {L : List Int} {w : View} (h : AllOk L w) (hl : L.length < 12) {p : Int} (hp : place p = true) (hn : p ≠ 100) :
    helloOk w p L = true ∧ AllOk (if L.contains p then L else L ++ [p]) (helloV w p L) := by
  have hok : helloOk w p L = true := by
    simp only [helloOk, h.may, hp, h.id, Bool.true_and, Bool.and_eq_true, Bool.not_eq_true', decide_eq_false_iff_not, decide_eq_true_eq, List.all_eq_true]
    exact ⟨hn, by omega, h.pl⟩
  have hsz : sizeV w = L.length := by unfold sizeV; rw [h.len, h.pas]; rfl
  have hr : roomV w p = true := by
    unfold roomV
    unfold sizeV at hsz
    have : w.peers.length + w.passive.length < 16 := by omega
    simp [this]
  have hw : helloV w p L = knownV w p := by
    unfold helloV
    refine tells_noop fun x hx => tellV_noop (.inr (.inl ?_))
    have hk := (h.mem x).2 hx
    rw [knowsV_iff] at hk ⊢
    by_cases hxp : x = p
    · exact .inl ⟨_, (knownV_peers hr _).2 (.inl rfl), hxp.symm⟩
    · rcases hk with ⟨q, hq, he⟩ | hk
      · exact .inl ⟨q, (knownV_peers hr q).2 (.inr ⟨hq, by rw [he]; exact hxp⟩), he⟩
      · exact .inr ((knownV_passive hr x).2 ⟨hk, hxp⟩)
  refine ⟨hok, ?_⟩
  obtain ⟨m1, m2⟩ := helloV_may hok
  rw [hw] at m1 m2 ⊢
  have hps : (knownV w p).passive = [] := by unfold knownV; rw [if_pos hr, h.pas]; rfl
  have hks := knownV_size h.may hr
  have hmem : ∀ y, knowsV (knownV w p) y = true ↔ y = p ∨ y ∈ L := by
    intro y
    rw [← h.mem y, knowsV_iff, knowsV_iff, hps, h.pas]
    simp only [List.not_mem_nil, or_false]
    constructor
    · rintro ⟨q, hq, he⟩
      rcases (knownV_peers hr q).1 hq with rfl | ⟨h1, h2⟩
      · exact .inl he.symm
      · exact .inr ⟨q, h1, he⟩
    · rintro (rfl | ⟨q, hq, he⟩)
      · exact ⟨_, (knownV_peers hr _).2 (.inl rfl), rfl⟩
      · by_cases hyp : y = p
        · exact ⟨_, (knownV_peers hr _).2 (.inl rfl), hyp.symm⟩
        · exact ⟨q, (knownV_peers hr q).2 (.inr ⟨hq, by rw [he]; exact hyp⟩), he⟩
  have hps2 : sizeV (knownV w p) = (knownV w p).peers.length := by unfold sizeV; rw [hps]; rfl
  by_cases hpl : p ∈ L
  · have hc : L.contains p = true := by simpa using hpl
    rw [if_pos hc]
    rw [if_pos ((h.mem p).2 hpl)] at hks
    refine ⟨m1, by rw [m2, h.id], hps, fun y => ?_, h.pl, h.no, by omega⟩
    rw [hmem]
    constructor
    · rintro (rfl | h)
      · exact hpl
      · exact h
    · exact .inr
  · have hc : ¬ L.contains p = true := by simpa using hpl
    rw [if_neg hc]
    rw [if_neg (by rw [h.mem]; exact hpl)] at hks
    refine ⟨m1, by rw [m2, h.id], hps, fun y => ?_, ?_, ?_, by simp; omega⟩
    · rw [hmem]
      simp
      exact or_comm
    · intro y hy
      rcases List.mem_append.1 hy with hy | hy
      · exact h.pl y hy
      · rw [List.mem_singleton.1 hy]; exact hp
    · intro h1
      rcases List.mem_append.1 h1 with h1 | h1
      · exact h.no h1
      · exact hn (List.mem_singleton.1 h1).symm
theorem all_heard {L : List Int} {w : View} (h : AllOk L w) (hl : L.length ≤ 12) : helloOk ⟨100, [], []⟩ 7 L = true ∧ ∀ x ∈ L, ∃ q ∈ (helloV ⟨100, [], []⟩ 7 L).peers, q.id = x := by
  have hok : helloOk ⟨100, [], []⟩ 7 L = true := by
    simp only [helloOk, Bool.and_eq_true, Bool.not_eq_true', decide_eq_false_iff_not, decide_eq_true_eq, List.all_eq_true]
    exact ⟨by decide +kernel, by decide, by decide, by omega, h.pl⟩
  refine ⟨hok, fun x hx => ?_⟩
  have g := hello_greeted hok (by decide)
  rcases g.told x hx with e | e | e
  · have e' : x = 100 := e
    rw [e'] at hx
    exact absurd hx h.no
  · rw [knowsV_iff] at e
    rcases e with e | e
    · exact e
    · exact absurd ((g.passive x).1 e).1 (by simp)
  · have := g.size
    have h0 : sizeV ⟨100, [], []⟩ = 0 := rfl
    omega
def AllBox (L : List Int) (w : View) (c : List D) : Prop := c = w.cells ∨ (L = [] ∧ w = ⟨100, [], []⟩ ∧ c = [.int .i64 100, .nil, .nil])
def AllInv (vals : List Int) (i : Nat) (st : St) : Prop := ∃ L w c kd, AllOk L w ∧ L.length ≤ i ∧ AllBox L w c ∧ (kd = .mut ∨ kd = .app) ∧ st.bs = [⟨[c], 3, .box⟩, ⟨L.map irow, 1, kd⟩] ∧ st.fr 0 = .sl (vals.map irow) vals.length ∧ st.fr 3 = .ptr 0 0 0 ∧ st.fr 4 = .ref 1 0 L.length ∧ st.fr 5 = .int .i64 i
def AllEnd (st : St) : Prop := ∃ L w c kd, AllOk L w ∧ L.length ≤ 12 ∧ AllBox L w c ∧ (kd = .mut ∨ kd = .app) ∧ st.bs = [⟨[c], 3, .box⟩, ⟨L.map irow, 1, kd⟩] ∧ st.fr 3 = .ptr 0 0 0 ∧ st.fr 4 = .ref 1 0 L.length
def EInv (L : List Int) (W : View) (i : Nat) (st : St) : Prop := (∃ b0, st.bs = [b0, ⟨L.map irow, 1, .app⟩, ⟨[W.cells], 3, .box⟩]) ∧ st.fr 4 = .ref 1 0 L.length ∧ st.fr 9 = .ptr 2 0 0 ∧ st.fr 11 = .int .i64 i
theorem all_rest {Q : Ex → St → Prop} (L : List Int) (W : View) (hL : L.length ≤ 12) (hWl : W.peers.length + W.passive.length ≤ 16) (hfind : ∀ x ∈ L, ∃ q ∈ W.peers, q.id = x) (hQ : ∀ st, Q .normal st)
    (st : St) (h4 : st.fr 4 = .ref 1 0 L.length) (h9 : st.fr 9 = .ptr 2 0 0) (h11 : st.fr 11 = .int .i64 0) (hb : ∃ b0, st.bs = [b0, ⟨L.map irow, 1, .app⟩, ⟨[W.cells], 3, .box⟩]) : anyLoop (cf 0 [] []) 3 c_gimmallaw10_HelloAll_L1 (blockQ 2 Q) st := by
  refine list_rule L (fun i rest st => EInv L W i st) (fun _ => True) (fun _ => False) c_gimmallaw10_HelloAll_L1.eq_1 ?_ ?_ ?_ ?_ ?_
  · exact ⟨hb, h4, h9, h11⟩
  · rintro i ⟨fr, bs⟩ hi ⟨⟨b0, hb⟩, h4, h9, h11⟩
    simp only at hb h4 h9 h11
    subst hb
    simp -implicitDefEqProofs [h4, h9, h11, hi]
  · rintro i x rest ⟨fr, bs⟩ hlt hget hg hd hd2 ⟨⟨b0, hb⟩, h4, h9, h11⟩
    simp only at hb h4 h9 h11
    subst hb
    have hlt' : (i : Int) < L.length := by omega
    have hwr := wrap_next (n := i) (by omega)
    have hf := hfind x (List.mem_of_getElem? hget)
    simp -implicitDefEqProofs [h4, h9, h11, hlt']
    refine list_rule W.peers (fun k rest st => EInv L W i st ∧ st.fr 12 = .bool ((W.peers.take k).any fun q => decide (q.id = x)) ∧ st.fr 13 = .int .i64 k) (fun st => EInv L W i st ∧ st.fr 12 = .bool true) (fun _ => False) c_gimmallaw10_HelloAll_L2.eq_1 ?_ ?_ ?_ ?_ ?_
    · exact ⟨⟨⟨_, rfl⟩, by simp [h4], by simp [h9], by simp [h11]⟩, by simp, by simp⟩
    · rintro k ⟨fr, bs⟩ hk ⟨⟨⟨b0, hb⟩, h4, h9, h11⟩, h12, h13⟩
      simp only at hb h4 h9 h11 h12 h13
      subst hb
      rw [hk, List.take_length] at h12
      have hany : (W.peers.any fun q => decide (q.id = x)) = true := by
        obtain ⟨q, hq, he⟩ := hf
        exact List.any_eq_true.2 ⟨q, hq, by simpa using he⟩
      rw [hany] at h12
      simp -implicitDefEqProofs [h4, h9, h11, h12, h13, hk, View.cells, peersD, intsD]
      exact ⟨⟨_, by simp [View.cells, peersD, intsD]; rfl⟩, by simp [h4], by simp [h9], by simp [h11]⟩
    · rintro k q rest ⟨fr, bs⟩ hltk hgetk hgk hdk hdk2 ⟨⟨⟨b0, hb⟩, h4, h9, h11⟩, h12, h13⟩
      simp only at hb h4 h9 h11 h12 h13
      subst hb
      have hltk' : (k : Int) < W.peers.length := by omega
      have hwk := wrap_next (n := k) (by omega)
      have hnx : ((W.peers.take (k + 1)).any fun q => decide (q.id = x)) = (((W.peers.take k).any fun q => decide (q.id = x)) || decide (q.id = x)) := by
        rw [List.take_add_one, hgetk]
        simp
      have hI : ∀ (fr' : Nat → D) bs', (∃ b0, bs' = [b0, ⟨L.map irow, 1, .app⟩, ⟨[W.cells], 3, .box⟩]) → fr' 4 = .ref 1 0 L.length → fr' 9 = .ptr 2 0 0 → fr' 11 = .int .i64 i → EInv L W i ⟨fr', bs'⟩ := fun _ _ e1 e2 e3 e4 => ⟨e1, e2, e3, e4⟩
      rw [hnx]
      generalize (W.peers.take k).any (fun q => decide (q.id = x)) = A at *
      clear hnx hf hfind
      cases A
      all_goals
        simp -implicitDefEqProofs [h4, h9, h11, h12, h13, hlt, hlt', hget, hg, hltk, hltk', hgetk, hgk, hwk, irow, Peer.row, View.cells, peersD, intsD]
      all_goals exact hI _ _ ⟨_, by simp [View.cells, peersD, intsD, irow]; rfl⟩ (by simp [h4]) (by simp [h9]) (by simp [h11])
    · rintro ⟨fr, bs⟩ ⟨⟨⟨b0, hb⟩, h4, h9, h11⟩, h12⟩
      simp only at hb h4 h9 h11 h12
      subst hb
      simp -implicitDefEqProofs [h4, h9, h11, h12, hwr]
      exact ⟨⟨_, by simp [View.cells]; rfl⟩, by simp [h4], by simp [h9], by simp⟩
    · rintro st h
      exact h.elim
  · intro st _
    exact hQ st
  · intro st h
    exact h.elim
theorem law10_HelloAll (vals : List Int) (hl : vals.length ≤ cap) : Den PP 9 [intsD vals] [] (.bool true) [] := by
  have g0 := law10_given
  simp [givenH, Peer.row, irow] at g0
  unfold cap at hl
  simp only [intsD]
  refine den_of [] [] is_gimmallaw10_HelloAll ?_
  simp -implicitDefEqProofs [c_gimmallaw10_HelloAll]
  refine callThen_of law10_awake ?_
  simp -implicitDefEqProofs
  refine list_rule (vals.take 12) (fun i rest st => AllInv vals i st) (fun st => AllEnd st) (fun _ => False) c_gimmallaw10_HelloAll_L0.eq_1 ?_ ?_ ?_ ?_ ?_
  · refine ⟨[], ⟨100, [], []⟩, _, .mut, ⟨by decide +kernel, rfl, rfl, by simp [knowsV], by simp, by simp, rfl⟩, by simp, .inr ⟨rfl, rfl, rfl⟩, .inl rfl, by simp, by simp, by simp, by simp, by simp⟩
  · rintro i ⟨fr, bs⟩ hi ⟨L, w, c, kd, hA, hL, hc, hkd, hbs, h0, h3, h4, h5⟩
    simp only at hbs h0 h3 h4 h5
    subst hbs
    rw [List.length_take] at hi
    by_cases hlt : i < vals.length
    · have h20 : ¬ i < 12 := by omega
      have hlt' : (i : Int) < vals.length := by omega
      have h20' : ¬ (i : Int) < 12 := by omega
      simp -implicitDefEqProofs [h0, h3, h4, h5, hlt', h20']
      exact ⟨L, w, c, kd, hA, by omega, hc, hkd, rfl, by simp [h3], by simp [h4]⟩
    · have hlt' : ¬ (i : Int) < vals.length := by omega
      simp -implicitDefEqProofs [h0, h3, h4, h5, hlt']
      exact ⟨L, w, c, kd, hA, by omega, hc, hkd, rfl, by simp [h3], by simp [h4]⟩
  · rintro i v rest ⟨fr, bs⟩ hlt hget hg hd hd2 ⟨L, w, c, kd, hA, hL, hc, hkd, hbs, h0, h3, h4, h5⟩
    simp only at hbs h0 h3 h4 h5
    subst hbs
    rw [List.length_take] at hlt
    have hlv : i < vals.length := by omega
    have hl2 : (i : Int) < vals.length := by omega
    have h12 : (i : Int) < 12 := by omega
    have hget2 : vals[i]? = some v := by rw [List.getElem?_take] at hget; simpa [show i < 12 by omega] using hget
    have hgv : vals[i] = v := by simpa [hlv] using hget2
    have hwr := wrap_next (n := i) (by omega)
    have hp : place (v % 256) = true := by rw [place_iff]; omega
    clear hget hg hd hd2
    by_cases hn : v % 256 = 100
    · have hI : ∀ (fr' : Nat → D) bs', bs' = [⟨[c], 3, .box⟩, ⟨L.map irow, 1, kd⟩] → fr' 0 = .sl (vals.map irow) vals.length → fr' 3 = .ptr 0 0 0 → fr' 4 = .ref 1 0 L.length → fr' 5 = .int .i64 ((i : Int) + 1) → AllInv vals (i + 1) ⟨fr', bs'⟩ := by
        intro fr' bs' e1 e2 e3 e4 e5
        exact ⟨L, w, c, kd, hA, by omega, hc, hkd, e1, e2, e3, e4, by simpa using e5⟩
      have hcs : ∀ S : Nat → Bool, c.map (D.sweep S) = c := by
        intro S
        rcases hc with rfl | ⟨_, _, rfl⟩ <;> simp [View.cells]
      simp -implicitDefEqProofs [h0, h3, h4, h5, hl2, h12, hlv, hgv, irow, hn, hwr]
      exact hI _ _ (by simp [hcs, irow]) (by simp [h0]) (by simp [h3]) (by simp [h4]) (by simp)
    · obtain ⟨hok, hA2⟩ := all_step hA (by omega) hp hn
      have hsw := (helloV_may hok).2
      have c1 := hello_Take w (v % 256) L (by
        have := (viewMay_parts hA.may).2.2.1
        unfold View.small cap16 cap; omega) hok
      rw [← hsw] at c1
      have c2 := law10_in L (v % 256) (by unfold cap; omega)
      have hLl : (L.length + 1) * 8 ≤ 140737488355328 := by omega
      generalize hw2 : helloV w (v % 256) L = w2 at *
      clear hw2 hsw hok
      have hI : ∀ (fr' : Nat → D) bs' kd', (kd' = .mut ∨ kd' = .app) → bs' = [⟨[w2.cells], 3, .box⟩, ⟨(if L.contains (v % 256) then L else L ++ [v % 256]).map irow, 1, kd'⟩] → fr' 0 = .sl (vals.map irow) vals.length → fr' 3 = .ptr 0 0 0 → fr' 4 = .ref 1 0 (if L.contains (v % 256) then L else L ++ [v % 256]).length → fr' 5 = .int .i64 ((i : Int) + 1) → AllInv vals (i + 1) ⟨fr', bs'⟩ := by
        intro fr' bs' kd' hk' e1 e2 e3 e4 e5
        have hll : (if L.contains (v % 256) then L else L ++ [v % 256]).length ≤ i + 1 := by
          have : (L ++ [v % 256]).length = L.length + 1 := by simp
          split <;> omega
        exact ⟨_, w2, _, kd', hA2, hll, .inl rfl, hk', e1, e2, e3, e4, by simpa using e5⟩
      clear hA2
      generalize hC : L.contains (v % 256) = C at *
      simp only [psB, xsB, viewD, View.cells, peersD, intsD] at c1 c2 hI
      rcases hc with rfl | ⟨rfl, rfl, rfl⟩ <;> rcases hkd with rfl | rfl <;> cases C
      all_goals
        simp only [if_true, if_false, Bool.false_eq_true] at hI
        simp -implicitDefEqProofs [h0, h3, h4, h5, hl2, h12, hlv, hgv, irow, hn, hwr, View.cells, peersD, intsD]
        repeat' (first | (refine callThen_of (by first | exact c1 | exact den_nrm (c1) | exact den_nrm (by simpa using c1) | exact c2 | exact den_nrm (c2) | exact den_nrm (by simpa using c2) | exact law_Num _) ?_; simp -implicitDefEqProofs [*, h0, h3, h4, h5, hl2, h12, hlv, hgv, irow, hn, hwr, downTo, Fits, View.cells, peersD, intsD]) | (with_reducible refine gOps_dec (fun _ => ?_) (fun _ => ?_) <;> simp -implicitDefEqProofs [*, h0, h3, h4, h5, hl2, h12, hlv, hgv, irow, hn, hwr, downTo, Fits, View.cells, peersD, intsD]) | (with_reducible refine gOps_ndec (fun _ => ?_) (fun _ => ?_) <;> simp -implicitDefEqProofs [*, h0, h3, h4, h5, hl2, h12, hlv, hgv, irow, hn, hwr, downTo, Fits, View.cells, peersD, intsD]) | (with_reducible refine gOps_and (fun hq => ?_) (fun hq => ?_) <;> (try simp at hq) <;> simp -implicitDefEqProofs [*, h0, h3, h4, h5, hl2, h12, hlv, hgv, irow, hn, hwr, downTo, Fits, View.cells, peersD, intsD]) | (with_reducible refine gOps_or (fun hq => ?_) (fun hq => ?_) <;> (try simp at hq) <;> simp -implicitDefEqProofs [*, h0, h3, h4, h5, hl2, h12, hlv, hgv, irow, hn, hwr, downTo, Fits, View.cells, peersD, intsD]) | (with_reducible refine gOps_not (fun hq => ?_) (fun hq => ?_) <;> (try simp at hq) <;> simp -implicitDefEqProofs [*, h0, h3, h4, h5, hl2, h12, hlv, hgv, irow, hn, hwr, downTo, Fits, View.cells, peersD, intsD]) | (with_reducible refine gOps_split (fun hq => ?_) (fun hq => ?_) <;> (try simp at hq) <;> simp -implicitDefEqProofs [*, h0, h3, h4, h5, hl2, h12, hlv, hgv, irow, hn, hwr, downTo, Fits, View.cells, peersD, intsD]) | (with_reducible refine condC_dec (fun _ => ?_) (fun _ => ?_) <;> simp -implicitDefEqProofs [*, h0, h3, h4, h5, hl2, h12, hlv, hgv, irow, hn, hwr, downTo, Fits, View.cells, peersD, intsD]) | (with_reducible refine condC_ndec (fun _ => ?_) (fun _ => ?_) <;> simp -implicitDefEqProofs [*, h0, h3, h4, h5, hl2, h12, hlv, hgv, irow, hn, hwr, downTo, Fits, View.cells, peersD, intsD]) | (with_reducible refine condC_and (fun hq => ?_) (fun hq => ?_) <;> (try simp at hq) <;> simp -implicitDefEqProofs [*, h0, h3, h4, h5, hl2, h12, hlv, hgv, irow, hn, hwr, downTo, Fits, View.cells, peersD, intsD]) | (with_reducible refine condC_or (fun hq => ?_) (fun hq => ?_) <;> (try simp at hq) <;> simp -implicitDefEqProofs [*, h0, h3, h4, h5, hl2, h12, hlv, hgv, irow, hn, hwr, downTo, Fits, View.cells, peersD, intsD]) | (with_reducible refine condC_not (fun hq => ?_) (fun hq => ?_) <;> (try simp at hq) <;> simp -implicitDefEqProofs [*, h0, h3, h4, h5, hl2, h12, hlv, hgv, irow, hn, hwr, downTo, Fits, View.cells, peersD, intsD]) | (with_reducible refine condC_split (fun hq => ?_) (fun hq => ?_) <;> (try simp at hq) <;> simp -implicitDefEqProofs [*, h0, h3, h4, h5, hl2, h12, hlv, hgv, irow, hn, hwr, downTo, Fits, View.cells, peersD, intsD]) | (refine appK2_if (by omega) ?_; simp -implicitDefEqProofs [*, h0, h3, h4, h5, hl2, h12, hlv, hgv, irow, hn, hwr, downTo, Fits, View.cells, peersD, intsD]) | (refine pureV_if (by omega) ?_; simp -implicitDefEqProofs [*, h0, h3, h4, h5, hl2, h12, hlv, hgv, irow, hn, hwr, downTo, Fits, View.cells, peersD, intsD]))
      all_goals exact hI _ _ .app (.inr rfl) (by simp [irow]) (by simp [h0]) (by simp [h3]) (by simp [h4]) (by simp)
  · rintro st ⟨L, w, c, kd, hA, hL, hc, hkd, hbs, h3, h4⟩
    obtain ⟨fr, bs⟩ := st
    simp only at hbs h3 h4
    subst hbs
    obtain ⟨hok, hfind⟩ := all_heard hA hL
    have hsw := (helloV_may hok).2
    have c1 := hello_Take ⟨100, [], []⟩ 7 L (by unfold View.small cap16 cap; decide) hok
    rw [← hsw] at c1
    have hWl := (viewMay_parts (helloV_may hok).1).2.2.1
    generalize helloV ⟨100, [], []⟩ 7 L = W at *
    have hlen := hA.len
    have hpas := hA.pas
    clear hsw hok
    simp only [psB, xsB, viewD, View.cells, peersD, intsD, List.map_nil, List.length_nil] at c1
    rcases hc with rfl | ⟨rfl, rfl, rfl⟩ <;> rcases hkd with rfl | rfl
    all_goals
      simp -implicitDefEqProofs [h3, h4, View.cells, peersD, intsD, hlen, hpas]
      repeat' (first | (refine callThen_of (by first | exact c1 | exact den_nrm (c1) | exact den_nrm (by simpa using c1) | exact law_Num _) ?_; simp -implicitDefEqProofs [*, h3, h4, View.cells, peersD, intsD, hlen, hpas, downTo]) | (with_reducible refine gOps_dec (fun _ => ?_) (fun _ => ?_) <;> simp -implicitDefEqProofs [*, h3, h4, View.cells, peersD, intsD, hlen, hpas, downTo]) | (with_reducible refine gOps_ndec (fun _ => ?_) (fun _ => ?_) <;> simp -implicitDefEqProofs [*, h3, h4, View.cells, peersD, intsD, hlen, hpas, downTo]) | (with_reducible refine gOps_and (fun hq => ?_) (fun hq => ?_) <;> (try simp at hq) <;> simp -implicitDefEqProofs [*, h3, h4, View.cells, peersD, intsD, hlen, hpas, downTo]) | (with_reducible refine gOps_or (fun hq => ?_) (fun hq => ?_) <;> (try simp at hq) <;> simp -implicitDefEqProofs [*, h3, h4, View.cells, peersD, intsD, hlen, hpas, downTo]) | (with_reducible refine gOps_not (fun hq => ?_) (fun hq => ?_) <;> (try simp at hq) <;> simp -implicitDefEqProofs [*, h3, h4, View.cells, peersD, intsD, hlen, hpas, downTo]) | (with_reducible refine gOps_split (fun hq => ?_) (fun hq => ?_) <;> (try simp at hq) <;> simp -implicitDefEqProofs [*, h3, h4, View.cells, peersD, intsD, hlen, hpas, downTo]) | (with_reducible refine condC_dec (fun _ => ?_) (fun _ => ?_) <;> simp -implicitDefEqProofs [*, h3, h4, View.cells, peersD, intsD, hlen, hpas, downTo]) | (with_reducible refine condC_ndec (fun _ => ?_) (fun _ => ?_) <;> simp -implicitDefEqProofs [*, h3, h4, View.cells, peersD, intsD, hlen, hpas, downTo]) | (with_reducible refine condC_and (fun hq => ?_) (fun hq => ?_) <;> (try simp at hq) <;> simp -implicitDefEqProofs [*, h3, h4, View.cells, peersD, intsD, hlen, hpas, downTo]) | (with_reducible refine condC_or (fun hq => ?_) (fun hq => ?_) <;> (try simp at hq) <;> simp -implicitDefEqProofs [*, h3, h4, View.cells, peersD, intsD, hlen, hpas, downTo]) | (with_reducible refine condC_not (fun hq => ?_) (fun hq => ?_) <;> (try simp at hq) <;> simp -implicitDefEqProofs [*, h3, h4, View.cells, peersD, intsD, hlen, hpas, downTo]) | (with_reducible refine condC_split (fun hq => ?_) (fun hq => ?_) <;> (try simp at hq) <;> simp -implicitDefEqProofs [*, h3, h4, View.cells, peersD, intsD, hlen, hpas, downTo]) | (refine appK2_if (by omega) ?_; simp -implicitDefEqProofs [*, h3, h4, View.cells, peersD, intsD, hlen, hpas, downTo]) | (refine pureV_if (by omega) ?_; simp -implicitDefEqProofs [*, h3, h4, View.cells, peersD, intsD, hlen, hpas, downTo]))
    all_goals
      refine all_rest _ W hL hWl hfind (fun st => ?_) _ (by simp [h4]) (by simp) (by simp) ⟨_, by simp [View.cells, peersD, intsD]; rfl⟩
      simp -implicitDefEqProofs
      repeat' (first | (refine callThen_of (by first | exact g0) ?_; simp -implicitDefEqProofs [*]) | (with_reducible refine gOps_dec (fun _ => ?_) (fun _ => ?_) <;> simp -implicitDefEqProofs [*]) | (with_reducible refine gOps_ndec (fun _ => ?_) (fun _ => ?_) <;> simp -implicitDefEqProofs [*]) | (with_reducible refine gOps_and (fun hq => ?_) (fun hq => ?_) <;> (try simp at hq) <;> simp -implicitDefEqProofs [*]) | (with_reducible refine gOps_or (fun hq => ?_) (fun hq => ?_) <;> (try simp at hq) <;> simp -implicitDefEqProofs [*]) | (with_reducible refine gOps_not (fun hq => ?_) (fun hq => ?_) <;> (try simp at hq) <;> simp -implicitDefEqProofs [*]) | (with_reducible refine gOps_split (fun hq => ?_) (fun hq => ?_) <;> (try simp at hq) <;> simp -implicitDefEqProofs [*]) | (with_reducible refine condC_dec (fun _ => ?_) (fun _ => ?_) <;> simp -implicitDefEqProofs [*]) | (with_reducible refine condC_ndec (fun _ => ?_) (fun _ => ?_) <;> simp -implicitDefEqProofs [*]) | (with_reducible refine condC_and (fun hq => ?_) (fun hq => ?_) <;> (try simp at hq) <;> simp -implicitDefEqProofs [*]) | (with_reducible refine condC_or (fun hq => ?_) (fun hq => ?_) <;> (try simp at hq) <;> simp -implicitDefEqProofs [*]) | (with_reducible refine condC_not (fun hq => ?_) (fun hq => ?_) <;> (try simp at hq) <;> simp -implicitDefEqProofs [*]) | (with_reducible refine condC_split (fun hq => ?_) (fun hq => ?_) <;> (try simp at hq) <;> simp -implicitDefEqProofs [*]) | (refine appK2_if (by omega) ?_; simp -implicitDefEqProofs [*]) | (refine pureV_if (by omega) ?_; simp -implicitDefEqProofs [*]))
  · rintro st h
    exact h.elim
end Go.AM
