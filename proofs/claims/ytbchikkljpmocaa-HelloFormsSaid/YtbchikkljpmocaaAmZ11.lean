/- What the proof of this claim stands on, part 11. -/
import Derived.Test.YtbchikkljpmocaaAmZ10
/- AM: contracts: a greeting is taken. -/
namespace Go.AM
set_option linter.unusedSimpArgs false
set_option linter.unusedVariables false
set_option maxRecDepth 8000
set_option maxHeartbeats 0
theorem hello_Take_no (v : View) (a : Int) (ids : List Int) (hs : v.small) (hl : ids.length ≤ cap) (h : helloOk v a ids = false) : Den PP 17 [viewD v, .int .i64 a, intsD ids] [] (.tup [.agg [.int .i64 0, .nil, .nil], .int .i64 1000]) [] := by
  have c1 := view_May v hs
  have c2 := ring_Place a
  have c3 := ring_Places ids hl
  have e1 : decide (ids.length ≤ 16) = !decide ((16 : Int) < ids.length) := by
    rw [← decide_not, decide_eq_decide]; omega
  unfold helloOk at h
  rw [e1] at h
  clear e1
  simp only [viewD, View.cells, peersD, intsD] at c1 c3 ⊢
  generalize viewMay v = A at *
  generalize place a = B at *
  generalize ids.all place = C at *
  refine den_of [37] [38, 60] is_hello_Take ?_
  cases A <;> cases B <;> cases C
  all_goals
    simp -implicitDefEqProofs [c_hello_Take]
    repeat' (first | (refine callThen_of (by first | exact c1 | exact c2 | exact c3) ?_; simp -implicitDefEqProofs [*]) | (with_reducible refine gOps_dec (fun _ => ?_) (fun _ => ?_) <;> simp -implicitDefEqProofs [*]) | (with_reducible refine gOps_ndec (fun _ => ?_) (fun _ => ?_) <;> simp -implicitDefEqProofs [*]) | (with_reducible refine gOps_and (fun hq => ?_) (fun hq => ?_) <;> (try simp at hq) <;> simp -implicitDefEqProofs [*]) | (with_reducible refine gOps_or (fun hq => ?_) (fun hq => ?_) <;> (try simp at hq) <;> simp -implicitDefEqProofs [*]) | (with_reducible refine gOps_not (fun hq => ?_) (fun hq => ?_) <;> (try simp at hq) <;> simp -implicitDefEqProofs [*]) | (with_reducible refine gOps_split (fun hq => ?_) (fun hq => ?_) <;> (try simp at hq) <;> simp -implicitDefEqProofs [*]) | (with_reducible refine condC_dec (fun _ => ?_) (fun _ => ?_) <;> simp -implicitDefEqProofs [*]) | (with_reducible refine condC_ndec (fun _ => ?_) (fun _ => ?_) <;> simp -implicitDefEqProofs [*]) | (with_reducible refine condC_and (fun hq => ?_) (fun hq => ?_) <;> (try simp at hq) <;> simp -implicitDefEqProofs [*]) | (with_reducible refine condC_or (fun hq => ?_) (fun hq => ?_) <;> (try simp at hq) <;> simp -implicitDefEqProofs [*]) | (with_reducible refine condC_not (fun hq => ?_) (fun hq => ?_) <;> (try simp at hq) <;> simp -implicitDefEqProofs [*]) | (with_reducible refine condC_split (fun hq => ?_) (fun hq => ?_) <;> (try simp at hq) <;> simp -implicitDefEqProofs [*]) | (refine appK2_if (by omega) ?_; simp -implicitDefEqProofs [*]) | (refine pureV_if (by omega) ?_; simp -implicitDefEqProofs [*]))
  all_goals (exfalso; simp at h; grind)
theorem tellV_full {v : View} (h : 16 ≤ sizeV v) (x : Int) : tellV v x = v := by
  unfold tellV
  split
  · rename_i hc
    simp only [Bool.and_eq_true, Bool.not_eq_true'] at hc
    apply knownV_no
    unfold roomV
    rw [hc.2]
    unfold sizeV at h
    simp
    omega
  · rfl
theorem tells_full {v : View} (h : 16 ≤ sizeV v) : ∀ ids : List Int, ids.foldl tellV v = v := by
  intro ids
  induction ids with
  | nil => rfl
  | cons x ids ih => rw [List.foldl_cons, tellV_full h, ih]
theorem take_next {ids : List Int} {i : Nat} {x : Int} (h : ids[i]? = some x) (w0 : View) : (ids.take (i + 1)).foldl tellV w0 = tellV ((ids.take i).foldl tellV w0) x := by
  rw [List.take_add_one, h]
  simp
def B_Take (w : View) (bs : List Blk) : Prop := (∃ d0 d2 d3, bs = [d0, ⟨[[.int .i64 0, .nil, .nil]], 3, .box⟩, d2, d3, viewBox w 5 6, psB w, xsB w]) ∨ ∃ d0 d2 d3 d5 d6, bs = [d0, ⟨[[.int .i64 0, .nil, .nil]], 3, .box⟩, d2, d3, viewBox w 7 8, d5, d6, psB w, xsB w]
theorem hello_Take_yes (v : View) (a : Int) (ids : List Int) (hs : v.small) (h : helloOk v a ids = true) (hr : roomV v a = true) : Den PP 17 [viewD v, .int .i64 a, intsD ids] [] (.tup [.agg [.int .i64 v.id, .ref 0 0 (helloV v a ids).peers.length, .ref 1 0 (helloV v a ids).passive.length], .int .i64 0]) [psB (helloV v a ids), xsB (helloV v a ids)] := by
  obtain ⟨k1, k2, k3, k4, k5⟩ := helloOk_parts h
  have hcap : ids.length ≤ cap := by unfold cap; omega
  have c1 := view_May v hs
  have c2 := ring_Place a
  have c3 := ring_Places ids hcap
  have c4 := view_Copy v hs
  rw [k1] at c1
  rw [k2] at c2
  rw [show ids.all place = true from List.all_eq_true.2 k5] at c3
  have c5 := hello_heard v a k1 k2 k3
  rw [if_pos hr] at c5
  have hw0 := (knownV_may k1 k2 k3).1
  have hid0 := knownV_id v a
  have hk4 : ¬ (16 : Int) < ids.length := by omega
  unfold helloV
  generalize knownV v a = w0 at *
  have key : ∀ i, viewMay ((ids.take i).foldl tellV w0) = true ∧ ((ids.take i).foldl tellV w0).id = v.id := by
    intro i
    obtain ⟨e1, e2⟩ := tells_may (ids.take i) w0 hw0 (fun x hx => k5 x (List.mem_of_mem_take hx))
    exact ⟨e1, by rw [e2, hid0]⟩
  simp only [viewD, View.cells, peersD, intsD, viewBox, psB, xsB] at c1 c3 c4 c5 ⊢
  clear k1 k2 hs h hr
  refine den_of [37] [38, 60] is_hello_Take ?_
  simp -implicitDefEqProofs [c_hello_Take, hk4, k3]
  repeat' (first | (refine callThen_of (by first | exact c1 | exact c2 | exact c3 | exact c4) ?_; simp -implicitDefEqProofs [*, downTo, hk4, k3]) | (with_reducible refine gOps_dec (fun _ => ?_) (fun _ => ?_) <;> simp -implicitDefEqProofs [*, downTo, hk4, k3]) | (with_reducible refine gOps_ndec (fun _ => ?_) (fun _ => ?_) <;> simp -implicitDefEqProofs [*, downTo, hk4, k3]) | (with_reducible refine gOps_and (fun hq => ?_) (fun hq => ?_) <;> (try simp at hq) <;> simp -implicitDefEqProofs [*, downTo, hk4, k3]) | (with_reducible refine gOps_or (fun hq => ?_) (fun hq => ?_) <;> (try simp at hq) <;> simp -implicitDefEqProofs [*, downTo, hk4, k3]) | (with_reducible refine gOps_not (fun hq => ?_) (fun hq => ?_) <;> (try simp at hq) <;> simp -implicitDefEqProofs [*, downTo, hk4, k3]) | (with_reducible refine gOps_split (fun hq => ?_) (fun hq => ?_) <;> (try simp at hq) <;> simp -implicitDefEqProofs [*, downTo, hk4, k3]) | (with_reducible refine condC_dec (fun _ => ?_) (fun _ => ?_) <;> simp -implicitDefEqProofs [*, downTo, hk4, k3]) | (with_reducible refine condC_ndec (fun _ => ?_) (fun _ => ?_) <;> simp -implicitDefEqProofs [*, downTo, hk4, k3]) | (with_reducible refine condC_and (fun hq => ?_) (fun hq => ?_) <;> (try simp at hq) <;> simp -implicitDefEqProofs [*, downTo, hk4, k3]) | (with_reducible refine condC_or (fun hq => ?_) (fun hq => ?_) <;> (try simp at hq) <;> simp -implicitDefEqProofs [*, downTo, hk4, k3]) | (with_reducible refine condC_not (fun hq => ?_) (fun hq => ?_) <;> (try simp at hq) <;> simp -implicitDefEqProofs [*, downTo, hk4, k3]) | (with_reducible refine condC_split (fun hq => ?_) (fun hq => ?_) <;> (try simp at hq) <;> simp -implicitDefEqProofs [*, downTo, hk4, k3]) | (refine appK2_if (by omega) ?_; simp -implicitDefEqProofs [*, downTo, hk4, k3]) | (refine pureV_if (by omega) ?_; simp -implicitDefEqProofs [*, downTo, hk4, k3]))
  refine lendThen_frame [4, 2, 3] rfl (by decide) (by simp) c5 (by simp) (by simp [lentBs]) ?_
  simp -implicitDefEqProofs [framed]
  refine list_keep ids (fun i rest => fun ⟨fr, bs⟩ => B_Take ((ids.take i).foldl tellV w0) bs ∧ fr 6 = .ptr 1 0 0 ∧ fr 8 = .ptr 4 0 0 ∧ fr 40 = .sl (ids.map irow) ids.length ∧ fr 41 = .int .i64 ids.length ∧ fr 42 = .int .i64 i)
    (fun ⟨fr, bs⟩ => B_Take (ids.foldl tellV w0) bs ∧ fr 6 = .ptr 1 0 0 ∧ fr 8 = .ptr 4 0 0) (fun _ => False) c_hello_Take_L0.eq_1 ?_ ?_ ?_ ?_ ?_
  · exact ⟨.inl ⟨_, _, _, by simp [viewBox, psB, xsB]; exact ⟨rfl, rfl, rfl⟩⟩, by simp, by simp, by simp, by simp, by simp⟩
  · rintro i ⟨fr, bs⟩ hi ⟨hB, h6, h8, h40, h41, h42⟩
    rw [hi, List.take_length] at hB
    simp -implicitDefEqProofs [h6, h8, h40, h41, h42, hi]
    exact hB
  · rintro i x rest ⟨fr, bs⟩ hlt hget hg hd hd2 ⟨hB, h6, h8, h40, h41, h42⟩
    obtain ⟨w, hw⟩ : ∃ w, w = (ids.take i).foldl tellV w0 := ⟨_, rfl⟩
    rw [← hw] at hB
    have hlt' : (i : Int) < ids.length := by omega
    have hwr := wrap_next (n := i) (by omega)
    have hx := k5 x (List.mem_of_getElem? hget)
    have hkey := key i
    rw [← hw] at hkey
    obtain ⟨hm, hid⟩ := hkey
    have hnext := take_next hget w0
    rw [← hw] at hnext
    obtain ⟨p1, p2, p3, p4⟩ := viewMay_parts hm
    have v1 := view_Peer w x (by unfold cap; omega) (peersMay_rowed p1)
    rw [peerIs_mem p1 hx] at v1
    have v2 := view_Passive w x (by unfold cap; omega)
    have v3 : x ≠ w.id → _ := fun hn => hello_heard w x hm hx hn
    clear c1 c2 c3 c4 c5 key hw p1 p2 p3 p4
    obtain ⟨A, hA⟩ : ∃ A, (w.peers.map Peer.id).contains x = A := ⟨_, rfl⟩
    obtain ⟨C, hC⟩ : ∃ C, w.passive.contains x = C := ⟨_, rfl⟩
    have hkn : knowsV w x = (A || C) := by rw [← hA, ← hC]; rfl
    rw [hA] at v1
    rw [hC] at v2
    clear hA hC
    simp only [View.cells, peersD, intsD] at v1 v2
    have hr7 : List.range 7 = [0, 1, 2, 3, 4, 5, 6] := rfl
    clear hid hm
    by_cases hn : x = w.id
    · have ht : tellV w x = w := by unfold tellV; simp [hn]
      rw [ht] at hnext
      rcases hB with ⟨d0, d2, d3, rfl⟩ | ⟨d0, d2, d3, d5, d6, rfl⟩
      · simp -implicitDefEqProofs [h6, h8, h40, h41, h42, hlt, hlt', hget, hg, hn, hwr, viewBox, psB, xsB, irow]
        refine ⟨[], ⟨by simp, by simp, by simp⟩, ?_⟩
        unfold keepSt pickSt
        dsimp only
        try rw [hnext]
        exact ⟨.inl ⟨_, _, _, by simp [lentBs, hr7, viewBox, psB, xsB, irow]; repeat' (first | rfl | apply And.intro)⟩, by simp [h6, hr7], by simp [h8, hr7], by simp [h40], by simp [h41], by simp⟩
      · simp -implicitDefEqProofs [h6, h8, h40, h41, h42, hlt, hlt', hget, hg, hn, hwr, viewBox, psB, xsB, irow]
        refine ⟨[7, 8], ⟨by simp, by simp, by simp⟩, ?_⟩
        unfold keepSt pickSt
        dsimp only
        try rw [hnext]
        exact ⟨.inr ⟨_, _, _, _, _, by simp [lentBs, hr7, viewBox, psB, xsB, irow]; repeat' (first | rfl | apply And.intro)⟩, by simp [h6, hr7], by simp [h8, hr7], by simp [h40], by simp [h41], by simp⟩
    · have v4 := v3 hn
      clear v3
      cases hAC : (A || C) with
      | true =>
        have ht : tellV w x = w := by unfold tellV; simp [hkn, hAC]
        rw [ht] at hnext
        clear v4 hkn ht
        rcases hB with ⟨d0, d2, d3, rfl⟩ | ⟨d0, d2, d3, d5, d6, rfl⟩
        · cases A <;> cases C
          all_goals try (simp at hAC; done)
          all_goals
            clear hAC
            simp -implicitDefEqProofs [h6, h8, h40, h41, h42, hlt, hlt', hget, hg, hn, hwr, viewBox, psB, xsB, irow]
            repeat' (first | (refine callThen_of (by first | exact v1 | exact v2) ?_; simp -implicitDefEqProofs [*, h6, h8, h40, h41, h42, hlt, hlt', hget, hg, hn, hwr, viewBox, psB, xsB, irow]) | (with_reducible refine gOps_dec (fun _ => ?_) (fun _ => ?_) <;> simp -implicitDefEqProofs [*, h6, h8, h40, h41, h42, hlt, hlt', hget, hg, hn, hwr, viewBox, psB, xsB, irow]) | (with_reducible refine gOps_ndec (fun _ => ?_) (fun _ => ?_) <;> simp -implicitDefEqProofs [*, h6, h8, h40, h41, h42, hlt, hlt', hget, hg, hn, hwr, viewBox, psB, xsB, irow]) | (with_reducible refine gOps_and (fun hq => ?_) (fun hq => ?_) <;> (try simp at hq) <;> simp -implicitDefEqProofs [*, h6, h8, h40, h41, h42, hlt, hlt', hget, hg, hn, hwr, viewBox, psB, xsB, irow]) | (with_reducible refine gOps_or (fun hq => ?_) (fun hq => ?_) <;> (try simp at hq) <;> simp -implicitDefEqProofs [*, h6, h8, h40, h41, h42, hlt, hlt', hget, hg, hn, hwr, viewBox, psB, xsB, irow]) | (with_reducible refine gOps_not (fun hq => ?_) (fun hq => ?_) <;> (try simp at hq) <;> simp -implicitDefEqProofs [*, h6, h8, h40, h41, h42, hlt, hlt', hget, hg, hn, hwr, viewBox, psB, xsB, irow]) | (with_reducible refine gOps_split (fun hq => ?_) (fun hq => ?_) <;> (try simp at hq) <;> simp -implicitDefEqProofs [*, h6, h8, h40, h41, h42, hlt, hlt', hget, hg, hn, hwr, viewBox, psB, xsB, irow]) | (with_reducible refine condC_dec (fun _ => ?_) (fun _ => ?_) <;> simp -implicitDefEqProofs [*, h6, h8, h40, h41, h42, hlt, hlt', hget, hg, hn, hwr, viewBox, psB, xsB, irow]) | (with_reducible refine condC_ndec (fun _ => ?_) (fun _ => ?_) <;> simp -implicitDefEqProofs [*, h6, h8, h40, h41, h42, hlt, hlt', hget, hg, hn, hwr, viewBox, psB, xsB, irow]) | (with_reducible refine condC_and (fun hq => ?_) (fun hq => ?_) <;> (try simp at hq) <;> simp -implicitDefEqProofs [*, h6, h8, h40, h41, h42, hlt, hlt', hget, hg, hn, hwr, viewBox, psB, xsB, irow]) | (with_reducible refine condC_or (fun hq => ?_) (fun hq => ?_) <;> (try simp at hq) <;> simp -implicitDefEqProofs [*, h6, h8, h40, h41, h42, hlt, hlt', hget, hg, hn, hwr, viewBox, psB, xsB, irow]) | (with_reducible refine condC_not (fun hq => ?_) (fun hq => ?_) <;> (try simp at hq) <;> simp -implicitDefEqProofs [*, h6, h8, h40, h41, h42, hlt, hlt', hget, hg, hn, hwr, viewBox, psB, xsB, irow]) | (with_reducible refine condC_split (fun hq => ?_) (fun hq => ?_) <;> (try simp at hq) <;> simp -implicitDefEqProofs [*, h6, h8, h40, h41, h42, hlt, hlt', hget, hg, hn, hwr, viewBox, psB, xsB, irow]) | (refine appK2_if (by omega) ?_; simp -implicitDefEqProofs [*, h6, h8, h40, h41, h42, hlt, hlt', hget, hg, hn, hwr, viewBox, psB, xsB, irow]) | (refine pureV_if (by omega) ?_; simp -implicitDefEqProofs [*, h6, h8, h40, h41, h42, hlt, hlt', hget, hg, hn, hwr, viewBox, psB, xsB, irow]))
            refine ⟨[], ⟨by simp, by simp, by simp⟩, ?_⟩
            unfold keepSt pickSt
            dsimp only
            try rw [hnext]
            exact ⟨.inl ⟨_, _, _, by simp [lentBs, hr7, viewBox, psB, xsB, irow]; repeat' (first | rfl | apply And.intro)⟩, by simp [h6, hr7], by simp [h8, hr7], by simp [h40], by simp [h41], by simp⟩
        · cases A <;> cases C
          all_goals try (simp at hAC; done)
          all_goals
            clear hAC
            simp -implicitDefEqProofs [h6, h8, h40, h41, h42, hlt, hlt', hget, hg, hn, hwr, viewBox, psB, xsB, irow]
            repeat' (first | (refine callThen_of (by first | exact v1 | exact v2) ?_; simp -implicitDefEqProofs [*, h6, h8, h40, h41, h42, hlt, hlt', hget, hg, hn, hwr, viewBox, psB, xsB, irow]) | (with_reducible refine gOps_dec (fun _ => ?_) (fun _ => ?_) <;> simp -implicitDefEqProofs [*, h6, h8, h40, h41, h42, hlt, hlt', hget, hg, hn, hwr, viewBox, psB, xsB, irow]) | (with_reducible refine gOps_ndec (fun _ => ?_) (fun _ => ?_) <;> simp -implicitDefEqProofs [*, h6, h8, h40, h41, h42, hlt, hlt', hget, hg, hn, hwr, viewBox, psB, xsB, irow]) | (with_reducible refine gOps_and (fun hq => ?_) (fun hq => ?_) <;> (try simp at hq) <;> simp -implicitDefEqProofs [*, h6, h8, h40, h41, h42, hlt, hlt', hget, hg, hn, hwr, viewBox, psB, xsB, irow]) | (with_reducible refine gOps_or (fun hq => ?_) (fun hq => ?_) <;> (try simp at hq) <;> simp -implicitDefEqProofs [*, h6, h8, h40, h41, h42, hlt, hlt', hget, hg, hn, hwr, viewBox, psB, xsB, irow]) | (with_reducible refine gOps_not (fun hq => ?_) (fun hq => ?_) <;> (try simp at hq) <;> simp -implicitDefEqProofs [*, h6, h8, h40, h41, h42, hlt, hlt', hget, hg, hn, hwr, viewBox, psB, xsB, irow]) | (with_reducible refine gOps_split (fun hq => ?_) (fun hq => ?_) <;> (try simp at hq) <;> simp -implicitDefEqProofs [*, h6, h8, h40, h41, h42, hlt, hlt', hget, hg, hn, hwr, viewBox, psB, xsB, irow]) | (with_reducible refine condC_dec (fun _ => ?_) (fun _ => ?_) <;> simp -implicitDefEqProofs [*, h6, h8, h40, h41, h42, hlt, hlt', hget, hg, hn, hwr, viewBox, psB, xsB, irow]) | (with_reducible refine condC_ndec (fun _ => ?_) (fun _ => ?_) <;> simp -implicitDefEqProofs [*, h6, h8, h40, h41, h42, hlt, hlt', hget, hg, hn, hwr, viewBox, psB, xsB, irow]) | (with_reducible refine condC_and (fun hq => ?_) (fun hq => ?_) <;> (try simp at hq) <;> simp -implicitDefEqProofs [*, h6, h8, h40, h41, h42, hlt, hlt', hget, hg, hn, hwr, viewBox, psB, xsB, irow]) | (with_reducible refine condC_or (fun hq => ?_) (fun hq => ?_) <;> (try simp at hq) <;> simp -implicitDefEqProofs [*, h6, h8, h40, h41, h42, hlt, hlt', hget, hg, hn, hwr, viewBox, psB, xsB, irow]) | (with_reducible refine condC_not (fun hq => ?_) (fun hq => ?_) <;> (try simp at hq) <;> simp -implicitDefEqProofs [*, h6, h8, h40, h41, h42, hlt, hlt', hget, hg, hn, hwr, viewBox, psB, xsB, irow]) | (with_reducible refine condC_split (fun hq => ?_) (fun hq => ?_) <;> (try simp at hq) <;> simp -implicitDefEqProofs [*, h6, h8, h40, h41, h42, hlt, hlt', hget, hg, hn, hwr, viewBox, psB, xsB, irow]) | (refine appK2_if (by omega) ?_; simp -implicitDefEqProofs [*, h6, h8, h40, h41, h42, hlt, hlt', hget, hg, hn, hwr, viewBox, psB, xsB, irow]) | (refine pureV_if (by omega) ?_; simp -implicitDefEqProofs [*, h6, h8, h40, h41, h42, hlt, hlt', hget, hg, hn, hwr, viewBox, psB, xsB, irow]))
            refine ⟨[7, 8], ⟨by simp, by simp, by simp⟩, ?_⟩
            unfold keepSt pickSt
            dsimp only
            try rw [hnext]
            exact ⟨.inr ⟨_, _, _, _, _, by simp [lentBs, hr7, viewBox, psB, xsB, irow]; repeat' (first | rfl | apply And.intro)⟩, by simp [h6, hr7], by simp [h8, hr7], by simp [h40], by simp [h41], by simp⟩
      | false =>
        simp only [Bool.or_eq_false_iff] at hAC
        obtain ⟨rfl, rfl⟩ := hAC
        have ht : tellV w x = knownV w x := by unfold tellV; simp [hkn, hn]
        rw [ht] at hnext
        clear ht hkn
        cases hr : roomV w x with
        | false =>
          rw [knownV_no hr] at hnext
          rw [if_neg (by simp [hr])] at v4
          clear hr
          simp only [viewBox, psB, xsB] at v4
          rcases hB with ⟨d0, d2, d3, rfl⟩ | ⟨d0, d2, d3, d5, d6, rfl⟩
          · simp -implicitDefEqProofs [h6, h8, h40, h41, h42, hlt, hlt', hget, hg, hn, hwr, viewBox, psB, xsB, irow]
            repeat' (first | (refine callThen_of (by first | exact v1 | exact v2) ?_; simp -implicitDefEqProofs [*, h6, h8, h40, h41, h42, hlt, hlt', hget, hg, hn, hwr, viewBox, psB, xsB, irow]) | (with_reducible refine gOps_dec (fun _ => ?_) (fun _ => ?_) <;> simp -implicitDefEqProofs [*, h6, h8, h40, h41, h42, hlt, hlt', hget, hg, hn, hwr, viewBox, psB, xsB, irow]) | (with_reducible refine gOps_ndec (fun _ => ?_) (fun _ => ?_) <;> simp -implicitDefEqProofs [*, h6, h8, h40, h41, h42, hlt, hlt', hget, hg, hn, hwr, viewBox, psB, xsB, irow]) | (with_reducible refine gOps_and (fun hq => ?_) (fun hq => ?_) <;> (try simp at hq) <;> simp -implicitDefEqProofs [*, h6, h8, h40, h41, h42, hlt, hlt', hget, hg, hn, hwr, viewBox, psB, xsB, irow]) | (with_reducible refine gOps_or (fun hq => ?_) (fun hq => ?_) <;> (try simp at hq) <;> simp -implicitDefEqProofs [*, h6, h8, h40, h41, h42, hlt, hlt', hget, hg, hn, hwr, viewBox, psB, xsB, irow]) | (with_reducible refine gOps_not (fun hq => ?_) (fun hq => ?_) <;> (try simp at hq) <;> simp -implicitDefEqProofs [*, h6, h8, h40, h41, h42, hlt, hlt', hget, hg, hn, hwr, viewBox, psB, xsB, irow]) | (with_reducible refine gOps_split (fun hq => ?_) (fun hq => ?_) <;> (try simp at hq) <;> simp -implicitDefEqProofs [*, h6, h8, h40, h41, h42, hlt, hlt', hget, hg, hn, hwr, viewBox, psB, xsB, irow]) | (with_reducible refine condC_dec (fun _ => ?_) (fun _ => ?_) <;> simp -implicitDefEqProofs [*, h6, h8, h40, h41, h42, hlt, hlt', hget, hg, hn, hwr, viewBox, psB, xsB, irow]) | (with_reducible refine condC_ndec (fun _ => ?_) (fun _ => ?_) <;> simp -implicitDefEqProofs [*, h6, h8, h40, h41, h42, hlt, hlt', hget, hg, hn, hwr, viewBox, psB, xsB, irow]) | (with_reducible refine condC_and (fun hq => ?_) (fun hq => ?_) <;> (try simp at hq) <;> simp -implicitDefEqProofs [*, h6, h8, h40, h41, h42, hlt, hlt', hget, hg, hn, hwr, viewBox, psB, xsB, irow]) | (with_reducible refine condC_or (fun hq => ?_) (fun hq => ?_) <;> (try simp at hq) <;> simp -implicitDefEqProofs [*, h6, h8, h40, h41, h42, hlt, hlt', hget, hg, hn, hwr, viewBox, psB, xsB, irow]) | (with_reducible refine condC_not (fun hq => ?_) (fun hq => ?_) <;> (try simp at hq) <;> simp -implicitDefEqProofs [*, h6, h8, h40, h41, h42, hlt, hlt', hget, hg, hn, hwr, viewBox, psB, xsB, irow]) | (with_reducible refine condC_split (fun hq => ?_) (fun hq => ?_) <;> (try simp at hq) <;> simp -implicitDefEqProofs [*, h6, h8, h40, h41, h42, hlt, hlt', hget, hg, hn, hwr, viewBox, psB, xsB, irow]) | (refine appK2_if (by omega) ?_; simp -implicitDefEqProofs [*, h6, h8, h40, h41, h42, hlt, hlt', hget, hg, hn, hwr, viewBox, psB, xsB, irow]) | (refine pureV_if (by omega) ?_; simp -implicitDefEqProofs [*, h6, h8, h40, h41, h42, hlt, hlt', hget, hg, hn, hwr, viewBox, psB, xsB, irow]))
            refine lendThen_frame [4, 5, 6] rfl (by decide) (by simp) v4 (by simp) (by simp [lentBs]) ?_
            simp -implicitDefEqProofs [framed, h6, h8, h40, h41, h42, hlt, hlt', hget, hg, hn, hwr, viewBox, psB, xsB, irow]
            refine ⟨[], ⟨by simp, by simp, by simp⟩, ?_⟩
            unfold keepSt pickSt
            dsimp only
            try rw [hnext]
            exact ⟨.inl ⟨_, _, _, by simp [lentBs, hr7, viewBox, psB, xsB, irow]; repeat' (first | rfl | apply And.intro)⟩, by simp [h6, hr7], by simp [h8, hr7], by simp [h40], by simp [h41], by simp⟩
          · simp -implicitDefEqProofs [h6, h8, h40, h41, h42, hlt, hlt', hget, hg, hn, hwr, viewBox, psB, xsB, irow]
            repeat' (first | (refine callThen_of (by first | exact v1 | exact v2) ?_; simp -implicitDefEqProofs [*, h6, h8, h40, h41, h42, hlt, hlt', hget, hg, hn, hwr, viewBox, psB, xsB, irow]) | (with_reducible refine gOps_dec (fun _ => ?_) (fun _ => ?_) <;> simp -implicitDefEqProofs [*, h6, h8, h40, h41, h42, hlt, hlt', hget, hg, hn, hwr, viewBox, psB, xsB, irow]) | (with_reducible refine gOps_ndec (fun _ => ?_) (fun _ => ?_) <;> simp -implicitDefEqProofs [*, h6, h8, h40, h41, h42, hlt, hlt', hget, hg, hn, hwr, viewBox, psB, xsB, irow]) | (with_reducible refine gOps_and (fun hq => ?_) (fun hq => ?_) <;> (try simp at hq) <;> simp -implicitDefEqProofs [*, h6, h8, h40, h41, h42, hlt, hlt', hget, hg, hn, hwr, viewBox, psB, xsB, irow]) | (with_reducible refine gOps_or (fun hq => ?_) (fun hq => ?_) <;> (try simp at hq) <;> simp -implicitDefEqProofs [*, h6, h8, h40, h41, h42, hlt, hlt', hget, hg, hn, hwr, viewBox, psB, xsB, irow]) | (with_reducible refine gOps_not (fun hq => ?_) (fun hq => ?_) <;> (try simp at hq) <;> simp -implicitDefEqProofs [*, h6, h8, h40, h41, h42, hlt, hlt', hget, hg, hn, hwr, viewBox, psB, xsB, irow]) | (with_reducible refine gOps_split (fun hq => ?_) (fun hq => ?_) <;> (try simp at hq) <;> simp -implicitDefEqProofs [*, h6, h8, h40, h41, h42, hlt, hlt', hget, hg, hn, hwr, viewBox, psB, xsB, irow]) | (with_reducible refine condC_dec (fun _ => ?_) (fun _ => ?_) <;> simp -implicitDefEqProofs [*, h6, h8, h40, h41, h42, hlt, hlt', hget, hg, hn, hwr, viewBox, psB, xsB, irow]) | (with_reducible refine condC_ndec (fun _ => ?_) (fun _ => ?_) <;> simp -implicitDefEqProofs [*, h6, h8, h40, h41, h42, hlt, hlt', hget, hg, hn, hwr, viewBox, psB, xsB, irow]) | (with_reducible refine condC_and (fun hq => ?_) (fun hq => ?_) <;> (try simp at hq) <;> simp -implicitDefEqProofs [*, h6, h8, h40, h41, h42, hlt, hlt', hget, hg, hn, hwr, viewBox, psB, xsB, irow]) | (with_reducible refine condC_or (fun hq => ?_) (fun hq => ?_) <;> (try simp at hq) <;> simp -implicitDefEqProofs [*, h6, h8, h40, h41, h42, hlt, hlt', hget, hg, hn, hwr, viewBox, psB, xsB, irow]) | (with_reducible refine condC_not (fun hq => ?_) (fun hq => ?_) <;> (try simp at hq) <;> simp -implicitDefEqProofs [*, h6, h8, h40, h41, h42, hlt, hlt', hget, hg, hn, hwr, viewBox, psB, xsB, irow]) | (with_reducible refine condC_split (fun hq => ?_) (fun hq => ?_) <;> (try simp at hq) <;> simp -implicitDefEqProofs [*, h6, h8, h40, h41, h42, hlt, hlt', hget, hg, hn, hwr, viewBox, psB, xsB, irow]) | (refine appK2_if (by omega) ?_; simp -implicitDefEqProofs [*, h6, h8, h40, h41, h42, hlt, hlt', hget, hg, hn, hwr, viewBox, psB, xsB, irow]) | (refine pureV_if (by omega) ?_; simp -implicitDefEqProofs [*, h6, h8, h40, h41, h42, hlt, hlt', hget, hg, hn, hwr, viewBox, psB, xsB, irow]))
            refine lendThen_frame [4, 7, 8] rfl (by decide) (by simp) v4 (by simp) (by simp [lentBs]) ?_
            simp -implicitDefEqProofs [framed, h6, h8, h40, h41, h42, hlt, hlt', hget, hg, hn, hwr, viewBox, psB, xsB, irow]
            refine ⟨[7, 8], ⟨by simp, by simp, by simp⟩, ?_⟩
            unfold keepSt pickSt
            dsimp only
            try rw [hnext]
            exact ⟨.inr ⟨_, _, _, _, _, by simp [lentBs, hr7, viewBox, psB, xsB, irow]; repeat' (first | rfl | apply And.intro)⟩, by simp [h6, hr7], by simp [h8, hr7], by simp [h40], by simp [h41], by simp⟩
        | true =>
          rw [if_pos hr] at v4
          generalize knownV w x = w2 at *
          clear hr
          simp only [viewBox, psB, xsB] at v4
          rcases hB with ⟨d0, d2, d3, rfl⟩ | ⟨d0, d2, d3, d5, d6, rfl⟩
          · simp -implicitDefEqProofs [h6, h8, h40, h41, h42, hlt, hlt', hget, hg, hn, hwr, viewBox, psB, xsB, irow]
            repeat' (first | (refine callThen_of (by first | exact v1 | exact v2) ?_; simp -implicitDefEqProofs [*, h6, h8, h40, h41, h42, hlt, hlt', hget, hg, hn, hwr, viewBox, psB, xsB, irow]) | (with_reducible refine gOps_dec (fun _ => ?_) (fun _ => ?_) <;> simp -implicitDefEqProofs [*, h6, h8, h40, h41, h42, hlt, hlt', hget, hg, hn, hwr, viewBox, psB, xsB, irow]) | (with_reducible refine gOps_ndec (fun _ => ?_) (fun _ => ?_) <;> simp -implicitDefEqProofs [*, h6, h8, h40, h41, h42, hlt, hlt', hget, hg, hn, hwr, viewBox, psB, xsB, irow]) | (with_reducible refine gOps_and (fun hq => ?_) (fun hq => ?_) <;> (try simp at hq) <;> simp -implicitDefEqProofs [*, h6, h8, h40, h41, h42, hlt, hlt', hget, hg, hn, hwr, viewBox, psB, xsB, irow]) | (with_reducible refine gOps_or (fun hq => ?_) (fun hq => ?_) <;> (try simp at hq) <;> simp -implicitDefEqProofs [*, h6, h8, h40, h41, h42, hlt, hlt', hget, hg, hn, hwr, viewBox, psB, xsB, irow]) | (with_reducible refine gOps_not (fun hq => ?_) (fun hq => ?_) <;> (try simp at hq) <;> simp -implicitDefEqProofs [*, h6, h8, h40, h41, h42, hlt, hlt', hget, hg, hn, hwr, viewBox, psB, xsB, irow]) | (with_reducible refine gOps_split (fun hq => ?_) (fun hq => ?_) <;> (try simp at hq) <;> simp -implicitDefEqProofs [*, h6, h8, h40, h41, h42, hlt, hlt', hget, hg, hn, hwr, viewBox, psB, xsB, irow]) | (with_reducible refine condC_dec (fun _ => ?_) (fun _ => ?_) <;> simp -implicitDefEqProofs [*, h6, h8, h40, h41, h42, hlt, hlt', hget, hg, hn, hwr, viewBox, psB, xsB, irow]) | (with_reducible refine condC_ndec (fun _ => ?_) (fun _ => ?_) <;> simp -implicitDefEqProofs [*, h6, h8, h40, h41, h42, hlt, hlt', hget, hg, hn, hwr, viewBox, psB, xsB, irow]) | (with_reducible refine condC_and (fun hq => ?_) (fun hq => ?_) <;> (try simp at hq) <;> simp -implicitDefEqProofs [*, h6, h8, h40, h41, h42, hlt, hlt', hget, hg, hn, hwr, viewBox, psB, xsB, irow]) | (with_reducible refine condC_or (fun hq => ?_) (fun hq => ?_) <;> (try simp at hq) <;> simp -implicitDefEqProofs [*, h6, h8, h40, h41, h42, hlt, hlt', hget, hg, hn, hwr, viewBox, psB, xsB, irow]) | (with_reducible refine condC_not (fun hq => ?_) (fun hq => ?_) <;> (try simp at hq) <;> simp -implicitDefEqProofs [*, h6, h8, h40, h41, h42, hlt, hlt', hget, hg, hn, hwr, viewBox, psB, xsB, irow]) | (with_reducible refine condC_split (fun hq => ?_) (fun hq => ?_) <;> (try simp at hq) <;> simp -implicitDefEqProofs [*, h6, h8, h40, h41, h42, hlt, hlt', hget, hg, hn, hwr, viewBox, psB, xsB, irow]) | (refine appK2_if (by omega) ?_; simp -implicitDefEqProofs [*, h6, h8, h40, h41, h42, hlt, hlt', hget, hg, hn, hwr, viewBox, psB, xsB, irow]) | (refine pureV_if (by omega) ?_; simp -implicitDefEqProofs [*, h6, h8, h40, h41, h42, hlt, hlt', hget, hg, hn, hwr, viewBox, psB, xsB, irow]))
            refine lendThen_frame [4, 5, 6] rfl (by decide) (by simp) v4 (by simp) (by simp [lentBs]) ?_
            simp -implicitDefEqProofs [framed, h6, h8, h40, h41, h42, hlt, hlt', hget, hg, hn, hwr, viewBox, psB, xsB, irow]
            refine ⟨[7, 8], ⟨by simp, by simp, by simp⟩, ?_⟩
            unfold keepSt pickSt
            dsimp only
            try rw [hnext]
            exact ⟨.inr ⟨_, _, _, _, _, by simp [lentBs, hr7, viewBox, psB, xsB, irow]; repeat' (first | rfl | apply And.intro)⟩, by simp [h6, hr7], by simp [h8, hr7], by simp [h40], by simp [h41], by simp⟩
          · simp -implicitDefEqProofs [h6, h8, h40, h41, h42, hlt, hlt', hget, hg, hn, hwr, viewBox, psB, xsB, irow]
            repeat' (first | (refine callThen_of (by first | exact v1 | exact v2) ?_; simp -implicitDefEqProofs [*, h6, h8, h40, h41, h42, hlt, hlt', hget, hg, hn, hwr, viewBox, psB, xsB, irow]) | (with_reducible refine gOps_dec (fun _ => ?_) (fun _ => ?_) <;> simp -implicitDefEqProofs [*, h6, h8, h40, h41, h42, hlt, hlt', hget, hg, hn, hwr, viewBox, psB, xsB, irow]) | (with_reducible refine gOps_ndec (fun _ => ?_) (fun _ => ?_) <;> simp -implicitDefEqProofs [*, h6, h8, h40, h41, h42, hlt, hlt', hget, hg, hn, hwr, viewBox, psB, xsB, irow]) | (with_reducible refine gOps_and (fun hq => ?_) (fun hq => ?_) <;> (try simp at hq) <;> simp -implicitDefEqProofs [*, h6, h8, h40, h41, h42, hlt, hlt', hget, hg, hn, hwr, viewBox, psB, xsB, irow]) | (with_reducible refine gOps_or (fun hq => ?_) (fun hq => ?_) <;> (try simp at hq) <;> simp -implicitDefEqProofs [*, h6, h8, h40, h41, h42, hlt, hlt', hget, hg, hn, hwr, viewBox, psB, xsB, irow]) | (with_reducible refine gOps_not (fun hq => ?_) (fun hq => ?_) <;> (try simp at hq) <;> simp -implicitDefEqProofs [*, h6, h8, h40, h41, h42, hlt, hlt', hget, hg, hn, hwr, viewBox, psB, xsB, irow]) | (with_reducible refine gOps_split (fun hq => ?_) (fun hq => ?_) <;> (try simp at hq) <;> simp -implicitDefEqProofs [*, h6, h8, h40, h41, h42, hlt, hlt', hget, hg, hn, hwr, viewBox, psB, xsB, irow]) | (with_reducible refine condC_dec (fun _ => ?_) (fun _ => ?_) <;> simp -implicitDefEqProofs [*, h6, h8, h40, h41, h42, hlt, hlt', hget, hg, hn, hwr, viewBox, psB, xsB, irow]) | (with_reducible refine condC_ndec (fun _ => ?_) (fun _ => ?_) <;> simp -implicitDefEqProofs [*, h6, h8, h40, h41, h42, hlt, hlt', hget, hg, hn, hwr, viewBox, psB, xsB, irow]) | (with_reducible refine condC_and (fun hq => ?_) (fun hq => ?_) <;> (try simp at hq) <;> simp -implicitDefEqProofs [*, h6, h8, h40, h41, h42, hlt, hlt', hget, hg, hn, hwr, viewBox, psB, xsB, irow]) | (with_reducible refine condC_or (fun hq => ?_) (fun hq => ?_) <;> (try simp at hq) <;> simp -implicitDefEqProofs [*, h6, h8, h40, h41, h42, hlt, hlt', hget, hg, hn, hwr, viewBox, psB, xsB, irow]) | (with_reducible refine condC_not (fun hq => ?_) (fun hq => ?_) <;> (try simp at hq) <;> simp -implicitDefEqProofs [*, h6, h8, h40, h41, h42, hlt, hlt', hget, hg, hn, hwr, viewBox, psB, xsB, irow]) | (with_reducible refine condC_split (fun hq => ?_) (fun hq => ?_) <;> (try simp at hq) <;> simp -implicitDefEqProofs [*, h6, h8, h40, h41, h42, hlt, hlt', hget, hg, hn, hwr, viewBox, psB, xsB, irow]) | (refine appK2_if (by omega) ?_; simp -implicitDefEqProofs [*, h6, h8, h40, h41, h42, hlt, hlt', hget, hg, hn, hwr, viewBox, psB, xsB, irow]) | (refine pureV_if (by omega) ?_; simp -implicitDefEqProofs [*, h6, h8, h40, h41, h42, hlt, hlt', hget, hg, hn, hwr, viewBox, psB, xsB, irow]))
            refine lendThen_frame [4, 7, 8] rfl (by decide) (by simp) v4 (by simp) (by simp [lentBs]) ?_
            simp -implicitDefEqProofs [framed, h6, h8, h40, h41, h42, hlt, hlt', hget, hg, hn, hwr, viewBox, psB, xsB, irow]
            refine ⟨[9, 10], ⟨by simp, by simp, by simp⟩, ?_⟩
            unfold keepSt pickSt
            dsimp only
            try rw [hnext]
            exact ⟨.inr ⟨_, _, _, _, _, by simp [lentBs, hr7, viewBox, psB, xsB, irow]; repeat' (first | rfl | apply And.intro)⟩, by simp [h6, hr7], by simp [h8, hr7], by simp [h40], by simp [h41], by simp⟩
  · rintro ⟨fr, bs⟩ ⟨hB, h6, h8⟩
    have hWid := (key ids.length).2
    rw [List.take_length] at hWid
    generalize ids.foldl tellV w0 = W at *
    rcases hB with ⟨d0, d2, d3, rfl⟩ | ⟨d0, d2, d3, d5, d6, rfl⟩
    · simp -implicitDefEqProofs [h6, h8, viewBox, psB, xsB, hWid]
    · simp -implicitDefEqProofs [h6, h8, viewBox, psB, xsB, hWid]
  · rintro ⟨fr, bs⟩ h
    exact h.elim
theorem hello_Take_full (v : View) (a : Int) (ids : List Int) (hs : v.small) (h : helloOk v a ids = true) (hr : roomV v a = false) : Den PP 17 [viewD v, .int .i64 a, intsD ids] [] (.tup [.agg [.int .i64 v.id, .ref 0 0 (helloV v a ids).peers.length, .ref 1 0 (helloV v a ids).passive.length], .int .i64 0]) [psB (helloV v a ids), xsB (helloV v a ids)] := by
  obtain ⟨k1, k2, k3, k4, k5⟩ := helloOk_parts h
  have hcap : ids.length ≤ cap := by unfold cap; omega
  have hsz : 16 ≤ sizeV v := by
    unfold roomV at hr
    simp at hr
    unfold sizeV
    exact hr.2
  have hW : helloV v a ids = v := by unfold helloV; rw [knownV_no hr, tells_full hsz]
  rw [hW]
  clear hW
  have c1 := view_May v hs
  have c2 := ring_Place a
  have c3 := ring_Places ids hcap
  have c4 := view_Copy v hs
  have hm := k1
  rw [k1] at c1
  rw [k2] at c2
  rw [show ids.all place = true from List.all_eq_true.2 k5] at c3
  have c5 := hello_heard v a k1 k2 k3
  rw [if_neg (by simp [hr])] at c5
  have hk4 : ¬ (16 : Int) < ids.length := by omega
  simp only [viewD, View.cells, peersD, intsD, viewBox, psB, xsB] at c1 c3 c4 c5 ⊢
  clear k1 k2 hs h hr
  refine den_of [37] [38, 60] is_hello_Take ?_
  simp -implicitDefEqProofs [c_hello_Take, hk4, k3]
  repeat' (first | (refine callThen_of (by first | exact c1 | exact c2 | exact c3 | exact c4) ?_; simp -implicitDefEqProofs [*, downTo, hk4, k3]) | (with_reducible refine gOps_dec (fun _ => ?_) (fun _ => ?_) <;> simp -implicitDefEqProofs [*, downTo, hk4, k3]) | (with_reducible refine gOps_ndec (fun _ => ?_) (fun _ => ?_) <;> simp -implicitDefEqProofs [*, downTo, hk4, k3]) | (with_reducible refine gOps_and (fun hq => ?_) (fun hq => ?_) <;> (try simp at hq) <;> simp -implicitDefEqProofs [*, downTo, hk4, k3]) | (with_reducible refine gOps_or (fun hq => ?_) (fun hq => ?_) <;> (try simp at hq) <;> simp -implicitDefEqProofs [*, downTo, hk4, k3]) | (with_reducible refine gOps_not (fun hq => ?_) (fun hq => ?_) <;> (try simp at hq) <;> simp -implicitDefEqProofs [*, downTo, hk4, k3]) | (with_reducible refine gOps_split (fun hq => ?_) (fun hq => ?_) <;> (try simp at hq) <;> simp -implicitDefEqProofs [*, downTo, hk4, k3]) | (with_reducible refine condC_dec (fun _ => ?_) (fun _ => ?_) <;> simp -implicitDefEqProofs [*, downTo, hk4, k3]) | (with_reducible refine condC_ndec (fun _ => ?_) (fun _ => ?_) <;> simp -implicitDefEqProofs [*, downTo, hk4, k3]) | (with_reducible refine condC_and (fun hq => ?_) (fun hq => ?_) <;> (try simp at hq) <;> simp -implicitDefEqProofs [*, downTo, hk4, k3]) | (with_reducible refine condC_or (fun hq => ?_) (fun hq => ?_) <;> (try simp at hq) <;> simp -implicitDefEqProofs [*, downTo, hk4, k3]) | (with_reducible refine condC_not (fun hq => ?_) (fun hq => ?_) <;> (try simp at hq) <;> simp -implicitDefEqProofs [*, downTo, hk4, k3]) | (with_reducible refine condC_split (fun hq => ?_) (fun hq => ?_) <;> (try simp at hq) <;> simp -implicitDefEqProofs [*, downTo, hk4, k3]) | (refine appK2_if (by omega) ?_; simp -implicitDefEqProofs [*, downTo, hk4, k3]) | (refine pureV_if (by omega) ?_; simp -implicitDefEqProofs [*, downTo, hk4, k3]))
  refine lendThen_frame [4, 2, 3] rfl (by decide) (by simp) c5 (by simp) (by simp [lentBs]) ?_
  simp -implicitDefEqProofs [framed]
  refine list_keep ids (fun i rest => fun ⟨fr, bs⟩ => (∃ d0, bs = [d0, ⟨[[.int .i64 0, .nil, .nil]], 3, .box⟩, psB v, xsB v, viewBox v 2 3]) ∧ fr 6 = .ptr 1 0 0 ∧ fr 8 = .ptr 4 0 0 ∧ fr 40 = .sl (ids.map irow) ids.length ∧ fr 41 = .int .i64 ids.length ∧ fr 42 = .int .i64 i)
    (fun ⟨fr, bs⟩ => (∃ d0, bs = [d0, ⟨[[.int .i64 0, .nil, .nil]], 3, .box⟩, psB v, xsB v, viewBox v 2 3]) ∧ fr 6 = .ptr 1 0 0 ∧ fr 8 = .ptr 4 0 0) (fun _ => False) c_hello_Take_L0.eq_1 ?_ ?_ ?_ ?_ ?_
  · exact ⟨⟨_, by simp [viewBox, psB, xsB]; rfl⟩, by simp, by simp, by simp, by simp, by simp⟩
  · rintro i ⟨fr, bs⟩ hi ⟨hB, h6, h8, h40, h41, h42⟩
    simp -implicitDefEqProofs [h6, h8, h40, h41, h42, hi]
    exact hB
  · rintro i x rest ⟨fr, bs⟩ hlt hget hg hd hd2 ⟨⟨d0, rfl⟩, h6, h8, h40, h41, h42⟩
    have hlt' : (i : Int) < ids.length := by omega
    have hwr := wrap_next (n := i) (by omega)
    have hx := k5 x (List.mem_of_getElem? hget)
    obtain ⟨p1, p2, p3, p4⟩ := viewMay_parts hm
    have v1 := view_Peer v x (by unfold cap; omega) (peersMay_rowed p1)
    rw [peerIs_mem p1 hx] at v1
    have v2 := view_Passive v x (by unfold cap; omega)
    have v3 : x ≠ v.id → _ := fun hn => hello_heard v x hm hx hn
    clear c1 c2 c3 c4 c5 p1 p2 p3 p4
    have hroom : knowsV v x = false → roomV v x = false := by
      intro hk
      unfold roomV
      unfold sizeV at hsz
      simp [hk, hsz]
    obtain ⟨A, hA⟩ : ∃ A, (v.peers.map Peer.id).contains x = A := ⟨_, rfl⟩
    obtain ⟨C, hC⟩ : ∃ C, v.passive.contains x = C := ⟨_, rfl⟩
    have hkn : knowsV v x = (A || C) := by rw [← hA, ← hC]; rfl
    rw [hA] at v1
    rw [hC] at v2
    clear hA hC
    simp only [View.cells, peersD, intsD] at v1 v2
    have hr5 : List.range 5 = [0, 1, 2, 3, 4] := rfl
    clear hm hsz
    by_cases hn : x = v.id
    · simp -implicitDefEqProofs [h6, h8, h40, h41, h42, hlt, hlt', hget, hg, hn, hwr, viewBox, psB, xsB, irow]
      refine ⟨[], ⟨by simp, by simp, by simp⟩, ?_⟩
      unfold keepSt pickSt
      dsimp only
      exact ⟨⟨_, by simp [lentBs, hr5, viewBox, psB, xsB, irow]; repeat' (first | rfl | apply And.intro)⟩, by simp [h6, hr5], by simp [h8, hr5], by simp [h40], by simp [h41], by simp⟩
    · have v4 := v3 hn
      clear v3
      cases hAC : (A || C) with
      | true =>
        clear v4 hkn hroom
        cases A <;> cases C
        all_goals try (simp at hAC; done)
        all_goals
          clear hAC
          simp -implicitDefEqProofs [h6, h8, h40, h41, h42, hlt, hlt', hget, hg, hn, hwr, viewBox, psB, xsB, irow]
          repeat' (first | (refine callThen_of (by first | exact v1 | exact v2) ?_; simp -implicitDefEqProofs [*, h6, h8, h40, h41, h42, hlt, hlt', hget, hg, hn, hwr, viewBox, psB, xsB, irow]) | (with_reducible refine gOps_dec (fun _ => ?_) (fun _ => ?_) <;> simp -implicitDefEqProofs [*, h6, h8, h40, h41, h42, hlt, hlt', hget, hg, hn, hwr, viewBox, psB, xsB, irow]) | (with_reducible refine gOps_ndec (fun _ => ?_) (fun _ => ?_) <;> simp -implicitDefEqProofs [*, h6, h8, h40, h41, h42, hlt, hlt', hget, hg, hn, hwr, viewBox, psB, xsB, irow]) | (with_reducible refine gOps_and (fun hq => ?_) (fun hq => ?_) <;> (try simp at hq) <;> simp -implicitDefEqProofs [*, h6, h8, h40, h41, h42, hlt, hlt', hget, hg, hn, hwr, viewBox, psB, xsB, irow]) | (with_reducible refine gOps_or (fun hq => ?_) (fun hq => ?_) <;> (try simp at hq) <;> simp -implicitDefEqProofs [*, h6, h8, h40, h41, h42, hlt, hlt', hget, hg, hn, hwr, viewBox, psB, xsB, irow]) | (with_reducible refine gOps_not (fun hq => ?_) (fun hq => ?_) <;> (try simp at hq) <;> simp -implicitDefEqProofs [*, h6, h8, h40, h41, h42, hlt, hlt', hget, hg, hn, hwr, viewBox, psB, xsB, irow]) | (with_reducible refine gOps_split (fun hq => ?_) (fun hq => ?_) <;> (try simp at hq) <;> simp -implicitDefEqProofs [*, h6, h8, h40, h41, h42, hlt, hlt', hget, hg, hn, hwr, viewBox, psB, xsB, irow]) | (with_reducible refine condC_dec (fun _ => ?_) (fun _ => ?_) <;> simp -implicitDefEqProofs [*, h6, h8, h40, h41, h42, hlt, hlt', hget, hg, hn, hwr, viewBox, psB, xsB, irow]) | (with_reducible refine condC_ndec (fun _ => ?_) (fun _ => ?_) <;> simp -implicitDefEqProofs [*, h6, h8, h40, h41, h42, hlt, hlt', hget, hg, hn, hwr, viewBox, psB, xsB, irow]) | (with_reducible refine condC_and (fun hq => ?_) (fun hq => ?_) <;> (try simp at hq) <;> simp -implicitDefEqProofs [*, h6, h8, h40, h41, h42, hlt, hlt', hget, hg, hn, hwr, viewBox, psB, xsB, irow]) | (with_reducible refine condC_or (fun hq => ?_) (fun hq => ?_) <;> (try simp at hq) <;> simp -implicitDefEqProofs [*, h6, h8, h40, h41, h42, hlt, hlt', hget, hg, hn, hwr, viewBox, psB, xsB, irow]) | (with_reducible refine condC_not (fun hq => ?_) (fun hq => ?_) <;> (try simp at hq) <;> simp -implicitDefEqProofs [*, h6, h8, h40, h41, h42, hlt, hlt', hget, hg, hn, hwr, viewBox, psB, xsB, irow]) | (with_reducible refine condC_split (fun hq => ?_) (fun hq => ?_) <;> (try simp at hq) <;> simp -implicitDefEqProofs [*, h6, h8, h40, h41, h42, hlt, hlt', hget, hg, hn, hwr, viewBox, psB, xsB, irow]) | (refine appK2_if (by omega) ?_; simp -implicitDefEqProofs [*, h6, h8, h40, h41, h42, hlt, hlt', hget, hg, hn, hwr, viewBox, psB, xsB, irow]) | (refine pureV_if (by omega) ?_; simp -implicitDefEqProofs [*, h6, h8, h40, h41, h42, hlt, hlt', hget, hg, hn, hwr, viewBox, psB, xsB, irow]))
          refine ⟨[], ⟨by simp, by simp, by simp⟩, ?_⟩
          unfold keepSt pickSt
          dsimp only
          exact ⟨⟨_, by simp [lentBs, hr5, viewBox, psB, xsB, irow]; repeat' (first | rfl | apply And.intro)⟩, by simp [h6, hr5], by simp [h8, hr5], by simp [h40], by simp [h41], by simp⟩
      | false =>
        rw [hAC] at hkn
        simp only [Bool.or_eq_false_iff] at hAC
        obtain ⟨rfl, rfl⟩ := hAC
        rw [if_neg (by simp [hroom hkn])] at v4
        clear hkn hroom
        simp only [viewBox, psB, xsB] at v4
        simp -implicitDefEqProofs [h6, h8, h40, h41, h42, hlt, hlt', hget, hg, hn, hwr, viewBox, psB, xsB, irow]
        repeat' (first | (refine callThen_of (by first | exact v1 | exact v2) ?_; simp -implicitDefEqProofs [*, h6, h8, h40, h41, h42, hlt, hlt', hget, hg, hn, hwr, viewBox, psB, xsB, irow]) | (with_reducible refine gOps_dec (fun _ => ?_) (fun _ => ?_) <;> simp -implicitDefEqProofs [*, h6, h8, h40, h41, h42, hlt, hlt', hget, hg, hn, hwr, viewBox, psB, xsB, irow]) | (with_reducible refine gOps_ndec (fun _ => ?_) (fun _ => ?_) <;> simp -implicitDefEqProofs [*, h6, h8, h40, h41, h42, hlt, hlt', hget, hg, hn, hwr, viewBox, psB, xsB, irow]) | (with_reducible refine gOps_and (fun hq => ?_) (fun hq => ?_) <;> (try simp at hq) <;> simp -implicitDefEqProofs [*, h6, h8, h40, h41, h42, hlt, hlt', hget, hg, hn, hwr, viewBox, psB, xsB, irow]) | (with_reducible refine gOps_or (fun hq => ?_) (fun hq => ?_) <;> (try simp at hq) <;> simp -implicitDefEqProofs [*, h6, h8, h40, h41, h42, hlt, hlt', hget, hg, hn, hwr, viewBox, psB, xsB, irow]) | (with_reducible refine gOps_not (fun hq => ?_) (fun hq => ?_) <;> (try simp at hq) <;> simp -implicitDefEqProofs [*, h6, h8, h40, h41, h42, hlt, hlt', hget, hg, hn, hwr, viewBox, psB, xsB, irow]) | (with_reducible refine gOps_split (fun hq => ?_) (fun hq => ?_) <;> (try simp at hq) <;> simp -implicitDefEqProofs [*, h6, h8, h40, h41, h42, hlt, hlt', hget, hg, hn, hwr, viewBox, psB, xsB, irow]) | (with_reducible refine condC_dec (fun _ => ?_) (fun _ => ?_) <;> simp -implicitDefEqProofs [*, h6, h8, h40, h41, h42, hlt, hlt', hget, hg, hn, hwr, viewBox, psB, xsB, irow]) | (with_reducible refine condC_ndec (fun _ => ?_) (fun _ => ?_) <;> simp -implicitDefEqProofs [*, h6, h8, h40, h41, h42, hlt, hlt', hget, hg, hn, hwr, viewBox, psB, xsB, irow]) | (with_reducible refine condC_and (fun hq => ?_) (fun hq => ?_) <;> (try simp at hq) <;> simp -implicitDefEqProofs [*, h6, h8, h40, h41, h42, hlt, hlt', hget, hg, hn, hwr, viewBox, psB, xsB, irow]) | (with_reducible refine condC_or (fun hq => ?_) (fun hq => ?_) <;> (try simp at hq) <;> simp -implicitDefEqProofs [*, h6, h8, h40, h41, h42, hlt, hlt', hget, hg, hn, hwr, viewBox, psB, xsB, irow]) | (with_reducible refine condC_not (fun hq => ?_) (fun hq => ?_) <;> (try simp at hq) <;> simp -implicitDefEqProofs [*, h6, h8, h40, h41, h42, hlt, hlt', hget, hg, hn, hwr, viewBox, psB, xsB, irow]) | (with_reducible refine condC_split (fun hq => ?_) (fun hq => ?_) <;> (try simp at hq) <;> simp -implicitDefEqProofs [*, h6, h8, h40, h41, h42, hlt, hlt', hget, hg, hn, hwr, viewBox, psB, xsB, irow]) | (refine appK2_if (by omega) ?_; simp -implicitDefEqProofs [*, h6, h8, h40, h41, h42, hlt, hlt', hget, hg, hn, hwr, viewBox, psB, xsB, irow]) | (refine pureV_if (by omega) ?_; simp -implicitDefEqProofs [*, h6, h8, h40, h41, h42, hlt, hlt', hget, hg, hn, hwr, viewBox, psB, xsB, irow]))
        refine lendThen_frame [4, 2, 3] rfl (by decide) (by simp) v4 (by simp) (by simp [lentBs]) ?_
        simp -implicitDefEqProofs [framed, h6, h8, h40, h41, h42, hlt, hlt', hget, hg, hn, hwr, viewBox, psB, xsB, irow]
        refine ⟨[], ⟨by simp, by simp, by simp⟩, ?_⟩
        unfold keepSt pickSt
        dsimp only
        exact ⟨⟨_, by simp [lentBs, hr5, viewBox, psB, xsB, irow]; repeat' (first | rfl | apply And.intro)⟩, by simp [h6, hr5], by simp [h8, hr5], by simp [h40], by simp [h41], by simp⟩
  · rintro ⟨fr, bs⟩ ⟨⟨d0, rfl⟩, h6, h8⟩
    simp -implicitDefEqProofs [h6, h8, viewBox, psB, xsB]
  · rintro ⟨fr, bs⟩ h
    exact h.elim
theorem hello_Take (v : View) (a : Int) (ids : List Int) (hs : v.small) (h : helloOk v a ids = true) : Den PP 17 [viewD v, .int .i64 a, intsD ids] [] (.tup [.agg [.int .i64 v.id, .ref 0 0 (helloV v a ids).peers.length, .ref 1 0 (helloV v a ids).passive.length], .int .i64 0]) [psB (helloV v a ids), xsB (helloV v a ids)] := by
  cases hr : roomV v a with
  | true => exact hello_Take_yes v a ids hs h hr
  | false => exact hello_Take_full v a ids hs h hr
end Go.AM
/- AM: contracts: the document's take; a node spoiled. -/
namespace Go.AM
set_option linter.unusedSimpArgs false
set_option linter.unusedVariables false
set_option maxRecDepth 8000
set_option maxHeartbeats 0
end Go.AM
/- AM: contracts: the document's greeting; chapter 10's statements: Hellos. -/
namespace Go.AM
set_option linter.unusedSimpArgs false
set_option linter.unusedVariables false
set_option maxRecDepth 8000
set_option maxHeartbeats 0
end Go.AM
/- AM: chapter 10's statements: Hellos. -/
namespace Go.AM
set_option linter.unusedSimpArgs false
set_option linter.unusedVariables false
set_option maxRecDepth 8000
set_option maxHeartbeats 0
def givenH : View := ⟨100, [⟨101, 2⟩, ⟨200, 0⟩, ⟨90, 1⟩], [7, 150]⟩
theorem small_givenH : givenH.small := by unfold View.small cap16 cap; decide
theorem law10_given : Den PP 26 [] [] (.agg [.int .i64 100, .ref 0 0 3, .ref 1 0 2]) [⟨givenH.peers.map Peer.row, 2, .mut⟩, ⟨givenH.passive.map irow, 1, .mut⟩] := by
  refine den_of [] [] is_gimmallaw10_given ?_
  simp -implicitDefEqProofs [c_gimmallaw10_given, givenH, Peer.row, irow]
theorem law10_awake : Den PP 23 [] [] (.bool true) [] := by
  have g0 := law10_given
  have g1 := hello_Take givenH 150 [7, 100, 102, 101] small_givenH (by decide +kernel)
  have g2 := hello_Take_no givenH 100 [] small_givenH (by unfold cap; simp) (by decide +kernel)
  have g3 := hello_Take_no givenH 150 [256] small_givenH (by unfold cap; simp) (by decide +kernel)
  have e1 : helloV givenH 150 [7, 100, 102, 101] = ⟨100, [⟨101, 2⟩, ⟨102, 0⟩, ⟨150, 0⟩, ⟨200, 0⟩, ⟨90, 1⟩], [7]⟩ := by decide +kernel
  rw [e1] at g1
  have g4 := law_SameView ⟨100, [⟨101, 2⟩, ⟨102, 0⟩, ⟨150, 0⟩, ⟨200, 0⟩, ⟨90, 1⟩], [7]⟩ ⟨100, [⟨101, 2⟩, ⟨102, 0⟩, ⟨150, 0⟩, ⟨200, 0⟩, ⟨90, 1⟩], [7]⟩ (by unfold View.small cap16 cap; decide)
  clear e1
  simp [givenH, viewD, View.cells, peersD, intsD, psB, xsB, Peer.row, irow] at g0 g1 g2 g3 g4
  refine den_of [] [] is_gimmallaw10_awake ?_
  simp -implicitDefEqProofs [c_gimmallaw10_awake]
  repeat' (first | (refine callThen_of (by first | exact g0 | exact g1 | exact den_nrm (g1) | exact den_nrm (by simpa using g1) | exact g2 | exact den_nrm (g2) | exact den_nrm (by simpa using g2) | exact g3 | exact den_nrm (g3) | exact den_nrm (by simpa using g3) | exact g4 | exact den_nrm (g4) | exact den_nrm (by simpa using g4) | exact law_Num _) ?_; simp -implicitDefEqProofs [*, downTo]) | (with_reducible refine gOps_dec (fun _ => ?_) (fun _ => ?_) <;> simp -implicitDefEqProofs [*, downTo]) | (with_reducible refine gOps_ndec (fun _ => ?_) (fun _ => ?_) <;> simp -implicitDefEqProofs [*, downTo]) | (with_reducible refine gOps_and (fun hq => ?_) (fun hq => ?_) <;> (try simp at hq) <;> simp -implicitDefEqProofs [*, downTo]) | (with_reducible refine gOps_or (fun hq => ?_) (fun hq => ?_) <;> (try simp at hq) <;> simp -implicitDefEqProofs [*, downTo]) | (with_reducible refine gOps_not (fun hq => ?_) (fun hq => ?_) <;> (try simp at hq) <;> simp -implicitDefEqProofs [*, downTo]) | (with_reducible refine gOps_split (fun hq => ?_) (fun hq => ?_) <;> (try simp at hq) <;> simp -implicitDefEqProofs [*, downTo]) | (with_reducible refine condC_dec (fun _ => ?_) (fun _ => ?_) <;> simp -implicitDefEqProofs [*, downTo]) | (with_reducible refine condC_ndec (fun _ => ?_) (fun _ => ?_) <;> simp -implicitDefEqProofs [*, downTo]) | (with_reducible refine condC_and (fun hq => ?_) (fun hq => ?_) <;> (try simp at hq) <;> simp -implicitDefEqProofs [*, downTo]) | (with_reducible refine condC_or (fun hq => ?_) (fun hq => ?_) <;> (try simp at hq) <;> simp -implicitDefEqProofs [*, downTo]) | (with_reducible refine condC_not (fun hq => ?_) (fun hq => ?_) <;> (try simp at hq) <;> simp -implicitDefEqProofs [*, downTo]) | (with_reducible refine condC_split (fun hq => ?_) (fun hq => ?_) <;> (try simp at hq) <;> simp -implicitDefEqProofs [*, downTo]) | (refine appK2_if (by omega) ?_; simp -implicitDefEqProofs [*, downTo]) | (refine pureV_if (by omega) ?_; simp -implicitDefEqProofs [*, downTo]))
end Go.AM
/- Plain law: greetings, told twice, told in another row. -/
namespace Go.AM
set_option linter.unusedSimpArgs false
set_option linter.unusedVariables false

end Go.AM
/- AM: chapter 10's statements: HelloTwice, HelloRow. -/
namespace Go.AM
set_option linter.unusedSimpArgs false
set_option linter.unusedVariables false
set_option maxRecDepth 8000
set_option maxHeartbeats 0
end Go.AM
/- AM: chapter 10's statements: HelloForms. -/
namespace Go.AM
set_option linter.unusedSimpArgs false
set_option linter.unusedVariables false
set_option maxRecDepth 8000
set_option maxHeartbeats 0
theorem u64_nonnegH (x : Int) : 0 ≤ IntKind.u64.wrap x := by
  unfold IntKind.wrap
  simp [IntKind.signed]
  exact Int.emod_nonneg _ (by decide)
@[simp] theorem nrmLL_repG (n : Nat) (r : List D) : nrmLL (List.replicate n r) = List.replicate n (nrmL r) := by
  induction n with
  | zero => rfl
  | succ n ih => simp [List.replicate_succ, nrmLL, ih]
theorem law10_HelloForms (which x : Int) : Den PP 5 [.int .i64 which, .int .i64 x] [] (.bool true) [] := by
  have hd : 0 ≤ x % 1024 ∧ x % 1024 < 1024 := by omega
  have w1 : IntKind.wrap .i64 (1 + x % 1024) = 1 + x % 1024 := wrap_in (by omega) (by omega)
  have w2 : IntKind.wrap .i64 (255 + (1 + x % 1024)) = 255 + (1 + x % 1024) := wrap_in (by omega) (by omega)
  have w3 : IntKind.wrap .i64 (-(1 + x % 1024)) = -(1 + x % 1024) := wrap_in (by omega) (by omega)
  have w4 : IntKind.wrap .i64 (16 + (1 + x % 1024)) = 16 + (1 + x % 1024) := wrap_in (by omega) (by omega)
  have b1 : (0 : Int) ≤ 16 + (1 + x % 1024) := by omega
  have b2 : (16 + (1 + x % 1024)) * 8 ≤ 140737488355328 := by omega
  have b3 : 16 + (1 + x % 1024) ≤ 9223372036854775807 := by omega
  have u3 : IntKind.wrap .u64 3 = 3 := by decide
  obtain ⟨t3, ht3, he3⟩ : ∃ t : Nat, t < 3 ∧ (IntKind.u64.wrap which).tmod 3 = (t : Int) := by
    rw [Int.tmod_eq_emod_of_nonneg (u64_nonnegH which)]
    exact ⟨(IntKind.u64.wrap which % 3).toNat, by omega, by omega⟩
  have g0 := law10_given
  have p1 : place (-(1 + x % 1024)) = false := by simp only [place, Bool.and_eq_false_iff, decide_eq_false_iff_not]; omega
  have p2 : place (255 + (1 + x % 1024)) = false := by simp only [place, Bool.and_eq_false_iff, decide_eq_false_iff_not]; omega
  have c1 := hello_Take_no { givenH with passive := [200] } 150 [] (by unfold View.small cap16 cap; decide) (by unfold cap; simp) (by decide +kernel)
  have c2 := hello_Take_no givenH (-(1 + x % 1024)) [] small_givenH (by unfold cap; simp) (by simp [helloOk, p1])
  have c3 := hello_Take_no givenH (255 + (1 + x % 1024)) [] small_givenH (by unfold cap; simp) (by simp [helloOk, p2])
  have c4 := hello_Take_no givenH 100 [] small_givenH (by unfold cap; simp) (by decide +kernel)
  have c5 := hello_Take_no givenH 150 [5, -(1 + x % 1024)] small_givenH (by unfold cap; simp) (by simp [helloOk, p1])
  have c6 := hello_Take_no givenH 150 [5, 255 + (1 + x % 1024)] small_givenH (by unfold cap; simp) (by simp [helloOk, p2])
  have c7 := hello_Take_no givenH 150 (List.replicate (16 + (1 + x % 1024)).toNat 0) small_givenH (by unfold cap; simp; omega) (by
    have : ¬ (16 + (1 + x % 1024)).toNat ≤ 16 := by omega
    simp [helloOk, this])
  simp [givenH, viewD, View.cells, peersD, intsD, Peer.row, irow] at g0 c1 c2 c3 c4 c5 c6 c7
  clear p1 p2
  have h2 : which % 2 = 0 ∨ which % 2 = 1 := by omega
  have h3 : t3 = 0 ∨ t3 = 1 ∨ t3 = 2 := by omega
  have j0 : IntKind.wrap .i64 0 = 0 := wrap_in (by omega) (by omega)
  have j1 : IntKind.wrap .i64 1 = 1 := wrap_in (by omega) (by omega)
  have j2 : IntKind.wrap .i64 2 = 2 := wrap_in (by omega) (by omega)
  refine den_of [20] [] is_gimmallaw10_HelloForms ?_
  rcases h2 with h2 | h2 <;> rcases h3 with rfl | rfl | rfl
  all_goals
    simp at he3
    simp -implicitDefEqProofs [c_gimmallaw10_HelloForms, h2, w1, w2, w3, w4, he3, u3, j0, j1, j2]
    repeat' (first | (refine callThen_of (by first | exact law10_awake | exact g0 | exact c1 | exact den_nrm (c1) | exact den_nrm (by simpa using c1) | exact c2 | exact den_nrm (c2) | exact den_nrm (by simpa using c2) | exact c3 | exact den_nrm (c3) | exact den_nrm (by simpa using c3) | exact c4 | exact den_nrm (c4) | exact den_nrm (by simpa using c4) | exact c5 | exact den_nrm (c5) | exact den_nrm (by simpa using c5) | exact c6 | exact den_nrm (c6) | exact den_nrm (by simpa using c6) | exact c7 | exact den_nrm (c7) | exact den_nrm (by simpa using c7) | exact law_Num _) ?_; simp -implicitDefEqProofs [*, downTo, h2, w1, w2, w3, w4, he3, u3, j0, j1, j2, b1, b2, b3, reach]) | (with_reducible refine gOps_dec (fun _ => ?_) (fun _ => ?_) <;> simp -implicitDefEqProofs [*, downTo, h2, w1, w2, w3, w4, he3, u3, j0, j1, j2, b1, b2, b3, reach]) | (with_reducible refine gOps_ndec (fun _ => ?_) (fun _ => ?_) <;> simp -implicitDefEqProofs [*, downTo, h2, w1, w2, w3, w4, he3, u3, j0, j1, j2, b1, b2, b3, reach]) | (with_reducible refine gOps_and (fun hq => ?_) (fun hq => ?_) <;> (try simp at hq) <;> simp -implicitDefEqProofs [*, downTo, h2, w1, w2, w3, w4, he3, u3, j0, j1, j2, b1, b2, b3, reach]) | (with_reducible refine gOps_or (fun hq => ?_) (fun hq => ?_) <;> (try simp at hq) <;> simp -implicitDefEqProofs [*, downTo, h2, w1, w2, w3, w4, he3, u3, j0, j1, j2, b1, b2, b3, reach]) | (with_reducible refine gOps_not (fun hq => ?_) (fun hq => ?_) <;> (try simp at hq) <;> simp -implicitDefEqProofs [*, downTo, h2, w1, w2, w3, w4, he3, u3, j0, j1, j2, b1, b2, b3, reach]) | (with_reducible refine gOps_split (fun hq => ?_) (fun hq => ?_) <;> (try simp at hq) <;> simp -implicitDefEqProofs [*, downTo, h2, w1, w2, w3, w4, he3, u3, j0, j1, j2, b1, b2, b3, reach]) | (with_reducible refine condC_dec (fun _ => ?_) (fun _ => ?_) <;> simp -implicitDefEqProofs [*, downTo, h2, w1, w2, w3, w4, he3, u3, j0, j1, j2, b1, b2, b3, reach]) | (with_reducible refine condC_ndec (fun _ => ?_) (fun _ => ?_) <;> simp -implicitDefEqProofs [*, downTo, h2, w1, w2, w3, w4, he3, u3, j0, j1, j2, b1, b2, b3, reach]) | (with_reducible refine condC_and (fun hq => ?_) (fun hq => ?_) <;> (try simp at hq) <;> simp -implicitDefEqProofs [*, downTo, h2, w1, w2, w3, w4, he3, u3, j0, j1, j2, b1, b2, b3, reach]) | (with_reducible refine condC_or (fun hq => ?_) (fun hq => ?_) <;> (try simp at hq) <;> simp -implicitDefEqProofs [*, downTo, h2, w1, w2, w3, w4, he3, u3, j0, j1, j2, b1, b2, b3, reach]) | (with_reducible refine condC_not (fun hq => ?_) (fun hq => ?_) <;> (try simp at hq) <;> simp -implicitDefEqProofs [*, downTo, h2, w1, w2, w3, w4, he3, u3, j0, j1, j2, b1, b2, b3, reach]) | (with_reducible refine condC_split (fun hq => ?_) (fun hq => ?_) <;> (try simp at hq) <;> simp -implicitDefEqProofs [*, downTo, h2, w1, w2, w3, w4, he3, u3, j0, j1, j2, b1, b2, b3, reach]) | (refine appK2_if (by omega) ?_; simp -implicitDefEqProofs [*, downTo, h2, w1, w2, w3, w4, he3, u3, j0, j1, j2, b1, b2, b3, reach]) | (refine pureV_if (by omega) ?_; simp -implicitDefEqProofs [*, downTo, h2, w1, w2, w3, w4, he3, u3, j0, j1, j2, b1, b2, b3, reach]))
end Go.AM
/- AM: chapter 10's statements: HelloFull. -/
namespace Go.AM
set_option linter.unusedSimpArgs false
set_option linter.unusedVariables false
set_option maxRecDepth 8000
set_option maxHeartbeats 0
end Go.AM
/- AM: chapter 10's statements: HelloKeeps. -/
namespace Go.AM
set_option linter.unusedSimpArgs false
set_option linter.unusedVariables false
set_option maxRecDepth 8000
set_option maxHeartbeats 0
end Go.AM
