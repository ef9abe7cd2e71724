/- What the proof of this claim stands on, part 11. -/
import Derived.Test.YtbchikkljpmocaaAmZ10
/- AM: contracts: a greeting is taken. -/
namespace Go.AM
set_option linter.unusedSimpArgs false
set_option linter.unusedVariables false
set_option maxRecDepth 8000
set_option maxHeartbeats 0
theorem hello_Take_no (v : View) (a : Int) (ids : List Int) (hs : v.small) (hl : ids.length ≤ cap) (h : helloOk v a ids = false) : Den PP 17 [viewD v, .int .i64 a, intsD ids] [] (.tup [.agg [.int .i64 0, .nil, .nil], .int .i64 1000]) [] := by
  have c1 := view_May v hs
  have c2 := ring_Place a
  have c3 := ring_Places ids hl
  have e1 : decide (ids.length ≤ 16) = !decide ((16 : Int) < ids.length) := by
    rw [← decide_not, decide_eq_decide]; omega
  unfold helloOk at h
  rw [e1] at h
  clear e1
  simp only [viewD, View.cells, peersD, intsD] at c1 c3 ⊢
  generalize viewMay v = A at *
  generalize place a = B at *
  generalize ids.all place = C at *
  refine den_of [37] [38, 60] is_hello_Take ?_
  cases A <;> cases B <;> cases C
  all_goals
    simp -implicitDefEqProofs [c_hello_Take]
    repeat' (first | (refine callThen_of (by first | exact c1 | exact c2 | exact c3) ?_; simp -implicitDefEqProofs [*]) | (with_reducible refine gOps_dec (fun _ => ?_) (fun _ => ?_) <;> simp -implicitDefEqProofs [*]) | (with_reducible refine gOps_ndec (fun _ => ?_) (fun _ => ?_) <;> simp -implicitDefEqProofs [*]) | (with_reducible refine gOps_and (fun hq => ?_) (fun hq => ?_) <;> (try simp at hq) <;> simp -implicitDefEqProofs [*]) | (with_reducible refine gOps_or (fun hq => ?_) (fun hq => ?_) <;> (try simp at hq) <;> simp -implicitDefEqProofs [*]) | (with_reducible refine gOps_not (fun hq => ?_) (fun hq => ?_) <;> (try simp at hq) <;> simp -implicitDefEqProofs [*]) | (with_reducible refine gOps_split (fun hq => ?_) (fun hq => ?_) <;> (try simp at hq) <;> simp -implicitDefEqProofs [*]) | (with_reducible refine condC_dec (fun _ => ?_) (fun _ => ?_) <;> simp -implicitDefEqProofs [*]) | (with_reducible refine condC_ndec (fun _ => ?_) (fun _ => ?_) <;> simp -implicitDefEqProofs [*]) | (with_reducible refine condC_and (fun hq => ?_) (fun hq => ?_) <;> (try simp at hq) <;> simp -implicitDefEqProofs [*]) | (with_reducible refine condC_or (fun hq => ?_) (fun hq => ?_) <;> (try simp at hq) <;> simp -implicitDefEqProofs [*]) | (with_reducible refine condC_not (fun hq => ?_) (fun hq => ?_) <;> (try simp at hq) <;> simp -implicitDefEqProofs [*]) | (with_reducible refine condC_split (fun hq => ?_) (fun hq => ?_) <;> (try simp at hq) <;> simp -implicitDefEqProofs [*]) | (refine appK2_if (by omega) ?_; simp -implicitDefEqProofs [*]) | (refine pureV_if (by omega) ?_; simp -implicitDefEqProofs [*]))
  all_goals (exfalso; simp at h; grind)
theorem tellV_full {v : View} (h : 16 ≤ sizeV v) (x : Int) : tellV v x = v := by
  unfold tellV
  split
  · rename_i hc
    simp only [Bool.and_eq_true, Bool.not_eq_true'] at hc
    apply knownV_no
    unfold roomV
    rw [hc.2]
    unfold sizeV at h
    simp
    omega
  · rfl
theorem tells_full {v : View} (h : 16 ≤ sizeV v) : ∀ ids : List Int, ids.foldl tellV v = v := by
  intro ids
  induction ids with
  | nil => rfl
  | cons x ids ih => rw [List.foldl_cons, tellV_full h, ih]
theorem take_next {ids : List Int} {i : Nat} {x : Int} (h : ids[i]? = some x) (w0 : View) : (ids.take (i + 1)).foldl tellV w0 = tellV ((ids.take i).foldl tellV w0) x := by
  rw [List.take_add_one, h]
  simp
def B_Take (w : View) (bs : List Blk) : Prop := (∃ d0 d2 d3, bs = [d0, ⟨[[.int .i64 0, .nil, .nil]], 3, .box⟩, d2, d3, viewBox w 5 6, psB w, xsB w]) ∨ ∃ d0 d2 d3 d5 d6, bs = [d0, ⟨[[.int .i64 0, .nil, .nil]], 3, .box⟩, d2, d3, viewBox w 7 8, d5, d6, psB w, xsB w]
theorem hello_Take_yes (v : View) (a : Int) (ids : List Int) (hs : v.small) (h : helloOk v a ids = true) (hr : roomV v a = true) : Den PP 17 [viewD v, .int .i64 a, intsD ids] [] (.tup [.agg [.int .i64 v.id, .ref 0 0 (helloV v a ids).peers.length, .ref 1 0 (helloV v a ids).passive.length], .int .i64 0]) [psB (helloV v a ids), xsB (helloV v a ids)] := by
  obtain ⟨k1, k2, k3, k4, k5⟩ := helloOk_parts h
  have hcap : ids.length ≤ cap := by unfold cap; omega
  have c1 := view_May v hs
  have c2 := ring_Place a
  have c3 := ring_Places ids hcap
  have c4 := view_Copy v hs
  rw [k1] at c1
  rw [k2] at c2
  rw [show ids.all place = true from List.all_eq_true.2 k5] at c3
  have c5 := hello_heard v a k1 k2 k3
  rw [if_pos hr] at c5
  have hw0 := (knownV_may k1 k2 k3).1
  have hid0 := knownV_id v a
  have hk4 : ¬ (16 : Int) < ids.length := by omega
  unfold helloV
  generalize knownV v a = w0 at *
  have key : ∀ i, viewMay ((ids.take i).foldl tellV w0) = true ∧ ((ids.take i).foldl tellV w0).id = v.id := by
    intro i
    obtain ⟨e1, e2⟩ := tells_may (ids.take i) w0 hw0 (fun x hx => k5 x (List.mem_of_mem_take hx))
    exact ⟨e1, by rw [e2, hid0]⟩
  simp only [viewD, View.cells, peersD, intsD, viewBox, psB, xsB] at c1 c3 c4 c5 ⊢
  clear k1 k2 hs h hr
  refine den_of [37] [38, 60] is_hello_Take ?_
  simp -implicitDefEqProofs [c_hello_Take, hk4, k3]
  repeat' (first | (refine callThen_of (by first | exact c1 | exact c2 | exact c3 | exact c4) ?_; simp -implicitDefEqProofs [*, downTo, hk4, k3]) | (with_reducible refine gOps_dec (fun _ => ?_) (fun _ => ?_) <;> simp -implicitDefEqProofs [*, downTo, hk4, k3]) | (with_reducible refine gOps_ndec (fun _ => ?_) (fun _ => ?_) <;> simp -implicitDefEqProofs [*, downTo, hk4, k3]) | (with_reducible refine gOps_and (fun hq => ?_) (fun hq => ?_) <;> (try simp at hq) <;> simp -implicitDefEqProofs [*, downTo, hk4, k3]) | (with_reducible refine gOps_or (fun hq => ?_) (fun hq => ?_) <;> (try simp at hq) <;> simp -implicitDefEqProofs [*, downTo, hk4, k3]) | (with_reducible refine gOps_not (fun hq => ?_) (fun hq => ?_) <;> (try simp at hq) <;> simp -implicitDefEqProofs [*, downTo, hk4, k3]) | (with_reducible refine gOps_split (fun hq => ?_) (fun hq => ?_) <;> (try simp at hq) <;> simp -implicitDefEqProofs [*, downTo, hk4, k3]) | (with_reducible refine condC_dec (fun _ => ?_) (fun _ => ?_) <;> simp -implicitDefEqProofs [*, downTo, hk4, k3]) | (with_reducible refine condC_ndec (fun _ => ?_) (fun _ => ?_) <;> simp -implicitDefEqProofs [*, downTo, hk4, k3]) | (with_reducible refine condC_and (fun hq => ?_) (fun hq => ?_) <;> (try simp at hq) <;> simp -implicitDefEqProofs [*, downTo, hk4, k3]) | (with_reducible refine condC_or (fun hq => ?_) (fun hq => ?_) <;> (try simp at hq) <;> simp -implicitDefEqProofs [*, downTo, hk4, k3]) | (with_reducible refine condC_not (fun hq => ?_) (fun hq => ?_) <;> (try simp at hq) <;> simp -implicitDefEqProofs [*, downTo, hk4, k3]) | (with_reducible refine condC_split (fun hq => ?_) (fun hq => ?_) <;> (try simp at hq) <;> simp -implicitDefEqProofs [*, downTo, hk4, k3]) | (refine appK2_if (by omega) ?_; simp -implicitDefEqProofs [*, downTo, hk4, k3]) | (refine pureV_if (by omega) ?_; simp -implicitDefEqProofs [*, downTo, hk4, k3]))
  refine lendThen_frame [4, 2, 3] rfl (by decide) (by simp) c5 (by simp) (by simp [lentBs]) ?_
  simp -implicitDefEqProofs [framed]
  refine list_keep ids (fun i rest => fun ⟨fr, bs⟩ => B_Take ((ids.take i).foldl tellV w0) bs ∧ fr 6 = .ptr 1 0 0 ∧ fr 8 = .ptr 4 0 0 ∧ fr 40 = .sl (ids.map irow) ids.length ∧ fr 41 = .int .i64 ids.length ∧ fr 42 = .int .i64 i)
    (fun ⟨fr, bs⟩ => B_Take (ids.foldl tellV w0) bs ∧ fr 6 = .ptr 1 0 0 ∧ fr 8 = .ptr 4 0 0) (fun _ => False) c_hello_Take_L0.eq_1 ?_ ?_ ?_ ?_ ?_
  · exact ⟨.inl ⟨_, _, _, by simp [viewBox, psB, xsB]; exact ⟨rfl, rfl, rfl⟩⟩, by simp, by simp, by simp, by simp, by simp⟩
  · rintro i ⟨fr, bs⟩ hi ⟨hB, h6, h8, h40, h41, h42⟩
    rw [hi, List.take_length] at hB
    simp -implicitDefEqProofs [h6, h8, h40, h41, h42, hi]
    exact hB
  · rintro i x rest ⟨fr, bs⟩ hlt hget hg hd hd2 ⟨hB, h6, h8, h40, h41, h42⟩
    obtain ⟨w, hw⟩ : ∃ w, w = (ids.take i).foldl tellV w0 := ⟨_, rfl⟩
    rw [← hw] at hB
    have hlt' : (i : Int) < ids.length := by omega
    have hwr := wrap_next (n := i) (by omega)
    have hx := k5 x (List.mem_of_getElem? hget)
    have hkey := key i
    rw [← hw] at hkey
    obtain ⟨hm, hid⟩ := hkey
    have hnext := take_next hget w0
    rw [← hw] at hnext
    obtain ⟨p1, p2, p3, p4⟩ := viewMay_parts hm
    have v1 := view_Peer w x (by unfold cap; omega) (peersMay_rowed p1)
    rw [peerIs_mem p1 hx] at v1
    have v2 := view_Passive w x (by unfold cap; omega)
    have v3 : x ≠ w.id → _ := fun hn => hello_heard w x hm hx hn
    clear c1 c2 c3 c4 c5 key hw p1 p2 p3 p4
    obtain ⟨A, hA⟩ : ∃ A, (w.peers.map Peer.id).contains x = A := ⟨_, rfl⟩
    obtain ⟨C, hC⟩ : ∃ C, w.passive.contains x = C := ⟨_, rfl⟩
    have hkn : knowsV w x = (A || C) := by rw [← hA, ← hC]; rfl
    rw [hA] at v1
    rw [hC] at v2
    clear hA hC
    simp only [View.cells, peersD, intsD] at v1 v2
    have hr7 : List.range 7 = [0, 1, 2, 3, 4, 5, 6] := rfl
    clear hid hm
    by_cases hn : x = w.id
    · have ht : tellV w x = w := by unfold tellV; simp [hn]
      rw [ht] at hnext
      rcases hB with ⟨d0, d2, d3, rfl⟩ | ⟨d0, d2, d3, d5, d6, rfl⟩
      · simp -implicitDefEqProofs [h6, h8, h40, h41, h42, hlt, hlt', hget, hg, hn, hwr, viewBox, psB, xsB, irow]
        refine ⟨[], ⟨by simp, by simp, by simp⟩, ?_⟩
        unfold keepSt pickSt
        dsimp only
        try rw [hnext]
        exact ⟨.inl ⟨_, _, _, by simp [lentBs, hr7, viewBox, psB, xsB, irow]; repeat' (first | rfl | apply And.intro)⟩, by simp [h6, hr7], by simp [h8, hr7], by simp [h40], by simp [h41], by simp⟩
      · simp -implicitDefEqProofs [h6, h8, h40, h41, h42, hlt, hlt', hget, hg, hn, hwr, viewBox, psB, xsB, irow]
        refine ⟨[7, 8], ⟨by simp, by simp, by simp⟩, ?_⟩
        unfold keepSt pickSt
        dsimp only
        try rw [hnext]
        exact ⟨.inr ⟨_, _, _, _, _, by simp [lentBs, hr7, viewBox, psB, xsB, irow]; repeat' (first | rfl | apply And.intro)⟩, by simp [h6, hr7], by simp [h8, hr7], by simp [h40], by simp [h41], by simp⟩
    · have v4 := v3 hn
      clear v3
      cases hAC : (A || C) with
      | true =>
        have ht : tellV w x = w := by unfold tellV; simp [hkn, hAC]
        rw [ht] at hnext
        clear v4 hkn ht
        rcases hB with ⟨d0, d2, d3, rfl⟩ | ⟨d0, d2, d3, d5, d6, rfl⟩
        · cases A <;> cases C
          all_goals try (simp at hAC; done)
          all_goals
            clear hAC
            simp -implicitDefEqProofs [h6, h8, h40, h41, h42, hlt, hlt', hget, hg, hn, hwr, viewBox, psB, xsB, irow]
            repeat' (first | (refine callThen_of (by first | exact v1 | exact v2) ?_; simp -implicitDefEqProofs [*, h6, h8, h40, h41, h42, hlt, hlt', hget, hg, hn, hwr, viewBox, psB, xsB, irow]) | (with_reducible refine gOps_dec (fun _ => ?_) (fun _ => ?_) <;> simp -implicitDefEqProofs [*, h6, h8, h40, h41, h42, hlt, hlt', hget, hg, hn, hwr, viewBox, psB, xsB, irow]) | (with_reducible refine gOps_ndec (fun _ => ?_) (fun _ => ?_) <;> simp -implicitDefEqProofs [*, h6, h8, h40, h41, h42, hlt, hlt', hget, hg, hn, hwr, viewBox, psB, xsB, irow]) | (with_reducible refine gOps_and (fun hq => ?_) (fun hq => ?_) <;> (try simp at hq) <;> simp -implicitDefEqProofs [*, h6, h8, h40, h41, h42, hlt, hlt', hget, hg, hn, hwr, viewBox, psB, xsB, irow]) | (with_reducible refine gOps_or (fun hq => ?_) (fun hq => ?_) <;> (try simp at hq) <;> simp -implicitDefEqProofs [*, h6, h8, h40, h41, h42, hlt, hlt', hget, hg, hn, hwr, viewBox, psB, xsB, irow]) | (with_reducible refine gOps_not (fun hq => ?_) (fun hq => ?_) <;> (try simp at hq) <;> simp -implicitDefEqProofs [*, h6, h8, h40, h41, h42, hlt, hlt', hget, hg, hn, hwr, viewBox, psB, xsB, irow]) | (with_reducible refine gOps_split (fun hq => ?_) (fun hq => ?_) <;> (try simp at hq) <;> simp -implicitDefEqProofs [*, h6, h8, h40, h41, h42, hlt, hlt', hget, hg, hn, hwr, viewBox, psB, xsB, irow]) | (with_reducible refine condC_dec (fun _ => ?_) (fun _ => ?_) <;> simp -implicitDefEqProofs [*, h6, h8, h40, h41, h42, hlt, hlt', hget, hg, hn, hwr, viewBox, psB, xsB, irow]) | (with_reducible refine condC_ndec (fun _ => ?_) (fun _ => ?_) <;> simp -implicitDefEqProofs [*, h6, h8, h40, h41, h42, hlt, hlt', hget, hg, hn, hwr, viewBox, psB, xsB, irow]) | (with_reducible refine condC_and (fun hq => ?_) (fun hq => ?_) <;> (try simp at hq) <;> simp -implicitDefEqProofs [*, h6, h8, h40, h41, h42, hlt, hlt', hget, hg, hn, hwr, viewBox, psB, xsB, irow]) | (with_reducible refine condC_or (fun hq => ?_) (fun hq => ?_) <;> (try simp at hq) <;> simp -implicitDefEqProofs [*, h6, h8, h40, h41, h42, hlt, hlt', hget, hg, hn, hwr, viewBox, psB, xsB, irow]) | (with_reducible refine condC_not (fun hq => ?_) (fun hq => ?_) <;> (try simp at hq) <;> simp -implicitDefEqProofs [*, h6, h8, h40, h41, h42, hlt, hlt', hget, hg, hn, hwr, viewBox, psB, xsB, irow]) | (with_reducible refine condC_split (fun hq => ?_) (fun hq => ?_) <;> (try simp at hq) <;> simp -implicitDefEqProofs [*, h6, h8, h40, h41, h42, hlt, hlt', hget, hg, hn, hwr, viewBox, psB, xsB, irow]) | (refine appK2_if (by omega) ?_; simp -implicitDefEqProofs [*, h6, h8, h40, h41, h42, hlt, hlt', hget, hg, hn, hwr, viewBox, psB, xsB, irow]) | (refine pureV_if (by omega) ?_; simp -implicitDefEqProofs [*, h6, h8, h40, h41, h42, hlt, hlt', hget, hg, hn, hwr, viewBox, psB, xsB, irow]))
            refine ⟨[], ⟨by simp, by simp, by simp⟩, ?_⟩
            unfold keepSt pickSt
            dsimp only
            try rw [hnext]
            exact ⟨.inl ⟨_, _, _, by simp [lentBs, hr7, viewBox, psB, xsB, irow]; repeat' (first | rfl | apply And.intro)⟩, by simp [h6, hr7], by simp [h8, hr7], by simp [h40], by simp [h41], by simp⟩
        · cases A <;> cases C
          all_goals try (simp at hAC; done)
          all_goals
            clear hAC
            simp -implicitDefEqProofs [h6, h8, h40, h41, h42, hlt, hlt', hget, hg, hn, hwr, viewBox, psB, xsB, irow]
            repeat' (first | (refine callThen_of (by first | exact v1 | exact v2) ?_; simp -implicitDefEqProofs [*, h6, h8, h40, h41, h42, hlt, hlt', hget, hg, hn, hwr, viewBox, psB, xsB, irow]) | (with_reducible refine gOps_dec (fun _ => ?_) (fun _ => ?_) <;> simp -implicitDefEqProofs [*, h6, h8, h40, h41, h42, hlt, hlt', hget, hg, hn, hwr, viewBox, psB, xsB, irow]) | (with_reducible refine gOps_ndec (fun _ => ?_) (fun _ => ?_) <;> simp -implicitDefEqProofs [*, h6, h8, h40, h41, h42, hlt, hlt', hget, hg, hn, hwr, viewBox, psB, xsB, irow]) | (with_reducible refine gOps_and (fun hq => ?_) (fun hq => ?_) <;> (try simp at hq) <;> simp -implicitDefEqProofs [*, h6, h8, h40, h41, h42, hlt, hlt', hget, hg, hn, hwr, viewBox, psB, xsB, irow]) | (with_reducible refine gOps_or (fun hq => ?_) (fun hq => ?_) <;> (try simp at hq) <;> simp -implicitDefEqProofs [*, h6, h8, h40, h41, h42, hlt, hlt', hget, hg, hn, hwr, viewBox, psB, xsB, irow]) | (with_reducible refine gOps_not (fun hq => ?_) (fun hq => ?_) <;> (try simp at hq) <;> simp -implicitDefEqProofs [*, h6, h8, h40, h41, h42, hlt, hlt', hget, hg, hn, hwr, viewBox, psB, xsB, irow]) | (with_reducible refine gOps_split (fun hq => ?_) (fun hq => ?_) <;> (try simp at hq) <;> simp -implicitDefEqProofs [*, h6, h8, h40, h41, h42, hlt, hlt', hget, hg, hn, hwr, viewBox, psB, xsB, irow]) | (with_reducible refine condC_dec (fun _ => ?_) (fun _ => ?_) <;> simp -implicitDefEqProofs [*, h6, h8, h40, h41, h42, hlt, hlt', hget, hg, hn, hwr, viewBox, psB, xsB, irow]) | (with_reducible refine condC_ndec (fun _ => ?_) (fun _ => ?_) <;> simp -implicitDefEqProofs [*, h6, h8, h40, h41, h42, hlt, hlt', hget, hg, hn, hwr, viewBox, psB, xsB, irow]) | (with_reducible refine condC_and (fun hq => ?_) (fun hq => ?_) <;> (try simp at hq) <;> simp -implicitDefEqProofs [*, h6, h8, h40, h41, h42, hlt, hlt', hget, hg, hn, hwr, viewBox, psB, xsB, irow]) | (with_reducible refine condC_or (fun hq => ?_) (fun hq => ?_) <;> (try simp at hq) <;> simp -implicitDefEqProofs [*, h6, h8, h40, h41, h42, hlt, hlt', hget, hg, hn, hwr, viewBox, psB, xsB, irow]) | (with_reducible refine condC_not (fun hq => ?_) (fun hq => ?_) <;> (try simp at hq) <;> simp -implicitDefEqProofs [*, h6, h8, h40, h41, h42, hlt, hlt', hget, hg, hn, hwr, viewBox, psB, xsB, irow]) | (with_reducible refine condC_split (fun hq => ?_) (fun hq => ?_) <;> (try simp at hq) <;> simp -implicitDefEqProofs [*, h6, h8, h40, h41, h42, hlt, hlt', hget, hg, hn, hwr, viewBox, psB, xsB, irow]) | (refine appK2_if (by omega) ?_; simp -implicitDefEqProofs [*, h6, h8, h40, h41, h42, hlt, hlt', hget, hg, hn, hwr, viewBox, psB, xsB, irow]) | (refine pureV_if (by omega) ?_; simp -implicitDefEqProofs [*, h6, h8, h40, h41, h42, hlt, hlt', hget, hg, hn, hwr, viewBox, psB, xsB, irow]))
            refine ⟨[7, 8], ⟨by simp, by simp, by simp⟩, ?_⟩
            unfold keepSt pickSt
            dsimp only
            try rw [hnext]
            exact ⟨.inr ⟨_, _, _, _, _, by simp [lentBs, hr7, viewBox, psB, xsB, irow]; repeat' (first | rfl | apply And.intro)⟩, by simp [h6, hr7], by simp [h8, hr7], by simp [h40], by simp [h41], by simp⟩
      | false =>
        simp only [Bool.or_eq_false_iff] at hAC
        obtain ⟨rfl, rfl⟩ := hAC
        have ht : tellV w x = knownV w x := by unfold tellV; simp [hkn, hn]
        rw [ht] at hnext
        clear ht hkn
        cases hr : roomV w x with
        | false =>
          rw [knownV_no hr] at hnext
          rw [if_neg (by simp [hr])] at v4
          clear hr
          simp only [viewBox, psB, xsB] at v4
          rcases hB with ⟨d0, d2, d3, rfl⟩ | ⟨d0, d2, d3, d5, d6, rfl⟩
          · simp -implicitDefEqProofs [h6, h8, h40, h41, h42, hlt, hlt', hget, hg, hn, hwr, viewBox, psB, xsB, irow]
            repeat' (first | (refine callThen_of (by first | exact v1 | exact v2) ?_; simp -implicitDefEqProofs [*, h6, h8, h40, h41, h42, hlt, hlt', hget, hg, hn, hwr, viewBox, psB, xsB, irow]) | (with_reducible refine gOps_dec (fun _ => ?_) (fun _ => ?_) <;> simp -implicitDefEqProofs [*, h6, h8, h40, h41, h42, hlt, hlt', hget, hg, hn, hwr, viewBox, psB, xsB, irow]) | (with_reducible refine gOps_ndec (fun _ => ?_) (fun _ => ?_) <;> simp -implicitDefEqProofs [*, h6, h8, h40, h41, h42, hlt, hlt', hget, hg, hn, hwr, viewBox, psB, xsB, irow]) | (with_reducible refine gOps_and (fun hq => ?_) (fun hq => ?_) <;> (try simp at hq) <;> simp -implicitDefEqProofs [*, h6, h8, h40, h41, h42, hlt, hlt', hget, hg, hn, hwr, viewBox, psB, xsB, irow]) | (with_reducible refine gOps_or (fun hq => ?_) (fun hq => ?_) <;> (try simp at hq) <;> simp -implicitDefEqProofs [*, h6, h8, h40, h41, h42, hlt, hlt', hget, hg, hn, hwr, viewBox, psB, xsB, irow]) | (with_reducible refine gOps_not (fun hq => ?_) (fun hq => ?_) <;> (try simp at hq) <;> simp -implicitDefEqProofs [*, h6, h8, h40, h41, h42, hlt, hlt', hget, hg, hn, hwr, viewBox, psB, xsB, irow]) | (with_reducible refine gOps_split (fun hq => ?_) (fun hq => ?_) <;> (try simp at hq) <;> simp -implicitDefEqProofs [*, h6, h8, h40, h41, h42, hlt, hlt', hget, hg, hn, hwr, viewBox, psB, xsB, irow]) | (with_reducible refine condC_dec (fun _ => ?_) (fun _ => ?_) <;> simp -implicitDefEqProofs [*, h6, h8, h40, h41, h42, hlt, hlt', hget, hg, hn, hwr, viewBox, psB, xsB, irow]) | (with_reducible refine condC_ndec (fun _ => ?_) (fun _ => ?_) <;> simp -implicitDefEqProofs [*, h6, h8, h40, h41, h42, hlt, hlt', hget, hg, hn, hwr, viewBox, psB, xsB, irow]) | (with_reducible refine condC_and (fun hq => ?_) (fun hq => ?_) <;> (try simp at hq) <;> simp -implicitDefEqProofs [*, h6, h8, h40, h41, h42, hlt, hlt', hget, hg, hn, hwr, viewBox, psB, xsB, irow]) | (with_reducible refine condC_or (fun hq => ?_) (fun hq => ?_) <;> (try simp at hq) <;> simp -implicitDefEqProofs [*, h6, h8, h40, h41, h42, hlt, hlt', hget, hg, hn, hwr, viewBox, psB, xsB, irow]) | (with_reducible refine condC_not (fun hq => ?_) (fun hq => ?_) <;> (try simp at hq) <;> simp -implicitDefEqProofs [*, h6, h8, h40, h41, h42, hlt, hlt', hget, hg, hn, hwr, viewBox, psB, xsB, irow]) | (with_reducible refine condC_split (fun hq => ?_) (fun hq => ?_) <;> (try simp at hq) <;> simp -implicitDefEqProofs [*, h6, h8, h40, h41, h42, hlt, hlt', hget, hg, hn, hwr, viewBox, psB, xsB, irow]) | (refine appK2_if (by omega) ?_; simp -implicitDefEqProofs [*, h6, h8, h40, h41, h42, hlt, hlt', hget, hg, hn, hwr, viewBox, psB, xsB, irow]) | (refine pureV_if (by omega) ?_; simp -implicitDefEqProofs [*, h6, h8, h40, h41, h42, hlt, hlt', hget, hg, hn, hwr, viewBox, psB, xsB, irow]))
            refine lendThen_frame [4, 5, 6] rfl (by decide) (by simp) v4 (by simp) (by simp [lentBs]) ?_
            simp -implicitDefEqProofs [framed, h6, h8, h40, h41, h42, hlt, hlt', hget, hg, hn, hwr, viewBox, psB, xsB, irow]
            refine ⟨[], ⟨by simp, by simp, by simp⟩, ?_⟩
            unfold keepSt pickSt
            dsimp only
            try rw [hnext]
            exact ⟨.inl ⟨_, _, _, by simp [lentBs, hr7, viewBox, psB, xsB, irow]; repeat' (first | rfl | apply And.intro)⟩, by simp [h6, hr7], by simp [h8, hr7], by simp [h40], by simp [h41], by simp⟩
          · simp -implicitDefEqProofs [h6, h8, h40, h41, h42, hlt, hlt', hget, hg, hn, hwr, viewBox, psB, xsB, irow]
            repeat' (first | (refine callThen_of (by first | exact v1 | exact v2) ?_; simp -implicitDefEqProofs [*, h6, h8, h40, h41, h42, hlt, hlt', hget, hg, hn, hwr, viewBox, psB, xsB, irow]) | (with_reducible refine gOps_dec (fun _ => ?_) (fun _ => ?_) <;> simp -implicitDefEqProofs [*, h6, h8, h40, h41, h42, hlt, hlt', hget, hg, hn, hwr, viewBox, psB, xsB, irow]) | (with_reducible refine gOps_ndec (fun _ => ?_) (fun _ => ?_) <;> simp -implicitDefEqProofs [*, h6, h8, h40, h41, h42, hlt, hlt', hget, hg, hn, hwr, viewBox, psB, xsB, irow]) | (with_reducible refine gOps_and (fun hq => ?_) (fun hq => ?_) <;> (try simp at hq) <;> simp -implicitDefEqProofs [*, h6, h8, h40, h41, h42, hlt, hlt', hget, hg, hn, hwr, viewBox, psB, xsB, irow]) | (with_reducible refine gOps_or (fun hq => ?_) (fun hq => ?_) <;> (try simp at hq) <;> simp -implicitDefEqProofs [*, h6, h8, h40, h41, h42, hlt, hlt', hget, hg, hn, hwr, viewBox, psB, xsB, irow]) | (with_reducible refine gOps_not (fun hq => ?_) (fun hq => ?_) <;> (try simp at hq) <;> simp -implicitDefEqProofs [*, h6, h8, h40, h41, h42, hlt, hlt', hget, hg, hn, hwr, viewBox, psB, xsB, irow]) | (with_reducible refine gOps_split (fun hq => ?_) (fun hq => ?_) <;> (try simp at hq) <;> simp -implicitDefEqProofs [*, h6, h8, h40, h41, h42, hlt, hlt', hget, hg, hn, hwr, viewBox, psB, xsB, irow]) | (with_reducible refine condC_dec (fun _ => ?_) (fun _ => ?_) <;> simp -implicitDefEqProofs [*, h6, h8, h40, h41, h42, hlt, hlt', hget, hg, hn, hwr, viewBox, psB, xsB, irow]) | (with_reducible refine condC_ndec (fun _ => ?_) (fun _ => ?_) <;> simp -implicitDefEqProofs [*, h6, h8, h40, h41, h42, hlt, hlt', hget, hg, hn, hwr, viewBox, psB, xsB, irow]) | (with_reducible refine condC_and (fun hq => ?_) (fun hq => ?_) <;> (try simp at hq) <;> simp -implicitDefEqProofs [*, h6, h8, h40, h41, h42, hlt, hlt', hget, hg, hn, hwr, viewBox, psB, xsB, irow]) | (with_reducible refine condC_or (fun hq => ?_) (fun hq => ?_) <;> (try simp at hq) <;> simp -implicitDefEqProofs [*, h6, h8, h40, h41, h42, hlt, hlt', hget, hg, hn, hwr, viewBox, psB, xsB, irow]) | (with_reducible refine condC_not (fun hq => ?_) (fun hq => ?_) <;> (try simp at hq) <;> simp -implicitDefEqProofs [*, h6, h8, h40, h41, h42, hlt, hlt', hget, hg, hn, hwr, viewBox, psB, xsB, irow]) | (with_reducible refine condC_split (fun hq => ?_) (fun hq => ?_) <;> (try simp at hq) <;> simp -implicitDefEqProofs [*, h6, h8, h40, h41, h42, hlt, hlt', hget, hg, hn, hwr, viewBox, psB, xsB, irow]) | (refine appK2_if (by omega) ?_; simp -implicitDefEqProofs [*, h6, h8, h40, h41, h42, hlt, hlt', hget, hg, hn, hwr, viewBox, psB, xsB, irow]) | (refine pureV_if (by omega) ?_; simp -implicitDefEqProofs [*, h6, h8, h40, h41, h42, hlt, hlt', hget, hg, hn, hwr, viewBox, psB, xsB, irow]))
            refine lendThen_frame [4, 7, 8] rfl (by decide) (by simp) v4 (by simp) (by simp [lentBs]) ?_
            simp -implicitDefEqProofs [framed, h6, h8, h40, h41, h42, hlt, hlt', hget, hg, hn, hwr, viewBox, psB, xsB, irow]
            refine ⟨[7, 8], ⟨by simp, by simp, by simp⟩, ?_⟩
            unfold keepSt pickSt
            dsimp only
            try rw [hnext]
            exact ⟨.inr ⟨_, _, _, _, _, by simp [lentBs, hr7, viewBox, psB, xsB, irow]; repeat' (first | rfl | apply And.intro)⟩, by simp [h6, hr7], by simp [h8, hr7], by simp [h40], by simp [h41], by simp⟩
        | true =>
          rw [if_pos hr] at v4
          generalize knownV w x = w2 at *
          clear hr
          simp only [viewBox, psB, xsB] at v4
          rcases hB with ⟨d0, d2, d3, rfl⟩ | ⟨d0, d2, d3, d5, d6, rfl⟩
          · simp -implicitDefEqProofs [h6, h8, h40, h41, h42, hlt, hlt', hget, hg, hn, hwr, viewBox, psB, xsB, irow]
            repeat' (first | (refine callThen_of (by first | exact v1 | exact v2) ?_; simp -implicitDefEqProofs [*, h6, h8, h40, h41, h42, hlt, hlt', hget, hg, hn, hwr, viewBox, psB, xsB, irow]) | (with_reducible refine gOps_dec (fun _ => ?_) (fun _ => ?_) <;> simp -implicitDefEqProofs [*, h6, h8, h40, h41, h42, hlt, hlt', hget, hg, hn, hwr, viewBox, psB, xsB, irow]) | (with_reducible refine gOps_ndec (fun _ => ?_) (fun _ => ?_) <;> simp -implicitDefEqProofs [*, h6, h8, h40, h41, h42, hlt, hlt', hget, hg, hn, hwr, viewBox, psB, xsB, irow]) | (with_reducible refine gOps_and (fun hq => ?_) (fun hq => ?_) <;> (try simp at hq) <;> simp -implicitDefEqProofs [*, h6, h8, h40, h41, h42, hlt, hlt', hget, hg, hn, hwr, viewBox, psB, xsB, irow]) | (with_reducible refine gOps_or (fun hq => ?_) (fun hq => ?_) <;> (try simp at hq) <;> simp -implicitDefEqProofs [*, h6, h8, h40, h41, h42, hlt, hlt', hget, hg, hn, hwr, viewBox, psB, xsB, irow]) | (with_reducible refine gOps_not (fun hq => ?_) (fun hq => ?_) <;> (try simp at hq) <;> simp -implicitDefEqProofs [*, h6, h8, h40, h41, h42, hlt, hlt', hget, hg, hn, hwr, viewBox, psB, xsB, irow]) | (with_reducible refine gOps_split (fun hq => ?_) (fun hq => ?_) <;> (try simp at hq) <;> simp -implicitDefEqProofs [*, h6, h8, h40, h41, h42, hlt, hlt', hget, hg, hn, hwr, viewBox, psB, xsB, irow]) | (with_reducible refine condC_dec (fun _ => ?_) (fun _ => ?_) <;> simp -implicitDefEqProofs [*, h6, h8, h40, h41, h42, hlt, hlt', hget, hg, hn, hwr, viewBox, psB, xsB, irow]) | (with_reducible refine condC_ndec (fun _ => ?_) (fun _ => ?_) <;> simp -implicitDefEqProofs [*, h6, h8, h40, h41, h42, hlt, hlt', hget, hg, hn, hwr, viewBox, psB, xsB, irow]) | (with_reducible refine condC_and (fun hq => ?_) (fun hq => ?_) <;> (try simp at hq) <;> simp -implicitDefEqProofs [*, h6, h8, h40, h41, h42, hlt, hlt', hget, hg, hn, hwr, viewBox, psB, xsB, irow]) | (with_reducible refine condC_or (fun hq => ?_) (fun hq => ?_) <;> (try simp at hq) <;> simp -implicitDefEqProofs [*, h6, h8, h40, h41, h42, hlt, hlt', hget, hg, hn, hwr, viewBox, psB, xsB, irow]) | (with_reducible refine condC_not (fun hq => ?_) (fun hq => ?_) <;> (try simp at hq) <;> simp -implicitDefEqProofs [*, h6, h8, h40, h41, h42, hlt, hlt', hget, hg, hn, hwr, viewBox, psB, xsB, irow]) | (with_reducible refine condC_split (fun hq => ?_) (fun hq => ?_) <;> (try simp at hq) <;> simp -implicitDefEqProofs [*, h6, h8, h40, h41, h42, hlt, hlt', hget, hg, hn, hwr, viewBox, psB, xsB, irow]) | (refine appK2_if (by omega) ?_; simp -implicitDefEqProofs [*, h6, h8, h40, h41, h42, hlt, hlt', hget, hg, hn, hwr, viewBox, psB, xsB, irow]) | (refine pureV_if (by omega) ?_; simp -implicitDefEqProofs [*, h6, h8, h40, h41, h42, hlt, hlt', hget, hg, hn, hwr, viewBox, psB, xsB, irow]))
            refine lendThen_frame [4, 5, 6] rfl (by decide) (by simp) v4 (by simp) (by simp [lentBs]) ?_
            simp -implicitDefEqProofs [framed, h6, h8, h40, h41, h42, hlt, hlt', hget, hg, hn, hwr, viewBox, psB, xsB, irow]
            refine ⟨[7, 8], ⟨by simp, by simp, by simp⟩, ?_⟩
            unfold keepSt pickSt
            dsimp only
            try rw [hnext]
            exact ⟨.inr ⟨_, _, _, _, _, by simp [lentBs, hr7, viewBox, psB, xsB, irow]; repeat' (first | rfl | apply And.intro)⟩, by simp [h6, hr7], by simp [h8, hr7], by simp [h40], by simp [h41], by simp⟩
          · simp -implicitDefEqProofs [h6, h8, h40, h41, h42, hlt, hlt', hget, hg, hn, hwr, viewBox, psB, xsB, irow]
            repeat' (first | (refine callThen_of (by first | exact v1 | exact v2) ?_; simp -implicitDefEqProofs [*, h6, h8, h40, h41, h42, hlt, hlt', hget, hg, hn, hwr, viewBox, psB, xsB, irow]) | (with_reducible refine gOps_dec (fun _ => ?_) (fun _ => ?_) <;> simp -implicitDefEqProofs [*, h6, h8, h40, h41, h42, hlt, hlt', hget, hg, hn, hwr, viewBox, psB, xsB, irow]) | (with_reducible refine gOps_ndec (fun _ => ?_) (fun _ => ?_) <;> simp -implicitDefEqProofs [*, h6, h8, h40, h41, h42, hlt, hlt', hget, hg, hn, hwr, viewBox, psB, xsB, irow]) | (with_reducible refine gOps_and (fun hq => ?_) (fun hq => ?_) <;> (try simp at hq) <;> simp -implicitDefEqProofs [*, h6, h8, h40, h41, h42, hlt, hlt', hget, hg, hn, hwr, viewBox, psB, xsB, irow]) | (with_reducible refine gOps_or (fun hq => ?_) (fun hq => ?_) <;> (try simp at hq) <;> simp -implicitDefEqProofs [*, h6, h8, h40, h41, h42, hlt, hlt', hget, hg, hn, hwr, viewBox, psB, xsB, irow]) | (with_reducible refine gOps_not (fun hq => ?_) (fun hq => ?_) <;> (try simp at hq) <;> simp -implicitDefEqProofs [*, h6, h8, h40, h41, h42, hlt, hlt', hget, hg, hn, hwr, viewBox, psB, xsB, irow]) | (with_reducible refine gOps_split (fun hq => ?_) (fun hq => ?_) <;> (try simp at hq) <;> simp -implicitDefEqProofs [*, h6, h8, h40, h41, h42, hlt, hlt', hget, hg, hn, hwr, viewBox, psB, xsB, irow]) | (with_reducible refine condC_dec (fun _ => ?_) (fun _ => ?_) <;> simp -implicitDefEqProofs [*, h6, h8, h40, h41, h42, hlt, hlt', hget, hg, hn, hwr, viewBox, psB, xsB, irow]) | (with_reducible refine condC_ndec (fun _ => ?_) (fun _ => ?_) <;> simp -implicitDefEqProofs [*, h6, h8, h40, h41, h42, hlt, hlt', hget, hg, hn, hwr, viewBox, psB, xsB, irow]) | (with_reducible refine condC_and (fun hq => ?_) (fun hq => ?_) <;> (try simp at hq) <;> simp -implicitDefEqProofs [*, h6, h8, h40, h41, h42, hlt, hlt', hget, hg, hn, hwr, viewBox, psB, xsB, irow]) | (with_reducible refine condC_or (fun hq => ?_) (fun hq => ?_) <;> (try simp at hq) <;> simp -implicitDefEqProofs [*, h6, h8, h40, h41, h42, hlt, hlt', hget, hg, hn, hwr, viewBox, psB, xsB, irow]) | (with_reducible refine condC_not (fun hq => ?_) (fun hq => ?_) <;> (try simp at hq) <;> simp -implicitDefEqProofs [*, h6, h8, h40, h41, h42, hlt, hlt', hget, hg, hn, hwr, viewBox, psB, xsB, irow]) | (with_reducible refine condC_split (fun hq => ?_) (fun hq => ?_) <;> (try simp at hq) <;> simp -implicitDefEqProofs [*, h6, h8, h40, h41, h42, hlt, hlt', hget, hg, hn, hwr, viewBox, psB, xsB, irow]) | (refine appK2_if (by omega) ?_; simp -implicitDefEqProofs [*, h6, h8, h40, h41, h42, hlt, hlt', hget, hg, hn, hwr, viewBox, psB, xsB, irow]) | (refine pureV_if (by omega) ?_; simp -implicitDefEqProofs [*, h6, h8, h40, h41, h42, hlt, hlt', hget, hg, hn, hwr, viewBox, psB, xsB, irow]))
            refine lendThen_frame [4, 7, 8] rfl (by decide) (by simp) v4 (by simp) (by simp [lentBs]) ?_
            simp -implicitDefEqProofs [framed, h6, h8, h40, h41, h42, hlt, hlt', hget, hg, hn, hwr, viewBox, psB, xsB, irow]
            refine ⟨[9, 10], ⟨by simp, by simp, by simp⟩, ?_⟩
            unfold keepSt pickSt
            dsimp only
            try rw [hnext]
            exact ⟨.inr ⟨_, _, _, _, _, by simp [lentBs, hr7, viewBox, psB, xsB, irow]; repeat' (first | rfl | apply And.intro)⟩, by simp [h6, hr7], by simp [h8, hr7], by simp [h40], by simp [h41], by simp⟩
  · rintro ⟨fr, bs⟩ ⟨hB, h6, h8⟩
    have hWid := (key ids.length).2
    rw [List.take_length] at hWid
    generalize ids.foldl tellV w0 = W at *
    rcases hB with ⟨d0, d2, d3, rfl⟩ | ⟨d0, d2, d3, d5, d6, rfl⟩
    · simp -implicitDefEqProofs [h6, h8, viewBox, psB, xsB, hWid]
    · simp -implicitDefEqProofs [h6, h8, viewBox, psB, xsB, hWid]
  · rintro ⟨fr, bs⟩ h
    exact h.elim
theorem hello_Take_full (v : View) (a : Int) (ids : List Int) (hs : v.small) (h : helloOk v a ids = true) (hr : roomV v a = false) : Den PP 17 [viewD v, .int .i64 a, intsD ids] [] (.tup [.agg [.int .i64 v.id, .ref 0 0 (helloV v a ids).peers.length, .ref 1 0 (helloV v a ids).passive.length], .int .i64 0]) [psB (helloV v a ids), xsB (helloV v a ids)] := by
  obtain ⟨k1, k2, k3, k4, k5⟩ := helloOk_parts h
  have hcap : ids.length ≤ cap := by unfold cap; omega
  have hsz : 16 ≤ sizeV v := by
    unfold roomV at hr
    simp at hr
    unfold sizeV
    exact hr.2
  have hW : helloV v a ids = v := by unfold helloV; rw [knownV_no hr, tells_full hsz]
  rw [hW]
  clear hW
  have c1 := view_May v hs
  have c2 := ring_Place a
  have c3 := ring_Places ids hcap
  have c4 := view_Copy v hs
  have hm := k1
  rw [k1] at c1
  rw [k2] at c2
  rw [show ids.all place = true from List.all_eq_true.2 k5] at c3
  have c5 := hello_heard v a k1 k2 k3
  rw [if_neg (by simp [hr])] at c5
  have hk4 : ¬ (16 : Int) < ids.length := by omega
  simp only [viewD, View.cells, peersD, intsD, viewBox, psB, xsB] at c1 c3 c4 c5 ⊢
  clear k1 k2 hs h hr
  refine den_of [37] [38, 60] is_hello_Take ?_
  simp -implicitDefEqProofs [c_hello_Take, hk4, k3]
  repeat' (first | (refine callThen_of (by first | exact c1 | exact c2 | exact c3 | exact c4) ?_; simp -implicitDefEqProofs [*, downTo, hk4, k3]) | (with_reducible refine gOps_dec (fun _ => ?_) (fun _ => ?_) <;> simp -implicitDefEqProofs [*, downTo, hk4, k3]) | (with_reducible refine gOps_ndec (fun _ => ?_) (fun _ => ?_) <;> simp -implicitDefEqProofs [*, downTo, hk4, k3]) | (with_reducible refine gOps_and (fun hq => ?_) (fun hq => ?_) <;> (try simp at hq) <;> simp -implicitDefEqProofs [*, downTo, hk4, k3]) | (with_reducible refine gOps_or (fun hq => ?_) (fun hq => ?_) <;> (try simp at hq) <;> simp -implicitDefEqProofs [*, downTo, hk4, k3]) | (with_reducible refine gOps_not (fun hq => ?_) (fun hq => ?_) <;> (try simp at hq) <;> simp -implicitDefEqProofs [*, downTo, hk4, k3]) | (with_reducible refine gOps_split (fun hq => ?_) (fun hq => ?_) <;> (try simp at hq) <;> simp -implicitDefEqProofs [*, downTo, hk4, k3]) | (with_reducible refine condC_dec (fun _ => ?_) (fun _ => ?_) <;> simp -implicitDefEqProofs [*, downTo, hk4, k3]) | (with_reducible refine condC_ndec (fun _ => ?_) (fun _ => ?_) <;> simp -implicitDefEqProofs [*, downTo, hk4, k3]) | (with_reducible refine condC_and (fun hq => ?_) (fun hq => ?_) <;> (try simp at hq) <;> simp -implicitDefEqProofs [*, downTo, hk4, k3]) | (with_reducible refine condC_or (fun hq => ?_) (fun hq => ?_) <;> (try simp at hq) <;> simp -implicitDefEqProofs [*, downTo, hk4, k3]) | (with_reducible refine condC_not (fun hq => ?_) (fun hq => ?_) <;> (try simp at hq) <;> simp -implicitDefEqProofs [*, downTo, hk4, k3]) | (with_reducible refine condC_split (fun hq => ?_) (fun hq => ?_) <;> (try simp at hq) <;> simp -implicitDefEqProofs [*, downTo, hk4, k3]) | (refine appK2_if (by omega) ?_; simp -implicitDefEqProofs [*, downTo, hk4, k3]) | (refine pureV_if (by omega) ?_; simp -implicitDefEqProofs [*, downTo, hk4, k3]))
  refine lendThen_frame [4, 2, 3] rfl (by decide) (by simp) c5 (by simp) (by simp [lentBs]) ?_
  simp -implicitDefEqProofs [framed]
  refine list_keep ids (fun i rest => fun ⟨fr, bs⟩ => (∃ d0, bs = [d0, ⟨[[.int .i64 0, .nil, .nil]], 3, .box⟩, psB v, xsB v, viewBox v 2 3]) ∧ fr 6 = .ptr 1 0 0 ∧ fr 8 = .ptr 4 0 0 ∧ fr 40 = .sl (ids.map irow) ids.length ∧ fr 41 = .int .i64 ids.length ∧ fr 42 = .int .i64 i)
    (fun ⟨fr, bs⟩ => (∃ d0, bs = [d0, ⟨[[.int .i64 0, .nil, .nil]], 3, .box⟩, psB v, xsB v, viewBox v 2 3]) ∧ fr 6 = .ptr 1 0 0 ∧ fr 8 = .ptr 4 0 0) (fun _ => False) c_hello_Take_L0.eq_1 ?_ ?_ ?_ ?_ ?_
  · exact ⟨⟨_, by simp [viewBox, psB, xsB]; rfl⟩, by simp, by simp, by simp, by simp, by simp⟩
  · rintro i ⟨fr, bs⟩ hi ⟨hB, h6, h8, h40, h41, h42⟩
    simp -implicitDefEqProofs [h6, h8, h40, h41, h42, hi]
    exact hB
  · rintro i x rest ⟨fr, bs⟩ hlt hget hg hd hd2 ⟨⟨d0, rfl⟩, h6, h8, h40, h41, h42⟩
    have hlt' : (i : Int) < ids.length := by omega
    have hwr := wrap_next (n := i) (by omega)
    have hx := k5 x (List.mem_of_getElem? hget)
    obtain ⟨p1, p2, p3, p4⟩ := viewMay_parts hm
    have v1 := view_Peer v x (by unfold cap; omega) (peersMay_rowed p1)
    rw [peerIs_mem p1 hx] at v1
    have v2 := view_Passive v x (by unfold cap; omega)
    have v3 : x ≠ v.id → _ := fun hn => hello_heard v x hm hx hn
    clear c1 c2 c3 c4 c5 p1 p2 p3 p4
    have hroom : knowsV v x = false → roomV v x = false := by
      intro hk
      unfold roomV
      unfold sizeV at hsz
      simp [hk, hsz]
    obtain ⟨A, hA⟩ : ∃ A, (v.peers.map Peer.id).contains x = A := ⟨_, rfl⟩
    obtain ⟨C, hC⟩ : ∃ C, v.passive.contains x = C := ⟨_, rfl⟩
    have hkn : knowsV v x = (A || C) := by rw [← hA, ← hC]; rfl
    rw [hA] at v1
    rw [hC] at v2
    clear hA hC
    simp only [View.cells, peersD, intsD] at v1 v2
    have hr5 : List.range 5 = [0, 1, 2, 3, 4] := rfl
    clear hm hsz
    by_cases hn : x = v.id
    · simp -implicitDefEqProofs [h6, h8, h40, h41, h42, hlt, hlt', hget, hg, hn, hwr, viewBox, psB, xsB, irow]
      refine ⟨[], ⟨by simp, by simp, by simp⟩, ?_⟩
      unfold keepSt pickSt
      dsimp only
      exact ⟨⟨_, by simp [lentBs, hr5, viewBox, psB, xsB, irow]; repeat' (first | rfl | apply And.intro)⟩, by simp [h6, hr5], by simp [h8, hr5], by simp [h40], by simp [h41], by simp⟩
    · have v4 := v3 hn
      clear v3
      cases hAC : (A || C) with
      | true =>
        clear v4 hkn hroom
        cases A <;> cases C
        all_goals try (simp at hAC; done)
        all_goals
          clear hAC
          simp -implicitDefEqProofs [h6, h8, h40, h41, h42, hlt, hlt', hget, hg, hn, hwr, viewBox, psB, xsB, irow]
          repeat' (first | (refine callThen_of (by first | exact v1 | exact v2) ?_; simp -implicitDefEqProofs [*, h6, h8, h40, h41, h42, hlt, hlt', hget, hg, hn, hwr, viewBox, psB, xsB, irow]) | (with_reducible refine gOps_dec (fun _ => ?_) (fun _ => ?_) <;> simp -implicitDefEqProofs [*, h6, h8, h40, h41, h42, hlt, hlt', hget, hg, hn, hwr, viewBox, psB, xsB, irow]) | (with_reducible refine gOps_ndec (fun _ => ?_) (fun _ => ?_) <;> simp -implicitDefEqProofs [*, h6, h8, h40, h41, h42, hlt, hlt', hget, hg, hn, hwr, viewBox, psB, xsB, irow]) | (with_reducible refine gOps_and (fun hq => ?_) (fun hq => ?_) <;> (try simp at hq) <;> simp -implicitDefEqProofs [*, h6, h8, h40, h41, h42, hlt, hlt', hget, hg, hn, hwr, viewBox, psB, xsB, irow]) | (with_reducible refine gOps_or (fun hq => ?_) (fun hq => ?_) <;> (try simp at hq) <;> simp -implicitDefEqProofs [*, h6, h8, h40, h41, h42, hlt, hlt', hget, hg, hn, hwr, viewBox, psB, xsB, irow]) | (with_reducible refine gOps_not (fun hq => ?_) (fun hq => ?_) <;> (try simp at hq) <;> simp -implicitDefEqProofs [*, h6, h8, h40, h41, h42, hlt, hlt', hget, hg, hn, hwr, viewBox, psB, xsB, irow]) | (with_reducible refine gOps_split (fun hq => ?_) (fun hq => ?_) <;> (try simp at hq) <;> simp -implicitDefEqProofs [*, h6, h8, h40, h41, h42, hlt, hlt', hget, hg, hn, hwr, viewBox, psB, xsB, irow]) | (with_reducible refine condC_dec (fun _ => ?_) (fun _ => ?_) <;> simp -implicitDefEqProofs [*, h6, h8, h40, h41, h42, hlt, hlt', hget, hg, hn, hwr, viewBox, psB, xsB, irow]) | (with_reducible refine condC_ndec (fun _ => ?_) (fun _ => ?_) <;> simp -implicitDefEqProofs [*, h6, h8, h40, h41, h42, hlt, hlt', hget, hg, hn, hwr, viewBox, psB, xsB, irow]) | (with_reducible refine condC_and (fun hq => ?_) (fun hq => ?_) <;> (try simp at hq) <;> simp -implicitDefEqProofs [*, h6, h8, h40, h41, h42, hlt, hlt', hget, hg, hn, hwr, viewBox, psB, xsB, irow]) | (with_reducible refine condC_or (fun hq => ?_) (fun hq => ?_) <;> (try simp at hq) <;> simp -implicitDefEqProofs [*, h6, h8, h40, h41, h42, hlt, hlt', hget, hg, hn, hwr, viewBox, psB, xsB, irow]) | (with_reducible refine condC_not (fun hq => ?_) (fun hq => ?_) <;> (try simp at hq) <;> simp -implicitDefEqProofs [*, h6, h8, h40, h41, h42, hlt, hlt', hget, hg, hn, hwr, viewBox, psB, xsB, irow]) | (with_reducible refine condC_split (fun hq => ?_) (fun hq => ?_) <;> (try simp at hq) <;> simp -implicitDefEqProofs [*, h6, h8, h40, h41, h42, hlt, hlt', hget, hg, hn, hwr, viewBox, psB, xsB, irow]) | (refine appK2_if (by omega) ?_; simp -implicitDefEqProofs [*, h6, h8, h40, h41, h42, hlt, hlt', hget, hg, hn, hwr, viewBox, psB, xsB, irow]) | (refine pureV_if (by omega) ?_; simp -implicitDefEqProofs [*, h6, h8, h40, h41, h42, hlt, hlt', hget, hg, hn, hwr, viewBox, psB, xsB, irow]))
          refine ⟨[], ⟨by simp, by simp, by simp⟩, ?_⟩
          unfold keepSt pickSt
          dsimp only
          exact ⟨⟨_, by simp [lentBs, hr5, viewBox, psB, xsB, irow]; repeat' (first | rfl | apply And.intro)⟩, by simp [h6, hr5], by simp [h8, hr5], by simp [h40], by simp [h41], by simp⟩
      | false =>
        rw [hAC] at hkn
        simp only [Bool.or_eq_false_iff] at hAC
        obtain ⟨rfl, rfl⟩ := hAC
        rw [if_neg (by simp [hroom hkn])] at v4
        clear hkn hroom
        simp only [viewBox, psB, xsB] at v4
        simp -implicitDefEqProofs [h6, h8, h40, h41, h42, hlt, hlt', hget, hg, hn, hwr, viewBox, psB, xsB, irow]
        repeat' (first | (refine callThen_of (by first | exact v1 | exact v2) ?_; simp -implicitDefEqProofs [*, h6, h8, h40, h41, h42, hlt, hlt', hget, hg, hn, hwr, viewBox, psB, xsB, irow]) | (with_reducible refine gOps_dec (fun _ => ?_) (fun _ => ?_) <;> simp -implicitDefEqProofs [*, h6, h8, h40, h41, h42, hlt, hlt', hget, hg, hn, hwr, viewBox, psB, xsB, irow]) | (with_reducible refine gOps_ndec (fun _ => ?_) (fun _ => ?_) <;> simp -implicitDefEqProofs [*, h6, h8, h40, h41, h42, hlt, hlt', hget, hg, hn, hwr, viewBox, psB, xsB, irow]) | (with_reducible refine gOps_and (fun hq => ?_) (fun hq => ?_) <;> (try simp at hq) <;> simp -implicitDefEqProofs [*, h6, h8, h40, h41, h42, hlt, hlt', hget, hg, hn, hwr, viewBox, psB, xsB, irow]) | (with_reducible refine gOps_or (fun hq => ?_) (fun hq => ?_) <;> (try simp at hq) <;> simp -implicitDefEqProofs [*, h6, h8, h40, h41, h42, hlt, hlt', hget, hg, hn, hwr, viewBox, psB, xsB, irow]) | (with_reducible refine gOps_not (fun hq => ?_) (fun hq => ?_) <;> (try simp at hq) <;> simp -implicitDefEqProofs [*, h6, h8, h40, h41, h42, hlt, hlt', hget, hg, hn, hwr, viewBox, psB, xsB, irow]) | (with_reducible refine gOps_split (fun hq => ?_) (fun hq => ?_) <;> (try simp at hq) <;> simp -implicitDefEqProofs [*, h6, h8, h40, h41, h42, hlt, hlt', hget, hg, hn, hwr, viewBox, psB, xsB, irow]) | (with_reducible refine condC_dec (fun _ => ?_) (fun _ => ?_) <;> simp -implicitDefEqProofs [*, h6, h8, h40, h41, h42, hlt, hlt', hget, hg, hn, hwr, viewBox, psB, xsB, irow]) | (with_reducible refine condC_ndec (fun _ => ?_) (fun _ => ?_) <;> simp -implicitDefEqProofs [*, h6, h8, h40, h41, h42, hlt, hlt', hget, hg, hn, hwr, viewBox, psB, xsB, irow]) | (with_reducible refine condC_and (fun hq => ?_) (fun hq => ?_) <;> (try simp at hq) <;> simp -implicitDefEqProofs [*, h6, h8, h40, h41, h42, hlt, hlt', hget, hg, hn, hwr, viewBox, psB, xsB, irow]) | (with_reducible refine condC_or (fun hq => ?_) (fun hq => ?_) <;> (try simp at hq) <;> simp -implicitDefEqProofs [*, h6, h8, h40, h41, h42, hlt, hlt', hget, hg, hn, hwr, viewBox, psB, xsB, irow]) | (with_reducible refine condC_not (fun hq => ?_) (fun hq => ?_) <;> (try simp at hq) <;> simp -implicitDefEqProofs [*, h6, h8, h40, h41, h42, hlt, hlt', hget, hg, hn, hwr, viewBox, psB, xsB, irow]) | (with_reducible refine condC_split (fun hq => ?_) (fun hq => ?_) <;> (try simp at hq) <;> simp -implicitDefEqProofs [*, h6, h8, h40, h41, h42, hlt, hlt', hget, hg, hn, hwr, viewBox, psB, xsB, irow]) | (refine appK2_if (by omega) ?_; simp -implicitDefEqProofs [*, h6, h8, h40, h41, h42, hlt, hlt', hget, hg, hn, hwr, viewBox, psB, xsB, irow]) | (refine pureV_if (by omega) ?_; simp -implicitDefEqProofs [*, h6, h8, h40, h41, h42, hlt, hlt', hget, hg, hn, hwr, viewBox, psB, xsB, irow]))
        refine lendThen_frame [4, 2, 3] rfl (by decide) (by simp) v4 (by simp) (by simp [lentBs]) ?_
        simp -implicitDefEqProofs [framed, h6, h8, h40, h41, h42, hlt, hlt', hget, hg, hn, hwr, viewBox, psB, xsB, irow]
        refine ⟨[], ⟨by simp, by simp, by simp⟩, ?_⟩
        unfold keepSt pickSt
        dsimp only
        exact ⟨⟨_, by simp [lentBs, hr5, viewBox, psB, xsB, irow]; repeat' (first | rfl | apply And.intro)⟩, by simp [h6, hr5], by simp [h8, hr5], by simp [h40], by simp [h41], by simp⟩
  · rintro ⟨fr, bs⟩ ⟨⟨d0, rfl⟩, h6, h8⟩
    simp -implicitDefEqProofs [h6, h8, viewBox, psB, xsB]
  · rintro ⟨fr, bs⟩ h
    exact h.elim
theorem hello_Take (v : View) (a : Int) (ids : List Int) (hs : v.small) (h : helloOk v a ids = true) : Den PP 17 [viewD v, .int .i64 a, intsD ids] [] (.tup [.agg [.int .i64 v.id, .ref 0 0 (helloV v a ids).peers.length, .ref 1 0 (helloV v a ids).passive.length], .int .i64 0]) [psB (helloV v a ids), xsB (helloV v a ids)] := by
  cases hr : roomV v a with
  | true => exact hello_Take_yes v a ids hs h hr
  | false => exact hello_Take_full v a ids hs h hr
end Go.AM
/- AM: contracts: the document's take; a node spoiled. -/
namespace Go.AM
set_option linter.unusedSimpArgs false
set_option linter.unusedVariables false
set_option maxRecDepth 8000
set_option maxHeartbeats 0
end Go.AM
/- AM: contracts: the document's greeting; chapter 10's statements: Hellos. -/
namespace Go.AM
set_option linter.unusedSimpArgs false
set_option linter.unusedVariables false
set_option maxRecDepth 8000
set_option maxHeartbeats 0
end Go.AM
/- AM: chapter 10's statements: Hellos. -/
namespace Go.AM
set_option linter.unusedSimpArgs false
set_option linter.unusedVariables false
set_option maxRecDepth 8000
set_option maxHeartbeats 0
def givenH : View := ⟨100, [⟨101, 2⟩, ⟨200, 0⟩, ⟨90, 1⟩], [7, 150]⟩
theorem small_givenH : givenH.small := by unfold View.small cap16 cap; decide
def zeroV : View := ⟨0, [], []⟩
theorem small_zeroV : zeroV.small := by unfold View.small cap16 cap zeroV; simp
theorem helloOk_sizes {v : View} {a : Int} {ids : List Int} (h : helloOk v a ids = true) : (helloV v a ids).small ∧ (helloV v a ids).peers.length ≤ 16 ∧ (helloV v a ids).passive.length ≤ 16 := by
  obtain ⟨h1, _⟩ := helloV_may h
  have := (viewMay_parts h1).2.2.1
  refine ⟨by unfold View.small cap16 cap; omega, by omega, by omega⟩
theorem law10_given : Den PP 26 [] [] (.agg [.int .i64 100, .ref 0 0 3, .ref 1 0 2]) [⟨givenH.peers.map Peer.row, 2, .mut⟩, ⟨givenH.passive.map irow, 1, .mut⟩] := by
  refine den_of [] [] is_gimmallaw10_given ?_
  simp -implicitDefEqProofs [c_gimmallaw10_given, givenH, Peer.row, irow]
theorem law10_awake : Den PP 23 [] [] (.bool true) [] := by
  have g0 := law10_given
  have g1 := hello_Take givenH 150 [7, 100, 102, 101] small_givenH (by decide +kernel)
  have g2 := hello_Take_no givenH 100 [] small_givenH (by unfold cap; simp) (by decide +kernel)
  have g3 := hello_Take_no givenH 150 [256] small_givenH (by unfold cap; simp) (by decide +kernel)
  have e1 : helloV givenH 150 [7, 100, 102, 101] = ⟨100, [⟨101, 2⟩, ⟨102, 0⟩, ⟨150, 0⟩, ⟨200, 0⟩, ⟨90, 1⟩], [7]⟩ := by decide +kernel
  rw [e1] at g1
  have g4 := law_SameView ⟨100, [⟨101, 2⟩, ⟨102, 0⟩, ⟨150, 0⟩, ⟨200, 0⟩, ⟨90, 1⟩], [7]⟩ ⟨100, [⟨101, 2⟩, ⟨102, 0⟩, ⟨150, 0⟩, ⟨200, 0⟩, ⟨90, 1⟩], [7]⟩ (by unfold View.small cap16 cap; decide)
  clear e1
  simp [givenH, viewD, View.cells, peersD, intsD, psB, xsB, Peer.row, irow] at g0 g1 g2 g3 g4
  refine den_of [] [] is_gimmallaw10_awake ?_
  simp -implicitDefEqProofs [c_gimmallaw10_awake]
  repeat' (first | (refine callThen_of (by first | exact g0 | exact g1 | exact den_nrm (g1) | exact den_nrm (by simpa using g1) | exact g2 | exact den_nrm (g2) | exact den_nrm (by simpa using g2) | exact g3 | exact den_nrm (g3) | exact den_nrm (by simpa using g3) | exact g4 | exact den_nrm (g4) | exact den_nrm (by simpa using g4) | exact law_Num _) ?_; simp -implicitDefEqProofs [*, downTo]) | (with_reducible refine gOps_dec (fun _ => ?_) (fun _ => ?_) <;> simp -implicitDefEqProofs [*, downTo]) | (with_reducible refine gOps_ndec (fun _ => ?_) (fun _ => ?_) <;> simp -implicitDefEqProofs [*, downTo]) | (with_reducible refine gOps_and (fun hq => ?_) (fun hq => ?_) <;> (try simp at hq) <;> simp -implicitDefEqProofs [*, downTo]) | (with_reducible refine gOps_or (fun hq => ?_) (fun hq => ?_) <;> (try simp at hq) <;> simp -implicitDefEqProofs [*, downTo]) | (with_reducible refine gOps_not (fun hq => ?_) (fun hq => ?_) <;> (try simp at hq) <;> simp -implicitDefEqProofs [*, downTo]) | (with_reducible refine gOps_split (fun hq => ?_) (fun hq => ?_) <;> (try simp at hq) <;> simp -implicitDefEqProofs [*, downTo]) | (with_reducible refine condC_dec (fun _ => ?_) (fun _ => ?_) <;> simp -implicitDefEqProofs [*, downTo]) | (with_reducible refine condC_ndec (fun _ => ?_) (fun _ => ?_) <;> simp -implicitDefEqProofs [*, downTo]) | (with_reducible refine condC_and (fun hq => ?_) (fun hq => ?_) <;> (try simp at hq) <;> simp -implicitDefEqProofs [*, downTo]) | (with_reducible refine condC_or (fun hq => ?_) (fun hq => ?_) <;> (try simp at hq) <;> simp -implicitDefEqProofs [*, downTo]) | (with_reducible refine condC_not (fun hq => ?_) (fun hq => ?_) <;> (try simp at hq) <;> simp -implicitDefEqProofs [*, downTo]) | (with_reducible refine condC_split (fun hq => ?_) (fun hq => ?_) <;> (try simp at hq) <;> simp -implicitDefEqProofs [*, downTo]) | (refine appK2_if (by omega) ?_; simp -implicitDefEqProofs [*, downTo]) | (refine pureV_if (by omega) ?_; simp -implicitDefEqProofs [*, downTo]))
end Go.AM
/- Plain law: greetings, told twice, told in another row. -/
namespace Go.AM
set_option linter.unusedSimpArgs false
set_option linter.unusedVariables false

theorem tells_noop {w : View} : ∀ {ids : List Int}, (∀ x ∈ ids, tellV w x = w) → ids.foldl tellV w = w := by
  intro ids
  induction ids with
  | nil => intro _; rfl
  | cons x ids ih => intro h; rw [List.foldl_cons, h x (by simp), ih (fun y hy => h y (by simp [hy]))]
theorem tellV_noop {w : View} {x : Int} (h : x = w.id ∨ knowsV w x = true ∨ 16 ≤ sizeV w) : tellV w x = w := by
  rcases h with h | h | h
  · unfold tellV; simp [h]
  · unfold tellV; simp [h]
  · unfold tellV
    split
    · rename_i hc
      simp only [Bool.and_eq_true, Bool.not_eq_true'] at hc
      apply knownV_no
      unfold roomV
      rw [hc.2]
      unfold sizeV at h
      simp
      omega
    · rfl
theorem tells_stay {w : View} (h : 16 ≤ sizeV w) (ids : List Int) : ids.foldl tellV w = w := tells_noop fun x _ => tellV_noop (.inr (.inr h))
theorem roomV_no_size {v : View} {a : Int} (h : roomV v a = false) : 16 ≤ sizeV v := by
  unfold roomV at h
  simp at h
  unfold sizeV
  exact h.2
structure Greeted (v : View) (a : Int) (ids : List Int) (w : View) : Prop where
  may : viewMay w = true
  id : w.id = v.id
  peers : ∀ q, q ∈ w.peers → q = ⟨a, 0⟩ ∨ (q ∈ v.peers ∧ q.id ≠ a) ∨ (q.missed = 0 ∧ q.id ∈ ids ∧ q.id ≠ v.id ∧ q.id ≠ a ∧ knowsV v q.id = false)
  kept : ∀ q, q ∈ v.peers → q.id ≠ a → q ∈ w.peers
  heard : ⟨a, 0⟩ ∈ w.peers
  passive : ∀ y, y ∈ w.passive ↔ y ∈ v.passive ∧ y ≠ a
  told : ∀ x ∈ ids, x = v.id ∨ knowsV w x = true ∨ 16 ≤ sizeV w
  size : sizeV w ≤ sizeV v + 1 + ids.length
theorem hello_greeted {v : View} {a : Int} {ids : List Int} (h : helloOk v a ids = true) (hr : roomV v a = true) : Greeted v a ids (helloV v a ids) := by
  obtain ⟨h1, h2, h3, h4, h5⟩ := helloOk_parts h
  obtain ⟨m1, m2⟩ := helloV_may h
  have hw := (knownV_may h1 h2 h3).1
  obtain ⟨a1, a2, a3, a4, a5, a6⟩ := tells_mem ids (knownV v a) hw h5
  have hk : knowsV (knownV v a) a = true := (knowsV_iff _ _).2 (.inl ⟨⟨a, 0⟩, (knownV_peers hr _).2 (.inl rfl), rfl⟩)
  have hid := knownV_id v a
  refine ⟨m1, m2, ?_, ?_, ?_, ?_, ?_, ?_⟩
  · intro q hq
    rcases a5 q hq with h | ⟨b1, b2, b3, b4⟩
    · rcases (knownV_peers hr q).1 h with h | h
      · exact .inl h
      · exact .inr (.inl h)
    · have hqa : q.id ≠ a := by intro e; rw [e, hk] at b4; cases b4
      refine .inr (.inr ⟨b1, b2, by rw [hid] at b3; exact b3, hqa, ?_⟩)
      cases hkv : knowsV v q.id with
      | false => rfl
      | true =>
        have : knowsV (knownV v a) q.id = true := by
          rw [knowsV_iff] at hkv ⊢
          rcases hkv with ⟨p, hp, he⟩ | hp
          · exact .inl ⟨p, (knownV_peers hr p).2 (.inr ⟨hp, by rw [he]; exact hqa⟩), he⟩
          · exact .inr ((knownV_passive hr _).2 ⟨hp, hqa⟩)
        rw [this] at b4; cases b4
  · intro q hq hn
    exact a1 q ((knownV_peers hr q).2 (.inr ⟨hq, hn⟩))
  · exact a1 _ ((knownV_peers hr _).2 (.inl rfl))
  · intro y
    show y ∈ (ids.foldl tellV (knownV v a)).passive ↔ _
    rw [a2, knownV_passive hr]
  · intro x hx
    have := a6 x hx
    rw [hid] at this
    exact this
  · have := knownV_size h1 hr
    show sizeV (ids.foldl tellV (knownV v a)) ≤ _
    split at this <;> omega
end Go.AM
/- AM: chapter 10's statements: HelloTwice, HelloRow. -/
namespace Go.AM
set_option linter.unusedSimpArgs false
set_option linter.unusedVariables false
set_option maxRecDepth 8000
set_option maxHeartbeats 0
end Go.AM
/- AM: chapter 10's statements: HelloForms. -/
namespace Go.AM
set_option linter.unusedSimpArgs false
set_option linter.unusedVariables false
set_option maxRecDepth 8000
set_option maxHeartbeats 0
@[simp] theorem nrmLL_repG (n : Nat) (r : List D) : nrmLL (List.replicate n r) = List.replicate n (nrmL r) := by
  induction n with
  | zero => rfl
  | succ n ih => simp [List.replicate_succ, nrmLL, ih]
end Go.AM
/- AM: chapter 10's statements: HelloFull. -/
namespace Go.AM
set_option linter.unusedSimpArgs false
set_option linter.unusedVariables false
set_option maxRecDepth 8000
set_option maxHeartbeats 0
end Go.AM
/- AM: chapter 10's statements: HelloKeeps. -/
namespace Go.AM
set_option linter.unusedSimpArgs false
set_option linter.unusedVariables false
set_option maxRecDepth 8000
set_option maxHeartbeats 0
theorem law10_in (xs : List Int) (x : Int) (hl : xs.length ≤ cap) : Den PP 25 [intsD xs, .int .i64 x] [] (.bool (xs.contains x)) [] := by
  refine den_of [] [] is_gimmallaw10_in ?_
  simp -implicitDefEqProofs [c_gimmallaw10_in, intsD]
  refine anyLoop_of (xs.length + 1) ?_
  have key : ∀ (Q : Ex → St → Prop) (r : Bool) (hQ1 : ∀ fr, r = false → Q .normal ⟨fr, []⟩) (hQ2 : ∀ fr bs, r = true → fr 4 = .bool true → Q .ret ⟨fr, bs⟩) (rest : List Int) (i : Nat) (fr : Nat → D), xs.drop i = rest → i ≤ xs.length →
      fr 0 = .sl (xs.map irow) xs.length → fr 1 = .int .i64 x → fr 5 = .int .i64 i → rest.contains x = r → sLoop (cf 0 [] []) 0 c_gimmallaw10_in_L0 (blockQ 0 Q) (rest.length + 1) ⟨fr, []⟩ := by
    intro Q r hQ1 hQ2 rest
    induction rest with
    | nil =>
      intro i fr e hi h0 h1 h5 hm
      refine sLoop_body c_gimmallaw10_in_L0.eq_1 ?_
      have hi' := drop_nil e hi
      simp -implicitDefEqProofs [h0, h1, h5, hi']
      exact hQ1 _ hm.symm
    | cons y rest ih =>
      intro i fr e hi h0 h1 h5 hm
      refine sLoop_body c_gimmallaw10_in_L0.eq_1 ?_
      obtain ⟨hlt, hget, hd, hlen⟩ := drop_cons e
      have hlt' : (i : Int) < xs.length := by omega
      have hw := wrap_next (n := i) (by unfold cap at hl; omega)
      simp -implicitDefEqProofs [h0, h1, h5, hlt', hget, irow]
      refine condC_split (fun h2 => ?_) (fun h2 => ?_)
      all_goals simp -implicitDefEqProofs [h2, h0, h1, h5, hw]
      · exact hQ2 _ _ (by rw [← hm]; simp at h2; simp [h2]) (by rfl)
      · exact ih (i + 1) _ hd (by omega) (by simp [h0, h1, h5]) (by simp [h0, h1, h5]) (by simp) (by rw [← hm]; simp at h2; simp [Ne.symm h2])
  refine key _ (xs.contains x) (fun fr h => ?_) (fun fr bs h h2 => ?_) xs 0 _ rfl (Nat.zero_le _) rfl rfl rfl rfl
  · simp -implicitDefEqProofs [h]
    simpa using h
  · simp -implicitDefEqProofs [h, h2]
    simpa using h
def namesV (v : View) : List Int := v.peers.map Peer.id ++ v.passive
theorem namesV_mem (v : View) (y : Int) : y ∈ namesV v ↔ knowsV v y = true := by
  rw [knowsV_iff]
  simp [namesV]
theorem namesV_rows (v : View) : v.peers.map (fun p => irow p.id) ++ v.passive.map irow = (namesV v).map irow := by
  simp [namesV]
theorem namesV_len (v : View) : (namesV v).length = v.peers.length + v.passive.length := by simp [namesV]
structure KeepOk (v : View) (a : Int) (ids : List Int) (w : View) : Prop where
  k1 : ∀ y ∈ namesV v, (namesV w).contains y = true
  k2 : ∀ y ∈ namesV w, (namesV v).contains y = true ∨ y = a ∨ ids.contains y = true
  k3 : ∀ q ∈ w.peers, q.id = a → q.missed = 0
  k4 : (∀ q ∈ w.peers, q.id ≠ a) → (namesV v).length = 16 ∧ (namesV v).contains a = false
  k5 : (namesV w).length ≤ 16
theorem hello_keep {v : View} {a : Int} {ids : List Int} (h : helloOk v a ids = true) : KeepOk v a ids (helloV v a ids) := by
  have hm := (helloV_may h).1
  have h16 : (namesV (helloV v a ids)).length ≤ 16 := by rw [namesV_len]; exact (viewMay_parts hm).2.2.1
  have hpm := (viewMay_parts hm).1
  cases hr : roomV v a with
  | true =>
    have g := hello_greeted h hr
    generalize helloV v a ids = w at *
    refine ⟨fun y hy => ?_, fun y hy => ?_, fun q hq he => ?_, fun hno => ?_, h16⟩
    · rw [List.contains_iff_mem, namesV_mem, knowsV_iff]
      rw [namesV_mem, knowsV_iff] at hy
      by_cases hya : y = a
      · exact .inl ⟨_, g.heard, hya.symm⟩
      · rcases hy with ⟨q, hq, he⟩ | hy
        · exact .inl ⟨q, g.kept q hq (by rw [he]; exact hya), he⟩
        · exact .inr ((g.passive y).2 ⟨hy, hya⟩)
    · rw [namesV_mem, knowsV_iff] at hy
      rcases hy with ⟨q, hq, he⟩ | hy
      · rcases g.peers q hq with rfl | ⟨h1, h2⟩ | ⟨h1, h2, h3, h4, h5⟩
        · exact .inr (.inl he.symm)
        · refine .inl ?_
          rw [List.contains_iff_mem, namesV_mem, knowsV_iff]
          exact .inl ⟨q, h1, he⟩
        · refine .inr (.inr ?_)
          rw [List.contains_iff_mem, ← he]
          exact h2
      · refine .inl ?_
        rw [List.contains_iff_mem, namesV_mem, knowsV_iff]
        exact .inr ((g.passive y).1 hy).1
    · have := peer_uniq hpm hq g.heard he
      rw [this]
    · exact absurd rfl (hno _ g.heard)
  | false =>
    have hs := roomV_no_size hr
    have e : helloV v a ids = v := by unfold helloV; rw [knownV_no hr, tells_stay hs]
    have hk : knowsV v a = false := by
      unfold roomV at hr
      simp only [Bool.or_eq_false_iff] at hr
      exact hr.1
    rw [e] at h16 ⊢
    have hno : ∀ q ∈ v.peers, q.id ≠ a := by
      intro q hq he
      have := (knowsV_iff v a).2 (.inl ⟨q, hq, he⟩)
      rw [hk] at this; cases this
    refine ⟨fun y hy => by rw [List.contains_iff_mem]; exact hy, fun y hy => .inl (by rw [List.contains_iff_mem]; exact hy), fun q hq he => absurd he (hno q hq), fun _ => ⟨?_, ?_⟩, h16⟩
    · rw [namesV_len] at h16 ⊢
      unfold sizeV at hs
      omega
    · rw [Bool.eq_false_iff, ne_eq, List.contains_iff_mem, namesV_mem, hk]
      simp
def KInv (v w : View) (a : Int) (st : St) : Prop := st.bs = [⟨[v.cells], 3, .box⟩, ⟨[w.cells], 3, .box⟩, ⟨(namesV v).map irow, 1, .mut⟩, ⟨(namesV w).map irow, 1, .mut⟩] ∧ st.fr 1 = .int .i64 a ∧ st.fr 7 = .ptr 1 0 0 ∧ st.fr 9 = .ref 2 0 (namesV v).length ∧ st.fr 10 = .ref 3 0 (namesV w).length
theorem law10_HelloKeeps (v : View) (a : Int) (ids : List Int) (hs : v.small) (hc : ids.length ≤ cap) : Den PP 4 [viewD v, .int .i64 a, intsD ids] [] (.bool true) [] := by
  cases h : helloOk v a ids with
  | false =>
    have c1 := hello_Take_no v a ids hs hc h
    have c3 := law_SameView zeroV zeroV small_zeroV
    simp only [zeroV, viewD, View.cells, peersD, intsD, List.map_nil, List.length_nil] at c1 c3 ⊢
    clear h
    refine den_of [31, 38] [] is_gimmallaw10_HelloKeeps ?_
    simp -implicitDefEqProofs [c_gimmallaw10_HelloKeeps]
    repeat' (first | (refine callThen_of (by first | exact law10_awake | exact c1 | exact c3 | exact den_nrm (c3) | exact den_nrm (by simpa using c3) | exact law_Num _) ?_; simp -implicitDefEqProofs [*, downTo]) | (with_reducible refine gOps_dec (fun _ => ?_) (fun _ => ?_) <;> simp -implicitDefEqProofs [*, downTo]) | (with_reducible refine gOps_ndec (fun _ => ?_) (fun _ => ?_) <;> simp -implicitDefEqProofs [*, downTo]) | (with_reducible refine gOps_and (fun hq => ?_) (fun hq => ?_) <;> (try simp at hq) <;> simp -implicitDefEqProofs [*, downTo]) | (with_reducible refine gOps_or (fun hq => ?_) (fun hq => ?_) <;> (try simp at hq) <;> simp -implicitDefEqProofs [*, downTo]) | (with_reducible refine gOps_not (fun hq => ?_) (fun hq => ?_) <;> (try simp at hq) <;> simp -implicitDefEqProofs [*, downTo]) | (with_reducible refine gOps_split (fun hq => ?_) (fun hq => ?_) <;> (try simp at hq) <;> simp -implicitDefEqProofs [*, downTo]) | (with_reducible refine condC_dec (fun _ => ?_) (fun _ => ?_) <;> simp -implicitDefEqProofs [*, downTo]) | (with_reducible refine condC_ndec (fun _ => ?_) (fun _ => ?_) <;> simp -implicitDefEqProofs [*, downTo]) | (with_reducible refine condC_and (fun hq => ?_) (fun hq => ?_) <;> (try simp at hq) <;> simp -implicitDefEqProofs [*, downTo]) | (with_reducible refine condC_or (fun hq => ?_) (fun hq => ?_) <;> (try simp at hq) <;> simp -implicitDefEqProofs [*, downTo]) | (with_reducible refine condC_not (fun hq => ?_) (fun hq => ?_) <;> (try simp at hq) <;> simp -implicitDefEqProofs [*, downTo]) | (with_reducible refine condC_split (fun hq => ?_) (fun hq => ?_) <;> (try simp at hq) <;> simp -implicitDefEqProofs [*, downTo]) | (refine appK2_if (by omega) ?_; simp -implicitDefEqProofs [*, downTo]) | (refine pureV_if (by omega) ?_; simp -implicitDefEqProofs [*, downTo]))
  | true =>
    have c1 := hello_Take v a ids hs h
    obtain ⟨z1, z2, z3⟩ := helloOk_sizes h
    have hid := (helloV_may h).2
    obtain ⟨k1, k2, k3, k4, k5⟩ := hello_keep h
    have hv16 := (viewMay_parts (helloOk_parts h).1).2.2.1
    have hvl : (namesV v).length ≤ 16 := by rw [namesV_len]; exact hv16
    generalize helloV v a ids = w at *
    have n1 := ref_Names v.peers (by unfold cap16; omega)
    have n2 := ref_Names w.peers (by unfold cap16; omega)
    have i1 := fun y => law10_in (namesV w) y (by unfold cap; omega)
    have i2 := fun y => law10_in (namesV v) y (by unfold cap; omega)
    have i3 := fun y => law10_in ids y hc
    have r1 := namesV_rows v
    have r2 := namesV_rows w
    have e1 := namesV_len v
    have e2 := namesV_len w
    have b1 : (v.peers.length + v.passive.length) * 8 ≤ 140737488355328 := by omega
    have b2 : (w.peers.length + w.passive.length) * 8 ≤ 140737488355328 := by omega
    simp only [psB, xsB, viewD, View.cells, peersD, intsD] at c1 n1 n2 i1 i2 i3 ⊢
    clear h z1 z2 z3
    refine den_of [31, 38] [] is_gimmallaw10_HelloKeeps ?_
    simp -implicitDefEqProofs [c_gimmallaw10_HelloKeeps]
    repeat' (first | (refine callThen_of (by first | exact law10_awake | exact c1 | exact n1 | exact n2 | exact law_Num _) ?_; simp -implicitDefEqProofs [*, downTo, r1, r2]) | (with_reducible refine gOps_dec (fun _ => ?_) (fun _ => ?_) <;> simp -implicitDefEqProofs [*, downTo, r1, r2]) | (with_reducible refine gOps_ndec (fun _ => ?_) (fun _ => ?_) <;> simp -implicitDefEqProofs [*, downTo, r1, r2]) | (with_reducible refine gOps_and (fun hq => ?_) (fun hq => ?_) <;> (try simp at hq) <;> simp -implicitDefEqProofs [*, downTo, r1, r2]) | (with_reducible refine gOps_or (fun hq => ?_) (fun hq => ?_) <;> (try simp at hq) <;> simp -implicitDefEqProofs [*, downTo, r1, r2]) | (with_reducible refine gOps_not (fun hq => ?_) (fun hq => ?_) <;> (try simp at hq) <;> simp -implicitDefEqProofs [*, downTo, r1, r2]) | (with_reducible refine gOps_split (fun hq => ?_) (fun hq => ?_) <;> (try simp at hq) <;> simp -implicitDefEqProofs [*, downTo, r1, r2]) | (with_reducible refine condC_dec (fun _ => ?_) (fun _ => ?_) <;> simp -implicitDefEqProofs [*, downTo, r1, r2]) | (with_reducible refine condC_ndec (fun _ => ?_) (fun _ => ?_) <;> simp -implicitDefEqProofs [*, downTo, r1, r2]) | (with_reducible refine condC_and (fun hq => ?_) (fun hq => ?_) <;> (try simp at hq) <;> simp -implicitDefEqProofs [*, downTo, r1, r2]) | (with_reducible refine condC_or (fun hq => ?_) (fun hq => ?_) <;> (try simp at hq) <;> simp -implicitDefEqProofs [*, downTo, r1, r2]) | (with_reducible refine condC_not (fun hq => ?_) (fun hq => ?_) <;> (try simp at hq) <;> simp -implicitDefEqProofs [*, downTo, r1, r2]) | (with_reducible refine condC_split (fun hq => ?_) (fun hq => ?_) <;> (try simp at hq) <;> simp -implicitDefEqProofs [*, downTo, r1, r2]) | (refine appK2_if (by omega) ?_; simp -implicitDefEqProofs [*, downTo, r1, r2]) | (refine pureV_if (by omega) ?_; simp -implicitDefEqProofs [*, downTo, r1, r2]))
    rw [← e1, ← e2]
    clear c1 n1 n2 b1 b2 e1 e2 r1 r2
    have hv1 : (namesV v).length < 9223372036854775807 := by omega
    refine list_rule (namesV v) (fun i rest => fun st => KInv v w a st ∧ st.fr 2 = .sl (ids.map irow) ids.length ∧ st.fr 11 = .int .i64 i) (fun st => KInv v w a st ∧ st.fr 2 = .sl (ids.map irow) ids.length) (fun _ => False) c_gimmallaw10_HelloKeeps_L0.eq_1 ?_ ?_ ?_ ?_ ?_
    · exact ⟨⟨by simp [View.cells, peersD, intsD, hid], by simp, by simp, by simp, by simp⟩, by simp, by simp⟩
    · rintro i ⟨fr, bs⟩ hi ⟨⟨hb, h1, h7, h9, h10⟩, h2, h11⟩
      simp only at hb h1 h2 h7 h9 h10 h11
      subst hb
      simp -implicitDefEqProofs [h1, h2, h7, h9, h10, h11, hi]
      exact ⟨rfl, by simp [h1], by simp [h7], by simp [h9], by simp [h10]⟩
    · rintro i y rest ⟨fr, bs⟩ hlt hget hg hd hd2 ⟨⟨hb, h1, h7, h9, h10⟩, h2, h11⟩
      simp only at hb h1 h2 h7 h9 h10 h11
      subst hb
      have hlt' : (i : Int) < (namesV v).length := by omega
      have hwr := wrap_next (n := i) (by omega)
      have c := i1 y
      rw [k1 y (List.mem_of_getElem? hget)] at c
      have hK : ∀ (fr' : Nat → D) (bs' : List Blk), bs' = [⟨[v.cells], 3, .box⟩, ⟨[w.cells], 3, .box⟩, ⟨(namesV v).map irow, 1, .mut⟩, ⟨(namesV w).map irow, 1, .mut⟩] → fr' 1 = .int .i64 a → fr' 7 = .ptr 1 0 0 → fr' 9 = .ref 2 0 (namesV v).length → fr' 10 = .ref 3 0 (namesV w).length → KInv v w a ⟨fr', bs'⟩ := fun _ _ e1 e2 e3 e4 e5 => ⟨e1, e2, e3, e4, e5⟩
      simp only [View.cells, peersD, intsD] at hK
      clear i1 i2 i3 k1 k2 k3 k4
      simp -implicitDefEqProofs [h1, h2, h7, h9, h10, h11, hlt, hlt', hget, hg, irow, View.cells, peersD, intsD]
      repeat' (first | (refine callThen_of (by first | exact c) ?_; simp -implicitDefEqProofs [*, h1, h2, h7, h9, h10, h11, hlt, hlt', hget, hg, hwr, irow, downTo, View.cells, peersD, intsD]) | (with_reducible refine gOps_dec (fun _ => ?_) (fun _ => ?_) <;> simp -implicitDefEqProofs [*, h1, h2, h7, h9, h10, h11, hlt, hlt', hget, hg, hwr, irow, downTo, View.cells, peersD, intsD]) | (with_reducible refine gOps_ndec (fun _ => ?_) (fun _ => ?_) <;> simp -implicitDefEqProofs [*, h1, h2, h7, h9, h10, h11, hlt, hlt', hget, hg, hwr, irow, downTo, View.cells, peersD, intsD]) | (with_reducible refine gOps_and (fun hq => ?_) (fun hq => ?_) <;> (try simp at hq) <;> simp -implicitDefEqProofs [*, h1, h2, h7, h9, h10, h11, hlt, hlt', hget, hg, hwr, irow, downTo, View.cells, peersD, intsD]) | (with_reducible refine gOps_or (fun hq => ?_) (fun hq => ?_) <;> (try simp at hq) <;> simp -implicitDefEqProofs [*, h1, h2, h7, h9, h10, h11, hlt, hlt', hget, hg, hwr, irow, downTo, View.cells, peersD, intsD]) | (with_reducible refine gOps_not (fun hq => ?_) (fun hq => ?_) <;> (try simp at hq) <;> simp -implicitDefEqProofs [*, h1, h2, h7, h9, h10, h11, hlt, hlt', hget, hg, hwr, irow, downTo, View.cells, peersD, intsD]) | (with_reducible refine gOps_split (fun hq => ?_) (fun hq => ?_) <;> (try simp at hq) <;> simp -implicitDefEqProofs [*, h1, h2, h7, h9, h10, h11, hlt, hlt', hget, hg, hwr, irow, downTo, View.cells, peersD, intsD]) | (with_reducible refine condC_dec (fun _ => ?_) (fun _ => ?_) <;> simp -implicitDefEqProofs [*, h1, h2, h7, h9, h10, h11, hlt, hlt', hget, hg, hwr, irow, downTo, View.cells, peersD, intsD]) | (with_reducible refine condC_ndec (fun _ => ?_) (fun _ => ?_) <;> simp -implicitDefEqProofs [*, h1, h2, h7, h9, h10, h11, hlt, hlt', hget, hg, hwr, irow, downTo, View.cells, peersD, intsD]) | (with_reducible refine condC_and (fun hq => ?_) (fun hq => ?_) <;> (try simp at hq) <;> simp -implicitDefEqProofs [*, h1, h2, h7, h9, h10, h11, hlt, hlt', hget, hg, hwr, irow, downTo, View.cells, peersD, intsD]) | (with_reducible refine condC_or (fun hq => ?_) (fun hq => ?_) <;> (try simp at hq) <;> simp -implicitDefEqProofs [*, h1, h2, h7, h9, h10, h11, hlt, hlt', hget, hg, hwr, irow, downTo, View.cells, peersD, intsD]) | (with_reducible refine condC_not (fun hq => ?_) (fun hq => ?_) <;> (try simp at hq) <;> simp -implicitDefEqProofs [*, h1, h2, h7, h9, h10, h11, hlt, hlt', hget, hg, hwr, irow, downTo, View.cells, peersD, intsD]) | (with_reducible refine condC_split (fun hq => ?_) (fun hq => ?_) <;> (try simp at hq) <;> simp -implicitDefEqProofs [*, h1, h2, h7, h9, h10, h11, hlt, hlt', hget, hg, hwr, irow, downTo, View.cells, peersD, intsD]) | (refine appK2_if (by omega) ?_; simp -implicitDefEqProofs [*, h1, h2, h7, h9, h10, h11, hlt, hlt', hget, hg, hwr, irow, downTo, View.cells, peersD, intsD]) | (refine pureV_if (by omega) ?_; simp -implicitDefEqProofs [*, h1, h2, h7, h9, h10, h11, hlt, hlt', hget, hg, hwr, irow, downTo, View.cells, peersD, intsD]))
    · rintro st ⟨hK, h2⟩
      obtain ⟨hb, h1, h7, h9, h10⟩ := hK
      obtain ⟨fr, bs⟩ := st
      simp only at hb h1 h2 h7 h9 h10
      subst hb
      simp -implicitDefEqProofs []
      refine list_rule (namesV w) (fun i rest => fun st => KInv v w a st ∧ st.fr 2 = .sl (ids.map irow) ids.length ∧ st.fr 12 = .int .i64 i) (fun st => KInv v w a st) (fun _ => False) c_gimmallaw10_HelloKeeps_L1.eq_1 ?_ ?_ ?_ ?_ ?_
      · exact ⟨⟨rfl, by simp [h1], by simp [h7], by simp [h9], by simp [h10]⟩, by simp [h2], by simp⟩
      · rintro i ⟨fr, bs⟩ hi ⟨⟨hb, h1, h7, h9, h10⟩, h2, h12⟩
        simp only at hb h1 h2 h7 h9 h10 h12
        subst hb
        simp -implicitDefEqProofs [h1, h2, h7, h9, h10, h12, hi]
        exact ⟨rfl, by simp [h1], by simp [h7], by simp [h9], by simp [h10]⟩
      · rintro i y rest ⟨fr, bs⟩ hlt hget hg hd hd2 ⟨⟨hb, h1, h7, h9, h10⟩, h2, h12⟩
        simp only at hb h1 h2 h7 h9 h10 h12
        subst hb
        have hlt' : (i : Int) < (namesV w).length := by omega
        have hwr := wrap_next (n := i) (by omega)
        have c2 := i2 y
        have c3 := i3 y
        have hor := k2 y (List.mem_of_getElem? hget)
        have hK : ∀ (fr' : Nat → D) (bs' : List Blk), bs' = [⟨[v.cells], 3, .box⟩, ⟨[w.cells], 3, .box⟩, ⟨(namesV v).map irow, 1, .mut⟩, ⟨(namesV w).map irow, 1, .mut⟩] → fr' 1 = .int .i64 a → fr' 7 = .ptr 1 0 0 → fr' 9 = .ref 2 0 (namesV v).length → fr' 10 = .ref 3 0 (namesV w).length → KInv v w a ⟨fr', bs'⟩ := fun _ _ e1 e2 e3 e4 e5 => ⟨e1, e2, e3, e4, e5⟩
        simp only [View.cells, peersD, intsD] at hK
        generalize (namesV v).contains y = A at *
        generalize ids.contains y = C at *
        clear i1 i2 i3 k1 k2 k3 k4
        by_cases hya : y = a
        · clear hor
          rw [hya] at c2 c3
          cases A
          all_goals
            simp -implicitDefEqProofs [h1, h2, h7, h9, h10, h12, hlt, hlt', hget, hg, hya, irow, View.cells, peersD, intsD]
            repeat' (first | (refine callThen_of (by first | exact c2 | exact c3) ?_; simp -implicitDefEqProofs [*, h1, h2, h7, h9, h10, h12, hlt, hlt', hget, hg, hya, hwr, irow, downTo, View.cells, peersD, intsD]) | (with_reducible refine gOps_dec (fun _ => ?_) (fun _ => ?_) <;> simp -implicitDefEqProofs [*, h1, h2, h7, h9, h10, h12, hlt, hlt', hget, hg, hya, hwr, irow, downTo, View.cells, peersD, intsD]) | (with_reducible refine gOps_ndec (fun _ => ?_) (fun _ => ?_) <;> simp -implicitDefEqProofs [*, h1, h2, h7, h9, h10, h12, hlt, hlt', hget, hg, hya, hwr, irow, downTo, View.cells, peersD, intsD]) | (with_reducible refine gOps_and (fun hq => ?_) (fun hq => ?_) <;> (try simp at hq) <;> simp -implicitDefEqProofs [*, h1, h2, h7, h9, h10, h12, hlt, hlt', hget, hg, hya, hwr, irow, downTo, View.cells, peersD, intsD]) | (with_reducible refine gOps_or (fun hq => ?_) (fun hq => ?_) <;> (try simp at hq) <;> simp -implicitDefEqProofs [*, h1, h2, h7, h9, h10, h12, hlt, hlt', hget, hg, hya, hwr, irow, downTo, View.cells, peersD, intsD]) | (with_reducible refine gOps_not (fun hq => ?_) (fun hq => ?_) <;> (try simp at hq) <;> simp -implicitDefEqProofs [*, h1, h2, h7, h9, h10, h12, hlt, hlt', hget, hg, hya, hwr, irow, downTo, View.cells, peersD, intsD]) | (with_reducible refine gOps_split (fun hq => ?_) (fun hq => ?_) <;> (try simp at hq) <;> simp -implicitDefEqProofs [*, h1, h2, h7, h9, h10, h12, hlt, hlt', hget, hg, hya, hwr, irow, downTo, View.cells, peersD, intsD]) | (with_reducible refine condC_dec (fun _ => ?_) (fun _ => ?_) <;> simp -implicitDefEqProofs [*, h1, h2, h7, h9, h10, h12, hlt, hlt', hget, hg, hya, hwr, irow, downTo, View.cells, peersD, intsD]) | (with_reducible refine condC_ndec (fun _ => ?_) (fun _ => ?_) <;> simp -implicitDefEqProofs [*, h1, h2, h7, h9, h10, h12, hlt, hlt', hget, hg, hya, hwr, irow, downTo, View.cells, peersD, intsD]) | (with_reducible refine condC_and (fun hq => ?_) (fun hq => ?_) <;> (try simp at hq) <;> simp -implicitDefEqProofs [*, h1, h2, h7, h9, h10, h12, hlt, hlt', hget, hg, hya, hwr, irow, downTo, View.cells, peersD, intsD]) | (with_reducible refine condC_or (fun hq => ?_) (fun hq => ?_) <;> (try simp at hq) <;> simp -implicitDefEqProofs [*, h1, h2, h7, h9, h10, h12, hlt, hlt', hget, hg, hya, hwr, irow, downTo, View.cells, peersD, intsD]) | (with_reducible refine condC_not (fun hq => ?_) (fun hq => ?_) <;> (try simp at hq) <;> simp -implicitDefEqProofs [*, h1, h2, h7, h9, h10, h12, hlt, hlt', hget, hg, hya, hwr, irow, downTo, View.cells, peersD, intsD]) | (with_reducible refine condC_split (fun hq => ?_) (fun hq => ?_) <;> (try simp at hq) <;> simp -implicitDefEqProofs [*, h1, h2, h7, h9, h10, h12, hlt, hlt', hget, hg, hya, hwr, irow, downTo, View.cells, peersD, intsD]) | (refine appK2_if (by omega) ?_; simp -implicitDefEqProofs [*, h1, h2, h7, h9, h10, h12, hlt, hlt', hget, hg, hya, hwr, irow, downTo, View.cells, peersD, intsD]) | (refine pureV_if (by omega) ?_; simp -implicitDefEqProofs [*, h1, h2, h7, h9, h10, h12, hlt, hlt', hget, hg, hya, hwr, irow, downTo, View.cells, peersD, intsD]))
        · cases A <;> cases C
          all_goals try (simp [hya] at hor; done)
          all_goals
            clear hor
            simp -implicitDefEqProofs [h1, h2, h7, h9, h10, h12, hlt, hlt', hget, hg, hya, irow, View.cells, peersD, intsD]
            repeat' (first | (refine callThen_of (by first | exact c2 | exact c3) ?_; simp -implicitDefEqProofs [*, h1, h2, h7, h9, h10, h12, hlt, hlt', hget, hg, hya, hwr, irow, downTo, View.cells, peersD, intsD]) | (with_reducible refine gOps_dec (fun _ => ?_) (fun _ => ?_) <;> simp -implicitDefEqProofs [*, h1, h2, h7, h9, h10, h12, hlt, hlt', hget, hg, hya, hwr, irow, downTo, View.cells, peersD, intsD]) | (with_reducible refine gOps_ndec (fun _ => ?_) (fun _ => ?_) <;> simp -implicitDefEqProofs [*, h1, h2, h7, h9, h10, h12, hlt, hlt', hget, hg, hya, hwr, irow, downTo, View.cells, peersD, intsD]) | (with_reducible refine gOps_and (fun hq => ?_) (fun hq => ?_) <;> (try simp at hq) <;> simp -implicitDefEqProofs [*, h1, h2, h7, h9, h10, h12, hlt, hlt', hget, hg, hya, hwr, irow, downTo, View.cells, peersD, intsD]) | (with_reducible refine gOps_or (fun hq => ?_) (fun hq => ?_) <;> (try simp at hq) <;> simp -implicitDefEqProofs [*, h1, h2, h7, h9, h10, h12, hlt, hlt', hget, hg, hya, hwr, irow, downTo, View.cells, peersD, intsD]) | (with_reducible refine gOps_not (fun hq => ?_) (fun hq => ?_) <;> (try simp at hq) <;> simp -implicitDefEqProofs [*, h1, h2, h7, h9, h10, h12, hlt, hlt', hget, hg, hya, hwr, irow, downTo, View.cells, peersD, intsD]) | (with_reducible refine gOps_split (fun hq => ?_) (fun hq => ?_) <;> (try simp at hq) <;> simp -implicitDefEqProofs [*, h1, h2, h7, h9, h10, h12, hlt, hlt', hget, hg, hya, hwr, irow, downTo, View.cells, peersD, intsD]) | (with_reducible refine condC_dec (fun _ => ?_) (fun _ => ?_) <;> simp -implicitDefEqProofs [*, h1, h2, h7, h9, h10, h12, hlt, hlt', hget, hg, hya, hwr, irow, downTo, View.cells, peersD, intsD]) | (with_reducible refine condC_ndec (fun _ => ?_) (fun _ => ?_) <;> simp -implicitDefEqProofs [*, h1, h2, h7, h9, h10, h12, hlt, hlt', hget, hg, hya, hwr, irow, downTo, View.cells, peersD, intsD]) | (with_reducible refine condC_and (fun hq => ?_) (fun hq => ?_) <;> (try simp at hq) <;> simp -implicitDefEqProofs [*, h1, h2, h7, h9, h10, h12, hlt, hlt', hget, hg, hya, hwr, irow, downTo, View.cells, peersD, intsD]) | (with_reducible refine condC_or (fun hq => ?_) (fun hq => ?_) <;> (try simp at hq) <;> simp -implicitDefEqProofs [*, h1, h2, h7, h9, h10, h12, hlt, hlt', hget, hg, hya, hwr, irow, downTo, View.cells, peersD, intsD]) | (with_reducible refine condC_not (fun hq => ?_) (fun hq => ?_) <;> (try simp at hq) <;> simp -implicitDefEqProofs [*, h1, h2, h7, h9, h10, h12, hlt, hlt', hget, hg, hya, hwr, irow, downTo, View.cells, peersD, intsD]) | (with_reducible refine condC_split (fun hq => ?_) (fun hq => ?_) <;> (try simp at hq) <;> simp -implicitDefEqProofs [*, h1, h2, h7, h9, h10, h12, hlt, hlt', hget, hg, hya, hwr, irow, downTo, View.cells, peersD, intsD]) | (refine appK2_if (by omega) ?_; simp -implicitDefEqProofs [*, h1, h2, h7, h9, h10, h12, hlt, hlt', hget, hg, hya, hwr, irow, downTo, View.cells, peersD, intsD]) | (refine pureV_if (by omega) ?_; simp -implicitDefEqProofs [*, h1, h2, h7, h9, h10, h12, hlt, hlt', hget, hg, hya, hwr, irow, downTo, View.cells, peersD, intsD]))
      · rintro st hK
        obtain ⟨hb, h1, h7, h9, h10⟩ := hK
        obtain ⟨fr, bs⟩ := st
        simp only at hb h1 h7 h9 h10
        subst hb
        simp -implicitDefEqProofs []
        have hwl : w.peers.length ≤ 16 := by rw [namesV_len] at k5; omega
        refine list_rule w.peers (fun i rest => fun st => KInv v w a st ∧ (∀ q ∈ w.peers.take i, q.id ≠ a) ∧ st.fr 13 = .int .i64 i) (fun st => KInv v w a st ∧ ∀ q ∈ w.peers, q.id ≠ a) (fun st => st.fr 6 = .bool true) c_gimmallaw10_HelloKeeps_L2.eq_1 ?_ ?_ ?_ ?_ ?_
        · exact ⟨⟨rfl, by simp [h1], by simp [h7], by simp [h9], by simp [h10]⟩, by simp, by simp⟩
        · rintro i ⟨fr, bs⟩ hi ⟨⟨hb, h1, h7, h9, h10⟩, hno, h13⟩
          simp only at hb h1 h7 h9 h10 h13
          subst hb
          rw [hi, List.take_length] at hno
          simp -implicitDefEqProofs [h1, h7, h9, h10, h13, hi, View.cells, peersD, intsD]
          exact ⟨⟨rfl, by simp [h1], by simp [h7], by simp [h9], by simp [h10]⟩, hno⟩
        · rintro i q rest ⟨fr, bs⟩ hlt hget hg hd hd2 ⟨⟨hb, h1, h7, h9, h10⟩, hno, h13⟩
          simp only at hb h1 h7 h9 h10 h13
          subst hb
          have hlt' : (i : Int) < w.peers.length := by omega
          have hwr := wrap_next (n := i) (by omega)
          have hnx : q.id ≠ a → ∀ p ∈ w.peers.take (i + 1), p.id ≠ a := by
            intro hp p hpm
            rw [List.take_add_one, hget] at hpm
            simp at hpm
            rcases hpm with hpm | rfl
            · exact hno p hpm
            · exact hp
          have hz := k3 q (List.mem_of_getElem? hget)
          have h16 : ((namesV w).length : Int) ≤ 16 := by omega
          clear i1 i2 i3 k1 k2 k3 k4 hno
          by_cases hqa : q.id = a
          · have hz' := hz hqa
            clear hz hnx
            simp -implicitDefEqProofs [h1, h7, h9, h10, h13, hlt, hlt', hget, hg, hwr, hqa, hz', h16, Peer.row, View.cells, peersD, intsD]
          · clear hz
            simp -implicitDefEqProofs [h1, h7, h9, h10, h13, hlt, hlt', hget, hg, hwr, hqa, Peer.row, View.cells, peersD, intsD]
            first
            | exact hnx hqa
            | exact ⟨⟨by simp [View.cells, peersD, intsD, Peer.row], by simp [h1], by simp [h7], by simp [h9], by simp [h10]⟩, hnx hqa⟩
            | (refine ⟨⟨by simp [View.cells, peersD, intsD, Peer.row], by simp [h1], by simp [h7], by simp [h9], by simp [h10]⟩, ?_⟩; exact hnx hqa)
            | (trace_state; sorry)
        · rintro st ⟨hK, hno⟩
          obtain ⟨hb, h1, h7, h9, h10⟩ := hK
          obtain ⟨fr, bs⟩ := st
          simp only at hb h1 h7 h9 h10
          subst hb
          obtain ⟨x1, x2⟩ := k4 hno
          have c := i2 a
          rw [x2] at c
          rw [x1] at c h9
          clear i1 i2 i3 k1 k2 k3 k4 hno x2
          simp -implicitDefEqProofs [h1, h7, h9, h10, x1]
          repeat' (first | (refine callThen_of (by first | exact c) ?_; simp -implicitDefEqProofs [*, h1, h7, h9, h10, x1]) | (with_reducible refine gOps_dec (fun _ => ?_) (fun _ => ?_) <;> simp -implicitDefEqProofs [*, h1, h7, h9, h10, x1]) | (with_reducible refine gOps_ndec (fun _ => ?_) (fun _ => ?_) <;> simp -implicitDefEqProofs [*, h1, h7, h9, h10, x1]) | (with_reducible refine gOps_and (fun hq => ?_) (fun hq => ?_) <;> (try simp at hq) <;> simp -implicitDefEqProofs [*, h1, h7, h9, h10, x1]) | (with_reducible refine gOps_or (fun hq => ?_) (fun hq => ?_) <;> (try simp at hq) <;> simp -implicitDefEqProofs [*, h1, h7, h9, h10, x1]) | (with_reducible refine gOps_not (fun hq => ?_) (fun hq => ?_) <;> (try simp at hq) <;> simp -implicitDefEqProofs [*, h1, h7, h9, h10, x1]) | (with_reducible refine gOps_split (fun hq => ?_) (fun hq => ?_) <;> (try simp at hq) <;> simp -implicitDefEqProofs [*, h1, h7, h9, h10, x1]) | (with_reducible refine condC_dec (fun _ => ?_) (fun _ => ?_) <;> simp -implicitDefEqProofs [*, h1, h7, h9, h10, x1]) | (with_reducible refine condC_ndec (fun _ => ?_) (fun _ => ?_) <;> simp -implicitDefEqProofs [*, h1, h7, h9, h10, x1]) | (with_reducible refine condC_and (fun hq => ?_) (fun hq => ?_) <;> (try simp at hq) <;> simp -implicitDefEqProofs [*, h1, h7, h9, h10, x1]) | (with_reducible refine condC_or (fun hq => ?_) (fun hq => ?_) <;> (try simp at hq) <;> simp -implicitDefEqProofs [*, h1, h7, h9, h10, x1]) | (with_reducible refine condC_not (fun hq => ?_) (fun hq => ?_) <;> (try simp at hq) <;> simp -implicitDefEqProofs [*, h1, h7, h9, h10, x1]) | (with_reducible refine condC_split (fun hq => ?_) (fun hq => ?_) <;> (try simp at hq) <;> simp -implicitDefEqProofs [*, h1, h7, h9, h10, x1]) | (refine appK2_if (by omega) ?_; simp -implicitDefEqProofs [*, h1, h7, h9, h10, x1]) | (refine pureV_if (by omega) ?_; simp -implicitDefEqProofs [*, h1, h7, h9, h10, x1]))
        · rintro ⟨fr, bs⟩ h
          simp only at h
          simp -implicitDefEqProofs [h]
      · rintro st h
        exact h.elim
    · rintro st h
      exact h.elim
end Go.AM
