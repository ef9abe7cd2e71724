/- What the proof of this claim stands on, part 13. -/
import Derived.Test.YtehagcggdepajaaGreatAmZ12
/- AM: contracts: a greeting is taken. -/
namespace Go.AM
set_option linter.unusedSimpArgs false
set_option linter.unusedVariables false
set_option maxRecDepth 8000
set_option maxHeartbeats 0
theorem tellV_full {v : View} (h : 16 ≤ sizeV v) (x : Int) : tellV v x = v := by
  unfold tellV
  split
  · rename_i hc
    simp only [Bool.and_eq_true, Bool.not_eq_true'] at hc
    apply knownV_no
    unfold roomV
    rw [hc.2]
    unfold sizeV at h
    simp
    omega
  · rfl
theorem tells_full {v : View} (h : 16 ≤ sizeV v) : ∀ ids : List Int, ids.foldl tellV v = v := by
  intro ids
  induction ids with
  | nil => rfl
  | cons x ids ih => rw [List.foldl_cons, tellV_full h, ih]
theorem take_next {ids : List Int} {i : Nat} {x : Int} (h : ids[i]? = some x) (w0 : View) : (ids.take (i + 1)).foldl tellV w0 = tellV ((ids.take i).foldl tellV w0) x := by
  rw [List.take_add_one, h]
  simp
def B_Take (w : View) (bs : List Blk) : Prop := (∃ d0 d2 d3, bs = [d0, ⟨[[.int .i64 0, .nil, .nil]], 3, .box⟩, d2, d3, viewBox w 5 6, psB w, xsB w]) ∨ ∃ d0 d2 d3 d5 d6, bs = [d0, ⟨[[.int .i64 0, .nil, .nil]], 3, .box⟩, d2, d3, viewBox w 7 8, d5, d6, psB w, xsB w]
theorem hello_Take_yes (v : View) (a : Int) (ids : List Int) (hs : v.small) (h : helloOk v a ids = true) (hr : roomV v a = true) : Den PP 41 [viewD v, .int .i64 a, intsD ids] [] (.tup [.agg [.int .i64 v.id, .ref 0 0 (helloV v a ids).peers.length, .ref 1 0 (helloV v a ids).passive.length], .int .i64 0]) [psB (helloV v a ids), xsB (helloV v a ids)] := by
  obtain ⟨k1, k2, k3, k4, k5⟩ := helloOk_parts h
  have hcap : ids.length ≤ cap := by unfold cap; omega
  have c1 := view_May v hs
  have c2 := ring_Place a
  have c3 := ring_Places ids hcap
  have c4 := view_Copy v hs
  rw [k1] at c1
  rw [k2] at c2
  rw [show ids.all place = true from List.all_eq_true.2 k5] at c3
  have c5 := hello_heard v a k1 k2 k3
  rw [if_pos hr] at c5
  have hw0 := (knownV_may k1 k2 k3).1
  have hid0 := knownV_id v a
  have hk4 : ¬ (16 : Int) < ids.length := by omega
  unfold helloV
  generalize knownV v a = w0 at *
  have key : ∀ i, viewMay ((ids.take i).foldl tellV w0) = true ∧ ((ids.take i).foldl tellV w0).id = v.id := by
    intro i
    obtain ⟨e1, e2⟩ := tells_may (ids.take i) w0 hw0 (fun x hx => k5 x (List.mem_of_mem_take hx))
    exact ⟨e1, by rw [e2, hid0]⟩
  simp only [viewD, View.cells, peersD, intsD, viewBox, psB, xsB] at c1 c3 c4 c5 ⊢
  clear k1 k2 hs h hr
  refine den_of [37] [38, 60] is_hello_Take ?_
  simp -implicitDefEqProofs [c_hello_Take, hk4, k3]
  repeat' ((first | refine callThen_of (by first | exact c1 | exact c2 | exact c3 | exact c4) ?_ | with_reducible refine gOps_dec (fun _ => ?_) (fun _ => ?_) | with_reducible refine gOps_ndec (fun _ => ?_) (fun _ => ?_) | (with_reducible refine gOps_and (fun hq => ?_) (fun hq => ?_) <;> (try simp at hq)) | (with_reducible refine gOps_or (fun hq => ?_) (fun hq => ?_) <;> (try simp at hq)) | (with_reducible refine gOps_not (fun hq => ?_) (fun hq => ?_) <;> (try simp at hq)) | (with_reducible refine gOps_split (fun hq => ?_) (fun hq => ?_) <;> (try simp at hq)) | with_reducible refine condC_dec (fun _ => ?_) (fun _ => ?_) | with_reducible refine condC_ndec (fun _ => ?_) (fun _ => ?_) | (with_reducible refine condC_and (fun hq => ?_) (fun hq => ?_) <;> (try simp at hq)) | (with_reducible refine condC_or (fun hq => ?_) (fun hq => ?_) <;> (try simp at hq)) | (with_reducible refine condC_not (fun hq => ?_) (fun hq => ?_) <;> (try simp at hq)) | (with_reducible refine condC_split (fun hq => ?_) (fun hq => ?_) <;> (try simp at hq)) | refine appK2_if (by omega) ?_ | refine pureV_if (by omega) ?_) <;> simp -implicitDefEqProofs [*, downTo, hk4, k3])
  refine lendThen_frame [4, 2, 3] rfl (by decide) (by simp) c5 (by simp) (by simp [lentBs]) ?_
  simp -implicitDefEqProofs [framed]
  refine list_keep ids (fun i rest => fun ⟨fr, bs⟩ => B_Take ((ids.take i).foldl tellV w0) bs ∧ fr 6 = .ptr 1 0 0 ∧ fr 8 = .ptr 4 0 0 ∧ fr 40 = .sl (ids.map irow) ids.length ∧ fr 41 = .int .i64 ids.length ∧ fr 42 = .int .i64 i)
    (fun ⟨fr, bs⟩ => B_Take (ids.foldl tellV w0) bs ∧ fr 6 = .ptr 1 0 0 ∧ fr 8 = .ptr 4 0 0) (fun _ => False) c_hello_Take_L0.eq_1 ?_ ?_ ?_ ?_ ?_
  · exact ⟨.inl ⟨_, _, _, by simp [viewBox, psB, xsB]; exact ⟨rfl, rfl, rfl⟩⟩, by simp, by simp, by simp, by simp, by simp⟩
  · rintro i ⟨fr, bs⟩ hi ⟨hB, h6, h8, h40, h41, h42⟩
    rw [hi, List.take_length] at hB
    simp -implicitDefEqProofs [h6, h8, h40, h41, h42, hi]
    exact hB
  · rintro i x rest ⟨fr, bs⟩ hlt hget hg hd hd2 ⟨hB, h6, h8, h40, h41, h42⟩
    obtain ⟨w, hw⟩ : ∃ w, w = (ids.take i).foldl tellV w0 := ⟨_, rfl⟩
    rw [← hw] at hB
    have hlt' : (i : Int) < ids.length := by omega
    have hwr := wrap_next (n := i) (by omega)
    have hx := k5 x (List.mem_of_getElem? hget)
    have hkey := key i
    rw [← hw] at hkey
    obtain ⟨hm, hid⟩ := hkey
    have hnext := take_next hget w0
    rw [← hw] at hnext
    obtain ⟨p1, p2, p3, p4⟩ := viewMay_parts hm
    have v1 := view_Peer w x (by unfold cap; omega) (peersMay_rowed p1)
    rw [peerIs_mem p1 hx] at v1
    have v2 := view_Passive w x (by unfold cap; omega)
    have v3 : x ≠ w.id → _ := fun hn => hello_heard w x hm hx hn
    clear c1 c2 c3 c4 c5 key hw p1 p2 p3 p4
    obtain ⟨A, hA⟩ : ∃ A, (w.peers.map Peer.id).contains x = A := ⟨_, rfl⟩
    obtain ⟨C, hC⟩ : ∃ C, w.passive.contains x = C := ⟨_, rfl⟩
    have hkn : knowsV w x = (A || C) := by rw [← hA, ← hC]; rfl
    rw [hA] at v1
    rw [hC] at v2
    clear hA hC
    simp only [View.cells, peersD, intsD] at v1 v2
    have hr7 : List.range 7 = [0, 1, 2, 3, 4, 5, 6] := rfl
    clear hid hm
    by_cases hn : x = w.id
    · have ht : tellV w x = w := by unfold tellV; simp [hn]
      rw [ht] at hnext
      rcases hB with ⟨d0, d2, d3, rfl⟩ | ⟨d0, d2, d3, d5, d6, rfl⟩
      · simp -implicitDefEqProofs [h6, h8, h40, h41, h42, hlt, hlt', hget, hg, hn, hwr, viewBox, psB, xsB, irow]
        refine ⟨[], ⟨by simp, by simp, by simp⟩, ?_⟩
        unfold keepSt pickSt
        dsimp only
        try rw [hnext]
        exact ⟨.inl ⟨_, _, _, by simp [lentBs, hr7, viewBox, psB, xsB, irow]; repeat' (first | rfl | apply And.intro)⟩, by simp [h6, hr7], by simp [h8, hr7], by simp [h40], by simp [h41], by simp⟩
      · simp -implicitDefEqProofs [h6, h8, h40, h41, h42, hlt, hlt', hget, hg, hn, hwr, viewBox, psB, xsB, irow]
        refine ⟨[7, 8], ⟨by simp, by simp, by simp⟩, ?_⟩
        unfold keepSt pickSt
        dsimp only
        try rw [hnext]
        exact ⟨.inr ⟨_, _, _, _, _, by simp [lentBs, hr7, viewBox, psB, xsB, irow]; repeat' (first | rfl | apply And.intro)⟩, by simp [h6, hr7], by simp [h8, hr7], by simp [h40], by simp [h41], by simp⟩
    · have v4 := v3 hn
      clear v3
      cases hAC : (A || C) with
      | true =>
        have ht : tellV w x = w := by unfold tellV; simp [hkn, hAC]
        rw [ht] at hnext
        clear v4 hkn ht
        rcases hB with ⟨d0, d2, d3, rfl⟩ | ⟨d0, d2, d3, d5, d6, rfl⟩
        · cases A <;> cases C
          all_goals try (simp at hAC; done)
          all_goals
            clear hAC
            simp -implicitDefEqProofs [h6, h8, h40, h41, h42, hlt, hlt', hget, hg, hn, hwr, viewBox, psB, xsB, irow]
            repeat' ((first | refine callThen_of (by first | exact v1 | exact v2) ?_ | with_reducible refine gOps_dec (fun _ => ?_) (fun _ => ?_) | with_reducible refine gOps_ndec (fun _ => ?_) (fun _ => ?_) | (with_reducible refine gOps_and (fun hq => ?_) (fun hq => ?_) <;> (try simp at hq)) | (with_reducible refine gOps_or (fun hq => ?_) (fun hq => ?_) <;> (try simp at hq)) | (with_reducible refine gOps_not (fun hq => ?_) (fun hq => ?_) <;> (try simp at hq)) | (with_reducible refine gOps_split (fun hq => ?_) (fun hq => ?_) <;> (try simp at hq)) | with_reducible refine condC_dec (fun _ => ?_) (fun _ => ?_) | with_reducible refine condC_ndec (fun _ => ?_) (fun _ => ?_) | (with_reducible refine condC_and (fun hq => ?_) (fun hq => ?_) <;> (try simp at hq)) | (with_reducible refine condC_or (fun hq => ?_) (fun hq => ?_) <;> (try simp at hq)) | (with_reducible refine condC_not (fun hq => ?_) (fun hq => ?_) <;> (try simp at hq)) | (with_reducible refine condC_split (fun hq => ?_) (fun hq => ?_) <;> (try simp at hq)) | refine appK2_if (by omega) ?_ | refine pureV_if (by omega) ?_) <;> simp -implicitDefEqProofs [*, h6, h8, h40, h41, h42, hlt, hlt', hget, hg, hn, hwr, viewBox, psB, xsB, irow])
            refine ⟨[], ⟨by simp, by simp, by simp⟩, ?_⟩
            unfold keepSt pickSt
            dsimp only
            try rw [hnext]
            exact ⟨.inl ⟨_, _, _, by simp [lentBs, hr7, viewBox, psB, xsB, irow]; repeat' (first | rfl | apply And.intro)⟩, by simp [h6, hr7], by simp [h8, hr7], by simp [h40], by simp [h41], by simp⟩
        · cases A <;> cases C
          all_goals try (simp at hAC; done)
          all_goals
            clear hAC
            simp -implicitDefEqProofs [h6, h8, h40, h41, h42, hlt, hlt', hget, hg, hn, hwr, viewBox, psB, xsB, irow]
            repeat' ((first | refine callThen_of (by first | exact v1 | exact v2) ?_ | with_reducible refine gOps_dec (fun _ => ?_) (fun _ => ?_) | with_reducible refine gOps_ndec (fun _ => ?_) (fun _ => ?_) | (with_reducible refine gOps_and (fun hq => ?_) (fun hq => ?_) <;> (try simp at hq)) | (with_reducible refine gOps_or (fun hq => ?_) (fun hq => ?_) <;> (try simp at hq)) | (with_reducible refine gOps_not (fun hq => ?_) (fun hq => ?_) <;> (try simp at hq)) | (with_reducible refine gOps_split (fun hq => ?_) (fun hq => ?_) <;> (try simp at hq)) | with_reducible refine condC_dec (fun _ => ?_) (fun _ => ?_) | with_reducible refine condC_ndec (fun _ => ?_) (fun _ => ?_) | (with_reducible refine condC_and (fun hq => ?_) (fun hq => ?_) <;> (try simp at hq)) | (with_reducible refine condC_or (fun hq => ?_) (fun hq => ?_) <;> (try simp at hq)) | (with_reducible refine condC_not (fun hq => ?_) (fun hq => ?_) <;> (try simp at hq)) | (with_reducible refine condC_split (fun hq => ?_) (fun hq => ?_) <;> (try simp at hq)) | refine appK2_if (by omega) ?_ | refine pureV_if (by omega) ?_) <;> simp -implicitDefEqProofs [*, h6, h8, h40, h41, h42, hlt, hlt', hget, hg, hn, hwr, viewBox, psB, xsB, irow])
            refine ⟨[7, 8], ⟨by simp, by simp, by simp⟩, ?_⟩
            unfold keepSt pickSt
            dsimp only
            try rw [hnext]
            exact ⟨.inr ⟨_, _, _, _, _, by simp [lentBs, hr7, viewBox, psB, xsB, irow]; repeat' (first | rfl | apply And.intro)⟩, by simp [h6, hr7], by simp [h8, hr7], by simp [h40], by simp [h41], by simp⟩
      | false =>
        simp only [Bool.or_eq_false_iff] at hAC
        obtain ⟨rfl, rfl⟩ := hAC
        have ht : tellV w x = knownV w x := by unfold tellV; simp [hkn, hn]
        rw [ht] at hnext
        clear ht hkn
        cases hr : roomV w x with
        | false =>
          rw [knownV_no hr] at hnext
          rw [if_neg (by simp [hr])] at v4
          clear hr
          simp only [viewBox, psB, xsB] at v4
          rcases hB with ⟨d0, d2, d3, rfl⟩ | ⟨d0, d2, d3, d5, d6, rfl⟩
          · simp -implicitDefEqProofs [h6, h8, h40, h41, h42, hlt, hlt', hget, hg, hn, hwr, viewBox, psB, xsB, irow]
            repeat' ((first | refine callThen_of (by first | exact v1 | exact v2) ?_ | with_reducible refine gOps_dec (fun _ => ?_) (fun _ => ?_) | with_reducible refine gOps_ndec (fun _ => ?_) (fun _ => ?_) | (with_reducible refine gOps_and (fun hq => ?_) (fun hq => ?_) <;> (try simp at hq)) | (with_reducible refine gOps_or (fun hq => ?_) (fun hq => ?_) <;> (try simp at hq)) | (with_reducible refine gOps_not (fun hq => ?_) (fun hq => ?_) <;> (try simp at hq)) | (with_reducible refine gOps_split (fun hq => ?_) (fun hq => ?_) <;> (try simp at hq)) | with_reducible refine condC_dec (fun _ => ?_) (fun _ => ?_) | with_reducible refine condC_ndec (fun _ => ?_) (fun _ => ?_) | (with_reducible refine condC_and (fun hq => ?_) (fun hq => ?_) <;> (try simp at hq)) | (with_reducible refine condC_or (fun hq => ?_) (fun hq => ?_) <;> (try simp at hq)) | (with_reducible refine condC_not (fun hq => ?_) (fun hq => ?_) <;> (try simp at hq)) | (with_reducible refine condC_split (fun hq => ?_) (fun hq => ?_) <;> (try simp at hq)) | refine appK2_if (by omega) ?_ | refine pureV_if (by omega) ?_) <;> simp -implicitDefEqProofs [*, h6, h8, h40, h41, h42, hlt, hlt', hget, hg, hn, hwr, viewBox, psB, xsB, irow])
            refine lendThen_frame [4, 5, 6] rfl (by decide) (by simp) v4 (by simp) (by simp [lentBs]) ?_
            simp -implicitDefEqProofs [framed, h6, h8, h40, h41, h42, hlt, hlt', hget, hg, hn, hwr, viewBox, psB, xsB, irow]
            refine ⟨[], ⟨by simp, by simp, by simp⟩, ?_⟩
            unfold keepSt pickSt
            dsimp only
            try rw [hnext]
            exact ⟨.inl ⟨_, _, _, by simp [lentBs, hr7, viewBox, psB, xsB, irow]; repeat' (first | rfl | apply And.intro)⟩, by simp [h6, hr7], by simp [h8, hr7], by simp [h40], by simp [h41], by simp⟩
          · simp -implicitDefEqProofs [h6, h8, h40, h41, h42, hlt, hlt', hget, hg, hn, hwr, viewBox, psB, xsB, irow]
            repeat' ((first | refine callThen_of (by first | exact v1 | exact v2) ?_ | with_reducible refine gOps_dec (fun _ => ?_) (fun _ => ?_) | with_reducible refine gOps_ndec (fun _ => ?_) (fun _ => ?_) | (with_reducible refine gOps_and (fun hq => ?_) (fun hq => ?_) <;> (try simp at hq)) | (with_reducible refine gOps_or (fun hq => ?_) (fun hq => ?_) <;> (try simp at hq)) | (with_reducible refine gOps_not (fun hq => ?_) (fun hq => ?_) <;> (try simp at hq)) | (with_reducible refine gOps_split (fun hq => ?_) (fun hq => ?_) <;> (try simp at hq)) | with_reducible refine condC_dec (fun _ => ?_) (fun _ => ?_) | with_reducible refine condC_ndec (fun _ => ?_) (fun _ => ?_) | (with_reducible refine condC_and (fun hq => ?_) (fun hq => ?_) <;> (try simp at hq)) | (with_reducible refine condC_or (fun hq => ?_) (fun hq => ?_) <;> (try simp at hq)) | (with_reducible refine condC_not (fun hq => ?_) (fun hq => ?_) <;> (try simp at hq)) | (with_reducible refine condC_split (fun hq => ?_) (fun hq => ?_) <;> (try simp at hq)) | refine appK2_if (by omega) ?_ | refine pureV_if (by omega) ?_) <;> simp -implicitDefEqProofs [*, h6, h8, h40, h41, h42, hlt, hlt', hget, hg, hn, hwr, viewBox, psB, xsB, irow])
            refine lendThen_frame [4, 7, 8] rfl (by decide) (by simp) v4 (by simp) (by simp [lentBs]) ?_
            simp -implicitDefEqProofs [framed, h6, h8, h40, h41, h42, hlt, hlt', hget, hg, hn, hwr, viewBox, psB, xsB, irow]
            refine ⟨[7, 8], ⟨by simp, by simp, by simp⟩, ?_⟩
            unfold keepSt pickSt
            dsimp only
            try rw [hnext]
            exact ⟨.inr ⟨_, _, _, _, _, by simp [lentBs, hr7, viewBox, psB, xsB, irow]; repeat' (first | rfl | apply And.intro)⟩, by simp [h6, hr7], by simp [h8, hr7], by simp [h40], by simp [h41], by simp⟩
        | true =>
          rw [if_pos hr] at v4
          generalize knownV w x = w2 at *
          clear hr
          simp only [viewBox, psB, xsB] at v4
          rcases hB with ⟨d0, d2, d3, rfl⟩ | ⟨d0, d2, d3, d5, d6, rfl⟩
          · simp -implicitDefEqProofs [h6, h8, h40, h41, h42, hlt, hlt', hget, hg, hn, hwr, viewBox, psB, xsB, irow]
            repeat' ((first | refine callThen_of (by first | exact v1 | exact v2) ?_ | with_reducible refine gOps_dec (fun _ => ?_) (fun _ => ?_) | with_reducible refine gOps_ndec (fun _ => ?_) (fun _ => ?_) | (with_reducible refine gOps_and (fun hq => ?_) (fun hq => ?_) <;> (try simp at hq)) | (with_reducible refine gOps_or (fun hq => ?_) (fun hq => ?_) <;> (try simp at hq)) | (with_reducible refine gOps_not (fun hq => ?_) (fun hq => ?_) <;> (try simp at hq)) | (with_reducible refine gOps_split (fun hq => ?_) (fun hq => ?_) <;> (try simp at hq)) | with_reducible refine condC_dec (fun _ => ?_) (fun _ => ?_) | with_reducible refine condC_ndec (fun _ => ?_) (fun _ => ?_) | (with_reducible refine condC_and (fun hq => ?_) (fun hq => ?_) <;> (try simp at hq)) | (with_reducible refine condC_or (fun hq => ?_) (fun hq => ?_) <;> (try simp at hq)) | (with_reducible refine condC_not (fun hq => ?_) (fun hq => ?_) <;> (try simp at hq)) | (with_reducible refine condC_split (fun hq => ?_) (fun hq => ?_) <;> (try simp at hq)) | refine appK2_if (by omega) ?_ | refine pureV_if (by omega) ?_) <;> simp -implicitDefEqProofs [*, h6, h8, h40, h41, h42, hlt, hlt', hget, hg, hn, hwr, viewBox, psB, xsB, irow])
            refine lendThen_frame [4, 5, 6] rfl (by decide) (by simp) v4 (by simp) (by simp [lentBs]) ?_
            simp -implicitDefEqProofs [framed, h6, h8, h40, h41, h42, hlt, hlt', hget, hg, hn, hwr, viewBox, psB, xsB, irow]
            refine ⟨[7, 8], ⟨by simp, by simp, by simp⟩, ?_⟩
            unfold keepSt pickSt
            dsimp only
            try rw [hnext]
            exact ⟨.inr ⟨_, _, _, _, _, by simp [lentBs, hr7, viewBox, psB, xsB, irow]; repeat' (first | rfl | apply And.intro)⟩, by simp [h6, hr7], by simp [h8, hr7], by simp [h40], by simp [h41], by simp⟩
          · simp -implicitDefEqProofs [h6, h8, h40, h41, h42, hlt, hlt', hget, hg, hn, hwr, viewBox, psB, xsB, irow]
            repeat' ((first | refine callThen_of (by first | exact v1 | exact v2) ?_ | with_reducible refine gOps_dec (fun _ => ?_) (fun _ => ?_) | with_reducible refine gOps_ndec (fun _ => ?_) (fun _ => ?_) | (with_reducible refine gOps_and (fun hq => ?_) (fun hq => ?_) <;> (try simp at hq)) | (with_reducible refine gOps_or (fun hq => ?_) (fun hq => ?_) <;> (try simp at hq)) | (with_reducible refine gOps_not (fun hq => ?_) (fun hq => ?_) <;> (try simp at hq)) | (with_reducible refine gOps_split (fun hq => ?_) (fun hq => ?_) <;> (try simp at hq)) | with_reducible refine condC_dec (fun _ => ?_) (fun _ => ?_) | with_reducible refine condC_ndec (fun _ => ?_) (fun _ => ?_) | (with_reducible refine condC_and (fun hq => ?_) (fun hq => ?_) <;> (try simp at hq)) | (with_reducible refine condC_or (fun hq => ?_) (fun hq => ?_) <;> (try simp at hq)) | (with_reducible refine condC_not (fun hq => ?_) (fun hq => ?_) <;> (try simp at hq)) | (with_reducible refine condC_split (fun hq => ?_) (fun hq => ?_) <;> (try simp at hq)) | refine appK2_if (by omega) ?_ | refine pureV_if (by omega) ?_) <;> simp -implicitDefEqProofs [*, h6, h8, h40, h41, h42, hlt, hlt', hget, hg, hn, hwr, viewBox, psB, xsB, irow])
            refine lendThen_frame [4, 7, 8] rfl (by decide) (by simp) v4 (by simp) (by simp [lentBs]) ?_
            simp -implicitDefEqProofs [framed, h6, h8, h40, h41, h42, hlt, hlt', hget, hg, hn, hwr, viewBox, psB, xsB, irow]
            refine ⟨[9, 10], ⟨by simp, by simp, by simp⟩, ?_⟩
            unfold keepSt pickSt
            dsimp only
            try rw [hnext]
            exact ⟨.inr ⟨_, _, _, _, _, by simp [lentBs, hr7, viewBox, psB, xsB, irow]; repeat' (first | rfl | apply And.intro)⟩, by simp [h6, hr7], by simp [h8, hr7], by simp [h40], by simp [h41], by simp⟩
  · rintro ⟨fr, bs⟩ ⟨hB, h6, h8⟩
    have hWid := (key ids.length).2
    rw [List.take_length] at hWid
    generalize ids.foldl tellV w0 = W at *
    rcases hB with ⟨d0, d2, d3, rfl⟩ | ⟨d0, d2, d3, d5, d6, rfl⟩
    · simp -implicitDefEqProofs [h6, h8, viewBox, psB, xsB, hWid]
    · simp -implicitDefEqProofs [h6, h8, viewBox, psB, xsB, hWid]
  · rintro ⟨fr, bs⟩ h
    exact h.elim
theorem hello_Take_full (v : View) (a : Int) (ids : List Int) (hs : v.small) (h : helloOk v a ids = true) (hr : roomV v a = false) : Den PP 41 [viewD v, .int .i64 a, intsD ids] [] (.tup [.agg [.int .i64 v.id, .ref 0 0 (helloV v a ids).peers.length, .ref 1 0 (helloV v a ids).passive.length], .int .i64 0]) [psB (helloV v a ids), xsB (helloV v a ids)] := by
  obtain ⟨k1, k2, k3, k4, k5⟩ := helloOk_parts h
  have hcap : ids.length ≤ cap := by unfold cap; omega
  have hsz : 16 ≤ sizeV v := by
    unfold roomV at hr
    simp at hr
    unfold sizeV
    exact hr.2
  have hW : helloV v a ids = v := by unfold helloV; rw [knownV_no hr, tells_full hsz]
  rw [hW]
  clear hW
  have c1 := view_May v hs
  have c2 := ring_Place a
  have c3 := ring_Places ids hcap
  have c4 := view_Copy v hs
  have hm := k1
  rw [k1] at c1
  rw [k2] at c2
  rw [show ids.all place = true from List.all_eq_true.2 k5] at c3
  have c5 := hello_heard v a k1 k2 k3
  rw [if_neg (by simp [hr])] at c5
  have hk4 : ¬ (16 : Int) < ids.length := by omega
  simp only [viewD, View.cells, peersD, intsD, viewBox, psB, xsB] at c1 c3 c4 c5 ⊢
  clear k1 k2 hs h hr
  refine den_of [37] [38, 60] is_hello_Take ?_
  simp -implicitDefEqProofs [c_hello_Take, hk4, k3]
  repeat' ((first | refine callThen_of (by first | exact c1 | exact c2 | exact c3 | exact c4) ?_ | with_reducible refine gOps_dec (fun _ => ?_) (fun _ => ?_) | with_reducible refine gOps_ndec (fun _ => ?_) (fun _ => ?_) | (with_reducible refine gOps_and (fun hq => ?_) (fun hq => ?_) <;> (try simp at hq)) | (with_reducible refine gOps_or (fun hq => ?_) (fun hq => ?_) <;> (try simp at hq)) | (with_reducible refine gOps_not (fun hq => ?_) (fun hq => ?_) <;> (try simp at hq)) | (with_reducible refine gOps_split (fun hq => ?_) (fun hq => ?_) <;> (try simp at hq)) | with_reducible refine condC_dec (fun _ => ?_) (fun _ => ?_) | with_reducible refine condC_ndec (fun _ => ?_) (fun _ => ?_) | (with_reducible refine condC_and (fun hq => ?_) (fun hq => ?_) <;> (try simp at hq)) | (with_reducible refine condC_or (fun hq => ?_) (fun hq => ?_) <;> (try simp at hq)) | (with_reducible refine condC_not (fun hq => ?_) (fun hq => ?_) <;> (try simp at hq)) | (with_reducible refine condC_split (fun hq => ?_) (fun hq => ?_) <;> (try simp at hq)) | refine appK2_if (by omega) ?_ | refine pureV_if (by omega) ?_) <;> simp -implicitDefEqProofs [*, downTo, hk4, k3])
  refine lendThen_frame [4, 2, 3] rfl (by decide) (by simp) c5 (by simp) (by simp [lentBs]) ?_
  simp -implicitDefEqProofs [framed]
  refine list_keep ids (fun i rest => fun ⟨fr, bs⟩ => (∃ d0, bs = [d0, ⟨[[.int .i64 0, .nil, .nil]], 3, .box⟩, psB v, xsB v, viewBox v 2 3]) ∧ fr 6 = .ptr 1 0 0 ∧ fr 8 = .ptr 4 0 0 ∧ fr 40 = .sl (ids.map irow) ids.length ∧ fr 41 = .int .i64 ids.length ∧ fr 42 = .int .i64 i)
    (fun ⟨fr, bs⟩ => (∃ d0, bs = [d0, ⟨[[.int .i64 0, .nil, .nil]], 3, .box⟩, psB v, xsB v, viewBox v 2 3]) ∧ fr 6 = .ptr 1 0 0 ∧ fr 8 = .ptr 4 0 0) (fun _ => False) c_hello_Take_L0.eq_1 ?_ ?_ ?_ ?_ ?_
  · exact ⟨⟨_, by simp [viewBox, psB, xsB]; rfl⟩, by simp, by simp, by simp, by simp, by simp⟩
  · rintro i ⟨fr, bs⟩ hi ⟨hB, h6, h8, h40, h41, h42⟩
    simp -implicitDefEqProofs [h6, h8, h40, h41, h42, hi]
    exact hB
  · rintro i x rest ⟨fr, bs⟩ hlt hget hg hd hd2 ⟨⟨d0, rfl⟩, h6, h8, h40, h41, h42⟩
    have hlt' : (i : Int) < ids.length := by omega
    have hwr := wrap_next (n := i) (by omega)
    have hx := k5 x (List.mem_of_getElem? hget)
    obtain ⟨p1, p2, p3, p4⟩ := viewMay_parts hm
    have v1 := view_Peer v x (by unfold cap; omega) (peersMay_rowed p1)
    rw [peerIs_mem p1 hx] at v1
    have v2 := view_Passive v x (by unfold cap; omega)
    have v3 : x ≠ v.id → _ := fun hn => hello_heard v x hm hx hn
    clear c1 c2 c3 c4 c5 p1 p2 p3 p4
    have hroom : knowsV v x = false → roomV v x = false := by
      intro hk
      unfold roomV
      unfold sizeV at hsz
      simp [hk, hsz]
    obtain ⟨A, hA⟩ : ∃ A, (v.peers.map Peer.id).contains x = A := ⟨_, rfl⟩
    obtain ⟨C, hC⟩ : ∃ C, v.passive.contains x = C := ⟨_, rfl⟩
    have hkn : knowsV v x = (A || C) := by rw [← hA, ← hC]; rfl
    rw [hA] at v1
    rw [hC] at v2
    clear hA hC
    simp only [View.cells, peersD, intsD] at v1 v2
    have hr5 : List.range 5 = [0, 1, 2, 3, 4] := rfl
    clear hm hsz
    by_cases hn : x = v.id
    · simp -implicitDefEqProofs [h6, h8, h40, h41, h42, hlt, hlt', hget, hg, hn, hwr, viewBox, psB, xsB, irow]
      refine ⟨[], ⟨by simp, by simp, by simp⟩, ?_⟩
      unfold keepSt pickSt
      dsimp only
      exact ⟨⟨_, by simp [lentBs, hr5, viewBox, psB, xsB, irow]; repeat' (first | rfl | apply And.intro)⟩, by simp [h6, hr5], by simp [h8, hr5], by simp [h40], by simp [h41], by simp⟩
    · have v4 := v3 hn
      clear v3
      cases hAC : (A || C) with
      | true =>
        clear v4 hkn hroom
        cases A <;> cases C
        all_goals try (simp at hAC; done)
        all_goals
          clear hAC
          simp -implicitDefEqProofs [h6, h8, h40, h41, h42, hlt, hlt', hget, hg, hn, hwr, viewBox, psB, xsB, irow]
          repeat' ((first | refine callThen_of (by first | exact v1 | exact v2) ?_ | with_reducible refine gOps_dec (fun _ => ?_) (fun _ => ?_) | with_reducible refine gOps_ndec (fun _ => ?_) (fun _ => ?_) | (with_reducible refine gOps_and (fun hq => ?_) (fun hq => ?_) <;> (try simp at hq)) | (with_reducible refine gOps_or (fun hq => ?_) (fun hq => ?_) <;> (try simp at hq)) | (with_reducible refine gOps_not (fun hq => ?_) (fun hq => ?_) <;> (try simp at hq)) | (with_reducible refine gOps_split (fun hq => ?_) (fun hq => ?_) <;> (try simp at hq)) | with_reducible refine condC_dec (fun _ => ?_) (fun _ => ?_) | with_reducible refine condC_ndec (fun _ => ?_) (fun _ => ?_) | (with_reducible refine condC_and (fun hq => ?_) (fun hq => ?_) <;> (try simp at hq)) | (with_reducible refine condC_or (fun hq => ?_) (fun hq => ?_) <;> (try simp at hq)) | (with_reducible refine condC_not (fun hq => ?_) (fun hq => ?_) <;> (try simp at hq)) | (with_reducible refine condC_split (fun hq => ?_) (fun hq => ?_) <;> (try simp at hq)) | refine appK2_if (by omega) ?_ | refine pureV_if (by omega) ?_) <;> simp -implicitDefEqProofs [*, h6, h8, h40, h41, h42, hlt, hlt', hget, hg, hn, hwr, viewBox, psB, xsB, irow])
          refine ⟨[], ⟨by simp, by simp, by simp⟩, ?_⟩
          unfold keepSt pickSt
          dsimp only
          exact ⟨⟨_, by simp [lentBs, hr5, viewBox, psB, xsB, irow]; repeat' (first | rfl | apply And.intro)⟩, by simp [h6, hr5], by simp [h8, hr5], by simp [h40], by simp [h41], by simp⟩
      | false =>
        rw [hAC] at hkn
        simp only [Bool.or_eq_false_iff] at hAC
        obtain ⟨rfl, rfl⟩ := hAC
        rw [if_neg (by simp [hroom hkn])] at v4
        clear hkn hroom
        simp only [viewBox, psB, xsB] at v4
        simp -implicitDefEqProofs [h6, h8, h40, h41, h42, hlt, hlt', hget, hg, hn, hwr, viewBox, psB, xsB, irow]
        repeat' ((first | refine callThen_of (by first | exact v1 | exact v2) ?_ | with_reducible refine gOps_dec (fun _ => ?_) (fun _ => ?_) | with_reducible refine gOps_ndec (fun _ => ?_) (fun _ => ?_) | (with_reducible refine gOps_and (fun hq => ?_) (fun hq => ?_) <;> (try simp at hq)) | (with_reducible refine gOps_or (fun hq => ?_) (fun hq => ?_) <;> (try simp at hq)) | (with_reducible refine gOps_not (fun hq => ?_) (fun hq => ?_) <;> (try simp at hq)) | (with_reducible refine gOps_split (fun hq => ?_) (fun hq => ?_) <;> (try simp at hq)) | with_reducible refine condC_dec (fun _ => ?_) (fun _ => ?_) | with_reducible refine condC_ndec (fun _ => ?_) (fun _ => ?_) | (with_reducible refine condC_and (fun hq => ?_) (fun hq => ?_) <;> (try simp at hq)) | (with_reducible refine condC_or (fun hq => ?_) (fun hq => ?_) <;> (try simp at hq)) | (with_reducible refine condC_not (fun hq => ?_) (fun hq => ?_) <;> (try simp at hq)) | (with_reducible refine condC_split (fun hq => ?_) (fun hq => ?_) <;> (try simp at hq)) | refine appK2_if (by omega) ?_ | refine pureV_if (by omega) ?_) <;> simp -implicitDefEqProofs [*, h6, h8, h40, h41, h42, hlt, hlt', hget, hg, hn, hwr, viewBox, psB, xsB, irow])
        refine lendThen_frame [4, 2, 3] rfl (by decide) (by simp) v4 (by simp) (by simp [lentBs]) ?_
        simp -implicitDefEqProofs [framed, h6, h8, h40, h41, h42, hlt, hlt', hget, hg, hn, hwr, viewBox, psB, xsB, irow]
        refine ⟨[], ⟨by simp, by simp, by simp⟩, ?_⟩
        unfold keepSt pickSt
        dsimp only
        exact ⟨⟨_, by simp [lentBs, hr5, viewBox, psB, xsB, irow]; repeat' (first | rfl | apply And.intro)⟩, by simp [h6, hr5], by simp [h8, hr5], by simp [h40], by simp [h41], by simp⟩
  · rintro ⟨fr, bs⟩ ⟨⟨d0, rfl⟩, h6, h8⟩
    simp -implicitDefEqProofs [h6, h8, viewBox, psB, xsB]
  · rintro ⟨fr, bs⟩ h
    exact h.elim
theorem hello_Take (v : View) (a : Int) (ids : List Int) (hs : v.small) (h : helloOk v a ids = true) : Den PP 41 [viewD v, .int .i64 a, intsD ids] [] (.tup [.agg [.int .i64 v.id, .ref 0 0 (helloV v a ids).peers.length, .ref 1 0 (helloV v a ids).passive.length], .int .i64 0]) [psB (helloV v a ids), xsB (helloV v a ids)] := by
  cases hr : roomV v a with
  | true => exact hello_Take_yes v a ids hs h hr
  | false => exact hello_Take_full v a ids hs h hr
end Go.AM
/- AM: contracts: a message that comes is handled. -/
namespace Go.AM
set_option linter.unusedSimpArgs false
set_option linter.unusedVariables false
set_option maxRecDepth 8000
set_option maxHeartbeats 0
def hBox (x : Node) (p q i l : Nat) (s : D) : Blk := ⟨[[.bool x.up, .int .i64 x.view.id, .ref p 0 x.view.peers.length, .ref q 0 x.view.passive.length, .ref i 0 x.items.length, .ref l 0 x.log.length, s]], 7, .box⟩
theorem hello_ok {x : Node} {m : Msg} (h : nodeUp x = true) (hm : msgMay m = true) (hk : m.kind = 0) (ht : m.to = x.view.id) : helloOk x.view m.from_ m.ids = true := by
  have hv : viewMay x.view = true := by simp only [nodeUp, nodeMay, Bool.and_eq_true] at h; grind
  simp only [msgMay, hk, if_true, Bool.and_eq_true, Bool.not_eq_true', decide_eq_false_iff_not, decide_eq_true_eq] at hm
  obtain ⟨h1, h2, h3, ⟨⟨_, h5⟩, h6⟩⟩ := hm
  simp [helloOk, hv, h1, h5, h6]
  rw [← ht]
  exact h3
theorem handler_hello (x : Node) (m : Msg) (hs : x.small) (h : helloOk x.view m.from_ m.ids = true) : Den PP 87 [.ptr 0 0 0, msgD m] [hBox x 1 2 3 4 .nil, ⟨x.view.peers.map Peer.row, 2, .mut⟩, ⟨x.view.passive.map irow, 1, .mut⟩, ⟨x.items.map Item.row, 5, .mut⟩, ⟨x.log.map Told.row, 3, .mut⟩] (.tup [])
    [hBox { x with view := helloV x.view m.from_ m.ids } 5 6 3 4 .nil, ⟨x.view.peers.map Peer.row, 2, .app⟩, ⟨x.view.passive.map irow, 1, .app⟩, ⟨x.items.map Item.row, 5, .mut⟩, ⟨x.log.map Told.row, 3, .mut⟩, psB (helloV x.view m.from_ m.ids), xsB (helloV x.view m.from_ m.ids)] := by
  have c1 := hello_Take x.view m.from_ m.ids hs.1 h
  have hid := (helloV_may h).2
  generalize helloV x.view m.from_ m.ids = w at *
  clear h
  simp only [hBox, psB, xsB, viewD, View.cells, peersD, intsD, msgD, Msg.row, hid] at c1 ⊢
  refine den_of [15] [] is_handle_handler_hello ?_
  simp -implicitDefEqProofs [c_handle_handler_hello]
  repeat' ((first | refine callThen_of (by first | exact c1) ?_ | with_reducible refine gOps_dec (fun _ => ?_) (fun _ => ?_) | with_reducible refine gOps_ndec (fun _ => ?_) (fun _ => ?_) | (with_reducible refine gOps_and (fun hq => ?_) (fun hq => ?_) <;> (try simp at hq)) | (with_reducible refine gOps_or (fun hq => ?_) (fun hq => ?_) <;> (try simp at hq)) | (with_reducible refine gOps_not (fun hq => ?_) (fun hq => ?_) <;> (try simp at hq)) | (with_reducible refine gOps_split (fun hq => ?_) (fun hq => ?_) <;> (try simp at hq)) | with_reducible refine condC_dec (fun _ => ?_) (fun _ => ?_) | with_reducible refine condC_ndec (fun _ => ?_) (fun _ => ?_) | (with_reducible refine condC_and (fun hq => ?_) (fun hq => ?_) <;> (try simp at hq)) | (with_reducible refine condC_or (fun hq => ?_) (fun hq => ?_) <;> (try simp at hq)) | (with_reducible refine condC_not (fun hq => ?_) (fun hq => ?_) <;> (try simp at hq)) | (with_reducible refine condC_split (fun hq => ?_) (fun hq => ?_) <;> (try simp at hq)) | refine appK2_if (by omega) ?_ | refine pureV_if (by omega) ?_) <;> simp -implicitDefEqProofs [*, downTo])
theorem handler_item (x : Node) (m : Msg) (hs : x.small) (h : (nodeUp x && itemMay m.item) = true) : Den PP 88 [.ptr 0 0 0, msgD m] [hBox x 1 2 3 4 .nil, ⟨x.view.peers.map Peer.row, 2, .mut⟩, ⟨x.view.passive.map irow, 1, .mut⟩, ⟨x.items.map Item.row, 5, .mut⟩, ⟨x.log.map Told.row, 3, .mut⟩] (.tup [])
    [hBox (takeI x m.item) 5 6 7 8 .nil, ⟨x.view.peers.map Peer.row, 2, .app⟩, ⟨x.view.passive.map irow, 1, .app⟩, ⟨x.items.map Item.row, 5, .app⟩, ⟨x.log.map Told.row, 3, .app⟩, ⟨(takeI x m.item).view.peers.map Peer.row, 2, .mut⟩, ⟨(takeI x m.item).view.passive.map irow, 1, .mut⟩, ⟨(takeI x m.item).items.map Item.row, 5, .mut⟩, ⟨(takeI x m.item).log.map Told.row, 3, .mut⟩] := by
  have c1 := take_Item x m.item hs h
  generalize takeI x m.item = y at *
  clear h
  simp only [hBox, nodeD, Node.cells, viewD, View.cells, peersD, intsD, itemsD, toldsD, Item.row, copyD, nodeB, msgD, Msg.row] at c1 ⊢
  refine den_of [12] [] is_handle_handler_item ?_
  simp -implicitDefEqProofs [c_handle_handler_item]
  repeat' ((first | refine callThen_of (by first | exact c1) ?_ | with_reducible refine gOps_dec (fun _ => ?_) (fun _ => ?_) | with_reducible refine gOps_ndec (fun _ => ?_) (fun _ => ?_) | (with_reducible refine gOps_and (fun hq => ?_) (fun hq => ?_) <;> (try simp at hq)) | (with_reducible refine gOps_or (fun hq => ?_) (fun hq => ?_) <;> (try simp at hq)) | (with_reducible refine gOps_not (fun hq => ?_) (fun hq => ?_) <;> (try simp at hq)) | (with_reducible refine gOps_split (fun hq => ?_) (fun hq => ?_) <;> (try simp at hq)) | with_reducible refine condC_dec (fun _ => ?_) (fun _ => ?_) | with_reducible refine condC_ndec (fun _ => ?_) (fun _ => ?_) | (with_reducible refine condC_and (fun hq => ?_) (fun hq => ?_) <;> (try simp at hq)) | (with_reducible refine condC_or (fun hq => ?_) (fun hq => ?_) <;> (try simp at hq)) | (with_reducible refine condC_not (fun hq => ?_) (fun hq => ?_) <;> (try simp at hq)) | (with_reducible refine condC_split (fun hq => ?_) (fun hq => ?_) <;> (try simp at hq)) | refine appK2_if (by omega) ?_ | refine pureV_if (by omega) ?_) <;> simp -implicitDefEqProofs [*, downTo])
theorem handler_ask (x : Node) (m : Msg) (hs : x.small) (hl : m.ids.length ≤ cap) (h : toB x m 2 = true) : ∃ k : Kind, k.isBox = false ∧ Den PP 89 [.ptr 0 0 0, msgD m] [hBox x 1 2 3 4 .nil, ⟨x.view.peers.map Peer.row, 2, .mut⟩, ⟨x.view.passive.map irow, 1, .mut⟩, ⟨x.items.map Item.row, 5, .mut⟩, ⟨x.log.map Told.row, 3, .mut⟩] (.tup [])
    [hBox x 1 2 3 4 (.ref 5 0 1), ⟨x.view.peers.map Peer.row, 2, k⟩, ⟨x.view.passive.map irow, 1, k⟩, ⟨x.items.map Item.row, 5, k⟩, ⟨x.log.map Told.row, 3, k⟩, ⟨[tellOf x m].map Msg.row0, 11, .mut⟩] := by
  refine ⟨.app, rfl, ?_⟩
  have c1 := ask_Answer_ok x m hs hl h
  generalize tellOf x m = t at *
  clear h
  simp only [hBox, nodeD, Node.cells, viewD, View.cells, peersD, intsD, itemsD, toldsD, Item.row, copyD, nodeB, msgD, Msg.row, List.map_cons, List.map_nil] at c1 ⊢
  refine den_of [11] [] is_handle_handler_ask ?_
  simp -implicitDefEqProofs [c_handle_handler_ask]
  repeat' ((first | refine callThen_of (by first | exact c1) ?_ | with_reducible refine gOps_dec (fun _ => ?_) (fun _ => ?_) | with_reducible refine gOps_ndec (fun _ => ?_) (fun _ => ?_) | (with_reducible refine gOps_and (fun hq => ?_) (fun hq => ?_) <;> (try simp at hq)) | (with_reducible refine gOps_or (fun hq => ?_) (fun hq => ?_) <;> (try simp at hq)) | (with_reducible refine gOps_not (fun hq => ?_) (fun hq => ?_) <;> (try simp at hq)) | (with_reducible refine gOps_split (fun hq => ?_) (fun hq => ?_) <;> (try simp at hq)) | with_reducible refine condC_dec (fun _ => ?_) (fun _ => ?_) | with_reducible refine condC_ndec (fun _ => ?_) (fun _ => ?_) | (with_reducible refine condC_and (fun hq => ?_) (fun hq => ?_) <;> (try simp at hq)) | (with_reducible refine condC_or (fun hq => ?_) (fun hq => ?_) <;> (try simp at hq)) | (with_reducible refine condC_not (fun hq => ?_) (fun hq => ?_) <;> (try simp at hq)) | (with_reducible refine condC_split (fun hq => ?_) (fun hq => ?_) <;> (try simp at hq)) | refine appK2_if (by omega) ?_ | refine pureV_if (by omega) ?_) <;> simp -implicitDefEqProofs [*, downTo])
theorem handler_tell (x : Node) (m : Msg) (hs : x.small) (hl : m.ids.length ≤ cap) (h : toB x m 3 = true) : Den PP 90 [.ptr 0 0 0, msgD m] [hBox x 1 2 3 4 .nil, ⟨x.view.peers.map Peer.row, 2, .mut⟩, ⟨x.view.passive.map irow, 1, .mut⟩, ⟨x.items.map Item.row, 5, .mut⟩, ⟨x.log.map Told.row, 3, .mut⟩] (.tup [])
    [⟨[[.bool x.up, .int .i64 x.view.id, .ref 5 0 x.view.peers.length, .ref 6 0 x.view.passive.length, .ref 7 0 x.items.length, .ref 8 (logPre x (mT m)).length (logOf x (mT m)).length, .nil]], 7, .box⟩, ⟨x.view.peers.map Peer.row, 2, .app⟩, ⟨x.view.passive.map irow, 1, .app⟩, ⟨x.items.map Item.row, 5, .app⟩, ⟨x.log.map Told.row, 3, .app⟩, ⟨x.view.peers.map Peer.row, 2, .mut⟩, ⟨x.view.passive.map irow, 1, .mut⟩, ⟨x.items.map Item.row, 5, .mut⟩, ⟨(logPre x (mT m) ++ logOf x (mT m)).map Told.row, 3, .mut⟩] := by
  have c1 := ask_Told_ok x m hs hl h
  generalize logPre x (mT m) = pre at *
  generalize logOf x (mT m) = xs at *
  clear h
  simp only [hBox, nodeD, Node.cells, viewD, View.cells, peersD, intsD, itemsD, toldsD, Item.row, noteD, noteB, msgD, Msg.row] at c1 ⊢
  refine den_of [11] [] is_handle_handler_tell ?_
  simp -implicitDefEqProofs [c_handle_handler_tell]
  repeat' ((first | refine callThen_of (by first | exact c1) ?_ | with_reducible refine gOps_dec (fun _ => ?_) (fun _ => ?_) | with_reducible refine gOps_ndec (fun _ => ?_) (fun _ => ?_) | (with_reducible refine gOps_and (fun hq => ?_) (fun hq => ?_) <;> (try simp at hq)) | (with_reducible refine gOps_or (fun hq => ?_) (fun hq => ?_) <;> (try simp at hq)) | (with_reducible refine gOps_not (fun hq => ?_) (fun hq => ?_) <;> (try simp at hq)) | (with_reducible refine gOps_split (fun hq => ?_) (fun hq => ?_) <;> (try simp at hq)) | with_reducible refine condC_dec (fun _ => ?_) (fun _ => ?_) | with_reducible refine condC_ndec (fun _ => ?_) (fun _ => ?_) | (with_reducible refine condC_and (fun hq => ?_) (fun hq => ?_) <;> (try simp at hq)) | (with_reducible refine condC_or (fun hq => ?_) (fun hq => ?_) <;> (try simp at hq)) | (with_reducible refine condC_not (fun hq => ?_) (fun hq => ?_) <;> (try simp at hq)) | (with_reducible refine condC_split (fun hq => ?_) (fun hq => ?_) <;> (try simp at hq)) | refine appK2_if (by omega) ?_ | refine pureV_if (by omega) ?_) <;> simp -implicitDefEqProofs [*, downTo])
end Go.AM
/- AM: contracts: handle.Do. -/
namespace Go.AM
set_option linter.unusedSimpArgs false
set_option linter.unusedVariables false
set_option maxRecDepth 8000
set_option maxHeartbeats 0
def doB (x : Node) (m : Msg) : Bool := nodeUp x && (msgMay m && decide (m.to = x.view.id))
theorem doB_parts {x : Node} {m : Msg} (h : doB x m = true) : nodeUp x = true ∧ msgMay m = true ∧ m.to = x.view.id := by
  simp only [doB, Bool.and_eq_true, decide_eq_true_eq] at h
  exact h
theorem kind_cases {m : Msg} (h : msgMay m = true) : m.kind = 0 ∨ m.kind = 1 ∨ m.kind = 2 ∨ m.kind = 3 := by
  simp only [msgMay, Bool.and_eq_true] at h
  obtain ⟨_, _, _, h⟩ := h
  by_cases h0 : m.kind = 0
  · exact .inl h0
  by_cases h1 : m.kind = 1
  · exact .inr (.inl h1)
  by_cases h2 : m.kind = 2
  · exact .inr (.inr (.inl h2))
  by_cases h3 : m.kind = 3
  · exact .inr (.inr (.inr h3))
  simp [h0, h1, h2, h3] at h
theorem item_ok {m : Msg} (h : msgMay m = true) (hk : m.kind = 1) : itemMay m.item = true := by
  simp [msgMay, hk] at h
  exact h.2.2.2.2
theorem toB_ok {x : Node} {m : Msg} (h : doB x m = true) {k : Int} (hk : m.kind = k) : toB x m k = true := by
  obtain ⟨h1, h2, h3⟩ := doB_parts h
  simp [toB, h1, h2, h3, hk]
theorem handle_Do_no (x : Node) (m : Msg) (hs : x.small) (hl : m.ids.length ≤ cap) (h : doB x m = false) : Den PP 28 [nodeD x, msgD m] [] (.tup [.agg [.bool false, .int .i64 0, .nil, .nil, .nil, .nil], .ref 0 0 0, .int .i64 2200]) [⟨[], 11, .mut⟩] := by
  have c1 := node_Up x hs
  have c2 := msg_May m hl
  unfold doB at h
  generalize nodeUp x = U at *
  generalize msgMay m = M at *
  simp only [nodeD, Node.cells, peersD, intsD, itemsD, toldsD, Item.row, msgD, Msg.row] at c1 c2 ⊢
  refine den_of [27] [43] is_handle_Do ?_
  cases U <;> cases M
  all_goals
    simp at h
  all_goals
    simp -implicitDefEqProofs [c_handle_Do]
    repeat' ((first | refine callThen_of (by first | exact c1 | exact c2) ?_ | with_reducible refine gOps_dec (fun _ => ?_) (fun _ => ?_) | with_reducible refine gOps_ndec (fun _ => ?_) (fun _ => ?_) | (with_reducible refine gOps_and (fun hq => ?_) (fun hq => ?_) <;> (try simp at hq)) | (with_reducible refine gOps_or (fun hq => ?_) (fun hq => ?_) <;> (try simp at hq)) | (with_reducible refine gOps_not (fun hq => ?_) (fun hq => ?_) <;> (try simp at hq)) | (with_reducible refine gOps_split (fun hq => ?_) (fun hq => ?_) <;> (try simp at hq)) | with_reducible refine condC_dec (fun _ => ?_) (fun _ => ?_) | with_reducible refine condC_ndec (fun _ => ?_) (fun _ => ?_) | (with_reducible refine condC_and (fun hq => ?_) (fun hq => ?_) <;> (try simp at hq)) | (with_reducible refine condC_or (fun hq => ?_) (fun hq => ?_) <;> (try simp at hq)) | (with_reducible refine condC_not (fun hq => ?_) (fun hq => ?_) <;> (try simp at hq)) | (with_reducible refine condC_split (fun hq => ?_) (fun hq => ?_) <;> (try simp at hq)) | refine appK2_if (by omega) ?_ | refine pureV_if (by omega) ?_) <;> simp -implicitDefEqProofs [*])
theorem handle_Do_0 (x : Node) (m : Msg) (hs : x.small) (hl : m.ids.length ≤ cap) (h : doB x m = true) (hk : m.kind = 0) : Den PP 28 [nodeD x, msgD m] [] (.tup [copyD { x with view := helloV x.view m.from_ m.ids }, .nil, .int .i64 0]) (nodeB { x with view := helloV x.view m.from_ m.ids }) := by
  have c1 := node_Up x hs
  have c2 := msg_May m hl
  obtain ⟨h1, h2, h3⟩ := doB_parts h
  have c4 := handler_hello x m hs (hello_ok h1 h2 hk h3)
  rw [h1] at c1
  rw [h2] at c2
  have c3 := node_Copy x hs
  generalize helloV x.view m.from_ m.ids = w at *
  clear h h1 h2
  simp only [hBox, psB, xsB, nodeD, Node.cells, viewD, View.cells, peersD, intsD, itemsD, toldsD, Item.row, copyD, nodeB, noteD, noteB, msgD, Msg.row, hk, h3, List.map_cons, List.map_nil] at c1 c2 c3 c4 ⊢
  refine den_of [27] [43] is_handle_Do ?_
  simp -implicitDefEqProofs [c_handle_Do, h3, hk]
  repeat' ((first | refine callThen_of (by first | exact c1 | exact c2 | exact c3) ?_ | with_reducible refine gOps_dec (fun _ => ?_) (fun _ => ?_) | with_reducible refine gOps_ndec (fun _ => ?_) (fun _ => ?_) | (with_reducible refine gOps_and (fun hq => ?_) (fun hq => ?_) <;> (try simp at hq)) | (with_reducible refine gOps_or (fun hq => ?_) (fun hq => ?_) <;> (try simp at hq)) | (with_reducible refine gOps_not (fun hq => ?_) (fun hq => ?_) <;> (try simp at hq)) | (with_reducible refine gOps_split (fun hq => ?_) (fun hq => ?_) <;> (try simp at hq)) | with_reducible refine condC_dec (fun _ => ?_) (fun _ => ?_) | with_reducible refine condC_ndec (fun _ => ?_) (fun _ => ?_) | (with_reducible refine condC_and (fun hq => ?_) (fun hq => ?_) <;> (try simp at hq)) | (with_reducible refine condC_or (fun hq => ?_) (fun hq => ?_) <;> (try simp at hq)) | (with_reducible refine condC_not (fun hq => ?_) (fun hq => ?_) <;> (try simp at hq)) | (with_reducible refine condC_split (fun hq => ?_) (fun hq => ?_) <;> (try simp at hq)) | refine appK2_if (by omega) ?_ | refine pureV_if (by omega) ?_) <;> simp -implicitDefEqProofs [*, downTo, h3, hk])
  refine lendThen_frame [8, 4, 5, 6, 7] rfl (by decide) (by simp) c4 (by simp) (by simp [lentBs]) ?_
  simp -implicitDefEqProofs [framed]
  repeat' apply And.intro
  all_goals repeat' ((first | with_reducible refine gOps_dec (fun _ => ?_) (fun _ => ?_) | with_reducible refine gOps_ndec (fun _ => ?_) (fun _ => ?_) | (with_reducible refine gOps_and (fun hq => ?_) (fun hq => ?_) <;> (try simp at hq)) | (with_reducible refine gOps_or (fun hq => ?_) (fun hq => ?_) <;> (try simp at hq)) | (with_reducible refine gOps_not (fun hq => ?_) (fun hq => ?_) <;> (try simp at hq)) | (with_reducible refine gOps_split (fun hq => ?_) (fun hq => ?_) <;> (try simp at hq)) | with_reducible refine condC_dec (fun _ => ?_) (fun _ => ?_) | with_reducible refine condC_ndec (fun _ => ?_) (fun _ => ?_) | (with_reducible refine condC_and (fun hq => ?_) (fun hq => ?_) <;> (try simp at hq)) | (with_reducible refine condC_or (fun hq => ?_) (fun hq => ?_) <;> (try simp at hq)) | (with_reducible refine condC_not (fun hq => ?_) (fun hq => ?_) <;> (try simp at hq)) | (with_reducible refine condC_split (fun hq => ?_) (fun hq => ?_) <;> (try simp at hq)) | refine appK2_if (by omega) ?_ | refine pureV_if (by omega) ?_) <;> simp -implicitDefEqProofs [*, downTo])
theorem handle_Do_1 (x : Node) (m : Msg) (hs : x.small) (hl : m.ids.length ≤ cap) (h : doB x m = true) (hk : m.kind = 1) : Den PP 28 [nodeD x, msgD m] [] (.tup [copyD (takeI x m.item), .nil, .int .i64 0]) (nodeB (takeI x m.item)) := by
  have c1 := node_Up x hs
  have c2 := msg_May m hl
  obtain ⟨h1, h2, h3⟩ := doB_parts h
  have c4 := handler_item x m hs (by rw [h1, item_ok h2 hk]; rfl)
  rw [h1] at c1
  rw [h2] at c2
  have c3 := node_Copy x hs
  generalize takeI x m.item = y at *
  clear h h1 h2
  simp only [hBox, psB, xsB, nodeD, Node.cells, viewD, View.cells, peersD, intsD, itemsD, toldsD, Item.row, copyD, nodeB, noteD, noteB, msgD, Msg.row, hk, h3, List.map_cons, List.map_nil] at c1 c2 c3 c4 ⊢
  refine den_of [27] [43] is_handle_Do ?_
  simp -implicitDefEqProofs [c_handle_Do, h3, hk]
  repeat' ((first | refine callThen_of (by first | exact c1 | exact c2 | exact c3) ?_ | with_reducible refine gOps_dec (fun _ => ?_) (fun _ => ?_) | with_reducible refine gOps_ndec (fun _ => ?_) (fun _ => ?_) | (with_reducible refine gOps_and (fun hq => ?_) (fun hq => ?_) <;> (try simp at hq)) | (with_reducible refine gOps_or (fun hq => ?_) (fun hq => ?_) <;> (try simp at hq)) | (with_reducible refine gOps_not (fun hq => ?_) (fun hq => ?_) <;> (try simp at hq)) | (with_reducible refine gOps_split (fun hq => ?_) (fun hq => ?_) <;> (try simp at hq)) | with_reducible refine condC_dec (fun _ => ?_) (fun _ => ?_) | with_reducible refine condC_ndec (fun _ => ?_) (fun _ => ?_) | (with_reducible refine condC_and (fun hq => ?_) (fun hq => ?_) <;> (try simp at hq)) | (with_reducible refine condC_or (fun hq => ?_) (fun hq => ?_) <;> (try simp at hq)) | (with_reducible refine condC_not (fun hq => ?_) (fun hq => ?_) <;> (try simp at hq)) | (with_reducible refine condC_split (fun hq => ?_) (fun hq => ?_) <;> (try simp at hq)) | refine appK2_if (by omega) ?_ | refine pureV_if (by omega) ?_) <;> simp -implicitDefEqProofs [*, downTo, h3, hk])
  refine lendThen_frame [8, 4, 5, 6, 7] rfl (by decide) (by simp) c4 (by simp) (by simp [lentBs]) ?_
  simp -implicitDefEqProofs [framed]
  repeat' apply And.intro
  all_goals repeat' ((first | with_reducible refine gOps_dec (fun _ => ?_) (fun _ => ?_) | with_reducible refine gOps_ndec (fun _ => ?_) (fun _ => ?_) | (with_reducible refine gOps_and (fun hq => ?_) (fun hq => ?_) <;> (try simp at hq)) | (with_reducible refine gOps_or (fun hq => ?_) (fun hq => ?_) <;> (try simp at hq)) | (with_reducible refine gOps_not (fun hq => ?_) (fun hq => ?_) <;> (try simp at hq)) | (with_reducible refine gOps_split (fun hq => ?_) (fun hq => ?_) <;> (try simp at hq)) | with_reducible refine condC_dec (fun _ => ?_) (fun _ => ?_) | with_reducible refine condC_ndec (fun _ => ?_) (fun _ => ?_) | (with_reducible refine condC_and (fun hq => ?_) (fun hq => ?_) <;> (try simp at hq)) | (with_reducible refine condC_or (fun hq => ?_) (fun hq => ?_) <;> (try simp at hq)) | (with_reducible refine condC_not (fun hq => ?_) (fun hq => ?_) <;> (try simp at hq)) | (with_reducible refine condC_split (fun hq => ?_) (fun hq => ?_) <;> (try simp at hq)) | refine appK2_if (by omega) ?_ | refine pureV_if (by omega) ?_) <;> simp -implicitDefEqProofs [*, downTo])
theorem handle_Do_2 (x : Node) (m : Msg) (hs : x.small) (hl : m.ids.length ≤ cap) (h : doB x m = true) (hk : m.kind = 2) : ∃ kk : Kind, kk.isBox = false ∧ Den PP 28 [nodeD x, msgD m] [] (.tup [copyD x, .ref 4 0 1, .int .i64 0]) [⟨x.view.peers.map Peer.row, 2, kk⟩, ⟨x.view.passive.map irow, 1, kk⟩, ⟨x.items.map Item.row, 5, kk⟩, ⟨x.log.map Told.row, 3, kk⟩, ⟨[tellOf x m].map Msg.row0, 11, .mut⟩] := by
  have c1 := node_Up x hs
  have c2 := msg_May m hl
  obtain ⟨h1, h2, h3⟩ := doB_parts h
  have c4 := handler_ask x m hs hl (toB_ok h hk)
  rw [h1] at c1
  rw [h2] at c2
  have c3 := node_Copy x hs
  obtain ⟨kk, hkk, c4⟩ := c4
  refine ⟨kk, hkk, ?_⟩
  generalize tellOf x m = t at *
  clear h h1 h2
  simp only [hBox, psB, xsB, nodeD, Node.cells, viewD, View.cells, peersD, intsD, itemsD, toldsD, Item.row, copyD, nodeB, noteD, noteB, msgD, Msg.row, hk, h3, List.map_cons, List.map_nil] at c1 c2 c3 c4 ⊢
  refine den_of [27] [43] is_handle_Do ?_
  cases kk <;> simp [Kind.isBox] at hkk
  all_goals
    simp -implicitDefEqProofs [c_handle_Do, h3, hk]
    repeat' ((first | refine callThen_of (by first | exact c1 | exact c2 | exact c3) ?_ | with_reducible refine gOps_dec (fun _ => ?_) (fun _ => ?_) | with_reducible refine gOps_ndec (fun _ => ?_) (fun _ => ?_) | (with_reducible refine gOps_and (fun hq => ?_) (fun hq => ?_) <;> (try simp at hq)) | (with_reducible refine gOps_or (fun hq => ?_) (fun hq => ?_) <;> (try simp at hq)) | (with_reducible refine gOps_not (fun hq => ?_) (fun hq => ?_) <;> (try simp at hq)) | (with_reducible refine gOps_split (fun hq => ?_) (fun hq => ?_) <;> (try simp at hq)) | with_reducible refine condC_dec (fun _ => ?_) (fun _ => ?_) | with_reducible refine condC_ndec (fun _ => ?_) (fun _ => ?_) | (with_reducible refine condC_and (fun hq => ?_) (fun hq => ?_) <;> (try simp at hq)) | (with_reducible refine condC_or (fun hq => ?_) (fun hq => ?_) <;> (try simp at hq)) | (with_reducible refine condC_not (fun hq => ?_) (fun hq => ?_) <;> (try simp at hq)) | (with_reducible refine condC_split (fun hq => ?_) (fun hq => ?_) <;> (try simp at hq)) | refine appK2_if (by omega) ?_ | refine pureV_if (by omega) ?_) <;> simp -implicitDefEqProofs [*, downTo, h3, hk])
    refine lendThen_frame [8, 4, 5, 6, 7] rfl (by decide) (by simp) c4 (by simp) (by simp [lentBs]) ?_
    simp -implicitDefEqProofs [framed]
    repeat' apply And.intro
    all_goals repeat' ((first | with_reducible refine gOps_dec (fun _ => ?_) (fun _ => ?_) | with_reducible refine gOps_ndec (fun _ => ?_) (fun _ => ?_) | (with_reducible refine gOps_and (fun hq => ?_) (fun hq => ?_) <;> (try simp at hq)) | (with_reducible refine gOps_or (fun hq => ?_) (fun hq => ?_) <;> (try simp at hq)) | (with_reducible refine gOps_not (fun hq => ?_) (fun hq => ?_) <;> (try simp at hq)) | (with_reducible refine gOps_split (fun hq => ?_) (fun hq => ?_) <;> (try simp at hq)) | with_reducible refine condC_dec (fun _ => ?_) (fun _ => ?_) | with_reducible refine condC_ndec (fun _ => ?_) (fun _ => ?_) | (with_reducible refine condC_and (fun hq => ?_) (fun hq => ?_) <;> (try simp at hq)) | (with_reducible refine condC_or (fun hq => ?_) (fun hq => ?_) <;> (try simp at hq)) | (with_reducible refine condC_not (fun hq => ?_) (fun hq => ?_) <;> (try simp at hq)) | (with_reducible refine condC_split (fun hq => ?_) (fun hq => ?_) <;> (try simp at hq)) | refine appK2_if (by omega) ?_ | refine pureV_if (by omega) ?_) <;> simp -implicitDefEqProofs [*, downTo])
theorem handle_Do_3 (x : Node) (m : Msg) (hs : x.small) (hl : m.ids.length ≤ cap) (h : doB x m = true) (hk : m.kind = 3) : Den PP 28 [nodeD x, msgD m] [] (.tup [noteD x (logPre x (mT m)) (logOf x (mT m)), .nil, .int .i64 0]) (noteB x (logPre x (mT m)) (logOf x (mT m))) := by
  have c1 := node_Up x hs
  have c2 := msg_May m hl
  obtain ⟨h1, h2, h3⟩ := doB_parts h
  have c4 := handler_tell x m hs hl (toB_ok h hk)
  rw [h1] at c1
  rw [h2] at c2
  have c3 := node_Copy x hs
  generalize logPre x (mT m) = pre at *
  generalize logOf x (mT m) = xs at *
  clear h h1 h2
  simp only [hBox, psB, xsB, nodeD, Node.cells, viewD, View.cells, peersD, intsD, itemsD, toldsD, Item.row, copyD, nodeB, noteD, noteB, msgD, Msg.row, hk, h3, List.map_cons, List.map_nil] at c1 c2 c3 c4 ⊢
  refine den_of [27] [43] is_handle_Do ?_
  simp -implicitDefEqProofs [c_handle_Do, h3, hk]
  repeat' ((first | refine callThen_of (by first | exact c1 | exact c2 | exact c3) ?_ | with_reducible refine gOps_dec (fun _ => ?_) (fun _ => ?_) | with_reducible refine gOps_ndec (fun _ => ?_) (fun _ => ?_) | (with_reducible refine gOps_and (fun hq => ?_) (fun hq => ?_) <;> (try simp at hq)) | (with_reducible refine gOps_or (fun hq => ?_) (fun hq => ?_) <;> (try simp at hq)) | (with_reducible refine gOps_not (fun hq => ?_) (fun hq => ?_) <;> (try simp at hq)) | (with_reducible refine gOps_split (fun hq => ?_) (fun hq => ?_) <;> (try simp at hq)) | with_reducible refine condC_dec (fun _ => ?_) (fun _ => ?_) | with_reducible refine condC_ndec (fun _ => ?_) (fun _ => ?_) | (with_reducible refine condC_and (fun hq => ?_) (fun hq => ?_) <;> (try simp at hq)) | (with_reducible refine condC_or (fun hq => ?_) (fun hq => ?_) <;> (try simp at hq)) | (with_reducible refine condC_not (fun hq => ?_) (fun hq => ?_) <;> (try simp at hq)) | (with_reducible refine condC_split (fun hq => ?_) (fun hq => ?_) <;> (try simp at hq)) | refine appK2_if (by omega) ?_ | refine pureV_if (by omega) ?_) <;> simp -implicitDefEqProofs [*, downTo, h3, hk])
  refine lendThen_frame [8, 4, 5, 6, 7] rfl (by decide) (by simp) c4 (by simp) (by simp [lentBs]) ?_
  simp -implicitDefEqProofs [framed]
  repeat' apply And.intro
  all_goals repeat' ((first | with_reducible refine gOps_dec (fun _ => ?_) (fun _ => ?_) | with_reducible refine gOps_ndec (fun _ => ?_) (fun _ => ?_) | (with_reducible refine gOps_and (fun hq => ?_) (fun hq => ?_) <;> (try simp at hq)) | (with_reducible refine gOps_or (fun hq => ?_) (fun hq => ?_) <;> (try simp at hq)) | (with_reducible refine gOps_not (fun hq => ?_) (fun hq => ?_) <;> (try simp at hq)) | (with_reducible refine gOps_split (fun hq => ?_) (fun hq => ?_) <;> (try simp at hq)) | with_reducible refine condC_dec (fun _ => ?_) (fun _ => ?_) | with_reducible refine condC_ndec (fun _ => ?_) (fun _ => ?_) | (with_reducible refine condC_and (fun hq => ?_) (fun hq => ?_) <;> (try simp at hq)) | (with_reducible refine condC_or (fun hq => ?_) (fun hq => ?_) <;> (try simp at hq)) | (with_reducible refine condC_not (fun hq => ?_) (fun hq => ?_) <;> (try simp at hq)) | (with_reducible refine condC_split (fun hq => ?_) (fun hq => ?_) <;> (try simp at hq)) | refine appK2_if (by omega) ?_ | refine pureV_if (by omega) ?_) <;> simp -implicitDefEqProofs [*, downTo])
end Go.AM
/- AM: the statement TopHears. -/
namespace Go.AM
set_option linter.unusedSimpArgs false
set_option linter.unusedVariables false
set_option maxRecDepth 8000
set_option maxHeartbeats 0
def zeroN : Node := ⟨false, ⟨0, [], []⟩, [], []⟩
theorem small_zeroN : zeroN.small := by unfold Node.small View.small cap16 cap zeroN; simp
theorem topHears_no (x : Node) (m : Msg) (hs : x.small) (hl : m.ids.length ≤ cap) (h : doB x m = false) : Den PP 9 [nodeD x, msgD m] [] (.bool true) [] := by
  have a1 := handle_Do_no x m hs hl h
  have n1 := law_SameNode zeroN zeroN small_zeroN
  clear h
  simp only [nodeD, Node.cells, viewD, View.cells, peersD, intsD, itemsD, toldsD, Item.row, noteD, noteB, copyD, nodeB, msgsD, msgD, Msg.row, zeroN, List.map_nil, List.map_cons, List.length_nil, List.length_cons, List.nil_append, List.cons_append] at a1 n1 ⊢
  refine den_of [] [] is_gimmaltop_TopHears ?_
  simp -implicitDefEqProofs [c_gimmaltop_TopHears, Msg.row]
  repeat' ((first | refine callThen_of (by first | exact awake | exact a1 | exact n1 | exact den_nrm (n1) | exact den_nrm (by simpa using n1) | exact law_Num _) ?_ | with_reducible refine gOps_dec (fun _ => ?_) (fun _ => ?_) | with_reducible refine gOps_ndec (fun _ => ?_) (fun _ => ?_) | (with_reducible refine gOps_and (fun hq => ?_) (fun hq => ?_) <;> (try simp at hq)) | (with_reducible refine gOps_or (fun hq => ?_) (fun hq => ?_) <;> (try simp at hq)) | (with_reducible refine gOps_not (fun hq => ?_) (fun hq => ?_) <;> (try simp at hq)) | (with_reducible refine gOps_split (fun hq => ?_) (fun hq => ?_) <;> (try simp at hq)) | with_reducible refine condC_dec (fun _ => ?_) (fun _ => ?_) | with_reducible refine condC_ndec (fun _ => ?_) (fun _ => ?_) | (with_reducible refine condC_and (fun hq => ?_) (fun hq => ?_) <;> (try simp at hq)) | (with_reducible refine condC_or (fun hq => ?_) (fun hq => ?_) <;> (try simp at hq)) | (with_reducible refine condC_not (fun hq => ?_) (fun hq => ?_) <;> (try simp at hq)) | (with_reducible refine condC_split (fun hq => ?_) (fun hq => ?_) <;> (try simp at hq)) | refine appK2_if (by omega) ?_ | refine pureV_if (by omega) ?_) <;> simp -implicitDefEqProofs [*, downTo])
theorem topHears_0 (x : Node) (m : Msg) (hs : x.small) (hl : m.ids.length ≤ cap) (h : doB x m = true) (hk : m.kind = 0) : Den PP 9 [nodeD x, msgD m] [] (.bool true) [] := by
  have g0 := law_CopyNode x hs
  obtain ⟨h1, h2, h3⟩ := doB_parts h
  obtain ⟨p1, p2, p3, p4, p5⟩ := nodeUp_parts h1
  have hok := hello_ok h1 h2 hk h3
  obtain ⟨m1, m2⟩ := helloV_may hok
  have hu : nodeUp { x with view := helloV x.view m.from_ m.ids } = true := nodeUp_of p1 m1 p3 p4 p5
  have a1 := handle_Do_0 x m hs hl h hk
  have a2 := hello_Take x.view m.from_ m.ids hs.1 hok
  have hid : (helloV x.view m.from_ m.ids).id = x.view.id := m2
  generalize helloV x.view m.from_ m.ids = w at *
  have n1 := law_SameNode { x with view := w } { x with view := w } (nodeUp_small2 hu)
  clear hok m1 m2 hu h h1 h2 h3 p1 p2 p3 p4 p5
  simp only [psB, xsB, nodeD, Node.cells, viewD, View.cells, peersD, intsD, itemsD, toldsD, Item.row, noteD, noteB, copyD, nodeB, msgsD, msgD, Msg.row, zeroN, List.map_nil, List.map_cons, List.length_nil, List.length_cons, List.nil_append, List.cons_append, hk, hid] at g0 a1 a2 n1 ⊢
  refine den_of [] [] is_gimmaltop_TopHears ?_
  simp -implicitDefEqProofs [c_gimmaltop_TopHears, Msg.row, hk]
  repeat' ((first | refine callThen_of (by first | exact awake | exact g0 | exact a1 | exact a2 | exact n1 | exact den_nrm (n1) | exact den_nrm (by simpa using n1) | exact law_Num _) ?_ | with_reducible refine gOps_dec (fun _ => ?_) (fun _ => ?_) | with_reducible refine gOps_ndec (fun _ => ?_) (fun _ => ?_) | (with_reducible refine gOps_and (fun hq => ?_) (fun hq => ?_) <;> (try simp at hq)) | (with_reducible refine gOps_or (fun hq => ?_) (fun hq => ?_) <;> (try simp at hq)) | (with_reducible refine gOps_not (fun hq => ?_) (fun hq => ?_) <;> (try simp at hq)) | (with_reducible refine gOps_split (fun hq => ?_) (fun hq => ?_) <;> (try simp at hq)) | with_reducible refine condC_dec (fun _ => ?_) (fun _ => ?_) | with_reducible refine condC_ndec (fun _ => ?_) (fun _ => ?_) | (with_reducible refine condC_and (fun hq => ?_) (fun hq => ?_) <;> (try simp at hq)) | (with_reducible refine condC_or (fun hq => ?_) (fun hq => ?_) <;> (try simp at hq)) | (with_reducible refine condC_not (fun hq => ?_) (fun hq => ?_) <;> (try simp at hq)) | (with_reducible refine condC_split (fun hq => ?_) (fun hq => ?_) <;> (try simp at hq)) | refine appK2_if (by omega) ?_ | refine pureV_if (by omega) ?_) <;> simp -implicitDefEqProofs [*, downTo, hk])
theorem topHears_1 (x : Node) (m : Msg) (hs : x.small) (hl : m.ids.length ≤ cap) (h : doB x m = true) (hk : m.kind = 1) : Den PP 9 [nodeD x, msgD m] [] (.bool true) [] := by
  have g0 := law_CopyNode x hs
  obtain ⟨h1, h2, h3⟩ := doB_parts h
  obtain ⟨l1, l2, l3, l4⟩ := nodeUp_small h1
  have hu : nodeUp (takeI x m.item) = true := takeI_up h1
  have a1 := handle_Do_1 x m hs hl h hk
  have a2 := take_Item x m.item hs (by rw [h1, item_ok h2 hk]; rfl)
  have a3 := store_Put x.items m.item (by unfold cap16; omega)
  have hsame : (putR x.items m.item).2 = 0 → (putR x.items m.item).1 = (takeI x m.item).items := fun h => by unfold takeI; rw [if_pos h]
  generalize putR x.items m.item = r at *
  obtain ⟨is, e⟩ := r
  obtain ⟨u1, u2, u3, u4⟩ := nodeUp_small hu
  generalize takeI x m.item = y at *
  have n1 := law_SameNode y y (nodeUp_small2 hu)
  simp only at hsame a3
  have i1 := fun h : e = 0 => law_SameItems is y.items (by rw [hsame h]; unfold cap; omega)
  have i2 : e = 0 → decide (is = y.items) = true := fun h => by simp [hsame h]
  clear hu h h1 h2 h3 l1 l2 l3 l4 u1 u2 u3 u4 hsame
  simp only [nodeD, Node.cells, viewD, View.cells, peersD, intsD, itemsD, toldsD, Item.row, noteD, noteB, copyD, nodeB, msgsD, msgD, Msg.row, zeroN, List.map_nil, List.map_cons, List.length_nil, List.length_cons, List.nil_append, List.cons_append, hk] at g0 a1 a2 a3 n1 i1 ⊢
  refine den_of [] [] is_gimmaltop_TopHears ?_
  simp -implicitDefEqProofs [c_gimmaltop_TopHears, Msg.row, hk]
  by_cases he : e = 0
  · have i1 := i1 he
    obtain rfl : is = y.items := of_decide_eq_true (i2 he)
    subst he
    clear i2
    repeat' ((first | refine callThen_of (by first | exact awake | exact g0 | exact a1 | exact a2 | exact a3 | exact n1 | exact den_nrm (n1) | exact den_nrm (by simpa using n1) | exact i1 | exact den_nrm (i1) | exact den_nrm (by simpa using i1) | exact law_Num _) ?_ | with_reducible refine gOps_dec (fun _ => ?_) (fun _ => ?_) | with_reducible refine gOps_ndec (fun _ => ?_) (fun _ => ?_) | (with_reducible refine gOps_and (fun hq => ?_) (fun hq => ?_) <;> (try simp at hq)) | (with_reducible refine gOps_or (fun hq => ?_) (fun hq => ?_) <;> (try simp at hq)) | (with_reducible refine gOps_not (fun hq => ?_) (fun hq => ?_) <;> (try simp at hq)) | (with_reducible refine gOps_split (fun hq => ?_) (fun hq => ?_) <;> (try simp at hq)) | with_reducible refine condC_dec (fun _ => ?_) (fun _ => ?_) | with_reducible refine condC_ndec (fun _ => ?_) (fun _ => ?_) | (with_reducible refine condC_and (fun hq => ?_) (fun hq => ?_) <;> (try simp at hq)) | (with_reducible refine condC_or (fun hq => ?_) (fun hq => ?_) <;> (try simp at hq)) | (with_reducible refine condC_not (fun hq => ?_) (fun hq => ?_) <;> (try simp at hq)) | (with_reducible refine condC_split (fun hq => ?_) (fun hq => ?_) <;> (try simp at hq)) | refine appK2_if (by omega) ?_ | refine pureV_if (by omega) ?_) <;> simp -implicitDefEqProofs [*, downTo, hk])
  · clear i1 i2
    repeat' ((first | refine callThen_of (by first | exact awake | exact g0 | exact a1 | exact a2 | exact a3 | exact n1 | exact den_nrm (n1) | exact den_nrm (by simpa using n1) | exact law_Num _) ?_ | with_reducible refine gOps_dec (fun _ => ?_) (fun _ => ?_) | with_reducible refine gOps_ndec (fun _ => ?_) (fun _ => ?_) | (with_reducible refine gOps_and (fun hq => ?_) (fun hq => ?_) <;> (try simp at hq)) | (with_reducible refine gOps_or (fun hq => ?_) (fun hq => ?_) <;> (try simp at hq)) | (with_reducible refine gOps_not (fun hq => ?_) (fun hq => ?_) <;> (try simp at hq)) | (with_reducible refine gOps_split (fun hq => ?_) (fun hq => ?_) <;> (try simp at hq)) | with_reducible refine condC_dec (fun _ => ?_) (fun _ => ?_) | with_reducible refine condC_ndec (fun _ => ?_) (fun _ => ?_) | (with_reducible refine condC_and (fun hq => ?_) (fun hq => ?_) <;> (try simp at hq)) | (with_reducible refine condC_or (fun hq => ?_) (fun hq => ?_) <;> (try simp at hq)) | (with_reducible refine condC_not (fun hq => ?_) (fun hq => ?_) <;> (try simp at hq)) | (with_reducible refine condC_split (fun hq => ?_) (fun hq => ?_) <;> (try simp at hq)) | refine appK2_if (by omega) ?_ | refine pureV_if (by omega) ?_) <;> simp -implicitDefEqProofs [*, downTo, hk, he])
theorem topHears_2 (x : Node) (m : Msg) (hs : x.small) (hl : m.ids.length ≤ cap) (h : doB x m = true) (hk : m.kind = 2) : Den PP 9 [nodeD x, msgD m] [] (.bool true) [] := by
  have g0 := law_CopyNode x hs
  obtain ⟨kk, hkk, a1⟩ := handle_Do_2 x m hs hl h hk
  have a2 := ask_Answer_ok x m hs hl (toB_ok h hk)
  generalize hw : tellOf x m = w at *
  have hwi : w.ids = [] := by rw [← hw]; rfl
  clear hw
  have hwb : w.bare = w := by cases w; simp only at hwi; subst hwi; rfl
  have m2 := law_SameMsgs [w] [w] (by unfold cap16; simp) (by intro y hy; rw [List.mem_singleton.1 hy, hwi]; simp)
  have n1 := law_SameNode x x hs
  clear hwi h
  simp only [nodeD, Node.cells, viewD, View.cells, peersD, intsD, itemsD, toldsD, Item.row, noteD, noteB, copyD, nodeB, msgsD, msgD, Msg.row, zeroN, List.map_nil, List.map_cons, List.length_nil, List.length_cons, List.nil_append, List.cons_append, hk] at g0 a1 a2 n1 ⊢
  simp only [msgsD, List.map_nil, List.map_cons, List.length_nil, List.length_cons] at m2
  refine den_of [] [] is_gimmaltop_TopHears ?_
  simp -implicitDefEqProofs [c_gimmaltop_TopHears, Msg.row, hk, hwb]
  cases kk <;> simp [Kind.isBox] at hkk
  all_goals
    repeat' ((first | refine callThen_of (by first | exact awake | exact g0 | exact a1 | exact a2 | exact n1 | exact den_nrm (n1) | exact den_nrm (by simpa using n1) | exact law_Num _) ?_ | with_reducible refine gOps_dec (fun _ => ?_) (fun _ => ?_) | with_reducible refine gOps_ndec (fun _ => ?_) (fun _ => ?_) | (with_reducible refine gOps_and (fun hq => ?_) (fun hq => ?_) <;> (try simp at hq)) | (with_reducible refine gOps_or (fun hq => ?_) (fun hq => ?_) <;> (try simp at hq)) | (with_reducible refine gOps_not (fun hq => ?_) (fun hq => ?_) <;> (try simp at hq)) | (with_reducible refine gOps_split (fun hq => ?_) (fun hq => ?_) <;> (try simp at hq)) | with_reducible refine condC_dec (fun _ => ?_) (fun _ => ?_) | with_reducible refine condC_ndec (fun _ => ?_) (fun _ => ?_) | (with_reducible refine condC_and (fun hq => ?_) (fun hq => ?_) <;> (try simp at hq)) | (with_reducible refine condC_or (fun hq => ?_) (fun hq => ?_) <;> (try simp at hq)) | (with_reducible refine condC_not (fun hq => ?_) (fun hq => ?_) <;> (try simp at hq)) | (with_reducible refine condC_split (fun hq => ?_) (fun hq => ?_) <;> (try simp at hq)) | refine appK2_if (by omega) ?_ | refine pureV_if (by omega) ?_) <;> simp -implicitDefEqProofs [*, downTo, hk, hwb])
    refine callThen_nil rfl m2 (by have := nrmLL_mrow0 [w]; simpa [hwb] using this) ?_
    simp -implicitDefEqProofs
theorem topHears_3 (x : Node) (m : Msg) (hs : x.small) (hl : m.ids.length ≤ cap) (h : doB x m = true) (hk : m.kind = 3) : Den PP 9 [nodeD x, msgD m] [] (.bool true) [] := by
  have g0 := law_CopyNode x hs
  obtain ⟨h1, h2, h3⟩ := doB_parts h
  obtain ⟨l1, l2, l3, l4⟩ := nodeUp_small h1
  have a1 := handle_Do_3 x m hs hl h hk
  have a2 := ask_Told_ok x m hs hl (toB_ok h hk)
  obtain ⟨d0, d1, d2⟩ := log_len x (mT m)
  have hsm : ({ x with log := logOf x (mT m) } : Node).small := ⟨hs.1, hs.2.1, by have := hs.2.2; unfold cap at *; simp only at *; omega⟩
  generalize logOf x (mT m) = ys at *
  generalize logPre x (mT m) = pre at *
  have n1 := law_SameNode { x with log := ys } { x with log := ys } hsm
  clear d0 d1 d2 hsm h h1 h2 h3 l1 l2 l3 l4
  simp only [nodeD, Node.cells, viewD, View.cells, peersD, intsD, itemsD, toldsD, Item.row, noteD, noteB, copyD, nodeB, msgsD, msgD, Msg.row, zeroN, List.map_nil, List.map_cons, List.length_nil, List.length_cons, List.nil_append, List.cons_append, hk] at g0 a1 a2 n1 ⊢
  refine den_of [] [] is_gimmaltop_TopHears ?_
  simp -implicitDefEqProofs [c_gimmaltop_TopHears, Msg.row, hk]
  repeat' ((first | refine callThen_of (by first | exact awake | exact g0 | exact a1 | exact a2 | exact n1 | exact den_nrm (n1) | exact den_nrm (by simpa using n1) | exact law_Num _) ?_ | with_reducible refine gOps_dec (fun _ => ?_) (fun _ => ?_) | with_reducible refine gOps_ndec (fun _ => ?_) (fun _ => ?_) | (with_reducible refine gOps_and (fun hq => ?_) (fun hq => ?_) <;> (try simp at hq)) | (with_reducible refine gOps_or (fun hq => ?_) (fun hq => ?_) <;> (try simp at hq)) | (with_reducible refine gOps_not (fun hq => ?_) (fun hq => ?_) <;> (try simp at hq)) | (with_reducible refine gOps_split (fun hq => ?_) (fun hq => ?_) <;> (try simp at hq)) | with_reducible refine condC_dec (fun _ => ?_) (fun _ => ?_) | with_reducible refine condC_ndec (fun _ => ?_) (fun _ => ?_) | (with_reducible refine condC_and (fun hq => ?_) (fun hq => ?_) <;> (try simp at hq)) | (with_reducible refine condC_or (fun hq => ?_) (fun hq => ?_) <;> (try simp at hq)) | (with_reducible refine condC_not (fun hq => ?_) (fun hq => ?_) <;> (try simp at hq)) | (with_reducible refine condC_split (fun hq => ?_) (fun hq => ?_) <;> (try simp at hq)) | refine appK2_if (by omega) ?_ | refine pureV_if (by omega) ?_) <;> simp -implicitDefEqProofs [*, downTo, hk])
theorem topHears (x : Node) (m : Msg) (hs : x.small) (hl : m.ids.length ≤ cap) : Den PP 9 [nodeD x, msgD m] [] (.bool true) [] := by
  cases h : doB x m with
  | false => exact topHears_no x m hs hl h
  | true =>
    rcases kind_cases (doB_parts h).2.1 with hk | hk | hk | hk
    · exact topHears_0 x m hs hl h hk
    · exact topHears_1 x m hs hl h hk
    · exact topHears_2 x m hs hl h hk
    · exact topHears_3 x m hs hl h hk
end Go.AM
/- AM: messages handed in. -/
namespace Go.AM
set_option linter.unusedSimpArgs false
set_option linter.unusedVariables false
set_option maxRecDepth 8000
set_option maxHeartbeats 0
def Msg.tame (m : Msg) : Prop := m.ids.length * 8 ≤ 140737488351232 ∧ (∀ x ∈ m.ids, in64 x) ∧ in64 m.kind ∧ in64 m.from_ ∧ in64 m.to ∧ in64 m.key ∧ m.item.tame
theorem Msg.tame.ids {m : Msg} (h : m.tame) : m.ids.length ≤ cap := by
  have := h.1
  unfold cap
  omega
theorem tell_Msg {n : Nat} {cs : List D} (h : Tell TT (n + 4) 68 cs) : ∃ m : Msg, cs = m.row ∧ m.tame := by
  unfold Tell at h
  simp [Tell.TellFs] at h
  obtain ⟨a, r1, rfl, h1, b, r2, rfl, h2, c, r3, rfl, h3, d, r4, rfl, h4, e, r5, rfl, h5, f, g, rfl, h6, h7⟩ := h
  obtain ⟨k, rfl, hk⟩ := tell_int h1
  obtain ⟨u, rfl, hu⟩ := tell_int h2
  obtain ⟨v, rfl, hv⟩ := tell_int h3
  obtain ⟨is, rfl, h8, h9⟩ := tell_ints h4
  obtain ⟨w, rfl, hw⟩ := tell_int h5
  obtain ⟨i, rfl, hi⟩ := tell_Item h6
  obtain ⟨b, rfl⟩ := tell_bool h7
  exact ⟨⟨k, u, v, is, w, i, b⟩, rfl, h8, h9, hk, hu, hv, hw, hi⟩
theorem arg_Msg {n : Nat} {d : D} (h : TellArg TT (n + 4) 68 d) : ∃ m : Msg, d = msgD m ∧ m.tame := by
  simp [TellArg] at h
  obtain ⟨cs, rfl, h⟩ := h
  obtain ⟨v, rfl, hv⟩ := tell_Msg h
  exact ⟨v, rfl, hv⟩
end Go.AM
