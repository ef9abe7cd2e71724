/- What the proof of this claim stands on, part 12. -/
import Derived.Test.YtehagcggdepajaaGreatAmZ11
/- AM: the statement TopTicks. -/
namespace Go.AM
set_option linter.unusedSimpArgs false
set_option linter.unusedVariables false
set_option maxRecDepth 8000
set_option maxHeartbeats 0
theorem topTicks_no (x : Node) (hs : x.small) (h : nodeUp x = false) : Den PP 8 [nodeD x] [] (.bool true) [] := by
  have a1 := tick_Step_no x hs h
  cases hv : viewMay x.view with
  | false =>
    have a2 := age_Tick_no x.view hs.1 hv
    simp only [nodeD, Node.cells, viewD, View.cells, peersD, intsD, itemsD, toldsD] at a1 a2 ⊢
    refine den_of [] [] is_gimmaltop_TopTicks ?_
    simp -implicitDefEqProofs [c_gimmaltop_TopTicks]
    repeat' ((first | refine callThen_of (by first | exact awake | exact a1 | exact a2 | exact law_Num _) ?_ | with_reducible refine gOps_dec (fun _ => ?_) (fun _ => ?_) | with_reducible refine gOps_ndec (fun _ => ?_) (fun _ => ?_) | (with_reducible refine gOps_and (fun hq => ?_) (fun hq => ?_) <;> (try simp at hq)) | (with_reducible refine gOps_or (fun hq => ?_) (fun hq => ?_) <;> (try simp at hq)) | (with_reducible refine gOps_not (fun hq => ?_) (fun hq => ?_) <;> (try simp at hq)) | (with_reducible refine gOps_split (fun hq => ?_) (fun hq => ?_) <;> (try simp at hq)) | with_reducible refine condC_dec (fun _ => ?_) (fun _ => ?_) | with_reducible refine condC_ndec (fun _ => ?_) (fun _ => ?_) | (with_reducible refine condC_and (fun hq => ?_) (fun hq => ?_) <;> (try simp at hq)) | (with_reducible refine condC_or (fun hq => ?_) (fun hq => ?_) <;> (try simp at hq)) | (with_reducible refine condC_not (fun hq => ?_) (fun hq => ?_) <;> (try simp at hq)) | (with_reducible refine condC_split (fun hq => ?_) (fun hq => ?_) <;> (try simp at hq)) | refine appK2_if (by omega) ?_ | refine pureV_if (by omega) ?_) <;> simp -implicitDefEqProofs [*, downTo])
  | true =>
    have a2 := age_Tick x.view hv
    generalize greetV (ageV x.view) = gs at *
    generalize ageV x.view = w at *
    simp only [nodeD, Node.cells, viewD, View.cells, peersD, intsD, itemsD, toldsD] at a1 a2 ⊢
    refine den_of [] [] is_gimmaltop_TopTicks ?_
    simp -implicitDefEqProofs [c_gimmaltop_TopTicks]
    repeat' ((first | refine callThen_of (by first | exact awake | exact a1 | exact a2 | exact law_Num _) ?_ | with_reducible refine gOps_dec (fun _ => ?_) (fun _ => ?_) | with_reducible refine gOps_ndec (fun _ => ?_) (fun _ => ?_) | (with_reducible refine gOps_and (fun hq => ?_) (fun hq => ?_) <;> (try simp at hq)) | (with_reducible refine gOps_or (fun hq => ?_) (fun hq => ?_) <;> (try simp at hq)) | (with_reducible refine gOps_not (fun hq => ?_) (fun hq => ?_) <;> (try simp at hq)) | (with_reducible refine gOps_split (fun hq => ?_) (fun hq => ?_) <;> (try simp at hq)) | with_reducible refine condC_dec (fun _ => ?_) (fun _ => ?_) | with_reducible refine condC_ndec (fun _ => ?_) (fun _ => ?_) | (with_reducible refine condC_and (fun hq => ?_) (fun hq => ?_) <;> (try simp at hq)) | (with_reducible refine condC_or (fun hq => ?_) (fun hq => ?_) <;> (try simp at hq)) | (with_reducible refine condC_not (fun hq => ?_) (fun hq => ?_) <;> (try simp at hq)) | (with_reducible refine condC_split (fun hq => ?_) (fun hq => ?_) <;> (try simp at hq)) | refine appK2_if (by omega) ?_ | refine pureV_if (by omega) ?_) <;> simp -implicitDefEqProofs [*, downTo])
theorem share_ids {x : Node} {m : Msg} (h : m ∈ (shareOf x).1) : m.ids = [] := by
  unfold shareOf at h
  split at h
  · obtain ⟨i, -, hi⟩ := List.mem_filterMap.1 h
    unfold shareOne at hi
    generalize (if (ownerV x.view i.key).1 = x.view.id then (succV x.view).1 else (ownerV x.view i.key).1) = to at hi
    by_cases hc : to = x.view.id
    · rw [if_pos hc] at hi; cases hi
    · rw [if_neg hc] at hi; cases hi; rfl
  · cases h
structure MsRows (w : View) (gs : List Int) (ms : List Msg) (R : List (List D)) : Prop where
  at_ : ∀ (i : Nat) (y : Int), gs[i]? = some y → R[i]? = some (greetR w y)
  drop : R.drop gs.length = ms.map Msg.row0
  len : R.length = gs.length + ms.length
  row : ∀ r ∈ R, r.length = 11
  nrm : nrmLL (ms.map Msg.row0) = ms.map Msg.row
theorem topTicks_yes (x : Node) (h : nodeUp x = true) : Den PP 8 [nodeD x] [] (.bool true) [] := by
  obtain ⟨p1, p2, p3, p4, p5⟩ := nodeUp_parts h
  obtain ⟨v1, v2, v3⟩ := ageV_spec p2
  have hs := nodeUp_small2 h
  obtain ⟨l1, l2, l3, l4⟩ := nodeUp_small h
  have hu : nodeUp (tickN x) = true := nodeUp_of p1 v1 p3 p4 p5
  have hm : nodeMay (tickN x) = true := by
    have := hu
    simp only [nodeUp, Bool.and_eq_true] at this
    exact this.2
  have a1 := tick_Step x h
  have a2 := age_Tick x.view p2
  have g0 := law_CopyNode x hs
  have a3 := share_Of (tickN x) (nodeUp_small2 hu)
  have n1 := law_SameNode (tickN x) (tickN x) (nodeUp_small2 hu)
  have b1 := node_May (tickN x) (nodeUp_small2 hu)
  rw [hm] at b1
  have hgl : (greetV (ageV x.view)).length ≤ 16 := by have := (viewMay_parts v1).2.2.1; unfold greetV; simp; omega
  have hsl : (shareOf (tickN x)).1.length ≤ 16 := by
    have h1 : (shareOf (tickN x)).1.length ≤ x.items.length := by
      unfold shareOf
      rw [hu]
      exact List.length_filterMap_le ..
    omega
  have hid : ∀ m ∈ (shareOf (tickN x)).1, m.ids = [] := fun m hm => share_ids hm
  have e0 : (shareOf (tickN x)).2 = 0 := by unfold shareOf; rw [hu]; rfl
  rw [e0] at a3
  generalize (shareOf (tickN x)).1 = ms at *
  have hb : ms.map Msg.bare = ms := by
    rw [List.map_congr_left (g := id) (fun m hm => ?_), List.map_id]
    have := hid m hm
    cases m
    simp only at this
    subst this
    rfl
  have m2 := law_SameMsgs ms ms (by unfold cap16; omega) (by intro m hm; rw [hid m hm]; simp)
  have hnm := nrmLL_mrow0 ms
  rw [hb] at hnm
  have e7 : (ageV x.view).id = x.view.id := rfl
  unfold tickN at a1 a3 n1 b1
  clear hid hb e0 hm hu v1 v2 v3 p1 p2 p3 p4 p5 h
  generalize ageV x.view = w at *
  generalize greetV w = gs at *
  have r1 : ∀ (i : Nat) (y : Int), gs[i]? = some y → (greetsR w gs ++ ms.map Msg.row0)[i]? = some (greetR w y) := by
    intro i y hy
    have hlt := (List.getElem?_eq_some_iff.1 hy).1
    rw [List.getElem?_append_left (by simp [greetsR]; exact hlt)]
    simp [greetsR, hy]
  have r2 : (greetsR w gs ++ ms.map Msg.row0).drop gs.length = ms.map Msg.row0 := List.drop_left' (by simp [greetsR])
  have r3 : (greetsR w gs ++ ms.map Msg.row0).length = gs.length + ms.length := by simp [greetsR]
  have r4 : ∀ r ∈ (greetsR w gs ++ ms.map Msg.row0), r.length = 11 := by
    intro r hr
    rcases List.mem_append.1 hr with h | h
    · obtain ⟨_, _, rfl⟩ := List.mem_map.1 h; rfl
    · obtain ⟨_, _, rfl⟩ := List.mem_map.1 h; rfl
  have hR : MsRows w gs ms (greetsR w gs ++ ms.map Msg.row0) := ⟨r1, r2, r3, r4, hnm⟩
  clear r1 r2 r3 r4 hnm
  generalize (greetsR w gs ++ ms.map Msg.row0) = R at *
  simp only [nodeD, Node.cells, viewD, View.cells, peersD, intsD, itemsD, toldsD, msgsD, e7] at a1 a2 a3 g0 n1 b1 m2 ⊢
  refine den_of [] [] is_gimmaltop_TopTicks ?_
  simp -implicitDefEqProofs [c_gimmaltop_TopTicks]
  have hwl : IntKind.wrap .i64 ((gs.length : Int) + ms.length) = (gs.length : Int) + ms.length := wrap_in (by omega) (by omega)
  clear hs l1 l2 l3 l4
  refine callThen_of awake ?_
  simp -implicitDefEqProofs
  refine callThen_of a1 ?_
  simp -implicitDefEqProofs [downTo]
  refine callThen_of a2 ?_
  simp -implicitDefEqProofs [downTo]
  refine callThen_of (law_Num _) ?_
  simp -implicitDefEqProofs [downTo]
  refine callThen_of (law_Num _) ?_
  simp -implicitDefEqProofs [downTo]
  refine callThen_of g0 ?_
  simp -implicitDefEqProofs [downTo]
  refine callThen_of a3 ?_
  simp -implicitDefEqProofs [downTo]
  refine callThen_of (law_Num _) ?_
  simp -implicitDefEqProofs [downTo]
  refine callThen_of n1 ?_
  simp -implicitDefEqProofs [downTo, hR.len, hwl]
  refine callThen_of b1 ?_
  simp -implicitDefEqProofs [downTo]
  refine list_rule gs (fun i rest => fun ⟨fr, bs⟩ => fr 4 = .sl R (gs.length + ms.length) ∧ fr 7 = .sl (gs.map irow) gs.length ∧ fr 10 = .sl (ms.map Msg.row0) ms.length ∧ fr 12 = .int .i64 i)
    (fun ⟨fr, bs⟩ => fr 4 = .sl R (gs.length + ms.length) ∧ fr 7 = .sl (gs.map irow) gs.length ∧ fr 10 = .sl (ms.map Msg.row0) ms.length) (fun _ => False) c_gimmaltop_TopTicks_L0.eq_1 ?_ ?_ ?_ ?_ ?_
  · exact ⟨rfl, rfl, rfl, rfl⟩
  · rintro i ⟨fr, bs⟩ hi ⟨h4, h7, h10, h12⟩
    subst hi
    simp -implicitDefEqProofs [h4, h7, h10, h12]
  · rintro i y rest ⟨fr, bs⟩ hlt hget hg hd hd2 ⟨h4, h7, h10, h12⟩
    have hlt' : (i : Int) < gs.length := by omega
    have hRi := hR.at_ i y hget
    have hRl : i < R.length := by rw [hR.len]; omega
    have hRg : ∀ h : i < R.length, R[i] = greetR w y := fun h => by
      rw [List.getElem?_eq_getElem h] at hRi
      exact Option.some.inj hRi
    have hlt2 : (i : Int) < (gs.length : Int) + ms.length := by omega
    simp -implicitDefEqProofs [h4, h7, h10, h12, hlt, hlt', hlt2, hget, hg, hRi, hRl, hRg, greetR, irow]
    exact wrap_in (by omega) (by omega)
  · rintro ⟨fr, bs⟩ ⟨h4, h7, h10⟩
    have e : ((gs.length : Int) + ms.length - gs.length).toNat = ms.length := by omega
    have hrr : (∀ r ∈ R, r.length = 11) = True := eq_true hR.row
    have hle : (gs.length : Int) ≤ (gs.length : Int) + ms.length := by omega
    simp -implicitDefEqProofs [h4, h7, h10, sliceD, boundD, hR.len, hR.drop, hrr, e, hle]
    refine callThen_nil rfl m2 (by simp only [List.map_cons, List.map_nil, D.nrm, hR.nrm]) ?_
    simp -implicitDefEqProofs
  · rintro ⟨fr, bs⟩ h
    exact h.elim
theorem topTicks (x : Node) (hs : x.small) : Den PP 8 [nodeD x] [] (.bool true) [] := by
  cases h : nodeUp x with
  | false => exact topTicks_no x hs h
  | true => exact topTicks_yes x h
end Go.AM
