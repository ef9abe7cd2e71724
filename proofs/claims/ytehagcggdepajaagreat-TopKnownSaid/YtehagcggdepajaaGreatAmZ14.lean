/- What the proof of this claim stands on, part 14. -/
import Derived.Test.YtehagcggdepajaaGreatAmZ13
/- AM: worlds, acts handed in. -/
namespace Go.AM
set_option linter.unusedSimpArgs false
set_option linter.unusedVariables false
set_option maxRecDepth 8000
set_option maxHeartbeats 0
def Msg.tame (m : Msg) : Prop := m.ids.length * 8 ≤ 140737488351232 ∧ (∀ x ∈ m.ids, in64 x) ∧ in64 m.kind ∧ in64 m.from_ ∧ in64 m.to ∧ in64 m.key ∧ m.item.tame
theorem Msg.tame.ids {m : Msg} (h : m.tame) : m.ids.length ≤ cap := by
 have := h.1
 unfold cap
 omega
theorem z8q {n : Nat} {cs : List D} (h : Tell TT (n + 4) 68 cs) : ∃ m : Msg, cs = m.row ∧ m.tame := by
 unfold Tell at h
 simp [Tell.TellFs] at h
 obtain ⟨a, r1, rfl, h1, b, r2, rfl, h2, c, r3, rfl, h3, d, r4, rfl, h4, e, r5, rfl, h5, f, g, rfl, h6, h7⟩ := h
 obtain ⟨k, rfl, hk⟩ := zcb h1
 obtain ⟨u, rfl, hu⟩ := zcb h2
 obtain ⟨v, rfl, hv⟩ := zcb h3
 obtain ⟨is, rfl, h8, h9⟩ := zm3 h4
 obtain ⟨w, rfl, hw⟩ := zcb h5
 obtain ⟨i, rfl, hi⟩ := zpm h6
 obtain ⟨b, rfl⟩ := zki h7
 exact ⟨⟨k, u, v, is, w, i, b⟩, rfl, h8, h9, hk, hu, hv, hw, hi⟩
theorem z74 {n : Nat} {cs : List D} (h : Tell TT (n + 2) 121 cs) : ∃ c : Cut, cs = c.row ∧ in64 c.a ∧ in64 c.b := by
 unfold Tell at h
 simp [Tell.TellFs] at h
 obtain ⟨a, b, rfl, h1, h2⟩ := h
 obtain ⟨x, rfl, hx⟩ := zcb h1
 obtain ⟨u, rfl, hu⟩ := zcb h2
 exact ⟨⟨x, u⟩, rfl, hx, hu⟩
theorem z56 {n : Nat} {cs : List D} (h : Tell TT (n + 3) 23 cs) : ∃ ts : List Cut, cs = [cutsD ts] ∧ ts.length * 16 ≤ 140737488351232 ∧ ∀ t ∈ ts, in64 t.a ∧ in64 t.b := by
 unfold Tell at h
 simp at h
 obtain ⟨rows, rfl, hl, hr⟩ := h
 obtain ⟨xs, rfl, hx⟩ := zj1 (f := Cut.row) (Q := fun t => in64 t.a ∧ in64 t.b) rows fun r h => z74 (hr r h)
 exact ⟨xs, by simp [cutsD], by simpa using hl, hx⟩
theorem z5y {n : Nat} {cs : List D} (h : Tell TT (n + 5) 24 cs) : ∃ ms : List Msg, cs = [msgsD ms] ∧ ms.length * 104 ≤ 140737488351232 ∧ ∀ m ∈ ms, m.tame := by
 unfold Tell at h
 simp at h
 obtain ⟨rows, rfl, hl, hr⟩ := h
 obtain ⟨xs, rfl, hx⟩ := zj1 (f := Msg.row) (Q := Msg.tame) rows fun r h => z8q (hr r h)
 exact ⟨xs, by simp [msgsD], by simpa using hl, hx⟩
theorem z3l {n : Nat} {cs : List D} (h : Tell TT (n + 6) 22 cs) : ∃ xs : List Node, cs = [nodesD xs] ∧ xs.length * 112 ≤ 140737488351232 ∧ ∀ x ∈ xs, x.tame := by
 unfold Tell at h
 simp at h
 obtain ⟨rows, rfl, hl, hr⟩ := h
 obtain ⟨xs, rfl, hx⟩ := zj1 (f := Node.cells) (Q := Node.tame) rows fun r h => zxn (hr r h)
 exact ⟨xs, by simp [nodesD], by simpa using hl, hx⟩
theorem z6p {n : Nat} {d : D} (h : TellArg TT (n + 7) 26 d) : ∃ w : Wld, d = wldD w ∧ w.small := by
 simp [TellArg] at h
 obtain ⟨cs, rfl, h⟩ := h
 unfold Tell at h
 simp [Tell.TellFs] at h
 obtain ⟨a, r1, rfl, h1, b, c, rfl, h2, h3⟩ := h
 obtain ⟨ns, rfl, l1, t1⟩ := z3l h1
 obtain ⟨ks, rfl, l2, t2⟩ := z56 h2
 obtain ⟨ps, rfl, l3, t3⟩ := z5y h3
 exact ⟨⟨ns, ks, ps⟩, rfl, by show ns.length ≤ cap16; unfold cap16; omega, fun x hx => (t1 x hx).small, by show ks.length ≤ cap; unfold cap; omega, by show ps.length ≤ cap16; unfold cap16; omega, fun m hm => (t3 m hm).ids⟩
def actsD (us : List Act) : D := .sl (us.map Act.cells) us.length
theorem z7r {n : Nat} {cs : List D} (h : Tell TT (n + 3) 58 cs) : ∃ a : Act, cs = a.cells ∧ a.ids.length ≤ cap := by
 unfold Tell at h
 simp [Tell.TellFs] at h
 obtain ⟨a, r1, rfl, h1, b, r2, rfl, h2, c, r3, rfl, h3, d, r4, rfl, h4, e, r5, rfl, h5, f, g, rfl, h6, h7⟩ := h
 obtain ⟨k, rfl, hk⟩ := zcb h1
 obtain ⟨u, rfl, hu⟩ := zcb h2
 obtain ⟨v, rfl, hv⟩ := zcb h3
 obtain ⟨p, rfl, hp⟩ := zcb h4
 obtain ⟨is, rfl, h8, h9⟩ := zm3 h5
 obtain ⟨w, rfl, hw⟩ := zcb h6
 obtain ⟨i, rfl, hi⟩ := zcb h7
 exact ⟨⟨k, u, v, p, is, w, i⟩, rfl, by show is.length ≤ cap; unfold cap; omega⟩
theorem z72 {n : Nat} {d : D} (h : TellArg TT (n + 4) 63 d) : ∃ us : List Act, d = actsD us ∧ us.length ≤ cap ∧ ∀ a ∈ us, a.ids.length ≤ cap := by
 simp [TellArg] at h
 unfold Tell at h
 simp at h
 obtain ⟨rows, rfl, hl, hr⟩ := h
 obtain ⟨xs, rfl, hx⟩ := zj1 (f := Act.cells) (Q := fun a => a.ids.length ≤ cap) rows fun r h => z7r (hr r h)
 exact ⟨xs, by simp [actsD], by simp at hl; unfold cap; omega, hx⟩
end Go.AM
/- AM: the statement TopKnown. -/
namespace Go.AM
set_option linter.unusedSimpArgs false
set_option linter.unusedVariables false
set_option maxRecDepth 8000
set_option maxHeartbeats 0
theorem z70 {α : Type} {us : List α} {i k : Nat} {a : α} (h : (us.take k)[i]? = some a) : us[i]? = some a ∧ i < k := by
 have hlt := (List.getElem?_eq_some_iff.1 h).1
 rw [List.length_take] at hlt
 have hk : i < k := by omega
 rw [List.getElem?_take_of_lt hk] at h
 exact ⟨h, hk⟩
theorem z86 {α : Type} {us : List α} {i : Nat} {a : α} (h : us[i]? = some a) : ∀ hl : i < us.length, us[i] = a := fun hl => by
 rw [List.getElem?_eq_getElem hl] at h
 exact Option.some.inj h
theorem zvc (v : View) (h : viewMay v = true) : Den PP 24 [viewD v] [] (.ref 0 0 (namesV v).length) [⟨(namesV v).map irow, 1, .mut⟩] := by
 obtain ⟨m1, m2, m3, m4⟩ := zaz h
 have c1 := zp3 v.peers (by unfold cap16; omega)
 unfold namesV
 clear m1 m2 m4 h
 simp only [viewD, View.cells, peersD, intsD, List.map_append, List.length_append, List.length_map, List.map_map, Function.comp_def] at c1 ⊢
 refine zaj [6] [] znc ?_
 simp -implicitDefEqProofs [zh8]
 refine zaa c1 ?_
 simp -implicitDefEqProofs
 refine zag ⟨by omega, by omega⟩ ?_
 simp -implicitDefEqProofs
theorem qcd (xs : List Int) (x : Int) (hl : xs.length ≤ cap) : Den PP 25 [intsD xs, .int .i64 x] [] (.bool (decide (x ∈ xs))) [] := by
 obtain ⟨A, hA⟩ : ∃ A, decide (x ∈ xs) = A := ⟨_, rfl⟩
 unfold cap at hl
 rw [hA]
 refine zaj [] [] zq2 ?_
 simp -implicitDefEqProofs [zlh, intsD]
 refine za3 xs (fun i rest => fun ⟨fr, bs⟩ => bs = [] ∧ fr 0 = intsD xs ∧ fr 1 = .int .i64 x ∧ fr 5 = .int .i64 i ∧ decide (x ∈ rest) = A)
  (fun ⟨fr, bs⟩ => bs = [] ∧ A = false) (fun ⟨fr, bs⟩ => fr 4 = .bool true ∧ A = true) zh9.eq_1 ?_ ?_ ?_ ?_ ?_
 ·exact ⟨rfl, rfl, rfl, rfl, hA⟩
 ·rintro i ⟨fr, bs⟩ hi ⟨rfl, h0, h1, h5, he⟩
  simp -implicitDefEqProofs [h0, h1, h5, hi, intsD]
  simpa using he.symm
 ·rintro i a rest ⟨fr, bs⟩ hlt hget hg hd hd2 ⟨rfl, h0, h1, h5, he⟩
  have hlt' : (i : Int) < xs.length := by omega
  have hw : IntKind.wrap .i64 ((i : Int) + 1) = (i : Int) + 1 := zas (by omega) (by omega)
  by_cases ha : a = x
  ·subst ha
   simp -implicitDefEqProofs [h0, h1, h5, hlt, hlt', hget, hg, intsD, irow]
   simpa using he.symm
  ·have ha2 : ¬ x = a := fun e => ha e.symm
   simp -implicitDefEqProofs [h0, h1, h5, hlt, hlt', hget, hg, intsD, irow, ha, hw]
   simpa [ha2] using he
 ·rintro ⟨fr, bs⟩ ⟨rfl, h1⟩
  simp -implicitDefEqProofs [h1]
 ·rintro ⟨fr, bs⟩ ⟨h, h1⟩
  simp -implicitDefEqProofs [h, h1]
theorem zym (w : Wld) (us : List Act) (hs : w.small) (hw : worldMay w = false) : Den PP 5 [wldD w, actsD us] [] (.bool true) [] := by
 have c1 := zj3 w hs
 have c2 := zba w hs
 rw [hw] at c1 c2
 clear hs hw
 simp only [wldD, Wld.cells, nodesD, cutsD, msgsD, actsD] at c1 c2 ⊢
 refine zaj [] [] zfv ?_
 simp -implicitDefEqProofs [zef]
 refine zaa awake ?_
 simp -implicitDefEqProofs
 refine zaa c1 ?_
 simp -implicitDefEqProofs
 refine zaa c2 ?_
 simp -implicitDefEqProofs
def wldL (w : Wld) : List D := [.sl (w.nodes.map Node.cells) w.nodes.length, .sl (w.cuts.map Cut.row) w.cuts.length, .sl (w.packets.map Msg.row) w.packets.length]
theorem topKnown (w : Wld) (us : List Act) (hs : w.small) (hl : us.length ≤ cap) (hi : ∀ a ∈ us, a.ids.length ≤ cap) : Den PP 5 [wldD w, actsD us] [] (.bool true) [] := by
 cases hw : worldMay w with
 | false => exact zym w us hs hw
 | true =>
 have c1 := zj3 w hs
 rw [hw] at c1
 unfold cap at hl
 simp only [wldD, Wld.cells, nodesD, cutsD, msgsD, actsD] at c1 ⊢
 refine zaj [] [] zfv ?_
 simp -implicitDefEqProofs [zef]
 refine zaa awake ?_
 simp -implicitDefEqProofs
 refine zaa c1 ?_
 simp -implicitDefEqProofs
 refine za3 (us.take 200) (fun i rest => fun ⟨fr, bs⟩ => ∃ v : Wld, worldMay v = true ∧ bs = [⟨[wldL v], 3, .box⟩] ∧ fr 1 = .sl (us.map Act.cells) us.length ∧ fr 2 = .ptr 0 0 0 ∧ fr 5 = .int .i64 i)
  (fun ⟨fr, bs⟩ => True) (fun _ => False) ze4.eq_1 ?_ ?_ ?_ ?_ ?_
 ·exact ⟨w, hw, rfl, rfl, rfl, rfl⟩
 ·rintro i ⟨fr, bs⟩ hi ⟨v, hv, rfl, h1, h2, h5⟩
  have hi' : i = min 200 us.length := by simpa using hi
  by_cases hlt : i < us.length
  ·have e1 : (i : Int) < us.length := by omega
   have e2 : ¬ (i : Int) < 200 := by omega
   have e3 : ¬ i < 200 := by omega
   simp -implicitDefEqProofs [h1, h2, h5, e1, e2, e3, hlt]
  ·have e1 : ¬ (i : Int) < us.length := by omega
   simp -implicitDefEqProofs [h1, h2, h5, e1, hlt]
 ·rintro i a rest ⟨fr, bs⟩ hlt hget hg hd hd2 ⟨v, hv, rfl, h1, h2, h5⟩
  obtain ⟨hga, h200⟩ := z70 hget
  have hlu := (List.getElem?_eq_some_iff.1 hga).1
  have hgu := z86 hga
  have e1 : (i : Int) < us.length := by omega
  have e2 : (i : Int) < 200 := by omega
  have hwi : IntKind.wrap .i64 ((i : Int) + 1) = (i : Int) + 1 := zas (by omega) (by omega)
  have hai := hi a (List.mem_of_getElem? hga)
  simp -implicitDefEqProofs [h1, h2, h5, e1, e2, h200, hlu, hga, hgu, wldL, Act.cells, intsD]
  cases hm : mayA v a with
  | false =>
    have c3 := z44 v a hai hv hm
    simp only [wldD, Wld.cells, nodesD, cutsD, msgsD, actD, Act.cells, intsD] at c3
    refine zaa c3 ?_
    simp -implicitDefEqProofs
    refine zaa (z42 _) ?_
    simp -implicitDefEqProofs [h1, h2, h5, hwi]
    exact ⟨v, hv, by simp⟩
  | true =>
    obtain ⟨u, c3, hu, hst⟩ := acted hai hv hm
    have hM := zcd.1 hv
    simp only [wldD, Wld.cells, nodesD, cutsD, msgsD, actD, Act.cells, intsD] at c3
    refine zaa c3 ?_
    simp -implicitDefEqProofs
    refine zaa (z42 _) ?_
    have hlen := hst.len
    have q1 := zj3 u (zau (zcd.2 hu)).small
    have q2 := zba u (zau (zcd.2 hu)).small
    rw [zcd.2 hu] at q1 q2
    simp only [wldD, Wld.cells, nodesD, cutsD, msgsD] at q1 q2
    simp -implicitDefEqProofs [h1, h2, h5]
    refine zaa q1 ?_
    simp -implicitDefEqProofs
    refine zaa q2 ?_
    simp -implicitDefEqProofs [h1, h2, h5, hlen]
    refine za3 u.nodes (fun k rest => fun ⟨fr, bs⟩ => bs = [⟨[wldL v], 3, .box⟩, ⟨[wldL u], 3, .box⟩] ∧ fr 1 = .sl (us.map Act.cells) us.length ∧ fr 2 = .ptr 0 0 0 ∧ fr 5 = .int .i64 i ∧ fr 6 = .ptr 1 0 0 ∧ fr 8 = .int .i64 k)
     (fun ⟨fr, bs⟩ => bs = [⟨[wldL v], 3, .box⟩, ⟨[wldL u], 3, .box⟩] ∧ fr 1 = .sl (us.map Act.cells) us.length ∧ fr 2 = .ptr 0 0 0 ∧ fr 5 = .int .i64 i ∧ fr 6 = .ptr 1 0 0) (fun _ => False) ze1.eq_1 ?_ ?_ ?_ ?_ ?_
    ·simp [wldL, hlen, h1, h2, h5]
    ·rintro k ⟨fr, bs⟩ hk ⟨rfl, h1, h2, h5, h6, h8⟩
     simp -implicitDefEqProofs [h1, h2, h5, h6, h8, hk, wldL]
    ·rintro k y rest ⟨fr, bs⟩ hlk hgk hgg hdk hdk2 ⟨rfl, h1, h2, h5, h6, h8⟩
     have k1 : (k : Int) < u.nodes.length := by omega
     have k2 : k < v.nodes.length := by omega
     have k3 : (k : Int) < v.nodes.length := by omega
     obtain ⟨x, hx⟩ : ∃ x, v.nodes[k]? = some x := ⟨_, List.getElem?_eq_getElem k2⟩
     have hgx := z86 hx
     have hrel := hst.rel k x y hx hgk
     have hwk : IntKind.wrap .i64 ((k : Int) + 1) = (k : Int) + 1 := zas (by have := (zau (zcd.2 hu)).nodes; omega) (by have := (zau (zcd.2 hu)).nodes; omega)
     have hmx := hM.node (List.mem_of_getElem? hx)
     have hmy := hu.node (List.mem_of_getElem? hgk)
     clear hdk hdk2 hd hd2 c3 c1
     simp -implicitDefEqProofs [h1, h2, h5, h6, h8, hlk, k1, hgk, hgg, wldL, Node.cells, peersD, intsD, itemsD, toldsD]
     cases hyu : y.up with
     | false =>
       simp -implicitDefEqProofs [h1, h2, h5, h6, h8, hwk]
     | true =>
       simp -implicitDefEqProofs [h1, h2, h5, h6, h8, k2, k3, hx, hgx, Node.cells, peersD, intsD, itemsD, toldsD]
       cases hxu : x.up with
       | false =>
         simp -implicitDefEqProofs [h1, h2, h5, h6, h8, hwk]
       | true =>
         simp -implicitDefEqProofs [h1, h2, h5, h6, h8]
         have vx := (zdn hmx).2.1
         have vy := (zdn hmy).2.1
         have n1 := zvc x.view vx
         have n2 := zvc y.view vy
         have hnm := hrel.names hxu hyu
         have l1 : (namesV x.view).length ≤ 16 := by have := (zaz vx).2.2.1; simp [namesV]; omega
         have l2 : (namesV y.view).length ≤ 16 := by have := (zaz vy).2.2.1; simp [namesV]; omega
         generalize namesV x.view = ox at *
         generalize namesV y.view = oy at *
         simp only [viewD, View.cells, peersD, intsD] at n1 n2
         simp -implicitDefEqProofs [h1, h2, h5, h6, h8, hlk, k1, hgk, hgg, k2, k3, hx, hgx, Node.cells, peersD, intsD, itemsD, toldsD]
         refine zaa n1 ?_
         simp -implicitDefEqProofs [h1, h2, h5, h6, h8, hlk, k1, hgk, hgg, k2, k3, hx, hgx, Node.cells, peersD, intsD, itemsD, toldsD]
         refine zaa n2 ?_
         simp -implicitDefEqProofs
         refine za3 ox (fun j rest => fun ⟨fr, bs⟩ => bs = [⟨[wldL v], 3, .box⟩, ⟨[wldL u], 3, .box⟩] ∧ fr 1 = .sl (us.map Act.cells) us.length ∧ fr 2 = .ptr 0 0 0 ∧ fr 5 = .int .i64 i ∧ fr 6 = .ptr 1 0 0 ∧ fr 8 = .int .i64 k ∧ fr 9 = .sl (ox.map irow) ox.length ∧ fr 10 = .sl (oy.map irow) oy.length ∧ fr 11 = .int .i64 j)
          (fun ⟨fr, bs⟩ => bs = [⟨[wldL v], 3, .box⟩, ⟨[wldL u], 3, .box⟩] ∧ fr 1 = .sl (us.map Act.cells) us.length ∧ fr 2 = .ptr 0 0 0 ∧ fr 5 = .int .i64 i ∧ fr 6 = .ptr 1 0 0 ∧ fr 8 = .int .i64 k) (fun _ => False) ze0.eq_1 ?_ ?_ ?_ ?_ ?_
         ·simp [wldL, h1, h2, h5, h6, h8]
         ·rintro j ⟨fr, bs⟩ hj ⟨rfl, h1, h2, h5, h6, h8, h9, h10, h11⟩
          simp -implicitDefEqProofs [h1, h2, h5, h6, h8, h9, h10, h11, hj, wldL]
         ·rintro j it rest ⟨fr, bs⟩ hlj hgj hggj hdj hdj2 ⟨rfl, h1, h2, h5, h6, h8, h9, h10, h11⟩
          have j1 : (j : Int) < ox.length := by omega
          have hwj : IntKind.wrap .i64 ((j : Int) + 1) = (j : Int) + 1 := zas (by omega) (by omega)
          have hin := hnm it (List.mem_of_getElem? hgj)
          have g1 := qcd oy it (by unfold cap; omega)
          rw [decide_eq_true hin] at g1
          clear hdj hdj2 hnm n1 n2
          simp only [intsD] at g1
          simp -implicitDefEqProofs [h1, h2, h5, h6, h8, h9, h10, h11, hlj, j1, hgj, hggj, wldL, irow]
          refine zaa g1 ?_
          simp -implicitDefEqProofs [h1, h2, h5, h6, h8, h9, h10, h11, hwj]
         ·rintro ⟨fr, bs⟩ ⟨rfl, h1, h2, h5, h6, h8⟩
          simp -implicitDefEqProofs [h1, h2, h5, h6, h8, hwk, wldL]
         ·rintro ⟨fr, bs⟩ h
          exact h.elim
    ·rintro ⟨fr, bs⟩ ⟨rfl, h1, h2, h5, h6⟩
     simp -implicitDefEqProofs [h1, h2, h5, h6, wldL, hwi]
     exact ⟨u, zcd.2 hu, by simp⟩
    ·rintro ⟨fr, bs⟩ h
     exact h.elim
 ·rintro ⟨fr, bs⟩ _
  simp -implicitDefEqProofs
 ·rintro ⟨fr, bs⟩ h
  exact h.elim
end Go.AM
