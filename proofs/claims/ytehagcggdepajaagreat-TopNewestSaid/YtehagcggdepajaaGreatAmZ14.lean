/- What the proof of this claim stands on, part 14. -/
import Derived.Test.YtehagcggdepajaaGreatAmZ13
/- AM: worlds, acts handed in. -/
namespace Go.AM
set_option linter.unusedSimpArgs false
set_option linter.unusedVariables false
set_option maxRecDepth 8000
set_option maxHeartbeats 0
def Msg.tame (m : Msg) : Prop := m.ids.length * 8 ≤ 140737488351232 ∧ (∀ x ∈ m.ids, in64 x) ∧ in64 m.kind ∧ in64 m.from_ ∧ in64 m.to ∧ in64 m.key ∧ m.item.tame
theorem Msg.tame.ids {m : Msg} (h : m.tame) : m.ids.length ≤ cap := by
 have := h.1
 unfold cap
 omega
theorem z7p {n : Nat} {cs : List D} (h : Tell TT (n + 4) 68 cs) : ∃ m : Msg, cs = m.row ∧ m.tame := by
 unfold Tell at h
 simp [Tell.TellFs] at h
 obtain ⟨a, r1, rfl, h1, b, r2, rfl, h2, c, r3, rfl, h3, d, r4, rfl, h4, e, r5, rfl, h5, f, g, rfl, h6, h7⟩ := h
 obtain ⟨k, rfl, hk⟩ := zca h1
 obtain ⟨u, rfl, hu⟩ := zca h2
 obtain ⟨v, rfl, hv⟩ := zca h3
 obtain ⟨is, rfl, h8, h9⟩ := zmv h4
 obtain ⟨w, rfl, hw⟩ := zca h5
 obtain ⟨i, rfl, hi⟩ := zq8 h6
 obtain ⟨b, rfl⟩ := zj3 h7
 exact ⟨⟨k, u, v, is, w, i, b⟩, rfl, h8, h9, hk, hu, hv, hw, hi⟩
theorem z7s {n : Nat} {cs : List D} (h : Tell TT (n + 2) 121 cs) : ∃ c : Cut, cs = c.row ∧ in64 c.a ∧ in64 c.b := by
 unfold Tell at h
 simp [Tell.TellFs] at h
 obtain ⟨a, b, rfl, h1, h2⟩ := h
 obtain ⟨x, rfl, hx⟩ := zca h1
 obtain ⟨u, rfl, hu⟩ := zca h2
 exact ⟨⟨x, u⟩, rfl, hx, hu⟩
theorem z56 {n : Nat} {cs : List D} (h : Tell TT (n + 3) 23 cs) : ∃ ts : List Cut, cs = [cutsD ts] ∧ ts.length * 16 ≤ 140737488351232 ∧ ∀ t ∈ ts, in64 t.a ∧ in64 t.b := by
 unfold Tell at h
 simp at h
 obtain ⟨rows, rfl, hl, hr⟩ := h
 obtain ⟨xs, rfl, hx⟩ := zj8 (f := Cut.row) (Q := fun t => in64 t.a ∧ in64 t.b) rows fun r h => z7s (hr r h)
 exact ⟨xs, by simp [cutsD], by simpa using hl, hx⟩
theorem z5n {n : Nat} {cs : List D} (h : Tell TT (n + 5) 24 cs) : ∃ ms : List Msg, cs = [msgsD ms] ∧ ms.length * 104 ≤ 140737488351232 ∧ ∀ m ∈ ms, m.tame := by
 unfold Tell at h
 simp at h
 obtain ⟨rows, rfl, hl, hr⟩ := h
 obtain ⟨xs, rfl, hx⟩ := zj8 (f := Msg.row) (Q := Msg.tame) rows fun r h => z7p (hr r h)
 exact ⟨xs, by simp [msgsD], by simpa using hl, hx⟩
theorem z3y {n : Nat} {cs : List D} (h : Tell TT (n + 6) 22 cs) : ∃ xs : List Node, cs = [nodesD xs] ∧ xs.length * 112 ≤ 140737488351232 ∧ ∀ x ∈ xs, x.tame := by
 unfold Tell at h
 simp at h
 obtain ⟨rows, rfl, hl, hr⟩ := h
 obtain ⟨xs, rfl, hx⟩ := zj8 (f := Node.cells) (Q := Node.tame) rows fun r h => zvx (hr r h)
 exact ⟨xs, by simp [nodesD], by simpa using hl, hx⟩
theorem z4a {n : Nat} {d : D} (h : TellArg TT (n + 7) 26 d) : ∃ w : Wld, d = wldD w ∧ w.small := by
 simp [TellArg] at h
 obtain ⟨cs, rfl, h⟩ := h
 unfold Tell at h
 simp [Tell.TellFs] at h
 obtain ⟨a, r1, rfl, h1, b, c, rfl, h2, h3⟩ := h
 obtain ⟨ns, rfl, l1, t1⟩ := z3y h1
 obtain ⟨ks, rfl, l2, t2⟩ := z56 h2
 obtain ⟨ps, rfl, l3, t3⟩ := z5n h3
 exact ⟨⟨ns, ks, ps⟩, rfl, by show ns.length ≤ cap16; unfold cap16; omega, fun x hx => (t1 x hx).small, by show ks.length ≤ cap; unfold cap; omega, by show ps.length ≤ cap16; unfold cap16; omega, fun m hm => (t3 m hm).ids⟩
def actsD (us : List Act) : D := .sl (us.map Act.cells) us.length
theorem z73 {n : Nat} {cs : List D} (h : Tell TT (n + 3) 58 cs) : ∃ a : Act, cs = a.cells ∧ a.ids.length ≤ cap := by
 unfold Tell at h
 simp [Tell.TellFs] at h
 obtain ⟨a, r1, rfl, h1, b, r2, rfl, h2, c, r3, rfl, h3, d, r4, rfl, h4, e, r5, rfl, h5, f, g, rfl, h6, h7⟩ := h
 obtain ⟨k, rfl, hk⟩ := zca h1
 obtain ⟨u, rfl, hu⟩ := zca h2
 obtain ⟨v, rfl, hv⟩ := zca h3
 obtain ⟨p, rfl, hp⟩ := zca h4
 obtain ⟨is, rfl, h8, h9⟩ := zmv h5
 obtain ⟨w, rfl, hw⟩ := zca h6
 obtain ⟨i, rfl, hi⟩ := zca h7
 exact ⟨⟨k, u, v, p, is, w, i⟩, rfl, by show is.length ≤ cap; unfold cap; omega⟩
theorem z7x {n : Nat} {d : D} (h : TellArg TT (n + 4) 63 d) : ∃ us : List Act, d = actsD us ∧ us.length ≤ cap ∧ ∀ a ∈ us, a.ids.length ≤ cap := by
 simp [TellArg] at h
 unfold Tell at h
 simp at h
 obtain ⟨rows, rfl, hl, hr⟩ := h
 obtain ⟨xs, rfl, hx⟩ := zj8 (f := Act.cells) (Q := fun a => a.ids.length ≤ cap) rows fun r h => z73 (hr r h)
 exact ⟨xs, by simp [actsD], by simp at hl; unfold cap; omega, hx⟩
end Go.AM
/- AM: the statement TopNewest. -/
namespace Go.AM
set_option linter.unusedSimpArgs false
set_option linter.unusedVariables false
set_option maxRecDepth 8000
set_option maxHeartbeats 0
theorem z74 {α : Type} {us : List α} {i k : Nat} {a : α} (h : (us.take k)[i]? = some a) : us[i]? = some a ∧ i < k := by
 have hlt := (List.getElem?_eq_some_iff.1 h).1
 rw [List.length_take] at hlt
 have hk : i < k := by omega
 rw [List.getElem?_take_of_lt hk] at h
 exact ⟨h, hk⟩
theorem z9h {α : Type} {us : List α} {i : Nat} {a : α} (h : us[i]? = some a) : ∀ hl : i < us.length, us[i] = a := fun hl => by
 rw [List.getElem?_eq_getElem hl] at h
 exact Option.some.inj h
theorem zvt (w : Wld) (us : List Act) (hs : w.small) (hw : worldMay w = false) : Den PP 7 [wldD w, actsD us] [] (.bool true) [] := by
 have c1 := zol w hs
 have c2 := zbb w hs
 rw [hw] at c1 c2
 clear hs hw
 simp only [wldD, Wld.cells, nodesD, cutsD, msgsD, actsD] at c1 c2 ⊢
 refine zaj [] [] zfj ?_
 simp -implicitDefEqProofs [zd3]
 refine zaa awake ?_
 simp -implicitDefEqProofs
 refine zaa c1 ?_
 simp -implicitDefEqProofs
 refine zaa c2 ?_
 simp -implicitDefEqProofs
def wldL (w : Wld) : List D := [.sl (w.nodes.map Node.cells) w.nodes.length, .sl (w.cuts.map Cut.row) w.cuts.length, .sl (w.packets.map Msg.row) w.packets.length]
theorem topNewest (w : Wld) (us : List Act) (hs : w.small) (hl : us.length ≤ cap) (hi : ∀ a ∈ us, a.ids.length ≤ cap) : Den PP 7 [wldD w, actsD us] [] (.bool true) [] := by
 cases hw : worldMay w with
 | false => exact zvt w us hs hw
 | true =>
 have c1 := zol w hs
 rw [hw] at c1
 unfold cap at hl
 simp only [wldD, Wld.cells, nodesD, cutsD, msgsD, actsD] at c1 ⊢
 refine zaj [] [] zfj ?_
 simp -implicitDefEqProofs [zd3]
 refine zaa awake ?_
 simp -implicitDefEqProofs
 refine zaa c1 ?_
 simp -implicitDefEqProofs
 refine za3 (us.take 200) (fun i rest => fun ⟨fr, bs⟩ => ∃ v : Wld, worldMay v = true ∧ bs = [⟨[wldL v], 3, .box⟩] ∧ fr 1 = .sl (us.map Act.cells) us.length ∧ fr 2 = .ptr 0 0 0 ∧ fr 5 = .int .i64 i)
  (fun ⟨fr, bs⟩ => True) (fun _ => False) zew.eq_1 ?_ ?_ ?_ ?_ ?_
 ·exact ⟨w, hw, rfl, rfl, rfl, rfl⟩
 ·rintro i ⟨fr, bs⟩ hi ⟨v, hv, rfl, h1, h2, h5⟩
  have hi' : i = min 200 us.length := by simpa using hi
  by_cases hlt : i < us.length
  ·have e1 : (i : Int) < us.length := by omega
   have e2 : ¬ (i : Int) < 200 := by omega
   have e3 : ¬ i < 200 := by omega
   simp -implicitDefEqProofs [h1, h2, h5, e1, e2, e3, hlt]
  ·have e1 : ¬ (i : Int) < us.length := by omega
   simp -implicitDefEqProofs [h1, h2, h5, e1, hlt]
 ·rintro i a rest ⟨fr, bs⟩ hlt hget hg hd hd2 ⟨v, hv, rfl, h1, h2, h5⟩
  obtain ⟨hga, h200⟩ := z74 hget
  have hlu := (List.getElem?_eq_some_iff.1 hga).1
  have hgu := z9h hga
  have e1 : (i : Int) < us.length := by omega
  have e2 : (i : Int) < 200 := by omega
  have hwi : IntKind.wrap .i64 ((i : Int) + 1) = (i : Int) + 1 := zas (by omega) (by omega)
  have hai := hi a (List.mem_of_getElem? hga)
  simp -implicitDefEqProofs [h1, h2, h5, e1, e2, h200, hlu, hga, hgu, wldL, Act.cells, intsD]
  cases hm : mayA v a with
  | false =>
    have c3 := z5j v a hai hv hm
    simp only [wldD, Wld.cells, nodesD, cutsD, msgsD, actD, Act.cells, intsD] at c3
    refine zaa c3 ?_
    simp -implicitDefEqProofs
    refine zaa (z68 _) ?_
    simp -implicitDefEqProofs [h1, h2, h5, hwi]
    exact ⟨v, hv, by simp⟩
  | true =>
    obtain ⟨u, c3, hu, hst⟩ := acted hai hv hm
    have hM := zcr.1 hv
    simp only [wldD, Wld.cells, nodesD, cutsD, msgsD, actD, Act.cells, intsD] at c3
    refine zaa c3 ?_
    simp -implicitDefEqProofs
    refine zaa (z68 _) ?_
    have hlen := hst.len
    simp -implicitDefEqProofs [h1, h2, h5, hlen]
    refine za3 u.nodes (fun k rest => fun ⟨fr, bs⟩ => bs = [⟨[wldL v], 3, .box⟩, ⟨[wldL u], 3, .box⟩] ∧ fr 1 = .sl (us.map Act.cells) us.length ∧ fr 2 = .ptr 0 0 0 ∧ fr 5 = .int .i64 i ∧ fr 6 = .ptr 1 0 0 ∧ fr 8 = .int .i64 k)
     (fun ⟨fr, bs⟩ => bs = [⟨[wldL v], 3, .box⟩, ⟨[wldL u], 3, .box⟩] ∧ fr 1 = .sl (us.map Act.cells) us.length ∧ fr 2 = .ptr 0 0 0 ∧ fr 5 = .int .i64 i ∧ fr 6 = .ptr 1 0 0) (fun _ => False) zez.eq_1 ?_ ?_ ?_ ?_ ?_
    ·simp [wldL, hlen, h1, h2, h5]
    ·rintro k ⟨fr, bs⟩ hk ⟨rfl, h1, h2, h5, h6, h8⟩
     simp -implicitDefEqProofs [h1, h2, h5, h6, h8, hk, wldL]
    ·rintro k y rest ⟨fr, bs⟩ hlk hgk hgg hdk hdk2 ⟨rfl, h1, h2, h5, h6, h8⟩
     have k1 : (k : Int) < u.nodes.length := by omega
     have k2 : k < v.nodes.length := by omega
     have k3 : (k : Int) < v.nodes.length := by omega
     obtain ⟨x, hx⟩ : ∃ x, v.nodes[k]? = some x := ⟨_, List.getElem?_eq_getElem k2⟩
     have hgx := z9h hx
     have hrel := hst.rel k x y hx hgk
     have hwk : IntKind.wrap .i64 ((k : Int) + 1) = (k : Int) + 1 := zas (by have := (zau (zcr.2 hu)).nodes; omega) (by have := (zau (zcr.2 hu)).nodes; omega)
     have hmx := hM.node (List.mem_of_getElem? hx)
     have hmy := hu.node (List.mem_of_getElem? hgk)
     clear hdk hdk2 hd hd2 c3 c1
     simp -implicitDefEqProofs [h1, h2, h5, h6, h8, hlk, k1, hgk, hgg, wldL, Node.cells, peersD, intsD, itemsD, toldsD]
     cases hyu : y.up with
     | false =>
       simp -implicitDefEqProofs [h1, h2, h5, h6, h8, hwk]
     | true =>
       simp -implicitDefEqProofs [h1, h2, h5, h6, h8, k2, k3, hx, hgx, Node.cells, peersD, intsD, itemsD, toldsD]
       cases hxu : x.up with
       | false =>
         simp -implicitDefEqProofs [h1, h2, h5, h6, h8, hwk]
       | true =>
         simp -implicitDefEqProofs [h1, h2, h5, h6, h8]
         refine za3 x.items (fun j rest => fun ⟨fr, bs⟩ => bs = [⟨[wldL v], 3, .box⟩, ⟨[wldL u], 3, .box⟩] ∧ fr 1 = .sl (us.map Act.cells) us.length ∧ fr 2 = .ptr 0 0 0 ∧ fr 5 = .int .i64 i ∧ fr 6 = .ptr 1 0 0 ∧ fr 8 = .int .i64 k ∧ fr 9 = .int .i64 j)
          (fun ⟨fr, bs⟩ => bs = [⟨[wldL v], 3, .box⟩, ⟨[wldL u], 3, .box⟩] ∧ fr 1 = .sl (us.map Act.cells) us.length ∧ fr 2 = .ptr 0 0 0 ∧ fr 5 = .int .i64 i ∧ fr 6 = .ptr 1 0 0 ∧ fr 8 = .int .i64 k) (fun _ => False) ze0.eq_1 ?_ ?_ ?_ ?_ ?_
         ·simp [wldL, h1, h2, h5, h6, h8]
         ·rintro j ⟨fr, bs⟩ hj ⟨rfl, h1, h2, h5, h6, h8, h9⟩
          simp -implicitDefEqProofs [h1, h2, h5, h6, h8, h9, hj, wldL, k2, k3, hx, hgx, Node.cells, peersD, intsD, itemsD, toldsD]
         ·rintro j it rest ⟨fr, bs⟩ hlj hgj hggj hdj hdj2 ⟨rfl, h1, h2, h5, h6, h8, h9⟩
          have j1 : (j : Int) < x.items.length := by omega
          have hwj : IntKind.wrap .i64 ((j : Int) + 1) = (j : Int) + 1 := zas (by have := (zgm hmx).2.2.1; omega) (by have := (zgm hmx).2.2.1; omega)
          have him := List.mem_of_getElem? hgj
          obtain ⟨jt, hjt, hbj⟩ := hrel.items hxu hyu it him
          obtain ⟨hjk, hjm⟩ := ztx hjt
          have hsx := (zdi hmx).2.2.1
          have hsy := (zdi hmy).2.2.1
          have g1 := zw9 y.items it.key (by have := (zgm hmy).2.2.1; unfold cap16; omega)
          rw [show getR y.items it.key = (jt, true) by rw [zqg hsy, hjt]; rfl] at g1
          have g2 := z8o it jt
          rw [show bestR it jt = (jt, 0) by simp [bestR, ((zcn _).1 hsx).1 it him, ((zcn _).1 hsy).1 jt hjm, hjk, hbj]] at g2
          clear hdj hdj2
          simp only [itemsD, Item.row] at g1 g2
          simp -implicitDefEqProofs [h1, h2, h5, h6, h8, h9, hlj, j1, hgj, hggj, wldL, k2, k3, hx, hgx, hlk, k1, hgk, hgg, Node.cells, peersD, intsD, itemsD, toldsD, Item.row]
          refine zaa g1 ?_
          simp -implicitDefEqProofs [Item.row]
          refine zaa g2 ?_
          simp -implicitDefEqProofs [Item.row, EQS, h1, h2, h5, h6, h8, h9, hwj]
         ·rintro ⟨fr, bs⟩ ⟨rfl, h1, h2, h5, h6, h8⟩
          simp -implicitDefEqProofs [h1, h2, h5, h6, h8, hwk, wldL]
         ·rintro ⟨fr, bs⟩ h
          exact h.elim
    ·rintro ⟨fr, bs⟩ ⟨rfl, h1, h2, h5, h6⟩
     simp -implicitDefEqProofs [h1, h2, h5, h6, wldL, hwi]
     exact ⟨u, zcr.2 hu, by simp⟩
    ·rintro ⟨fr, bs⟩ h
     exact h.elim
 ·rintro ⟨fr, bs⟩ _
  simp -implicitDefEqProofs
 ·rintro ⟨fr, bs⟩ h
  exact h.elim
end Go.AM
