/- What the proof of this claim stands on, part 14. -/
import Derived.Test.YtehagcggdepajaaGreatAmZ13
/- AM: the statement TopParts. -/
namespace Go.AM
set_option linter.unusedSimpArgs false
set_option linter.unusedVariables false
set_option maxRecDepth 8000
set_option maxHeartbeats 0
theorem z6d {α : Type} {us : List α} {i k : Nat} {a : α} (h : (us.take k)[i]? = some a) : us[i]? = some a ∧ i < k := by
 have hlt := (List.getElem?_eq_some_iff.1 h).1
 rw [List.length_take] at hlt
 have hk : i < k := by omega
 rw [List.getElem?_take_of_lt hk] at h
 exact ⟨h, hk⟩
theorem z7v {α : Type} {us : List α} {i : Nat} {a : α} (h : us[i]? = some a) : ∀ hl : i < us.length, us[i] = a := fun hl => by
 rw [List.getElem?_eq_getElem hl] at h
 exact Option.some.inj h
def wldL (w : Wld) : List D := [.sl (w.nodes.map Node.cells) w.nodes.length, .sl (w.cuts.map Cut.row) w.cuts.length, .sl (w.packets.map Msg.row) w.packets.length]
@[simp] theorem z7r (fr fp : Nat → Nat → Nat → D) (x : Node) : mapRL fr fp x.cells = x.cells := rfl
theorem z6j {id : Int} (h : place id = true) : nodeMay (newN id []) = true := by
 have hv : viewMay (⟨id, [], newP id []⟩ : View) = true := zhm (zbn.2 ⟨h, by simp, by simp, List.Pairwise.nil⟩) (by rfl) (by simp [newP]) (by simp [newP])
 simp [nodeMay, newN, hv]
 rfl
theorem z57 {ids : List Int} (h0 : 1 ≤ ids.length) (h8 : ids.length ≤ 8) (hp : passiveMay ids = true) : May (newW ids) := by
 obtain ⟨p1, p2, p3⟩ := (zci ids).1 hp
 have e : idsN (newW ids).nodes = ids := by simp [idsN, newW, newN]
 refine ⟨zox (fun x hx => ?_) ?_ (by simpa [newW] using h0) (by simpa [newW] using h8), by rfl, by simp [newW], fun x hx i hi => ?_, by simp [newW], by simp [newW]⟩
 ·obtain ⟨id, hid, rfl⟩ := List.mem_map.1 hx
  exact z6j (p2 id hid)
 ·unfold newW
  rw [List.pairwise_map]
  exact p1
 ·obtain ⟨id, hid, rfl⟩ := List.mem_map.1 hx
  simp [namedN, newN, newP] at hi
theorem z3n (ids : List Int) : Lonely (newW ids) := ⟨rfl, rfl, fun x hx => by
 obtain ⟨id, _, rfl⟩ := List.mem_map.1 hx
 exact ⟨rfl, rfl⟩⟩
theorem qa7 {ns : List Node} (hn : nodesMay ns = true) (id : Int) : (gIdx (hasN id) 0 ns < 0) ∨ (gIdx (hasN id) 0 ns = (posN id ns : Nat) ∧ posN id ns < ns.length) := by
 cases hi : ns.any (hasN id) with
 | false =>
   left
   have := qag ns id
   rw [hi] at this
   simpa using this
 | true =>
   right
   obtain ⟨x, hx, he⟩ := zif ((zge hn).2 (z6c.1 hi))
   have hlt := (List.getElem?_eq_some_iff.1 hx).1
   refine ⟨?_, hlt⟩
   have hp := (zc4 hn).2.1
   have key : ∀ (xs : List Node) (i j : Nat) (y : Node), xs[j]? = some y → hasN id y = true → (∀ k z, k < j → xs[k]? = some z → hasN id z = false) → gIdx (hasN id) i xs = ((i + j : Nat) : Int) := by
    intro xs
    induction xs with
    | nil => intro i j y hy; simp at hy
    | cons a xs ih =>
      intro i j y hy hh hb
      cases j with
      | zero =>
        simp at hy
        subst hy
        simp [gIdx, hh]
      | succ j =>
        have h0 := hb 0 a (by omega) rfl
        rw [gIdx, if_neg (by simp [h0]), ih (i + 1) j y (by simpa using hy) hh (fun k z hk hz => hb (k + 1) z (by omega) (by simpa using hz))]
        congr 1
        omega
   have := key ns 0 (posN id ns) x hx (by simp [hasN, he]) (fun k z hk hz => by
    obtain ⟨hkl, rfl⟩ := List.getElem?_eq_some_iff.1 hz
    obtain ⟨hjl, rfl⟩ := List.getElem?_eq_some_iff.1 hx
    have := List.pairwise_iff_getElem.1 hp k (posN id ns) hkl hjl hk
    simp [hasN]
    omega)
   simpa using this
def bitP (part : Int) (k : Nat) : Bool := decide (part.fdiv (2 ^ min k IntKind.i64.bits) % 2 = 1)
theorem topParts (ids : List Int) (part : Int) (us : List Act) (hl : ids.length ≤ cap) (hu : us.length ≤ cap) (hi : ∀ a ∈ us, a.ids.length ≤ cap) : Den PP 10 [intsD ids, .int .i64 part, actsD us] [] (.bool true) [] := by
 cases hok : (decide (1 ≤ ids.length) && decide (ids.length ≤ 8)) && passiveMay ids with
 | false =>
   have c1 := zwe ids hl hok
   have c2 := zmt
   clear hok
   simp only [intsD, actsD] at c1 ⊢
   refine zah [] [] zfm ?_
   simp -implicitDefEqProofs [zd7]
   refine zaa awake ?_
   simp -implicitDefEqProofs
   refine zaa c1 ?_
   simp -implicitDefEqProofs
   refine zaa (zsy _) ?_
   simp -implicitDefEqProofs
   refine zaa c2 ?_
   simp -implicitDefEqProofs
 | true =>
 simp only [Bool.and_eq_true, decide_eq_true_eq] at hok
 obtain ⟨⟨h0, h8⟩, hp⟩ := hok
 have c1 := z4e ids h0 h8 hp
 have hnl : (newW ids).nodes.length = ids.length := by simp [newW]
 have hM0 := z57 h0 h8 hp
 have hL0 := z3n ids
 unfold cap at hu
 simp only [intsD, actsD, wldD, Wld.cells, nodesD, cutsD, msgsD] at c1 ⊢
 refine zah [] [] zfm ?_
 simp -implicitDefEqProofs [zd7]
 refine zaa awake ?_
 simp -implicitDefEqProofs
 refine zaa c1 ?_
 simp -implicitDefEqProofs
 refine zaa (zsy _) ?_
 simp -implicitDefEqProofs [hnl]
 refine za7 (us.take 100) (fun i rest => fun ⟨fr, bs⟩ => ∃ v : Wld, May v ∧ Lonely v ∧ v.nodes.length = ids.length ∧ (∀ k : Nat, bitP part k = true → v.nodes[k]? = (newW ids).nodes[k]?) ∧ bs = [⟨[wldL v], 3, .box⟩] ∧ fr 0 = .sl (ids.map irow) ids.length ∧ fr 1 = .int .i64 part ∧ fr 2 = .sl (us.map Act.cells) us.length ∧ fr 7 = .ptr 0 0 0 ∧ fr 9 = .int .i64 i)
  (fun ⟨fr, bs⟩ => ∃ v : Wld, May v ∧ Lonely v ∧ v.nodes.length = ids.length ∧ (∀ k : Nat, bitP part k = true → v.nodes[k]? = (newW ids).nodes[k]?) ∧ bs = [⟨[wldL v], 3, .box⟩] ∧ fr 0 = .sl (ids.map irow) ids.length ∧ fr 1 = .int .i64 part ∧ fr 7 = .ptr 0 0 0) (fun _ => False) zew.eq_1 ?_ ?_ ?_ ?_ ?_
 ·exact ⟨newW ids, hM0, hL0, hnl, fun _ _ => rfl, by simp [wldL, hnl], rfl, rfl, rfl, rfl, rfl⟩
 ·rintro i ⟨fr, bs⟩ hi ⟨v, hv, hLv, hlv, hkv, rfl, q0, h1, h2, h7, h9⟩
  have hi' : i = min 100 us.length := by simpa using hi
  by_cases hlt : i < us.length
  ·have e1 : (i : Int) < us.length := by omega
   have e2 : ¬ (i : Int) < 100 := by omega
   have e3 : ¬ i < 100 := by omega
   simp -implicitDefEqProofs [q0, h1, h2, h7, h9, e1, e2, e3, hlt]
   exact ⟨v, hv, hLv, hlv, hkv, by simp⟩
  ·have e1 : ¬ (i : Int) < us.length := by omega
   simp -implicitDefEqProofs [q0, h1, h2, h7, h9, e1, hlt]
   exact ⟨v, hv, hLv, hlv, hkv, by simp⟩
 ·rintro i a rest ⟨fr, bs⟩ hlt hget hg hd hd2 ⟨v, hv, hLv, hlv, hkv, rfl, q0, h1, h2, h7, h9⟩
  obtain ⟨hga, h100⟩ := z6d hget
  have hlu := (List.getElem?_eq_some_iff.1 hga).1
  have hgu := z7v hga
  have e1 : (i : Int) < us.length := by omega
  have e2 : (i : Int) < 100 := by omega
  have hwi : IntKind.wrap .i64 ((i : Int) + 1) = (i : Int) + 1 := zax (by omega) (by omega)
  have hai := hi a (List.mem_of_getElem? hga)
  have k1 := qak v.nodes a.node (by rw [hlv]; exact hl)
  have k2 := qa7 hv.nodes a.node
  simp only [nodesD] at k1
  simp -implicitDefEqProofs [q0, h1, h2, h7, h9, e1, e2, h100, hlu, hga, hgu, wldL, Act.cells, intsD]
  refine zaa k1 ?_
  rcases k2 with k2 | ⟨k2, k3⟩
  ·simp -implicitDefEqProofs [q0, h1, h2, h7, h9, e1, e2, h100, hlu, hga, hgu, Act.cells, intsD, k2, hwi]
   exact ⟨v, hv, hLv, hlv, hkv, by simp⟩
  ·have k4 : ¬ ((posN a.node v.nodes : Nat) : Int) < 0 := by omega
   rw [k2]
   simp -implicitDefEqProofs [q0, h1, h2, h7, h9, e1, e2, h100, hlu, hga, hgu, Act.cells, intsD, k4]
   cases hb : bitP part (posN a.node v.nodes) with
   | true =>
     have hb' : part.fdiv (2 ^ min (posN a.node v.nodes) IntKind.i64.bits) % 2 = 1 := of_decide_eq_true hb
     simp -implicitDefEqProofs [q0, h1, h2, h7, h9, hb', hwi]
     exact ⟨v, hv, hLv, hlv, hkv, by simp⟩
   | false =>
     have hb' : ¬ part.fdiv (2 ^ min (posN a.node v.nodes) IntKind.i64.bits) % 2 = 1 := of_decide_eq_false hb
     by_cases hk7 : a.kind = 7
     ·simp -implicitDefEqProofs [q0, h1, h2, h7, h9, hb', hwi, hk7]
      exact ⟨v, hv, hLv, hlv, hkv, by simp⟩
     by_cases hk4 : a.kind = 4
     ·simp -implicitDefEqProofs [q0, h1, h2, h7, h9, hb', hwi, hk4]
      exact ⟨v, hv, hLv, hlv, hkv, by simp⟩
     by_cases hk5 : a.kind = 5
     ·simp -implicitDefEqProofs [q0, h1, h2, h7, h9, hb', hwi, hk5]
      exact ⟨v, hv, hLv, hlv, hkv, by simp⟩
     simp -implicitDefEqProofs [q0, h1, h2, h7, h9, hb', hk7, hk4, hk5, e1, e2, h100, hlu, hga, hgu, Act.cells, intsD]
     cases hm : mayA v a with
     | false =>
       have c3 := z3d v a hai (zcy.2 hv) hm
       simp only [wldD, Wld.cells, nodesD, cutsD, msgsD, actD, Act.cells, intsD] at c3
       refine zaa c3 ?_
       simp -implicitDefEqProofs
       refine zaa (zsy _) ?_
       simp -implicitDefEqProofs [q0, h1, h2, h7, h9, hwi]
       exact ⟨v, hv, hLv, hlv, hkv, by simp⟩
     | true =>
       obtain ⟨u, c3, hu', hst⟩ := acted hai (zcy.2 hv) hm
       simp only [wldD, Wld.cells, nodesD, cutsD, msgsD, actD, Act.cells, intsD] at c3
       refine zaa c3 ?_
       simp -implicitDefEqProofs
       refine zaa (zsy _) ?_
       have hlen := hst.len
       obtain ⟨s1, s2⟩ := hst.lone hk4 hk5 hk7 hLv
       simp -implicitDefEqProofs [q0, h1, h2, h7, h9, hlen, hwi]
       refine ⟨u, hu', s1, hlen.trans hlv, fun k hk => ?_, by simp [wldL, hlen]⟩
       rw [s2 k (fun e => by rw [e, hb] at hk; cases hk)]
       exact hkv k hk
 ·rintro ⟨fr, bs⟩ ⟨v, hv, hLv, hlv, hkv, rfl, q0, h1, h7⟩
  simp -implicitDefEqProofs [q0, h1, h7]
  refine za7 ids (fun i rest => fun ⟨fr, bs⟩ => bs = [⟨[wldL v], 3, .box⟩] ∧ fr 0 = .sl (ids.map irow) ids.length ∧ fr 1 = .int .i64 part ∧ fr 7 = .ptr 0 0 0 ∧ fr 14 = .int .i64 i)
   (fun ⟨fr, bs⟩ => True) (fun _ => False) zex.eq_1 ?_ ?_ ?_ ?_ ?_
  ·exact ⟨rfl, by simp [q0], by simp [h1], by simp [h7], rfl⟩
  ·rintro i ⟨fr, bs⟩ hi ⟨rfl, q0, h1, h7, h14⟩
   simp -implicitDefEqProofs [q0, h1, h7, h14, hi]
  ·rintro i id rest ⟨fr, bs⟩ hlt hget hg hd hd2 ⟨rfl, q0, h1, h7, h14⟩
   have hlt' : (i : Int) < ids.length := by omega
   have k0 : ¬ (i : Int) < 0 := by omega
   have hw : IntKind.wrap .i64 ((i : Int) + 1) = (i : Int) + 1 := zax (by omega) (by omega)
   cases hb : bitP part i with
   | false =>
     have hb' : ¬ part.fdiv (2 ^ min i IntKind.i64.bits) % 2 = 1 := of_decide_eq_false hb
     simp -implicitDefEqProofs [q0, h1, h7, h14, hlt, hlt', hget, hg, hb', hw, k0, wldL]
   | true =>
     have hb' : part.fdiv (2 ^ min i IntKind.i64.bits) % 2 = 1 := of_decide_eq_true hb
     have hx : v.nodes[i]? = some (newN id []) := by rw [hkv i hb]; simp [newW, hget]
     have hgx := z7v hx
     have j1 : i < v.nodes.length := by omega
     have j2 : (i : Int) < v.nodes.length := by omega
     have hsm : (newN id []).small := za3 (hv.node (List.mem_of_getElem? hx))
     have n1 := zu2 (newN id []) (newN id []) hsm
     have n1 : Den PP 30 [.agg (newN id []).cells, .agg [.bool true, .int .i64 id, .nil, .nil, .nil, .nil]] [] (.bool true) [] := zc5 (by
      simpa [nodeD, newN, newP, Node.cells, peersD, intsD, itemsD, toldsD] using n1)
     simp -implicitDefEqProofs [q0, h1, h7, h14, hlt, hlt', hget, hg, hb', hw, k0, wldL, j1, j2, hx, hgx, irow]
     refine zaa n1 ?_
     simp -implicitDefEqProofs [q0, h1, h7, h14, hw]
  ·rintro ⟨fr, bs⟩ _
   simp -implicitDefEqProofs
  ·rintro ⟨fr, bs⟩ h
   exact h.elim
 ·rintro ⟨fr, bs⟩ h
  exact h.elim
end Go.AM
