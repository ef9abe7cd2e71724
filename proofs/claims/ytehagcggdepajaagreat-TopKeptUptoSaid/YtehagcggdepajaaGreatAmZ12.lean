/- What the proof of this claim stands on, part 12. -/
import Derived.Test.YtehagcggdepajaaGreatAmZ11
set_option linter.unusedVariables false
set_option linter.unusedSimpArgs false
set_option maxRecDepth 8000
set_option maxHeartbeats 0
/- AM: contracts: a doer's node, what it sends, what it picks. -/
namespace Go.AM
theorem zl1 {w : Wld} {id : Int} (h : isN id w.nodes = true) : posN id w.nodes < w.nodes.length := (ztx h).1
theorem zub (w : Wld) (a : Act) (hl : w.nodes.length ≤ cap) (hr : zkk (cmpN a.node) w.nodes) (hi : isN a.node w.nodes = true) : Den PP 150 [.ptr 0 0 0, .ptr 4 0 0] [⟨[[.ref 1 0 w.nodes.length, .ref 2 0 w.cuts.length, .ref 3 0 w.packets.length]], 3, .box⟩, ⟨w.nodes.map Node.cells, 6, .mut⟩, ⟨w.cuts.map Cut.row, 2, .mut⟩, ⟨w.packets.map Msg.row, 11, .mut⟩, ⟨[a.cells], 7, .box⟩] (.ptr 1 (posN a.node w.nodes) 0) [⟨[[.ref 1 0 w.nodes.length, .ref 2 0 w.cuts.length, .ref 3 0 w.packets.length]], 3, .box⟩, ⟨w.nodes.map Node.cells, 6, .mut⟩, ⟨w.cuts.map Cut.row, 2, .mut⟩, ⟨w.packets.map Msg.row, 11, .mut⟩, ⟨[a.cells], 7, .box⟩] := by
 have c1 := zoj w a.node hl hr
 have hp := zl1 hi
 generalize posN a.node w.nodes = P at *
 rw [hi] at c1
 clear hi hr
 have hp' : (P : Int) < w.nodes.length := by omega
 simp only [Wld.cells, Act.cells, za2, zbc, zbl, zap] at c1 ⊢
 refine zak [] [] zmq ?_
 simp -implicitDefEqProofs [zjj]
 refine zaa c1 ?_
 simp -implicitDefEqProofs [hp, hp']
theorem zj4 (w : Wld) (id : Int) (qs : List Msg) (hl : w.nodes.length ≤ cap) (hr : zkk (cmpN id) w.nodes) (hi : isN id w.nodes = true) : Den PP 150 [.ptr 0 0 0, .ptr 4 0 0] [⟨[[.ref 1 0 w.nodes.length, .ref 2 0 w.cuts.length, .sl (w.packets.map Msg.row) w.packets.length]], 3, .box⟩, ⟨w.nodes.map Node.cells, 6, .mut⟩, ⟨w.cuts.map Cut.row, 2, .mut⟩, ⟨qs.map Msg.row, 11, .app⟩, ⟨[[.int .i64 0, .int .i64 id, .int .i64 0, .int .i64 0, .nil, .int .i64 0, .int .i64 0]], 7, .box⟩] (.ptr 1 (posN id w.nodes) 0) [⟨[[.ref 1 0 w.nodes.length, .ref 2 0 w.cuts.length, .sl (w.packets.map Msg.row) w.packets.length]], 3, .box⟩, ⟨w.nodes.map Node.cells, 6, .mut⟩, ⟨w.cuts.map Cut.row, 2, .mut⟩, ⟨qs.map Msg.row, 11, .app⟩, ⟨[[.int .i64 0, .int .i64 id, .int .i64 0, .int .i64 0, .nil, .int .i64 0, .int .i64 0]], 7, .box⟩] := by
 have c1 := zoj w id hl hr
 have hp := zl1 hi
 generalize posN id w.nodes = P at *
 rw [hi] at c1
 clear hi hr
 have hp' : (P : Int) < w.nodes.length := by omega
 simp only [Wld.cells, Act.cells, za2, zbc, zbl, zap] at c1 ⊢
 refine zak [] [] zmq ?_
 simp -implicitDefEqProofs [zjj]
 refine zaa c1 ?_
 simp -implicitDefEqProofs [hp, hp']
theorem zus (w : Wld) (ms : List Msg) (hw : za9 w = true) (hm : za9 { w with packets := ms } = true) : Den PP 151 [.ptr 0 0 0, zbl ms] [⟨[[.ref 1 0 w.nodes.length, .ref 2 0 w.cuts.length, .ref 3 0 w.packets.length]], 3, .box⟩, ⟨w.nodes.map Node.cells, 6, .mut⟩, ⟨w.cuts.map Cut.row, 2, .mut⟩, ⟨w.packets.map Msg.row, 11, .mut⟩] (.tup []) [⟨[(zc5 w ms).cells], 3, .box⟩, ⟨w.nodes.map Node.cells, 6, .app⟩, ⟨w.cuts.map Cut.row, 2, .app⟩, ⟨w.packets.map Msg.row, 11, .app⟩] := by
 have c1 := zyh w ms hw hm
 have e : (zc5 w ms).nodes = w.nodes ∧ (zc5 w ms).cuts = w.cuts := ⟨rfl, rfl⟩
 generalize zc5 w ms = v at *
 obtain ⟨ns, cs, ps⟩ := v
 obtain ⟨e1, e2⟩ := e
 simp only at e1 e2
 subst e1 e2
 clear hw hm
 simp only [wldD, wldR, wldB, Wld.cells, Act.cells, za2, zbc, zbl, zap] at c1 ⊢
 refine zak [] [] zmn ?_
 simp -implicitDefEqProofs [zi2]
 refine zaa c1 ?_
 simp -implicitDefEqProofs [zar]
theorem zj2 (w : Wld) (ms : List Msg) (qs : List Msg) (hw : za9 w = true) (hm : za9 { w with packets := ms } = true) : Den PP 151 [.ptr 0 0 0, zbl ms] [⟨[[.ref 1 0 w.nodes.length, .ref 2 0 w.cuts.length, .sl (w.packets.map Msg.row) w.packets.length]], 3, .box⟩, ⟨w.nodes.map Node.cells, 6, .mut⟩, ⟨w.cuts.map Cut.row, 2, .mut⟩, ⟨qs.map Msg.row, 11, .app⟩] (.tup []) [⟨[(zc5 w ms).cells], 3, .box⟩, ⟨w.nodes.map Node.cells, 6, .app⟩, ⟨w.cuts.map Cut.row, 2, .app⟩, ⟨qs.map Msg.row, 11, .app⟩] := by
 have c1 := zyh w ms hw hm
 have e : (zc5 w ms).nodes = w.nodes ∧ (zc5 w ms).cuts = w.cuts := ⟨rfl, rfl⟩
 generalize zc5 w ms = v at *
 obtain ⟨ns, cs, ps⟩ := v
 obtain ⟨e1, e2⟩ := e
 simp only at e1 e2
 subst e1 e2
 clear hw hm
 simp only [wldD, wldR, wldB, Wld.cells, Act.cells, za2, zbc, zbl, zap] at c1 ⊢
 refine zak [] [] zmn ?_
 simp -implicitDefEqProofs [zi2]
 refine zaa c1 ?_
 simp -implicitDefEqProofs [zar]
def zdt (w : Wld) (a : Act) : Nat := (a.pick % w.packets.length).toNat
def zfh (w : Wld) (p : Nat) : List Msg := w.packets.take p ++ w.packets.drop (p + 1)
theorem zlo (w : Wld) (a : Act) (m : Msg) (hw : w.tiny) (hq : zfi w.packets = true) (h0 : 0 ≤ a.pick) (hp : a.pick ≤ 65535) (hm : w.packets[zdt w a]? = some m) : Den PP 152 [.ptr 0 0 0, .ptr 4 0 0] (actB w a) (.tup [msgD m, zbl (zfh w (zdt w a)), .bool true])
 [⟨[[.ref 1 0 w.nodes.length, .ref 2 0 w.cuts.length, .ref 3 0 w.packets.length]], 3, .box⟩, ⟨w.nodes.map Node.cells, 6, .mut⟩, ⟨w.cuts.map Cut.row, 2, .mut⟩, ⟨w.packets.map Msg.row, 11, .app⟩, ⟨[a.cells], 7, .box⟩] := by
 have c1 := z8f w.packets (zdt w a) m (fun m hm => by have := hw.packet m hm; unfold cap; omega) hq hm
 have hlt := (List.getElem?_eq_some_iff.1 hm).1
 have h512 := hw.packets
 have e : (zfh w (zdt w a)) = w.packets.take (zdt w a) ++ w.packets.drop (zdt w a + 1) := rfl
 rw [← e] at c1
 have hmod : ((zdt w a : Nat) : Int) = a.pick % w.packets.length := by
  unfold zdt
  rw [Int.toNat_of_nonneg (Int.emod_nonneg _ (by omega))]
 have hmod2 : a.pick.tmod w.packets.length = ((zdt w a : Nat) : Int) := by rw [hmod, Int.tmod_eq_emod_of_nonneg h0]
 generalize zfh w (zdt w a) = ls at *
 generalize zdt w a = P at *
 clear hq hmod e
 have hne : ¬ (w.packets.length : Int) = 0 := by omega
 have hne2 : ¬ w.packets = [] := by intro h; rw [h] at hlt; simp at hlt
 unfold actB
 simp only [msgD, Msg.row, Wld.cells, Act.cells, za2, zbc, zbl, zap] at c1 ⊢
 refine zak [] [] zqz ?_
 simp -implicitDefEqProofs [zkp, hne, hne2, hmod2]
 refine zaa c1 ?_
 simp -implicitDefEqProofs [zar, hmod2]
end Go.AM
/- AM: contracts: the document's take; a node spoiled. -/
namespace Go.AM
end Go.AM
/- Plain law: a store takes items twice. -/
namespace Go.AM

end Go.AM
/- AM: contracts: writing; the document's. -/
namespace Go.AM
def getW : Option Item → Item × Bool
 | some i => (i, true)
 | none => (zeroItem, false)
theorem qbc {is : List Item} (h : zbu is = true) (k : Int) : getR is k = getW (getS is k) := by
 unfold getR
 rw [if_pos h]
 cases getS is k <;> rfl
end Go.AM
/- AM: chapter 17's statements: Writes. -/
namespace Go.AM
end Go.AM
/- AM: contracts: acts that turn one node. -/
namespace Go.AM
def doA (w : Wld) (a : Act) (P : Nat) (cs : List D) : List Blk := [⟨[[.ref 1 0 w.nodes.length, .ref 2 0 w.cuts.length, .ref 3 0 w.packets.length]], 3, .box⟩, ⟨(w.nodes.map Node.cells).set P cs, 6, .mut⟩, ⟨w.cuts.map Cut.row, 2, .mut⟩, ⟨w.packets.map Msg.row, 11, .mut⟩, ⟨[a.cells], 7, .box⟩]
end Go.AM
/- AM: contracts: cuts put in, taken out, asked for. -/
namespace Go.AM
theorem qhe (a b : Int) : (if b < a then b else a) = min a b := by omega
theorem qf9 (a b : Int) : (if a < b then b else a) = max a b := by omega
theorem qev (a b : Int) : (if b < a then a else b) = max a b := by omega
theorem z4d (cs : List Cut) (a b : Int) (hl : cs.length ≤ cap) (h : zwd cs a b = false) : Den PP 208 [zbc cs, .int .i64 a, .int .i64 b] [] (.tup [.agg [.nil, .int .i64 0, .int .i64 0, .int .i64 0, .bool false], .bool false]) [] := by
 have c1 := zyu cs hl
 have c2 := zaz a
 have c3 := zaz b
 simp only [zbc, zwd] at c1 h
 generalize zec cs = M at *
 generalize place a = X at *
 generalize place b = Y at *
 by_cases hab : a = b
 ·clear h
  refine zak [] [] zp6 ?_
  cases M <;> cases X <;> cases Y
  all_goals
   simp -implicitDefEqProofs [zot, zbc]
   repeat' ((first | refine zaa (by first | exact c1 | exact c2 | exact c3) ?_ | ((with_reducible first | refine zaj ?_ ?_ | refine zah ?_ ?_ | refine zae ?_ ?_ | refine zad ?_ ?_) <;> intro _) | ((with_reducible first | refine zao ?_ ?_ | refine zaq ?_ ?_ | refine zal ?_ ?_ | refine zac ?_ ?_ | refine zai ?_ ?_ | refine zan ?_ ?_ | refine zaf ?_ ?_ | refine zab ?_ ?_) <;> intro hq <;> (try simp at hq)) | refine zag (by omega) ?_ | refine zam (by omega) ?_) <;> simp -implicitDefEqProofs [*, hab])
 ·simp [hab] at h
  refine zak [] [] zp6 ?_
  cases M <;> cases X <;> cases Y
  all_goals
   simp at h
  all_goals
   simp -implicitDefEqProofs [zot, zbc]
   repeat' ((first | refine zaa (by first | exact c1 | exact c2 | exact c3) ?_ | ((with_reducible first | refine zaj ?_ ?_ | refine zah ?_ ?_ | refine zae ?_ ?_ | refine zad ?_ ?_) <;> intro _) | ((with_reducible first | refine zao ?_ ?_ | refine zaq ?_ ?_ | refine zal ?_ ?_ | refine zac ?_ ?_ | refine zai ?_ ?_ | refine zan ?_ ?_ | refine zaf ?_ ?_ | refine zab ?_ ?_) <;> intro hq <;> (try simp at hq)) | refine zag (by omega) ?_ | refine zam (by omega) ?_) <;> simp -implicitDefEqProofs [*, hab])
theorem qeg (cs : List Cut) (a b : Int) (hl : cs.length ≤ cap) (h : zwd cs a b = true) : Den PP 208 [zbc cs, .int .i64 a, .int .i64 b] [] (.tup [.agg [.ref 0 0 cs.length, .int .i64 (znf a b).a, .int .i64 (znf a b).b, .int .i64 (posC (fun x => ordC x (znf a b)) cs), .bool (decide (znf a b ∈ cs))], .bool true]) [⟨cs.map Cut.row, 2, .mut⟩] := by
 obtain ⟨h1, h2, h3, h4⟩ := z96.1 h
 obtain ⟨k1, k2, k3⟩ := z3e.1 h1
 have hc := qdv h2 h3 h4
 have c1 := zyu cs hl
 have c2 := zaz a
 have c3 := zaz b
 have c4 := z33 cs 162 (znf a b) (fun x => ordC x (znf a b)) (fun x _ => zw5 x (znf a b)) hl (qet hc k1 k2)
 have c5 := z1u (cs.map Cut.row) (by intro r hr; obtain ⟨a, _, rfl⟩ := List.mem_map.1 hr; exact ⟨rfl, rfl⟩) (by simp; omega)
 rw [qja hc k1 k2] at c4
 rw [h1] at c1
 rw [h2] at c2
 rw [h3] at c3
 simp only [zbc, List.length_map] at c1 c4 c5
 have e1 : (znf a b).a = min a b := rfl
 have e2 : (znf a b).b = max a b := rfl
 rw [e1, e2] at c4
 rw [e1, e2]
 generalize posC (fun x => ordC x (znf a b)) cs = p at *
 generalize decide (znf a b ∈ cs) = A at *
 clear e1 e2 hc k1 k2 h h1 h2 h3
 refine zak [44] [] zp6 ?_
 simp -implicitDefEqProofs [zot, zbc]
 repeat' ((first | refine zaa (by first | exact c1 | exact c2 | exact c3) ?_ | ((with_reducible first | refine zaj ?_ ?_ | refine zah ?_ ?_ | refine zae ?_ ?_ | refine zad ?_ ?_) <;> intro _) | ((with_reducible first | refine zao ?_ ?_ | refine zaq ?_ ?_ | refine zal ?_ ?_ | refine zac ?_ ?_ | refine zai ?_ ?_ | refine zan ?_ ?_ | refine zaf ?_ ?_ | refine zab ?_ ?_) <;> intro hq <;> (try simp at hq)) | refine zag (by omega) ?_ | refine zam (by omega) ?_) <;> simp -implicitDefEqProofs [*, h4])
 simp -implicitDefEqProofs [minL, minF, qhe, qf9, qev]
 refine zaa c4 ?_
 simp -implicitDefEqProofs
 refine zaa c5 ?_
 simp -implicitDefEqProofs [zar]
theorem zy8 (cs : List Cut) (a b : Int) (hl : cs.length ≤ cap) : Den PP 153 [zbc cs, .int .i64 a, .int .i64 b] [] (.tup [.bool (isC cs a b).1, .int .i64 (isC cs a b).2]) [] := by
 cases h : zwd cs a b with
 | false =>
   have c1 := z4d cs a b hl h
   rw [show isC cs a b = (false, 1500) by simp [isC, h]]
   simp only [zbc] at c1
   refine zak [] [] zyd ?_
   simp -implicitDefEqProofs [zuu, zbc]
   refine zaa c1 ?_
   simp -implicitDefEqProofs [zar]
 | true =>
   have c1 := qeg cs a b hl h
   rw [show isC cs a b = (decide (znf a b ∈ cs), 0) by simp [isC, h]]
   generalize decide (znf a b ∈ cs) = A at *
   generalize posC (fun x => ordC x (znf a b)) cs = p at *
   generalize znf a b = c at *
   simp only [zbc] at c1
   refine zak [] [] zyd ?_
   simp -implicitDefEqProofs [zuu, zbc]
   refine zaa c1 ?_
   simp -implicitDefEqProofs [zar]
end Go.AM
/- AM: contracts: packets lost, doubled; cuts made, healed. -/
namespace Go.AM
def doC (w : Wld) (a : Act) (ls : List Msg) : List Blk := [⟨[[.ref 1 0 w.nodes.length, .ref 2 0 w.cuts.length, .sl (ls.map Msg.row) ls.length]], 3, .box⟩, ⟨w.nodes.map Node.cells, 6, .mut⟩, ⟨w.cuts.map Cut.row, 2, .mut⟩, ⟨w.packets.map Msg.row, 11, .app⟩, ⟨[a.cells], 7, .box⟩]
def doS (w v : Wld) (qs : List Msg) (a : Act) : List Blk := [⟨[v.cells], 3, .box⟩, ⟨w.nodes.map Node.cells, 6, .app⟩, ⟨w.cuts.map Cut.row, 2, .app⟩, ⟨qs.map Msg.row, 11, .app⟩, ⟨[a.cells], 7, .box⟩]
end Go.AM
/- AM: contracts: slices.Grow of nothing, slices.Concat. -/
namespace Go.AM
theorem qda (n : Nat) (h0 : 0 < n) (hn : n ≤ zbo) : Den PP 187 [.nil, .int .i64 n] [] (.ref 0 0 0) [⟨List.replicate n [.int .i64 0], 1, .mut⟩] := by
 unfold zbo at hn
 have w1 : IntKind.wrap .i64 (n : Int) = n := zaw (by omega) (by omega)
 have h1 : ¬ (n : Int) < 0 := by omega
 have h2 : (0 : Int) < n := by omega
 refine zak [] [] zm9 ?_
 have w0 : IntKind.wrap .i64 0 = 0 := zaw (by omega) (by omega)
 simp -implicitDefEqProofs [zht, w0, w1, h1, h2, h0, zjm, za8]
 refine zz3 ⟨by omega, by omega⟩ ?_
 rw [z1h]
 refine ⟨fun r hr => by rw [(List.mem_replicate.1 hr).2]; exact ⟨rfl, rfl⟩, ?_⟩
 simp -implicitDefEqProofs [zjn]
 refine zag ⟨by omega, by omega⟩ ?_
 simp -implicitDefEqProofs [w0, w1, zjm, za8]
def lrow (xs : List Int) : List D := [.sl (xs.map irow) xs.length]
theorem z0i {L : List (List Int)} {i : Nat} {a : List Int} (h : L[i]? = some a) : (L.take (i + 1)).flatten = (L.take i).flatten ++ a := by
 have e1 : L.take (i + 1) = L.take i ++ [a] := by rw [List.take_add_one, h]; rfl
 rw [e1]; simp
def tot (L : List (List Int)) : Nat := L.flatten.length
theorem z6l {L : List (List Int)} {i : Nat} {a : List Int} (h : L[i]? = some a) : tot (L.take (i + 1)) = tot (L.take i) + a.length ∧ tot (L.take i) + a.length ≤ tot L := by
 have e : L.flatten = (L.take (i + 1)).flatten ++ (L.drop (i + 1)).flatten := by rw [← List.flatten_append, List.take_append_drop]
 unfold tot
 rw [e, z0i h]
 simp
def frow (L : List (List Int)) : List (List D) := L.flatten.map irow
theorem zu2 (L : List (List Int)) : (frow L).length = tot L := by simp [frow, tot]
theorem qbt {L : List (List Int)} {i : Nat} {a : List Int} (h : L[i]? = some a) : frow (L.take (i + 1)) = frow (L.take i) ++ a.map irow := by
 unfold frow
 rw [z0i h, List.map_append]
theorem qay (A ys : List (List D)) (z : List D) (n s k : Nat) (hA : A.length = s) (hk : ys.length = k) (h : s + k ≤ n) :
 (A ++ List.replicate (n - s) z).take s ++ ys ++ (A ++ List.replicate (n - s) z).drop (s + k) = (A ++ ys) ++ List.replicate (n - (s + k)) z := by
 subst hA hk
 rw [List.take_left, List.drop_append, List.drop_eq_nil_of_le (by omega), List.nil_append, List.drop_replicate]
 congr 2
 omega
theorem z9f (L : List (List Int)) : StillR (frow L) := StillR.map _ _ fun a _ d hd => by rw [List.mem_singleton.1 hd]; rfl
theorem z7y (L : List (List Int)) (S : Nat → Bool) : (frow L).map (fun r => r.map (D.sweep S)) = frow L := (z9f L).mapR _ _
theorem z5i (L : List (List Int)) (hl : L.length ≤ zbo) (h0 : 0 < tot L) (hn : tot L ≤ zbo) : Den PP 113 [.sl (L.map lrow) L.length] [] (.ref 0 0 (tot L)) [⟨frow L, 1, .mut⟩] := by
 have c1 := qda (tot L) h0 hn
 unfold zbo at hl hn
 refine zak [24] [] zkt ?_
 simp -implicitDefEqProofs [zgk]
 refine za3 L (fun i rest => fun ⟨fr, bs⟩ => bs = [⟨[], 1, .mut⟩] ∧ fr 0 = .sl (L.map lrow) L.length ∧ fr 3 = .int .i64 (tot (L.take i)) ∧ fr 9 = .sl (L.map lrow) L.length ∧ fr 10 = .int .i64 L.length ∧ fr 11 = .int .i64 i)
  (fun ⟨fr, bs⟩ => bs = [⟨[], 1, .mut⟩] ∧ fr 0 = .sl (L.map lrow) L.length ∧ fr 3 = .int .i64 (tot L)) (fun _ => False) zfm.eq_1 ?_ ?_ ?_ ?_ ?_
 ·exact ⟨rfl, rfl, rfl, rfl, rfl, rfl⟩
 ·rintro i ⟨fr, bs⟩ hi ⟨rfl, h0, h3, h9, h10, h11⟩
  subst hi
  rw [List.take_length] at *
  simp -implicitDefEqProofs [h0, h3, h9, h10, h11]
 ·rintro i a rest ⟨fr, bs⟩ hlt hget hg hd hd2 ⟨rfl, h0, h3, h9, h10, h11⟩
  have hlt' : (i : Int) < L.length := by omega
  have hw := za5 (n := i) (by omega)
  obtain ⟨e1, e2⟩ := z6l hget
  rw [e1]
  clear e1
  generalize tot (L.take i) = s at *
  have w1 : IntKind.wrap .i64 ((s : Int) + a.length) = (s : Int) + a.length := zaw (by omega) (by omega)
  have h1 : ¬ (s : Int) + a.length < 0 := by omega
  simp -implicitDefEqProofs [h0, h3, h9, h10, h11, hlt, hlt', hget, hg, lrow, w1, h1]
  repeat' ((first | ((with_reducible first | refine zaj ?_ ?_ | refine zah ?_ ?_ | refine zae ?_ ?_ | refine zad ?_ ?_) <;> intro _) | ((with_reducible first | refine zao ?_ ?_ | refine zaq ?_ ?_ | refine zal ?_ ?_ | refine zac ?_ ?_ | refine zai ?_ ?_ | refine zan ?_ ?_ | refine zaf ?_ ?_ | refine zab ?_ ?_) <;> intro hq <;> (try simp at hq)) | refine zag (by omega) ?_ | refine zam (by omega) ?_) <;> simp -implicitDefEqProofs [*, h0, h3, h9, h10, h11, hlt, hlt', hget, hg, lrow, w1, h1, hw])
  exact zaw (by omega) (by omega)
 ·rintro ⟨fr, bs⟩ ⟨rfl, h0, h3⟩
  simp -implicitDefEqProofs [h0, h3]
  refine zaa c1 ?_
  simp -implicitDefEqProofs [h0, h3]
  refine za3 L (fun i rest => fun ⟨fr, bs⟩ => bs = [⟨[], 1, .mut⟩, ⟨frow (L.take i) ++ List.replicate (tot L - tot (L.take i)) [.int .i64 0], 1, .mut⟩] ∧ fr 6 = .ref 1 0 (tot (L.take i)) ∧ fr 25 = .sl (L.map lrow) L.length ∧ fr 26 = .int .i64 L.length ∧ fr 27 = .int .i64 i)
   (fun ⟨fr, bs⟩ => bs = [⟨[], 1, .mut⟩, ⟨frow L, 1, .mut⟩] ∧ fr 6 = .ref 1 0 (tot L)) (fun _ => False) zfl.eq_1 ?_ ?_ ?_ ?_ ?_
  ·exact ⟨by simp [tot, frow], by simp [tot], rfl, rfl, rfl⟩
  ·rintro i ⟨fr, bs⟩ hi ⟨rfl, h6, h25, h26, h27⟩
   subst hi
   rw [List.take_length, Nat.sub_self, List.replicate_zero, List.append_nil] at *
   simp -implicitDefEqProofs [h6, h25, h26, h27]
  ·rintro i a rest ⟨fr, bs⟩ hlt hget hg hd hd2 ⟨rfl, h6, h25, h26, h27⟩
   have hlt' : (i : Int) < L.length := by omega
   obtain ⟨e1, e2⟩ := z6l hget
   have e4 := qay (frow (L.take i)) (a.map irow) [.int .i64 0] (tot L) (tot (L.take i)) a.length (zu2 _) (by simp) e2
   have e5 := zu2 (L.take i)
   rw [← qbt hget] at e4
   rw [e1]
   clear e1
   have hsw := z7y (L.take (i + 1))
   generalize frow (L.take (i + 1)) = B' at *
   generalize frow (L.take i) = B at *
   generalize tot (L.take i) = s at *
   generalize tot L = n at *
   have hB : (B ++ List.replicate (n - s) [D.int IntKind.i64 0]).length = n := by simp; omega
   generalize (B ++ List.replicate (n - s) [D.int IntKind.i64 0]) = R at *
   simp -implicitDefEqProofs [h6, h25, h26, h27, hlt, hlt', hget, hg, lrow, zjn]
   rw [List.append_assoc] at e4
   refine zag ⟨by omega, by omega⟩ ?_
   by_cases hs : s = n
   ·refine zag (by omega) ?_
    have ha : a = [] := List.length_eq_zero_iff.1 (by omega)
    subst ha
    have e6 : R = B' ++ List.replicate (n - (s + 0)) [D.int IntKind.i64 0] := by
     simpa using e4
    subst e6
    simp -implicitDefEqProofs [h6, h25, h26, h27, hsw]
    exact zaw (by omega) (by omega)
   ·refine zcw (by omega) ?_
    refine zag (by omega) ?_
    rw [e4]
    simp -implicitDefEqProofs [h6, h25, h26, h27, hsw]
    exact zaw (by omega) (by omega)
  ·rintro ⟨fr, bs⟩ ⟨rfl, h6⟩
   simp -implicitDefEqProofs [h6]
  ·rintro ⟨fr, bs⟩ h
   exact h.elim
 ·rintro ⟨fr, bs⟩ h
  exact h.elim
end Go.AM
