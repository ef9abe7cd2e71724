/- What the proof of this claim stands on, part 14. -/
import Derived.Test.YtehagcggdepajaaGreatAmZ13
set_option linter.unusedVariables false
set_option linter.unusedSimpArgs false
set_option maxRecDepth 8000
set_option maxHeartbeats 0
/- AM: the statement TopKnown. -/
namespace Go.AM
theorem zqh {α : Type} {us : List α} {i : Nat} {a : α} (h : us[i]? = some a) : ∀ hl : i < us.length, us[i] = a := fun hl => by
 rw [List.getElem?_eq_getElem hl] at h
 exact Option.some.inj h
theorem qby (v : View) (h : zbd v = true) : Den PP 24 [zd6 v] [] (.ref 0 0 (zbm v).length) [⟨(zbm v).map irow, 1, .mut⟩] := by
 obtain ⟨m1, m2, m3, m4⟩ := za1 h
 have c1 := zt7 v.peers (by unfold zbo; omega)
 unfold zbm
 clear m1 m2 m4 h
 simp only [zd6, View.cells, zat, zap, List.map_append, List.length_append, List.length_map, List.map_map, Function.comp_def] at c1 ⊢
 refine zak [6] [] zra ?_
 simp -implicitDefEqProofs [zlb]
 refine zaa c1 ?_
 simp -implicitDefEqProofs
 refine zag ⟨by omega, by omega⟩ ?_
 simp -implicitDefEqProofs
theorem qh9 (xs : List Int) (x : Int) (hl : xs.length ≤ cap) : Den PP 25 [zap xs, .int .i64 x] [] (.bool (decide (x ∈ xs))) [] := by
 obtain ⟨A, hA⟩ : ∃ A, decide (x ∈ xs) = A := ⟨_, rfl⟩
 unfold cap at hl
 rw [hA]
 refine zak [] [] zui ?_
 simp -implicitDefEqProofs [zo8, zap]
 refine za3 xs (fun i rest => fun ⟨fr, bs⟩ => bs = [] ∧ fr 0 = zap xs ∧ fr 1 = .int .i64 x ∧ fr 5 = .int .i64 i ∧ decide (x ∈ rest) = A)
  (fun ⟨fr, bs⟩ => bs = [] ∧ A = false) (fun ⟨fr, bs⟩ => fr 4 = .bool true ∧ A = true) zkq.eq_1 ?_ ?_ ?_ ?_ ?_
 ·exact ⟨rfl, rfl, rfl, rfl, hA⟩
 ·rintro i ⟨fr, bs⟩ hi ⟨rfl, h0, h1, h5, he⟩
  simp -implicitDefEqProofs [h0, h1, h5, hi, zap]
  simpa using he.symm
 ·rintro i a rest ⟨fr, bs⟩ hlt hget hg hd hd2 ⟨rfl, h0, h1, h5, he⟩
  have hlt' : (i : Int) < xs.length := by omega
  have hw : IntKind.wrap .i64 ((i : Int) + 1) = (i : Int) + 1 := zaw (by omega) (by omega)
  by_cases ha : a = x
  ·subst ha
   simp -implicitDefEqProofs [h0, h1, h5, hlt, hlt', hget, hg, zap, irow]
   simpa using he.symm
  ·have ha2 : ¬ x = a := fun e => ha e.symm
   simp -implicitDefEqProofs [h0, h1, h5, hlt, hlt', hget, hg, zap, irow, ha, hw]
   simpa [ha2] using he
 ·rintro ⟨fr, bs⟩ ⟨rfl, h1⟩
  simp -implicitDefEqProofs [h1]
 ·rintro ⟨fr, bs⟩ ⟨h, h1⟩
  simp -implicitDefEqProofs [h, h1]
def wldL (w : Wld) : List D := [.sl (w.nodes.map Node.cells) w.nodes.length, .sl (w.cuts.map Cut.row) w.cuts.length, .sl (w.packets.map Msg.row) w.packets.length]
end Go.AM
/- AM: contracts: the best there is of a key. -/
namespace Go.AM
def ziw (ms : List Msg) : List Item := (ms.filter fun m => decide (m.kind = 1)).map Msg.item
def zhh (xs : List Node) : List Item := xs.flatMap Node.items
def zf8 (w : Wld) : List Item := zhh w.nodes ++ ziw w.packets
def zg0 (ks : List Int) (i : Item) : List Int := if i.key ∈ ks then ks else ks ++ [i.key]
def zob (xs : List Item) : List Int := xs.foldl zg0 []
def zmc (k : Int) (s : Item × Bool) (i : Item) : Item × Bool := if i.key = k then (if s.2 = true then ((zrw s.1 i).1, true) else (i, true)) else s
def zjr (k : Int) (xs : List Item) : Item × Bool := xs.foldl (zmc k) (zeroItem, false)
theorem z6v (xs : List Item) : ∀ i ∈ xs, i.key ∈ zob xs := by
 have key : ∀ (xs : List Item) (ks : List Int), (∀ j ∈ ks, j ∈ xs.foldl zg0 ks) ∧ ∀ i ∈ xs, i.key ∈ xs.foldl zg0 ks := by
  intro xs
  induction xs with
  | nil => intro ks; exact ⟨fun j hj => hj, by simp⟩
  | cons x xs ih =>
    intro ks
    obtain ⟨a, b⟩ := ih (zg0 ks x)
    have hx : ∀ j ∈ ks, j ∈ zg0 ks x := by
     intro j hj
     unfold zg0
     split
     ·exact hj
     ·simp [hj]
    have hk : x.key ∈ zg0 ks x := by
     unfold zg0
     split
     ·assumption
     ·simp
    refine ⟨fun j hj => a j (hx j hj), fun i hi => ?_⟩
    rcases List.mem_cons.1 hi with rfl | hi
    ·exact a _ hk
    ·exact b i hi
 exact (key xs []).2
theorem z7c (xs : List Item) : (zob xs).length ≤ xs.length := by
 have key : ∀ (xs : List Item) (ks : List Int), (xs.foldl zg0 ks).length ≤ ks.length + xs.length := by
  intro xs
  induction xs with
  | nil => intro ks; simp
  | cons x xs ih =>
    intro ks
    have h1 := ih (zg0 ks x)
    have h2 : (zg0 ks x).length ≤ ks.length + 1 := by
     unfold zg0
     split <;> simp
    rw [List.foldl_cons, List.length_cons]
    omega
 have := key xs []
 unfold zob
 simpa using this
structure BestInv (k : Int) (pre : List Item) (s : Item × Bool) : Prop where
 none : s.2 = false → s.1 = zeroItem ∧ ∀ i ∈ pre, i.key ≠ k
 some : s.2 = true → s.1 ∈ pre ∧ s.1.key = k ∧ ∀ i ∈ pre, i.key = k → ze6 i s.1 = s.1
theorem qbx {k : Int} {pre : List Item} {s : Item × Bool} {i : Item} (h : BestInv k pre s) (hp : ∀ j ∈ pre, zba j = true) (hi : zba i = true) : BestInv k (pre ++ [i]) (zmc k s i) := by
 unfold zmc
 by_cases hk : i.key = k
 ·rw [if_pos hk]
  cases hs : s.2 with
  | false =>
    rw [if_neg (by simp)]
    refine ⟨(fun h => nomatch h), fun _ => ⟨by simp, hk, fun j hj hjk => ?_⟩⟩
    rcases List.mem_append.1 hj with hj | hj
    ·exact absurd hjk ((h.none hs).2 j hj)
    ·rw [List.mem_singleton.1 hj]; exact zse i
  | true =>
    rw [if_pos rfl]
    obtain ⟨a, b, c⟩ := h.some hs
    have e : zrw s.1 i = (ze6 s.1 i, 0) := by simp [zrw, hp _ a, hi, b, hk]
    rw [e]
    refine ⟨(fun h => nomatch h), fun _ => ⟨?_, ?_, fun j hj hjk => ?_⟩⟩
    ·rcases zza s.1 i with e | e <;> simp only [e] <;> simp [a]
    ·rcases zza s.1 i with e | e <;> simp only [e]
     ·exact b
     ·exact hk
    ·show ze6 j (ze6 s.1 i) = ze6 s.1 i
     rcases List.mem_append.1 hj with hj | hj
     ·rw [← zvt (by rw [hjk, b]) (by rw [b, hk]), c j hj hjk]
     ·rw [List.mem_singleton.1 hj, zxo (by rw [zqs (by rw [b, hk])]), zvt (by rw [b, hk]) rfl, zse]
 ·rw [if_neg hk]
  refine ⟨fun hs => ⟨(h.none hs).1, fun j hj => ?_⟩, fun hs => ?_⟩
  ·rcases List.mem_append.1 hj with hj | hj
   ·exact (h.none hs).2 j hj
   ·rw [List.mem_singleton.1 hj]; exact hk
  ·obtain ⟨a, b, c⟩ := h.some hs
   refine ⟨by simp [a], b, fun j hj hjk => ?_⟩
   rcases List.mem_append.1 hj with hj | hj
   ·exact c j hj hjk
   ·rw [List.mem_singleton.1 hj] at hjk; exact absurd hjk hk
theorem qdj (k : Int) (xs : List Item) (hx : ∀ i ∈ xs, zba i = true) : BestInv k xs (zjr k xs) := by
 have key : ∀ (rest pre : List Item) (s : Item × Bool), (∀ i ∈ pre ++ rest, zba i = true) → BestInv k pre s → BestInv k (pre ++ rest) (rest.foldl (zmc k) s) := by
  intro rest
  induction rest with
  | nil => intro pre s _ h; simpa using h
  | cons i rest ih =>
    intro pre s hm h
    have := ih (pre ++ [i]) (zmc k s i) (by simpa using hm) (qbx h (fun j hj => hm j (by simp [hj])) (hm i (by simp)))
    simpa using this
 exact key xs [] _ (by simpa using hx) ⟨fun _ => ⟨rfl, by simp⟩, fun h => by cases h⟩
end Go.AM
/- AM: contracts: best, walked. -/
namespace Go.AM
theorem qcv {ms : List Msg} {i : Nat} {m : Msg} (h : ms[i]? = some m) : ziw (ms.take (i + 1)) = if m.kind = 1 then ziw (ms.take i) ++ [m.item] else ziw (ms.take i) := by
 have e1 : ms.take (i + 1) = ms.take i ++ [m] := by rw [List.take_add_one, h]; rfl
 rw [e1]
 unfold ziw
 rw [List.filter_append, List.map_append]
 by_cases hk : m.kind = 1
 ·simp [hk]
 ·simp [hk]
theorem z74 {ns : List Node} {i : Nat} {x : Node} (h : ns[i]? = some x) : zhh (ns.take (i + 1)) = zhh (ns.take i) ++ x.items := by
 have e1 : ns.take (i + 1) = ns.take i ++ [x] := by rw [List.take_add_one, h]; rfl
 unfold zhh
 rw [e1]; simp
theorem qej (ns : List Node) (i : Nat) : (zhh (ns.take i)).length ≤ (zhh ns).length := by
 have : ns = ns.take i ++ ns.drop i := (List.take_append_drop i ns).symm
 conv => rhs; rw [this]
 unfold zhh
 rw [List.flatMap_append, List.length_append]
 omega
theorem qe9 (ms : List Msg) (i : Nat) : (ziw (ms.take i)).length ≤ (ziw ms).length := by
 have : ms = ms.take i ++ ms.drop i := (List.take_append_drop i ms).symm
 conv => rhs; rw [this]
 unfold ziw
 rw [List.filter_append, List.map_append, List.length_append]
 omega
theorem qei (w : Wld) (k : Int) (hn : w.nodes.length ≤ 1048576) (hm : w.packets.length ≤ 1048576) (hb : (zf8 w).length ≤ 1048576) :
 Den PP 16 [.agg (wldL w), .int .i64 k] [] (.tup [.agg (zjr k (zf8 w)).1.row, .bool (zjr k (zf8 w)).2, .int .i64 (zob (zf8 w)).length]) [] := by
 obtain ⟨ns, cs, ps⟩ := w
 simp only at hn hm
 unfold zf8 at hb ⊢
 simp only at hb ⊢
 obtain ⟨R, hR⟩ : ∃ R, zjr k (zhh ns ++ ziw ps) = R := ⟨_, rfl⟩
 obtain ⟨K, hK⟩ : ∃ K, zob (zhh ns ++ ziw ps) = K := ⟨_, rfl⟩
 have hKl := z7c (zhh ns ++ ziw ps)
 rw [hK] at hKl
 rw [hR, hK]
 rw [List.length_append] at hb
 simp only [wldL]
 have bN := qej ns
 have bP := qe9 ps
 refine zak [] [] zsq ?_
 simp -implicitDefEqProofs [zmm]
 refine za3 ns (fun i rest => fun ⟨fr, bs⟩ => bs = [⟨[[.sl (ns.map Node.cells) ns.length, .sl (cs.map Cut.row) cs.length, .sl (ps.map Msg.row) ps.length]], 3, .box⟩, ⟨[zeroItem.row], 5, .box⟩, ⟨(zhh (ns.take i)).map Item.row, 5, .mut⟩] ∧ fr 1 = .int .i64 k ∧ fr 2 = .ptr 0 0 0 ∧ fr 4 = .ptr 1 0 0 ∧ fr 7 = .ref 2 0 (zhh (ns.take i)).length ∧ fr 8 = .int .i64 i)
  (fun ⟨fr, bs⟩ => bs = [⟨[[.sl (ns.map Node.cells) ns.length, .sl (cs.map Cut.row) cs.length, .sl (ps.map Msg.row) ps.length]], 3, .box⟩, ⟨[zeroItem.row], 5, .box⟩, ⟨(zhh ns).map Item.row, 5, .mut⟩] ∧ fr 1 = .int .i64 k ∧ fr 2 = .ptr 0 0 0 ∧ fr 4 = .ptr 1 0 0 ∧ fr 7 = .ref 2 0 (zhh ns).length) (fun _ => False) zi7.eq_1 ?_ ?_ ?_ ?_ ?_
 ·exact ⟨rfl, rfl, rfl, rfl, rfl, rfl⟩
 ·rintro i ⟨fr, bs⟩ hi ⟨rfl, g1, g2, g4, g7, g8⟩
  subst hi
  rw [List.take_length] at *
  simp -implicitDefEqProofs [g1, g2, g4, g7, g8]
 ·rintro i a rest ⟨fr, bs⟩ hlt hget hgg hd hd2 ⟨rfl, g1, g2, g4, g7, g8⟩
  have hlt' : (i : Int) < ns.length := by omega
  have hwi : IntKind.wrap .i64 ((i : Int) + 1) = (i : Int) + 1 := zaw (by omega) (by omega)
  have b2 := bN (i + 1)
  have e1 := z74 hget
  rw [e1] at b2 ⊢
  clear e1 bN bP hR hK hKl hd hd2
  generalize zhh (ns.take i) = L at *
  rw [List.length_append] at b2
  simp -implicitDefEqProofs [g1, g2, g4, g7, g8, hlt, hlt', hget, hgg, Node.cells, zat, zap, zav, zay]
  refine zag ⟨by omega, by omega⟩ ?_
  simp -implicitDefEqProofs [g1, g2, g4, g7, g8, hwi]
 ·rintro ⟨fr, bs⟩ ⟨rfl, g1, g2, g4, g7⟩
  simp -implicitDefEqProofs [g1, g2, g4, g7]
  refine za3 ps (fun i rest => fun ⟨fr, bs⟩ => bs = [⟨[[.sl (ns.map Node.cells) ns.length, .sl (cs.map Cut.row) cs.length, .sl (ps.map Msg.row) ps.length]], 3, .box⟩, ⟨[zeroItem.row], 5, .box⟩, ⟨(zhh ns ++ ziw (ps.take i)).map Item.row, 5, .mut⟩] ∧ fr 1 = .int .i64 k ∧ fr 2 = .ptr 0 0 0 ∧ fr 4 = .ptr 1 0 0 ∧ fr 7 = .ref 2 0 (zhh ns ++ ziw (ps.take i)).length ∧ fr 9 = .int .i64 i)
   (fun ⟨fr, bs⟩ => bs = [⟨[[.sl (ns.map Node.cells) ns.length, .sl (cs.map Cut.row) cs.length, .sl (ps.map Msg.row) ps.length]], 3, .box⟩, ⟨[zeroItem.row], 5, .box⟩, ⟨(zhh ns ++ ziw ps).map Item.row, 5, .mut⟩] ∧ fr 1 = .int .i64 k ∧ fr 4 = .ptr 1 0 0 ∧ fr 7 = .ref 2 0 (zhh ns ++ ziw ps).length) (fun _ => False) zjc.eq_1 ?_ ?_ ?_ ?_ ?_
  ·exact ⟨by simp [ziw], by simp [g1], by simp [g2], by simp [g4], by simp [g7, ziw], by simp⟩
  ·rintro i ⟨fr, bs⟩ hi ⟨rfl, g1, g2, g4, g7, g9⟩
   subst hi
   rw [List.take_length] at *
   simp -implicitDefEqProofs [g1, g2, g4, g7, g9]
  ·rintro i a rest ⟨fr, bs⟩ hlt hget hgg hd hd2 ⟨rfl, g1, g2, g4, g7, g9⟩
   have hlt' : (i : Int) < ps.length := by omega
   have hwi : IntKind.wrap .i64 ((i : Int) + 1) = (i : Int) + 1 := zaw (by omega) (by omega)
   have b2 := bP (i + 1)
   have e1 := qcv hget
   rw [e1] at b2 ⊢
   clear e1 bN bP hR hK hKl hd hd2
   by_cases hk : a.kind = 1
   ·rw [if_pos hk] at b2 ⊢
    rw [← List.append_assoc]
    rw [List.length_append] at b2
    have b3 : (zhh ns ++ ziw (ps.take i)).length + 1 ≤ 1048576 := by rw [List.length_append]; simp at b2; omega
    clear b2
    generalize zhh ns ++ ziw (ps.take i) = L at *
    have hb1 : (L.length + 1) * 40 ≤ 140737488355328 := by omega
    have hb2 : L.length ≤ 9223372036854775806 := by omega
    simp -implicitDefEqProofs [g1, g2, g4, g7, g9, hlt, hlt', hget, hgg, Msg.row, zap, hk, Fits, hb1, hb2]
    simp -implicitDefEqProofs [g1, g2, g4, g7, g9, hwi, Item.row]
   ·rw [if_neg hk]
    clear b2
    generalize zhh ns ++ ziw (ps.take i) = L at *
    simp -implicitDefEqProofs [g1, g2, g4, g7, g9, hlt, hlt', hget, hgg, Msg.row, zap, hk, hwi]
  ·rintro ⟨fr, bs⟩ ⟨rfl, g1, g4, g7⟩
   have hbA : (zhh ns ++ ziw ps).length ≤ 1048576 := by rw [List.length_append]; exact hb
   clear bN bP hb
   generalize zhh ns ++ ziw ps = A at *
   simp -implicitDefEqProofs [g1, g4, g7]
   refine za3 A (fun i rest => fun ⟨fr, bs⟩ => ∃ (ks : List Int) (s : Item × Bool) (kd : Kind), (kd = .mut ∨ kd = .app) ∧ ks.length ≤ i ∧ rest.foldl zg0 ks = K ∧ rest.foldl (zmc k) s = R ∧
    bs = [⟨[[.sl (ns.map Node.cells) ns.length, .sl (cs.map Cut.row) cs.length, .sl (ps.map Msg.row) ps.length]], 3, .box⟩, ⟨[zeroItem.row], 5, .box⟩, ⟨A.map Item.row, 5, .mut⟩, ⟨ks.map irow, 1, kd⟩, ⟨[s.1.row], 5, .box⟩] ∧
    fr 1 = .int .i64 k ∧ fr 4 = .ptr 1 0 0 ∧ fr 7 = .ref 2 0 A.length ∧ fr 10 = .ref 3 0 ks.length ∧ fr 11 = .ptr 4 0 0 ∧ fr 12 = .bool s.2 ∧ fr 13 = .int .i64 i)
    (fun ⟨fr, bs⟩ => ∃ kd : Kind, bs = [⟨[[.sl (ns.map Node.cells) ns.length, .sl (cs.map Cut.row) cs.length, .sl (ps.map Msg.row) ps.length]], 3, .box⟩, ⟨[zeroItem.row], 5, .box⟩, ⟨A.map Item.row, 5, .mut⟩, ⟨K.map irow, 1, kd⟩, ⟨[R.1.row], 5, .box⟩] ∧
      fr 4 = .ptr 1 0 0 ∧ fr 10 = .ref 3 0 K.length ∧ fr 11 = .ptr 4 0 0 ∧ fr 12 = .bool R.2) (fun _ => False) zjk.eq_1 ?_ ?_ ?_ ?_ ?_
   ·exact ⟨[], (zeroItem, false), .mut, .inl rfl, Nat.le_refl _, hK, hR, by simp [Item.row, zeroItem], by simp [g1], by simp [g4], by simp [g7], by simp, by simp, by simp, by simp⟩
   ·rintro i ⟨fr, bs⟩ hi ⟨ks, s, kd, hkd, hks, hK2, hR2, rfl, g1, g4, g7, g10, g11, g12, g13⟩
    subst hi
    have hK3 : ks = K := hK2
    have hR3 : s = R := hR2
    subst hK3 hR3
    simp -implicitDefEqProofs [g1, g4, g7, g10, g11, g12, g13]
   ·rintro i a rest ⟨fr, bs⟩ hlt hget hgg hd hd2 ⟨ks, s, kd, hkd, hks, hK2, hR2, rfl, g1, g4, g7, g10, g11, g12, g13⟩
    have hlt' : (i : Int) < A.length := by omega
    have hwi : IntKind.wrap .i64 ((i : Int) + 1) = (i : Int) + 1 := zaw (by omega) (by omega)
    have c1 := qh9 ks a.key (by unfold cap; omega)
    simp only [zap] at c1
    rw [List.foldl_cons] at hK2 hR2
    clear hK hR hd hd2
    have c2 := qex s.1 a
    obtain ⟨x, has⟩ := s
    simp only at c2 g12
    simp only [Item.row] at c2
    have hb1 : (ks.length + 1) * 8 ≤ 140737488355328 := by omega
    have hb2 : ks.length ≤ 9223372036854775806 := by omega
    rw [show zg0 ks a = if a.key ∈ ks then ks else ks ++ [a.key] from rfl] at hK2
    rw [show zmc k (x, has) a = if a.key = k then (if has = true then ((zrw x a).1, true) else (a, true)) else (x, has) from rfl] at hR2
    by_cases hm1 : a.key ∈ ks
    ·rw [if_pos hm1] at hK2
     by_cases he : a.key = k
     ·rw [if_pos he] at hR2
      subst he
      cases has with
      | true =>
        rw [if_pos rfl] at hR2
        rcases hkd with rfl | rfl
        all_goals
         simp -implicitDefEqProofs [g1, g4, g7, g10, g11, g12, g13, hlt, hlt', hget, hgg, Item.row]
         refine zaa c1 ?_
         simp -implicitDefEqProofs [zar, Kind.down, Item.row, g1, g4, g7, g10, g11, g12, g13, hlt, hlt', hget, hgg, hb1, hb2, Fits, hwi, hm1]
         refine zaa c2 ?_
         simp -implicitDefEqProofs [zar, Kind.down, Item.row, g1, g4, g7, g10, g11, g12, g13, hlt, hlt', hget, hgg, hb1, hb2, Fits, hwi]
         exact ⟨ks, by omega, hK2, _, hR2, ⟨by simp [irow], rfl, rfl, rfl, rfl, rfl⟩, by simp⟩
      | false =>
        rw [if_neg (by simp)] at hR2
        rcases hkd with rfl | rfl
        all_goals
         simp -implicitDefEqProofs [g1, g4, g7, g10, g11, g12, g13, hlt, hlt', hget, hgg, Item.row]
         refine zaa c1 ?_
         simp -implicitDefEqProofs [zar, Kind.down, Item.row, g1, g4, g7, g10, g11, g12, g13, hlt, hlt', hget, hgg, hb1, hb2, Fits, hwi, hm1]
         exact ⟨ks, by omega, hK2, _, hR2, ⟨by simp [irow], rfl, rfl, rfl, rfl, rfl⟩, by simp⟩
     ·rw [if_neg he] at hR2
      cases has
      all_goals
       rcases hkd with rfl | rfl
       all_goals
        simp -implicitDefEqProofs [g1, g4, g7, g10, g11, g12, g13, hlt, hlt', hget, hgg, Item.row]
        refine zaa c1 ?_
        simp -implicitDefEqProofs [zar, Kind.down, Item.row, g1, g4, g7, g10, g11, g12, g13, hlt, hlt', hget, hgg, hb1, hb2, Fits, hwi, hm1, he]
        exact ⟨ks, by omega, hK2, _, hR2, ⟨by simp [irow], rfl, rfl, rfl, rfl, rfl⟩, by simp⟩
    ·rw [if_neg hm1] at hK2
     by_cases he : a.key = k
     ·rw [if_pos he] at hR2
      subst he
      cases has with
      | true =>
        rw [if_pos rfl] at hR2
        rcases hkd with rfl | rfl
        all_goals
         simp -implicitDefEqProofs [g1, g4, g7, g10, g11, g12, g13, hlt, hlt', hget, hgg, Item.row]
         refine zaa c1 ?_
         simp -implicitDefEqProofs [zar, Kind.down, Item.row, g1, g4, g7, g10, g11, g12, g13, hlt, hlt', hget, hgg, hb1, hb2, Fits, hwi, hm1]
         refine zaa c2 ?_
         simp -implicitDefEqProofs [zar, Kind.down, Item.row, g1, g4, g7, g10, g11, g12, g13, hlt, hlt', hget, hgg, hb1, hb2, Fits, hwi]
         exact ⟨ks ++ [a.key], by simp; omega, hK2, _, hR2, ⟨by simp [irow], rfl, rfl, rfl, rfl, rfl⟩, by simp⟩
      | false =>
        rw [if_neg (by simp)] at hR2
        rcases hkd with rfl | rfl
        all_goals
         simp -implicitDefEqProofs [g1, g4, g7, g10, g11, g12, g13, hlt, hlt', hget, hgg, Item.row]
         refine zaa c1 ?_
         simp -implicitDefEqProofs [zar, Kind.down, Item.row, g1, g4, g7, g10, g11, g12, g13, hlt, hlt', hget, hgg, hb1, hb2, Fits, hwi, hm1]
         exact ⟨ks ++ [a.key], by simp; omega, hK2, _, hR2, ⟨by simp [irow], rfl, rfl, rfl, rfl, rfl⟩, by simp⟩
     ·rw [if_neg he] at hR2
      cases has
      all_goals
       rcases hkd with rfl | rfl
       all_goals
        simp -implicitDefEqProofs [g1, g4, g7, g10, g11, g12, g13, hlt, hlt', hget, hgg, Item.row]
        refine zaa c1 ?_
        simp -implicitDefEqProofs [zar, Kind.down, Item.row, g1, g4, g7, g10, g11, g12, g13, hlt, hlt', hget, hgg, hb1, hb2, Fits, hwi, hm1, he]
        exact ⟨ks ++ [a.key], by simp; omega, hK2, _, hR2, ⟨by simp [irow], rfl, rfl, rfl, rfl, rfl⟩, by simp⟩
   ·rintro ⟨fr, bs⟩ ⟨kd, rfl, g4, g10, g11, g12⟩
    simp -implicitDefEqProofs [g4, g10, g11, g12, Item.row]
   ·rintro ⟨fr, bs⟩ h
    exact h.elim
  ·rintro ⟨fr, bs⟩ h
   exact h.elim
 ·rintro ⟨fr, bs⟩ h
  exact h.elim
end Go.AM
