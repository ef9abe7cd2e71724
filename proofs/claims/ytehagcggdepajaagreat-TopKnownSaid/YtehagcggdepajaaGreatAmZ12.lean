/- What the proof of this claim stands on, part 12. -/
import Derived.Test.YtehagcggdepajaaGreatAmZ11
/- AM: plain: acts. -/
namespace Go.AM
set_option linter.unusedSimpArgs false
set_option linter.unusedVariables false
structure Act where
 kind : Int
 node : Int
 other : Int
 pick : Int
 ids : List Int
 key : Int
 value : Int
 deriving DecidableEq, Inhabited
def Act.cells (a : Act) : List D := [.int .i64 a.kind, .int .i64 a.node, .int .i64 a.other, .int .i64 a.pick, intsD a.ids, .int .i64 a.key, .int .i64 a.value]
def actD (a : Act) : D := .agg a.cells
@[simp] theorem z87 (S : Nat → Bool) (x : Act) : x.cells.map (D.sweep S) = x.cells := rfl
@[simp] theorem z9w (fr fp : Nat → Nat → Nat → D) (x : Act) : x.cells.map (D.mapR fr fp) = x.cells := rfl
@[simp] theorem qa6 (x : Act) : idsL x.cells = [] := rfl
@[simp] theorem qax (x : Act) : ridsL x.cells = [] := rfl
@[simp] theorem z8v (x : Act) : x.cells.length = 7 := rfl
def mayA (w : Wld) (a : Act) : Bool :=
 if a.kind = 1 ∨ a.kind = 2 ∨ a.kind = 3 then decide (0 ≤ a.pick) && decide (a.pick ≤ 65535)
 else if a.kind < 0 ∨ 10 < a.kind ∨ isN a.node w.nodes = false then false
 else if a.kind = 4 ∨ a.kind = 5 then isN a.other w.nodes && !decide (a.node = a.other)
 else if a.kind = 7 then decide (a.ids.length ≤ 16) && !a.ids.any fun id => !isN id w.nodes
 else if a.kind = 8 then byte a.key && byte a.value
 else if a.kind = 9 ∨ a.kind = 10 then byte a.key
 else true
def newP (id : Int) (L : List Int) : List Int := L.foldl (fun p y => if y = id then p else (withP p y).1) []
def newN (id : Int) (L : List Int) : Node := ⟨true, ⟨id, [], newP id L⟩, [], []⟩
def newZ (id : Int) (L : List Int) : D := if (L.all fun y => decide (y = id)) = true then .nil else intsD (newP id L)
theorem z06 {p : List Int} {y : Int} (h : passiveMay p = true) (hy : place y = true) (hl : p.length < 16) : withP p y = (if y ∈ p then p else insU y p, 0) ∧ passiveMay (withP p y).1 = true ∧ (withP p y).1.length ≤ p.length + 1 ∧ ∀ x, x ∈ (withP p y).1 ↔ x = y ∨ x ∈ p := by
 have hne : p.length ≠ 16 := by omega
 by_cases hm : y ∈ p
 ·have e : withP p y = (p, 0) := by simp [withP, h, hy, hm]
  rw [e]
  refine ⟨by simp [hm], h, by simp, fun x => ⟨fun hx => .inr hx, ?_⟩⟩
  rintro (rfl | hx)
  ·exact hm
  ·exact hx
 ·have e : withP p y = (insU y p, 0) := by simp [withP, h, hy, hm, hne]
  rw [e]
  exact ⟨by simp [hm], zjt h hy hm hne, by rw [zfo]; omega, fun x => zk3⟩
theorem qar (id : Int) : ∀ (L p : List Int), passiveMay p = true → (∀ y ∈ L, place y = true) → p.length + L.length ≤ 16 →
 passiveMay (L.foldl (fun p y => if y = id then p else (withP p y).1) p) = true ∧ (L.foldl (fun p y => if y = id then p else (withP p y).1) p).length ≤ p.length + L.length ∧
  ∀ x, x ∈ L.foldl (fun p y => if y = id then p else (withP p y).1) p ↔ x ∈ p ∨ (x ∈ L ∧ x ≠ id) := by
 intro L
 induction L with
 | nil => intro p h _ _; exact ⟨h, by simp, by simp⟩
 | cons y L ih =>
   intro p h hp hl
   simp only [List.foldl_cons, List.length_cons] at hl ⊢
   by_cases hy : y = id
   ·rw [if_pos hy]
    obtain ⟨h1, h2, h3⟩ := ih p h (fun x hx => hp x (by simp [hx])) (by omega)
    refine ⟨h1, by omega, fun x => ?_⟩
    rw [h3]
    simp only [List.mem_cons]
    constructor
    ·rintro (hx | ⟨hx, hn⟩)
     ·exact .inl hx
     ·exact .inr ⟨.inr hx, hn⟩
    ·rintro (hx | ⟨rfl | hx, hn⟩)
     ·exact .inl hx
     ·exact absurd hy hn
     ·exact .inr ⟨hx, hn⟩
   ·rw [if_neg hy]
    obtain ⟨_, w2, w3, w4⟩ := z06 h (hp y (by simp)) (by omega)
    obtain ⟨h1, h2, h3⟩ := ih _ w2 (fun x hx => hp x (by simp [hx])) (by omega)
    refine ⟨h1, by omega, fun x => ?_⟩
    rw [h3, w4]
    simp only [List.mem_cons]
    constructor
    ·rintro ((rfl | hx) | ⟨hx, hn⟩)
     ·exact .inr ⟨.inl rfl, hy⟩
     ·exact .inl hx
     ·exact .inr ⟨.inr hx, hn⟩
    ·rintro (hx | ⟨rfl | hx, hn⟩)
     ·exact .inl (.inr hx)
     ·exact .inl (.inl rfl)
     ·exact .inr ⟨hx, hn⟩
theorem zq3 {id : Int} {L : List Int} (hp : ∀ y ∈ L, place y = true) (hl : L.length ≤ 16) : passiveMay (newP id L) = true ∧ (newP id L).length ≤ L.length ∧ ∀ x, x ∈ newP id L ↔ x ∈ L ∧ x ≠ id := by
 obtain ⟨h1, h2, h3⟩ := qar id L [] (by rfl) hp (by simpa using hl)
 refine ⟨h1, by simpa [newP] using h2, fun x => ?_⟩
 have := h3 x
 simpa [newP] using this
theorem zxf {id : Int} {L : List Int} {i : Nat} {y : Int} (h : L[i]? = some y) : newP id (L.take (i + 1)) = if y = id then newP id (L.take i) else (withP (newP id (L.take i)) y).1 := by
 have e1 : L.take (i + 1) = L.take i ++ [y] := by rw [List.take_add_one, h]; rfl
 unfold newP
 rw [e1, List.foldl_append]
 rfl
theorem z4k {id : Int} {L : List Int} {i : Nat} {y : Int} (h : L[i]? = some y) : newZ id (L.take (i + 1)) = if y = id then newZ id (L.take i) else intsD (newP id (L.take (i + 1))) := by
 have e1 : L.take (i + 1) = L.take i ++ [y] := by rw [List.take_add_one, h]; rfl
 unfold newZ
 by_cases hy : y = id
 ·rw [if_pos hy, zxf h, if_pos hy, e1, List.all_append]
  simp [hy]
 ·rw [if_neg hy, e1, List.all_append]
  simp [hy]
theorem z0p {id : Int} {L : List Int} (hp : ∀ y ∈ L, place y = true) (hl : L.length ≤ 16) : (newZ id L).nrm = intsD (newP id L) := by
 unfold newZ
 split
 ·rename_i h
  have : newP id L = [] := by
   apply List.eq_nil_iff_forall_not_mem.2
   intro x hx
   obtain ⟨h1, h2⟩ := ((zq3 hp hl).2.2 x).1 hx
   have := List.all_eq_true.1 h x h1
   simp at this
   exact h2 this
  rw [this]; rfl
 ·simp [intsD]
theorem z73 {P : Program} {f : Nat} {args : List D} {bs : List Blk} {r : D} {bs' : List Blk} (h : Den P f args bs r bs') : Den P f args bs r.nrm bs' :=
 ⟨h.1, fun w M0 ρ vals hM hS hs ha => (h.2 w M0 ρ vals hM hS hs ha).mono fun e w' ⟨v, ρ', he, hr, hrest⟩ => ⟨v, ρ', he, hr.nrm, hrest⟩⟩
def lowD (n0 : Nat) : D → Bool
 | .ref b _ _ => decide (b < n0)
 | .int _ _ => true
 | .bool _ => true
 | .nil => true
 | .zs _ => true
 | .sl _ _ => true
 | .mem _ => true
 | _ => false
theorem z7o {n0 : Nat} {d : D} (h : lowD n0 d = true) : ∀ b ∈ d.rids, b < n0 := by
 cases d <;> simp [lowD, D.rids] at h ⊢
 exact h
theorem z8t {n0 : Nat} {d : D} (h : lowD n0 d = true) (L : List Nat) (bs : List Blk) : d.mapR (expRef n0 L) (expPtr n0 bs) = d := by
 cases d with
 | ref b o l =>
   simp [lowD] at h
   show expRef n0 L b o l = _
   simp [expRef, h]
 | _ => first | rfl | cases h
theorem zmn {cs : List D} (h : ∀ d ∈ cs, lowD 0 d = true) (fr fp : Nat → Nat → Nat → D) : cs.map (D.mapR fr fp) = cs := by
 rw [List.map_congr_left (g := id), List.map_id]
 intro d hd
 have := h d hd
 cases d with
 | ref b o l => simp [lowD] at this
 | _ => first | rfl | cases this
theorem zvn {b : Nat} : ∀ {cs : List D}, b ∈ ridsL cs → ∃ d ∈ cs, b ∈ d.rids
 | [], h => by simp [ridsL] at h
 | d :: ds, h => by
   simp only [ridsL, List.mem_append] at h
   rcases h with h | h
   ·exact ⟨d, by simp, h⟩
   ·obtain ⟨e, he, hb⟩ := zvn h
    exact ⟨e, by simp [he], hb⟩
theorem z4b {n0 : Nat} {st : St} (h : ∀ k ∈ st.bs.take n0, ∀ r ∈ k.rows, ∀ d ∈ r, lowD n0 d = true) : leave n0 st (.tup []) = some (.tup [], st.bs.take n0) := by
 have h1 : (lentRids (st.bs.take n0)).filter (fun b => decide (n0 ≤ b)) = [] := by
  rw [List.filter_eq_nil_iff]
  intro b hb
  unfold lentRids at hb
  obtain ⟨k, hk, hb⟩ := List.mem_flatMap.1 hb
  obtain ⟨r, hr, hb⟩ := List.mem_flatMap.1 hb
  obtain ⟨d, hd, hb⟩ := zvn hb
  have := z7o (h k hk r hr d hd) b hb
  simp; omega
 have h2 : (st.bs.take n0).map (Blk.mapR (expRef n0 []) (expPtr n0 st.bs)) = st.bs.take n0 := by
  rw [List.map_congr_left (g := id), List.map_id]
  intro k hk
  show { k with rows := _ } = k
  have : k.rows.map (fun r => r.map (D.mapR (expRef n0 []) (expPtr n0 st.bs))) = k.rows := by
   rw [List.map_congr_left (g := id), List.map_id]
   intro r hr
   rw [List.map_congr_left (g := id), List.map_id]
   ·rfl
   ·intro d hd
    exact z8t (h k hk r hr d hd) _ _
  rw [this]
 unfold leave
 simp only [D.rids, ridsL, List.nil_append, h1, h2]
 simp [D.mapR, mapRL]
def lowR (n0 : Nat) (rows : List (List D)) : Prop := ∀ r ∈ rows, ∀ d ∈ r, lowD n0 d = true
theorem zxz {α : Type} (n0 : Nat) (f : α → List D) (xs : List α) (h : ∀ x, ∀ d ∈ f x, lowD n0 d = true) : lowR n0 (xs.map f) := by
 intro r hr
 obtain ⟨x, _, rfl⟩ := List.mem_map.1 hr
 exact h x
theorem zsc (n0 : Nat) (x : Node) : ∀ d ∈ x.cells, lowD n0 d = true := List.all_eq_true.1 (rfl : (x.cells.all fun d => lowD n0 d) = true)
theorem zbb (n0 : Nat) (xs : List Node) : lowR n0 (xs.map Node.cells) := zxz n0 _ xs (zsc n0)
theorem zby (n0 : Nat) (xs : List Cut) : lowR n0 (xs.map Cut.row) := zxz n0 _ xs fun x => List.all_eq_true.1 (rfl : (x.row.all fun d => lowD n0 d) = true)
theorem zbv (n0 : Nat) (xs : List Msg) : lowR n0 (xs.map Msg.row) := zxz n0 _ xs fun x => List.all_eq_true.1 (rfl : (x.row.all fun d => lowD n0 d) = true)
theorem zg5 {n0 : Nat} {rows : List (List D)} {P : Nat} {cs : List D} (h : lowR n0 rows) (hc : ∀ d ∈ cs, lowD n0 d = true) : lowR n0 (rows.set P cs) := by
 intro r hr
 rcases List.mem_or_eq_of_mem_set hr with h1 | rfl
 ·exact h r h1
 ·exact hc
theorem za1 {n0 : Nat} {cs : List D} (h : (cs.all fun d => lowD n0 d) = true) : lowR n0 [cs] := by
 intro r hr
 rw [List.mem_singleton.1 hr]
 exact List.all_eq_true.1 h
theorem low5 {n0 : Nat} {a b c d e : Blk} (ha : lowR n0 a.rows) (hb : lowR n0 b.rows) (hc : lowR n0 c.rows) (hd : lowR n0 d.rows) (he : lowR n0 e.rows) : ∀ k ∈ [a, b, c, d, e], ∀ r ∈ k.rows, ∀ x ∈ r, lowD n0 x = true := by
 intro k hk
 simp only [List.mem_cons, List.not_mem_nil, or_false] at hk
 rcases hk with rfl | rfl | rfl | rfl | rfl
 ·exact ha
 ·exact hb
 ·exact hc
 ·exact hd
 ·exact he
theorem leave5 {fr : Nat → D} {a b c d e : Blk} {news : List Blk} (ha : lowR 5 a.rows) (hb : lowR 5 b.rows) (hc : lowR 5 c.rows) (hd : lowR 5 d.rows) (he : lowR 5 e.rows) : leave 5 ⟨fr, a :: b :: c :: d :: e :: news⟩ (.tup []) = some (.tup [], [a, b, c, d, e]) :=
 z4b (st := ⟨fr, a :: b :: c :: d :: e :: news⟩) (low5 ha hb hc hd he)
def actB (w : Wld) (a : Act) : List Blk := [⟨[[.ref 1 0 w.nodes.length, .ref 2 0 w.cuts.length, .ref 3 0 w.packets.length]], 3, .box⟩, ⟨w.nodes.map Node.cells, 6, .mut⟩, ⟨w.cuts.map Cut.row, 2, .mut⟩, ⟨w.packets.map Msg.row, 11, .mut⟩, ⟨[a.cells], 7, .box⟩]
end Go.AM
/- AM: contracts: what an act's doer asks. -/
namespace Go.AM
set_option linter.unusedSimpArgs false
set_option linter.unusedVariables false
set_option maxRecDepth 8000
set_option maxHeartbeats 0
theorem znw (w : Wld) (id : Int) (hl : w.nodes.length ≤ cap) (hr : MonoC (cmpN id) w.nodes) : Den PP 147 [.mem w.cells, .int .i64 id] [] (.bool (isN id w.nodes)) [] := by
 have c1 := zkz w id hl hr
 generalize posN id w.nodes = P at *
 generalize isN id w.nodes = A at *
 simp only [Wld.cells, nodesD, cutsD, msgsD] at c1 ⊢
 clear hr
 refine zaj [] [] zn5 ?_
 simp -implicitDefEqProofs [zjb]
 refine zaa c1 ?_
 simp -implicitDefEqProofs
theorem z1j (w : Wld) (id : Int) (hl : w.nodes.length ≤ cap) (hr : MonoC (cmpN id) w.nodes) : Den PP 148 [.int .i64 id, .mem [.mem w.cells]] [] (.bool (!isN id w.nodes)) [] := by
 have c1 := znw w id hl hr
 generalize isN id w.nodes = A at *
 simp only [Wld.cells, nodesD, cutsD, msgsD] at c1 ⊢
 clear hr
 refine zaj [] [] zni ?_
 simp -implicitDefEqProofs [zi7]
 refine zaa c1 ?_
 simp -implicitDefEqProofs
theorem zce (w : Wld) (a : Act) (hl : w.nodes.length ≤ cap) (hr : ∀ id, MonoC (cmpN id) w.nodes) (hi : a.ids.length ≤ cap) : Den PP 58 [.mem w.cells, .mem a.cells] [] (.bool (mayA w a)) [] := by
 have c1 := znw w a.node hl (hr a.node)
 have c2 := znw w a.other hl (hr a.other)
 have c3 := zdm a.ids hi 148 [.mem [.mem w.cells]] (fun id => !isN id w.nodes) ⟨fun _ => rfl, fun _ _ => rfl, fun id _ => z1j w id hl (hr id)⟩
 have c4 := zek a.key
 have c5 := zek a.value
 unfold mayA
 generalize (a.ids.any fun id => !isN id w.nodes) = X at *
 generalize isN a.node w.nodes = A at *
 generalize isN a.other w.nodes = B at *
 generalize byte a.key = K at *
 generalize byte a.value = V at *
 clear hr
 simp only [Wld.cells, Act.cells, nodesD, cutsD, msgsD, intsD] at c1 c2 c3 ⊢
 obtain ⟨k, n, o, p, ids, key, value⟩ := a
 simp only at *
 by_cases hk : k < 0 ∨ 10 < k
 ·have e : ∀ i : Int, 0 ≤ i → i ≤ 10 → ¬ k = i := fun i h1 h2 => by omega
  have e1 := e 1 (by omega) (by omega)
  have e2 := e 2 (by omega) (by omega)
  have e3 := e 3 (by omega) (by omega)
  clear e
  refine zaj [] [] zjw ?_
  simp -implicitDefEqProofs [zht, e1, e2, e3]
  rcases hk with hk | hk
  ·simp -implicitDefEqProofs [hk, e1, e2, e3]
  ·have h2 : ¬ k < 0 := by omega
   simp -implicitDefEqProofs [hk, h2, e1, e2, e3]
 ·have hk2 : k = 1 ∨ k = 2 ∨ k = 3 ∨ k = 0 ∨ k = 4 ∨ k = 5 ∨ k = 6 ∨ k = 7 ∨ k = 8 ∨ k = 9 ∨ k = 10 := by omega
  clear hk
  rcases hk2 with rfl | rfl | rfl | rfl | rfl | rfl | rfl | rfl | rfl | rfl | rfl
  all_goals
   refine zaj [] [] zjw ?_
   simp -implicitDefEqProofs [zht]
   repeat' ((first | refine zaa (by first | exact c1 | exact c2 | exact c3 | exact c4 | exact c5) ?_ | ((with_reducible first | refine zal ?_ ?_ | refine zai ?_ ?_ | refine zaf ?_ ?_ | refine zad ?_ ?_) <;> intro _) | ((with_reducible first | refine zao ?_ ?_ | refine zaq ?_ ?_ | refine zam ?_ ?_ | refine zac ?_ ?_ | refine zak ?_ ?_ | refine zap ?_ ?_ | refine zah ?_ ?_ | refine zab ?_ ?_) <;> intro hq <;> (try simp at hq)) | refine zag (by omega) ?_ | refine zan (by omega) ?_) <;> simp -implicitDefEqProofs [*])
  all_goals grind
end Go.AM
/- AM: contracts: a doer's node, what it sends, what it picks. -/
namespace Go.AM
set_option linter.unusedSimpArgs false
set_option linter.unusedVariables false
set_option maxRecDepth 8000
set_option maxHeartbeats 0
theorem zdk {w : Wld} {id : Int} (h : isN id w.nodes = true) : posN id w.nodes < w.nodes.length := (zmf h).1
theorem zds (w : Wld) (a : Act) (hl : w.nodes.length ≤ cap) (hr : MonoC (cmpN a.node) w.nodes) (hi : isN a.node w.nodes = true) : Den PP 150 [.ptr 0 0 0, .ptr 4 0 0] [⟨[[.ref 1 0 w.nodes.length, .ref 2 0 w.cuts.length, .ref 3 0 w.packets.length]], 3, .box⟩, ⟨w.nodes.map Node.cells, 6, .mut⟩, ⟨w.cuts.map Cut.row, 2, .mut⟩, ⟨w.packets.map Msg.row, 11, .mut⟩, ⟨[a.cells], 7, .box⟩] (.ptr 1 (posN a.node w.nodes) 0) [⟨[[.ref 1 0 w.nodes.length, .ref 2 0 w.cuts.length, .ref 3 0 w.packets.length]], 3, .box⟩, ⟨w.nodes.map Node.cells, 6, .mut⟩, ⟨w.cuts.map Cut.row, 2, .mut⟩, ⟨w.packets.map Msg.row, 11, .mut⟩, ⟨[a.cells], 7, .box⟩] := by
 have c1 := zkz w a.node hl hr
 have hp := zdk hi
 generalize posN a.node w.nodes = P at *
 rw [hi] at c1
 clear hi hr
 have hp' : (P : Int) < w.nodes.length := by omega
 simp only [Wld.cells, Act.cells, nodesD, cutsD, msgsD, intsD] at c1 ⊢
 refine zaj [] [] zi1 ?_
 simp -implicitDefEqProofs [zgz]
 refine zaa c1 ?_
 simp -implicitDefEqProofs [hp, hp']
theorem zf4 (w : Wld) (id : Int) (qs : List Msg) (hl : w.nodes.length ≤ cap) (hr : MonoC (cmpN id) w.nodes) (hi : isN id w.nodes = true) : Den PP 150 [.ptr 0 0 0, .ptr 4 0 0] [⟨[[.ref 1 0 w.nodes.length, .ref 2 0 w.cuts.length, .sl (w.packets.map Msg.row) w.packets.length]], 3, .box⟩, ⟨w.nodes.map Node.cells, 6, .mut⟩, ⟨w.cuts.map Cut.row, 2, .mut⟩, ⟨qs.map Msg.row, 11, .app⟩, ⟨[[.int .i64 0, .int .i64 id, .int .i64 0, .int .i64 0, .nil, .int .i64 0, .int .i64 0]], 7, .box⟩] (.ptr 1 (posN id w.nodes) 0) [⟨[[.ref 1 0 w.nodes.length, .ref 2 0 w.cuts.length, .sl (w.packets.map Msg.row) w.packets.length]], 3, .box⟩, ⟨w.nodes.map Node.cells, 6, .mut⟩, ⟨w.cuts.map Cut.row, 2, .mut⟩, ⟨qs.map Msg.row, 11, .app⟩, ⟨[[.int .i64 0, .int .i64 id, .int .i64 0, .int .i64 0, .nil, .int .i64 0, .int .i64 0]], 7, .box⟩] := by
 have c1 := zkz w id hl hr
 have hp := zdk hi
 generalize posN id w.nodes = P at *
 rw [hi] at c1
 clear hi hr
 have hp' : (P : Int) < w.nodes.length := by omega
 simp only [Wld.cells, Act.cells, nodesD, cutsD, msgsD, intsD] at c1 ⊢
 refine zaj [] [] zi1 ?_
 simp -implicitDefEqProofs [zgz]
 refine zaa c1 ?_
 simp -implicitDefEqProofs [hp, hp']
theorem zp8 (w : Wld) (ms : List Msg) (hw : worldMay w = true) (hm : worldMay { w with packets := ms } = true) : Den PP 151 [.ptr 0 0 0, msgsD ms] [⟨[[.ref 1 0 w.nodes.length, .ref 2 0 w.cuts.length, .ref 3 0 w.packets.length]], 3, .box⟩, ⟨w.nodes.map Node.cells, 6, .mut⟩, ⟨w.cuts.map Cut.row, 2, .mut⟩, ⟨w.packets.map Msg.row, 11, .mut⟩] (.tup []) [⟨[(sendW w ms).cells], 3, .box⟩, ⟨w.nodes.map Node.cells, 6, .app⟩, ⟨w.cuts.map Cut.row, 2, .app⟩, ⟨w.packets.map Msg.row, 11, .app⟩] := by
 have c1 := zn9 w ms hw hm
 have e : (sendW w ms).nodes = w.nodes ∧ (sendW w ms).cuts = w.cuts := ⟨rfl, rfl⟩
 generalize sendW w ms = v at *
 obtain ⟨ns, cs, ps⟩ := v
 obtain ⟨e1, e2⟩ := e
 simp only at e1 e2
 subst e1 e2
 clear hw hm
 simp only [wldD, wldR, wldB, Wld.cells, Act.cells, nodesD, cutsD, msgsD, intsD] at c1 ⊢
 refine zaj [] [] zga ?_
 simp -implicitDefEqProofs [zfb]
 refine zaa c1 ?_
 simp -implicitDefEqProofs [downTo]
theorem zhd (w : Wld) (ms : List Msg) (qs : List Msg) (hw : worldMay w = true) (hm : worldMay { w with packets := ms } = true) : Den PP 151 [.ptr 0 0 0, msgsD ms] [⟨[[.ref 1 0 w.nodes.length, .ref 2 0 w.cuts.length, .sl (w.packets.map Msg.row) w.packets.length]], 3, .box⟩, ⟨w.nodes.map Node.cells, 6, .mut⟩, ⟨w.cuts.map Cut.row, 2, .mut⟩, ⟨qs.map Msg.row, 11, .app⟩] (.tup []) [⟨[(sendW w ms).cells], 3, .box⟩, ⟨w.nodes.map Node.cells, 6, .app⟩, ⟨w.cuts.map Cut.row, 2, .app⟩, ⟨qs.map Msg.row, 11, .app⟩] := by
 have c1 := zn9 w ms hw hm
 have e : (sendW w ms).nodes = w.nodes ∧ (sendW w ms).cuts = w.cuts := ⟨rfl, rfl⟩
 generalize sendW w ms = v at *
 obtain ⟨ns, cs, ps⟩ := v
 obtain ⟨e1, e2⟩ := e
 simp only at e1 e2
 subst e1 e2
 clear hw hm
 simp only [wldD, wldR, wldB, Wld.cells, Act.cells, nodesD, cutsD, msgsD, intsD] at c1 ⊢
 refine zaj [] [] zga ?_
 simp -implicitDefEqProofs [zfb]
 refine zaa c1 ?_
 simp -implicitDefEqProofs [downTo]
theorem ztw (w : Wld) (ms : List Msg) (hw : worldMay w = true) (hm : worldMay { w with packets := ms } = true) : Den PP 151 [.ptr 0 0 0, .ref 4 0 ms.length] [⟨[[.ref 1 0 w.nodes.length, .ref 2 0 w.cuts.length, .ref 3 0 w.packets.length]], 3, .box⟩, ⟨w.nodes.map Node.cells, 6, .mut⟩, ⟨w.cuts.map Cut.row, 2, .mut⟩, ⟨w.packets.map Msg.row, 11, .app⟩, ⟨ms.map Msg.row, 11, .mut⟩] (.tup []) [⟨[(sendW w ms).cells], 3, .box⟩, ⟨w.nodes.map Node.cells, 6, .app⟩, ⟨w.cuts.map Cut.row, 2, .app⟩, ⟨w.packets.map Msg.row, 11, .app⟩, ⟨ms.map Msg.row, 11, .app⟩] := by
 have c1 := zn9 w ms hw hm
 have e : (sendW w ms).nodes = w.nodes ∧ (sendW w ms).cuts = w.cuts := ⟨rfl, rfl⟩
 generalize sendW w ms = v at *
 obtain ⟨ns, cs, ps⟩ := v
 obtain ⟨e1, e2⟩ := e
 simp only at e1 e2
 subst e1 e2
 clear hw hm
 simp only [wldD, wldR, wldB, Wld.cells, Act.cells, nodesD, cutsD, msgsD, intsD] at c1 ⊢
 refine zaj [] [] zga ?_
 simp -implicitDefEqProofs [zfb]
 refine zaa c1 ?_
 simp -implicitDefEqProofs [downTo]
theorem zhq (w : Wld) (a : Act) (h : w.packets = []) : Den PP 152 [.ptr 0 0 0, .ptr 4 0 0] (actB w a) (.tup [.agg [.int .i64 0, .int .i64 0, .int .i64 0, .nil, .int .i64 0, .int .i64 0, .int .i64 0, .int .i64 0, .int .i64 0, .bool false, .bool false], .ref 5 0 0, .bool false]) (actB w a ++ [⟨[], 11, .mut⟩]) := by
 unfold actB
 rw [h]
 simp only [Wld.cells, Act.cells, nodesD, cutsD, msgsD, intsD]
 refine zaj [] [] zhe ?_
 simp -implicitDefEqProofs [zfr]
def pickP (w : Wld) (a : Act) : Nat := (a.pick % w.packets.length).toNat
def leftP (w : Wld) (p : Nat) : List Msg := w.packets.take p ++ w.packets.drop (p + 1)
theorem zdz (w : Wld) (a : Act) (m : Msg) (hw : w.tiny) (hq : queueMay w.packets = true) (h0 : 0 ≤ a.pick) (hp : a.pick ≤ 65535) (hm : w.packets[pickP w a]? = some m) : Den PP 152 [.ptr 0 0 0, .ptr 4 0 0] (actB w a) (.tup [msgD m, msgsD (leftP w (pickP w a)), .bool true])
 [⟨[[.ref 1 0 w.nodes.length, .ref 2 0 w.cuts.length, .ref 3 0 w.packets.length]], 3, .box⟩, ⟨w.nodes.map Node.cells, 6, .mut⟩, ⟨w.cuts.map Cut.row, 2, .mut⟩, ⟨w.packets.map Msg.row, 11, .app⟩, ⟨[a.cells], 7, .box⟩] := by
 have c1 := z24 w.packets (pickP w a) m (fun m hm => by have := hw.packet m hm; unfold cap; omega) hq hm
 have hlt := (List.getElem?_eq_some_iff.1 hm).1
 have h512 := hw.packets
 have e : (leftP w (pickP w a)) = w.packets.take (pickP w a) ++ w.packets.drop (pickP w a + 1) := rfl
 rw [← e] at c1
 have hmod : ((pickP w a : Nat) : Int) = a.pick % w.packets.length := by
  unfold pickP
  rw [Int.toNat_of_nonneg (Int.emod_nonneg _ (by omega))]
 have hmod2 : a.pick.tmod w.packets.length = ((pickP w a : Nat) : Int) := by rw [hmod, Int.tmod_eq_emod_of_nonneg h0]
 generalize leftP w (pickP w a) = ls at *
 generalize pickP w a = P at *
 clear hq hmod e
 have hne : ¬ (w.packets.length : Int) = 0 := by omega
 have hne2 : ¬ w.packets = [] := by intro h; rw [h] at hlt; simp at hlt
 unfold actB
 simp only [msgD, Msg.row, Wld.cells, Act.cells, nodesD, cutsD, msgsD, intsD] at c1 ⊢
 refine zaj [] [] zhe ?_
 simp -implicitDefEqProofs [zfr, hne, hne2, hmod2]
 refine zaa c1 ?_
 simp -implicitDefEqProofs [downTo, hmod2]
end Go.AM
/- AM: contracts: the document's take; a node spoiled. -/
namespace Go.AM
set_option linter.unusedSimpArgs false
set_option linter.unusedVariables false
set_option maxRecDepth 8000
set_option maxHeartbeats 0
end Go.AM
/- Plain law: a store takes items twice. -/
namespace Go.AM
set_option linter.unusedSimpArgs false
set_option linter.unusedVariables false

end Go.AM
/- AM: contracts: writing; the document's. -/
namespace Go.AM
set_option linter.unusedSimpArgs false
set_option linter.unusedVariables false
set_option maxRecDepth 8000
set_option maxHeartbeats 0
def wrI (x : Node) (i : Item) : Item := { i with count := (getR x.items i.key).1.count + 1, writer := x.view.id }
def wrMay (x : Node) (i : Item) : Bool := nodeUp x && (byte i.key && byte i.value)
def wrOk (x : Node) (i : Item) : Bool := decide ((wrI x i).count ≤ 65535) && decide ((putR x.items (wrI x i)).2 = 0)
def wrN (x : Node) (i : Item) : Node := { x with items := (putR x.items (wrI x i)).1 }
def wrE (x : Node) (i : Item) : Int := if wrMay x i then 1701 else 1700
def getW : Option Item → Item × Bool
 | some i => (i, true)
 | none => (zeroItem, false)
theorem zvg {is : List Item} (h : storeMay is = true) (k : Int) : getR is k = getW (getS is k) := by
 unfold getR
 rw [if_pos h]
 cases getS is k <;> rfl
theorem zs5 {is : List Item} (h : storeMay is = true) (k : Int) : 0 ≤ (getR is k).1.count ∧ (getR is k).1.count ≤ 65535 := by
 rw [zvg h]
 cases hg : getS is k with
 | none => simp [getW, zeroItem]
 | some i =>
   have hm := ((zc3 is).1 h).1 i (z1e hg).2
   simp only [itemMay, verMay, Bool.and_eq_true, decide_eq_true_eq] at hm
   simp only [getW]
   omega
theorem z8a (x : Node) (i : Item) (hs : x.small) (h : wrMay x i = false) : Den PP 211 [nodeD x, .agg i.row] [] (.tup [.agg [.bool false, .int .i64 0, .nil, .nil, .nil, .nil], .int .i64 1700]) [] := by
 have c1 := zeg x hs
 unfold wrMay at h
 generalize nodeUp x = U at *
 have c2 := zek i.key
 have c3 := zek i.value
 generalize byte i.key = A at *
 generalize byte i.value = B at *
 simp only [nodeD, Node.cells, peersD, intsD, itemsD, toldsD, Item.row] at c1 c2 c3 ⊢
 refine zaj [] [] zhk ?_
 cases U <;> cases A <;> cases B
 all_goals
  simp at h
 all_goals
  simp -implicitDefEqProofs [ze7]
  repeat' ((first | refine zaa (by first | exact c1 | exact c2 | exact c3) ?_ | ((with_reducible first | refine zal ?_ ?_ | refine zai ?_ ?_ | refine zaf ?_ ?_ | refine zad ?_ ?_) <;> intro _) | ((with_reducible first | refine zao ?_ ?_ | refine zaq ?_ ?_ | refine zam ?_ ?_ | refine zac ?_ ?_ | refine zak ?_ ?_ | refine zap ?_ ?_ | refine zah ?_ ?_ | refine zab ?_ ?_) <;> intro hq <;> (try simp at hq)) | refine zag (by omega) ?_ | refine zan (by omega) ?_) <;> simp -implicitDefEqProofs [*])
theorem z3x (x : Node) (i : Item) (hs : x.small) (h : wrMay x i = true) (hf : wrOk x i = false) : Den PP 211 [nodeD x, .agg i.row] [] (.tup [.agg [.bool false, .int .i64 0, .nil, .nil, .nil, .nil], .int .i64 1701]) [] := by
 have c1 := zeg x hs
 unfold wrMay at h
 simp only [Bool.and_eq_true] at h
 obtain ⟨h1, h2, h3⟩ := h
 have c2 := zek i.key
 have c3 := zek i.value
 rw [h1] at c1
 rw [h2] at c2
 rw [h3] at c3
 have hst : storeMay x.items = true := by simp only [nodeUp, nodeMay, Bool.and_eq_true] at h1; grind
 have hc := zs5 hst i.key
 have c4 := zmz x.items i.key (by have := hs.2.1; unfold cap16; omega)
 have c5 := zd4 x hs
 have c6 := zp1 x.items (wrI x i) (by have := hs.2.1; unfold cap16; omega)
 unfold wrOk at hf
 unfold wrI at hf c6
 generalize getR x.items i.key = r at *
 obtain ⟨⟨ik, ic, iw, iv, ig⟩, g⟩ := r
 simp only at hc hf c6
 have w1 : IntKind.wrap .i64 (ic + 1) = ic + 1 := zas (by omega) (by omega)
 clear h1 h2 h3 hst hc
 generalize putR x.items { i with count := ic + 1, writer := x.view.id } = q at *
 obtain ⟨is, e⟩ := q
 simp only [nodeD, Node.cells, peersD, intsD, itemsD, toldsD, Item.row, copyD, nodeB] at c1 c2 c3 c4 c5 c6 ⊢
 refine zaj [50, 55] [] zhk ?_
 by_cases hq : ic + 1 ≤ 65535
 ·have hq2 : ¬ 65535 < ic + 1 := by omega
  have he : ¬ e = 0 := by simpa [hq] using hf
  clear hf hq
  simp -implicitDefEqProofs [ze7, w1]
  repeat' ((first | refine zaa (by first | exact c1 | exact c2 | exact c3 | exact c4 | exact c5 | exact c6) ?_ | ((with_reducible first | refine zal ?_ ?_ | refine zai ?_ ?_ | refine zaf ?_ ?_ | refine zad ?_ ?_) <;> intro _) | ((with_reducible first | refine zao ?_ ?_ | refine zaq ?_ ?_ | refine zam ?_ ?_ | refine zac ?_ ?_ | refine zak ?_ ?_ | refine zap ?_ ?_ | refine zah ?_ ?_ | refine zab ?_ ?_) <;> intro hq <;> (try simp at hq)) | refine zag (by omega) ?_ | refine zan (by omega) ?_) <;> simp -implicitDefEqProofs [*, downTo, w1, hq2, he])
 ·have hq2 : 65535 < ic + 1 := by omega
  clear hf hq
  simp -implicitDefEqProofs [ze7, w1]
  repeat' ((first | refine zaa (by first | exact c1 | exact c2 | exact c3 | exact c4 | exact c5 | exact c6) ?_ | ((with_reducible first | refine zal ?_ ?_ | refine zai ?_ ?_ | refine zaf ?_ ?_ | refine zad ?_ ?_) <;> intro _) | ((with_reducible first | refine zao ?_ ?_ | refine zaq ?_ ?_ | refine zam ?_ ?_ | refine zac ?_ ?_ | refine zak ?_ ?_ | refine zap ?_ ?_ | refine zah ?_ ?_ | refine zab ?_ ?_) <;> intro hq <;> (try simp at hq)) | refine zag (by omega) ?_ | refine zan (by omega) ?_) <;> simp -implicitDefEqProofs [*, downTo, w1, hq2])
theorem z0z (x : Node) (i : Item) (hs : x.small) (h : wrMay x i = true) (hf : wrOk x i = true) : Den PP 211 [nodeD x, .agg i.row] [] (.tup [copyD (wrN x i), .int .i64 0]) (nodeB (wrN x i)) := by
 have c1 := zeg x hs
 unfold wrMay at h
 simp only [Bool.and_eq_true] at h
 obtain ⟨h1, h2, h3⟩ := h
 have c2 := zek i.key
 have c3 := zek i.value
 rw [h1] at c1
 rw [h2] at c2
 rw [h3] at c3
 have hst : storeMay x.items = true := by simp only [nodeUp, nodeMay, Bool.and_eq_true] at h1; grind
 have hc := zs5 hst i.key
 have c4 := zmz x.items i.key (by have := hs.2.1; unfold cap16; omega)
 have c5 := zd4 x hs
 have c6 := zp1 x.items (wrI x i) (by have := hs.2.1; unfold cap16; omega)
 unfold wrOk at hf
 unfold wrN
 unfold wrI at hf c6 ⊢
 generalize getR x.items i.key = r at *
 obtain ⟨⟨ik, ic, iw, iv, ig⟩, g⟩ := r
 simp only at hc hf c6
 have w1 : IntKind.wrap .i64 (ic + 1) = ic + 1 := zas (by omega) (by omega)
 simp only
 clear h1 h2 h3 hst hc
 generalize putR x.items { i with count := ic + 1, writer := x.view.id } = q at *
 obtain ⟨is, e⟩ := q
 simp only [Bool.and_eq_true, decide_eq_true_eq] at hf
 obtain ⟨hq, he⟩ := hf
 subst he
 have hq2 : ¬ 65535 < ic + 1 := by omega
 clear hq
 simp only [nodeD, Node.cells, peersD, intsD, itemsD, toldsD, Item.row, copyD, nodeB] at c1 c2 c3 c4 c5 c6 ⊢
 refine zaj [50, 55] [] zhk ?_
 simp -implicitDefEqProofs [ze7, w1]
 repeat' ((first | refine zaa (by first | exact c1 | exact c2 | exact c3 | exact c4 | exact c5 | exact c6) ?_ | ((with_reducible first | refine zal ?_ ?_ | refine zai ?_ ?_ | refine zaf ?_ ?_ | refine zad ?_ ?_) <;> intro _) | ((with_reducible first | refine zao ?_ ?_ | refine zaq ?_ ?_ | refine zam ?_ ?_ | refine zac ?_ ?_ | refine zak ?_ ?_ | refine zap ?_ ?_ | refine zah ?_ ?_ | refine zab ?_ ?_) <;> intro hq <;> (try simp at hq)) | refine zag (by omega) ?_ | refine zan (by omega) ?_) <;> simp -implicitDefEqProofs [*, downTo, w1, hq2])
end Go.AM
/- AM: chapter 17's statements: Writes. -/
namespace Go.AM
set_option linter.unusedSimpArgs false
set_option linter.unusedVariables false
set_option maxRecDepth 8000
set_option maxHeartbeats 0
def wrAll (x : Node) (i : Item) : Bool := wrMay x i && wrOk x i
def putI (k v : Int) : Item := ⟨k, 0, 0, v, false⟩
def dropI (k : Int) : Item := ⟨k, 0, 0, 0, true⟩
theorem zfk {x : Node} {i : Item} (h : wrAll x i = true) : wrMay x i = true ∧ wrOk x i = true := by
 simpa [wrAll] using h
theorem zu7 (x : Node) (i : Item) (hs : x.small) (h : wrAll x i = false) : Den PP 211 [nodeD x, .agg i.row] [] (.tup [.agg [.bool false, .int .i64 0, .nil, .nil, .nil, .nil], .int .i64 (wrE x i)]) [] := by
 cases hm : wrMay x i with
 | false => simpa [wrE, hm] using z8a x i hs hm
 | true => simpa [wrE, hm] using z3x x i hs hm (by simpa [wrAll, hm] using h)
theorem zth (x : Node) (k v : Int) (hs : x.small) (h : wrAll x (putI k v) = false) : Den PP 156 [nodeD x, .int .i64 k, .int .i64 v] [] (.tup [.agg [.bool false, .int .i64 0, .nil, .nil, .nil, .nil], .int .i64 (wrE x (putI k v))]) [] := by
 have c1 := zu7 x (putI k v) hs h
 generalize wrE x (putI k v) = e at *
 clear h
 simp only [nodeD, Node.cells, peersD, intsD, itemsD, toldsD, Item.row, copyD, nodeB, putI, dropI] at c1 ⊢
 refine zaj [12] [] zos ?_
 simp -implicitDefEqProofs [zl1]
 repeat' ((first | refine zaa (by first | exact c1) ?_ | ((with_reducible first | refine zal ?_ ?_ | refine zai ?_ ?_ | refine zaf ?_ ?_ | refine zad ?_ ?_) <;> intro _) | ((with_reducible first | refine zao ?_ ?_ | refine zaq ?_ ?_ | refine zam ?_ ?_ | refine zac ?_ ?_ | refine zak ?_ ?_ | refine zap ?_ ?_ | refine zah ?_ ?_ | refine zab ?_ ?_) <;> intro hq <;> (try simp at hq)) | refine zag (by omega) ?_ | refine zan (by omega) ?_) <;> simp -implicitDefEqProofs [*, downTo])
theorem zu9 (x : Node) (k v : Int) (hs : x.small) (h : wrAll x (putI k v) = true) : Den PP 156 [nodeD x, .int .i64 k, .int .i64 v] [] (.tup [copyD (wrN x (putI k v)), .int .i64 0]) (nodeB (wrN x (putI k v))) := by
 have c1 := z0z x (putI k v) hs (zfk h).1 (zfk h).2
 generalize wrN x (putI k v) = y at *
 clear h
 simp only [nodeD, Node.cells, peersD, intsD, itemsD, toldsD, Item.row, copyD, nodeB, putI, dropI] at c1 ⊢
 refine zaj [12] [] zos ?_
 simp -implicitDefEqProofs [zl1]
 repeat' ((first | refine zaa (by first | exact c1) ?_ | ((with_reducible first | refine zal ?_ ?_ | refine zai ?_ ?_ | refine zaf ?_ ?_ | refine zad ?_ ?_) <;> intro _) | ((with_reducible first | refine zao ?_ ?_ | refine zaq ?_ ?_ | refine zam ?_ ?_ | refine zac ?_ ?_ | refine zak ?_ ?_ | refine zap ?_ ?_ | refine zah ?_ ?_ | refine zab ?_ ?_) <;> intro hq <;> (try simp at hq)) | refine zag (by omega) ?_ | refine zan (by omega) ?_) <;> simp -implicitDefEqProofs [*, downTo])
theorem zre (x : Node) (k : Int) (hs : x.small) (h : wrAll x (dropI k) = false) : Den PP 157 [nodeD x, .int .i64 k] [] (.tup [.agg [.bool false, .int .i64 0, .nil, .nil, .nil, .nil], .int .i64 (wrE x (dropI k))]) [] := by
 have c1 := zu7 x (dropI k) hs h
 generalize wrE x (dropI k) = e at *
 clear h
 simp only [nodeD, Node.cells, peersD, intsD, itemsD, toldsD, Item.row, copyD, nodeB, putI, dropI] at c1 ⊢
 refine zaj [9] [] zmo ?_
 simp -implicitDefEqProofs [zka]
 repeat' ((first | refine zaa (by first | exact c1) ?_ | ((with_reducible first | refine zal ?_ ?_ | refine zai ?_ ?_ | refine zaf ?_ ?_ | refine zad ?_ ?_) <;> intro _) | ((with_reducible first | refine zao ?_ ?_ | refine zaq ?_ ?_ | refine zam ?_ ?_ | refine zac ?_ ?_ | refine zak ?_ ?_ | refine zap ?_ ?_ | refine zah ?_ ?_ | refine zab ?_ ?_) <;> intro hq <;> (try simp at hq)) | refine zag (by omega) ?_ | refine zan (by omega) ?_) <;> simp -implicitDefEqProofs [*, downTo])
theorem zt4 (x : Node) (k : Int) (hs : x.small) (h : wrAll x (dropI k) = true) : Den PP 157 [nodeD x, .int .i64 k] [] (.tup [copyD (wrN x (dropI k)), .int .i64 0]) (nodeB (wrN x (dropI k))) := by
 have c1 := z0z x (dropI k) hs (zfk h).1 (zfk h).2
 generalize wrN x (dropI k) = y at *
 clear h
 simp only [nodeD, Node.cells, peersD, intsD, itemsD, toldsD, Item.row, copyD, nodeB, putI, dropI] at c1 ⊢
 refine zaj [9] [] zmo ?_
 simp -implicitDefEqProofs [zka]
 repeat' ((first | refine zaa (by first | exact c1) ?_ | ((with_reducible first | refine zal ?_ ?_ | refine zai ?_ ?_ | refine zaf ?_ ?_ | refine zad ?_ ?_) <;> intro _) | ((with_reducible first | refine zao ?_ ?_ | refine zaq ?_ ?_ | refine zam ?_ ?_ | refine zac ?_ ?_ | refine zak ?_ ?_ | refine zap ?_ ?_ | refine zah ?_ ?_ | refine zab ?_ ?_) <;> intro hq <;> (try simp at hq)) | refine zag (by omega) ?_ | refine zan (by omega) ?_) <;> simp -implicitDefEqProofs [*, downTo])
end Go.AM
/- AM: contracts: acts that turn one node. -/
namespace Go.AM
set_option linter.unusedSimpArgs false
set_option linter.unusedVariables false
set_option maxRecDepth 8000
set_option maxHeartbeats 0
def doA (w : Wld) (a : Act) (P : Nat) (cs : List D) : List Blk := [⟨[[.ref 1 0 w.nodes.length, .ref 2 0 w.cuts.length, .ref 3 0 w.packets.length]], 3, .box⟩, ⟨(w.nodes.map Node.cells).set P cs, 6, .mut⟩, ⟨w.cuts.map Cut.row, 2, .mut⟩, ⟨w.packets.map Msg.row, 11, .mut⟩, ⟨[a.cells], 7, .box⟩]
theorem z4w (x : Node) (i : Item) : ¬ wrE x i = 0 := by
 unfold wrE
 split <;> omega
theorem zy5 (w : Wld) (a : Act) (x : Node) (hw : w.tiny) (hr : MonoC (cmpN a.node) w.nodes) (hi : isN a.node w.nodes = true) (hx : w.nodes[posN a.node w.nodes]? = some x) (h : wrAll x (putI a.key a.value) = true) : Den PP 67 [.ptr 0 0 0, .ptr 4 0 0] (actB w a) (.tup []) (doA w a (posN a.node w.nodes) (wrN x (putI a.key a.value)).cells) := by
 have c1 := zds w a (by have := hw.nodes; unfold cap; omega) hr hi
 have c2 := zu9 x a.key a.value (za7 (hw.node x (List.mem_of_getElem? hx))) h
 have hp := zdk hi
 have hg : ∀ h : posN a.node w.nodes < w.nodes.length, w.nodes[posN a.node w.nodes] = x := fun h => by rw [List.getElem?_eq_getElem h] at hx; exact Option.some.inj hx
 generalize posN a.node w.nodes = P at *
 generalize wrN x (putI a.key a.value) = y at *
 have hp' : (P : Int) < w.nodes.length := by omega
 clear h hi hr hw
 simp only [actB, doA, copyD, nodeB, nodeD, intsD, Act.cells, Wld.cells, nodesD, cutsD, msgsD] at c1 c2 ⊢
 rw [zdp y]
 refine zaj [] [7] zkg ?_
 simp -implicitDefEqProofs [zho]
 refine zae [0, 1, 2, 3, 4] rfl (by decide) (by simp) c1 (by simp) (by simp [lentBs]) ?_
 simp -implicitDefEqProofs [framed, hp, hp', hx, hg]
 refine zaa c2 ?_
 simp -implicitDefEqProofs [-leave, hp, hp', hx, hg]
 exact leave5 (za1 rfl) (zg5 (zbb 5 _) (List.all_eq_true.1 rfl)) (zby 5 _) (zbv 5 _) (za1 rfl)
theorem zu1 (w : Wld) (a : Act) (x : Node) (hw : w.tiny) (hr : MonoC (cmpN a.node) w.nodes) (hi : isN a.node w.nodes = true) (hx : w.nodes[posN a.node w.nodes]? = some x) (h : wrAll x (putI a.key a.value) = false) : Den PP 67 [.ptr 0 0 0, .ptr 4 0 0] (actB w a) (.tup []) (actB w a) := by
 have c1 := zds w a (by have := hw.nodes; unfold cap; omega) hr hi
 have c2 := zth x a.key a.value (za7 (hw.node x (List.mem_of_getElem? hx))) h
 have hp := zdk hi
 have hg : ∀ h : posN a.node w.nodes < w.nodes.length, w.nodes[posN a.node w.nodes] = x := fun h => by rw [List.getElem?_eq_getElem h] at hx; exact Option.some.inj hx
 have he := z4w x (putI a.key a.value)
 generalize posN a.node w.nodes = P at *
 generalize wrE x (putI a.key a.value) = e at *
 have hp' : (P : Int) < w.nodes.length := by omega
 clear h hi hr hw
 simp only [actB, doA, copyD, nodeB, nodeD, intsD, Act.cells, Wld.cells, nodesD, cutsD, msgsD] at c1 c2 ⊢
 skip
 refine zaj [] [7] zkg ?_
 simp -implicitDefEqProofs [zho]
 refine zae [0, 1, 2, 3, 4] rfl (by decide) (by simp) c1 (by simp) (by simp [lentBs]) ?_
 simp -implicitDefEqProofs [framed, hp, hp', hx, hg]
 refine zaa c2 ?_
 simp -implicitDefEqProofs [-leave, hp, hp', hx, hg, he]
 exact leave5 (za1 rfl) (zbb 5 _) (zby 5 _) (zbv 5 _) (za1 rfl)
theorem zwf (w : Wld) (a : Act) (x : Node) (hw : w.tiny) (hr : MonoC (cmpN a.node) w.nodes) (hi : isN a.node w.nodes = true) (hx : w.nodes[posN a.node w.nodes]? = some x) (h : wrAll x (dropI a.key) = true) : Den PP 68 [.ptr 0 0 0, .ptr 4 0 0] (actB w a) (.tup []) (doA w a (posN a.node w.nodes) (wrN x (dropI a.key)).cells) := by
 have c1 := zds w a (by have := hw.nodes; unfold cap; omega) hr hi
 have c2 := zt4 x a.key (za7 (hw.node x (List.mem_of_getElem? hx))) h
 have hp := zdk hi
 have hg : ∀ h : posN a.node w.nodes < w.nodes.length, w.nodes[posN a.node w.nodes] = x := fun h => by rw [List.getElem?_eq_getElem h] at hx; exact Option.some.inj hx
 generalize posN a.node w.nodes = P at *
 generalize wrN x (dropI a.key) = y at *
 have hp' : (P : Int) < w.nodes.length := by omega
 clear h hi hr hw
 simp only [actB, doA, copyD, nodeB, nodeD, intsD, Act.cells, Wld.cells, nodesD, cutsD, msgsD] at c1 c2 ⊢
 rw [zdp y]
 refine zaj [] [7] zi8 ?_
 simp -implicitDefEqProofs [zg1]
 refine zae [0, 1, 2, 3, 4] rfl (by decide) (by simp) c1 (by simp) (by simp [lentBs]) ?_
 simp -implicitDefEqProofs [framed, hp, hp', hx, hg]
 refine zaa c2 ?_
 simp -implicitDefEqProofs [-leave, hp, hp', hx, hg]
 exact leave5 (za1 rfl) (zg5 (zbb 5 _) (List.all_eq_true.1 rfl)) (zby 5 _) (zbv 5 _) (za1 rfl)
theorem zt6 (w : Wld) (a : Act) (x : Node) (hw : w.tiny) (hr : MonoC (cmpN a.node) w.nodes) (hi : isN a.node w.nodes = true) (hx : w.nodes[posN a.node w.nodes]? = some x) (h : wrAll x (dropI a.key) = false) : Den PP 68 [.ptr 0 0 0, .ptr 4 0 0] (actB w a) (.tup []) (actB w a) := by
 have c1 := zds w a (by have := hw.nodes; unfold cap; omega) hr hi
 have c2 := zre x a.key (za7 (hw.node x (List.mem_of_getElem? hx))) h
 have hp := zdk hi
 have hg : ∀ h : posN a.node w.nodes < w.nodes.length, w.nodes[posN a.node w.nodes] = x := fun h => by rw [List.getElem?_eq_getElem h] at hx; exact Option.some.inj hx
 have he := z4w x (dropI a.key)
 generalize posN a.node w.nodes = P at *
 generalize wrE x (dropI a.key) = e at *
 have hp' : (P : Int) < w.nodes.length := by omega
 clear h hi hr hw
 simp only [actB, doA, copyD, nodeB, nodeD, intsD, Act.cells, Wld.cells, nodesD, cutsD, msgsD] at c1 c2 ⊢
 skip
 refine zaj [] [7] zi8 ?_
 simp -implicitDefEqProofs [zg1]
 refine zae [0, 1, 2, 3, 4] rfl (by decide) (by simp) c1 (by simp) (by simp [lentBs]) ?_
 simp -implicitDefEqProofs [framed, hp, hp', hx, hg]
 refine zaa c2 ?_
 simp -implicitDefEqProofs [-leave, hp, hp', hx, hg, he]
 exact leave5 (za1 rfl) (zbb 5 _) (zby 5 _) (zbv 5 _) (za1 rfl)
theorem z1t (w : Wld) (a : Act) (hw : w.tiny) (hr : MonoC (cmpN a.node) w.nodes) (hi : isN a.node w.nodes = true) : Den PP 65 [.ptr 0 0 0, .ptr 4 0 0] (actB w a) (.tup []) (doA w a (posN a.node w.nodes) [.bool false, .int .i64 a.node, .nil, .nil, .nil, .nil]) := by
 have c1 := zds w a (by have := hw.nodes; unfold cap; omega) hr hi
 have hp := zdk hi
 generalize posN a.node w.nodes = P at *
 have hp' : (P : Int) < w.nodes.length := by omega
 obtain ⟨x, hx⟩ : ∃ x, w.nodes[P]? = some x := ⟨_, List.getElem?_eq_getElem hp⟩
 have hg : ∀ h : P < w.nodes.length, w.nodes[P] = x := fun h => by rw [List.getElem?_eq_getElem h] at hx; exact Option.some.inj hx
 clear hi hr hw
 simp only [actB, doA, copyD, nodeB, nodeD, intsD, Act.cells, Wld.cells, nodesD, cutsD, msgsD] at c1 ⊢
 refine zaj [] [4] znn ?_
 simp -implicitDefEqProofs [zi0]
 repeat' apply And.intro
 all_goals
  refine zae [0, 1, 2, 3, 4] rfl (by decide) (by simp) c1 (by simp) (by simp [lentBs]) ?_
  simp -implicitDefEqProofs [framed, -leave, hp, hp', hx, hg]
  exact leave5 (za1 rfl) (zg5 (zbb 5 _) (List.all_eq_true.1 rfl)) (zby 5 _) (zbv 5 _) (za1 rfl)
end Go.AM
/- AM: contracts: cuts put in, taken out, asked for. -/
namespace Go.AM
set_option linter.unusedSimpArgs false
set_option linter.unusedVariables false
set_option maxRecDepth 8000
set_option maxHeartbeats 0
theorem z92 (a b : Int) : (if b < a then b else a) = min a b := by omega
theorem z94 (a b : Int) : (if a < b then b else a) = max a b := by omega
theorem z7l (a b : Int) : (if b < a then a else b) = max a b := by omega
theorem zl4 (cs : List Cut) (a b : Int) (hl : cs.length ≤ cap) (h : askMay cs a b = false) : Den PP 208 [cutsD cs, .int .i64 a, .int .i64 b] [] (.tup [.agg [.nil, .int .i64 0, .int .i64 0, .int .i64 0, .bool false], .bool false]) [] := by
 have c1 := zuk cs hl
 have c2 := zav a
 have c3 := zav b
 simp only [cutsD, askMay] at c1 h
 generalize cutsMay cs = M at *
 generalize place a = X at *
 generalize place b = Y at *
 by_cases hab : a = b
 ·clear h
  refine zaj [] [] zlw ?_
  cases M <;> cases X <;> cases Y
  all_goals
   simp -implicitDefEqProofs [zk8, cutsD]
   repeat' ((first | refine zaa (by first | exact c1 | exact c2 | exact c3) ?_ | ((with_reducible first | refine zal ?_ ?_ | refine zai ?_ ?_ | refine zaf ?_ ?_ | refine zad ?_ ?_) <;> intro _) | ((with_reducible first | refine zao ?_ ?_ | refine zaq ?_ ?_ | refine zam ?_ ?_ | refine zac ?_ ?_ | refine zak ?_ ?_ | refine zap ?_ ?_ | refine zah ?_ ?_ | refine zab ?_ ?_) <;> intro hq <;> (try simp at hq)) | refine zag (by omega) ?_ | refine zan (by omega) ?_) <;> simp -implicitDefEqProofs [*, hab])
 ·simp [hab] at h
  refine zaj [] [] zlw ?_
  cases M <;> cases X <;> cases Y
  all_goals
   simp at h
  all_goals
   simp -implicitDefEqProofs [zk8, cutsD]
   repeat' ((first | refine zaa (by first | exact c1 | exact c2 | exact c3) ?_ | ((with_reducible first | refine zal ?_ ?_ | refine zai ?_ ?_ | refine zaf ?_ ?_ | refine zad ?_ ?_) <;> intro _) | ((with_reducible first | refine zao ?_ ?_ | refine zaq ?_ ?_ | refine zam ?_ ?_ | refine zac ?_ ?_ | refine zak ?_ ?_ | refine zap ?_ ?_ | refine zah ?_ ?_ | refine zab ?_ ?_) <;> intro hq <;> (try simp at hq)) | refine zag (by omega) ?_ | refine zan (by omega) ?_) <;> simp -implicitDefEqProofs [*, hab])
theorem ztj (cs : List Cut) (a b : Int) (hl : cs.length ≤ cap) (h : askMay cs a b = true) : Den PP 208 [cutsD cs, .int .i64 a, .int .i64 b] [] (.tup [.agg [.ref 0 0 cs.length, .int .i64 (cutAB a b).a, .int .i64 (cutAB a b).b, .int .i64 (posC (fun x => ordC x (cutAB a b)) cs), .bool (decide (cutAB a b ∈ cs))], .bool true]) [⟨cs.map Cut.row, 2, .mut⟩] := by
 obtain ⟨h1, h2, h3, h4⟩ := zgq.1 h
 obtain ⟨k1, k2, k3⟩ := zep.1 h1
 have hc := zpd h2 h3 h4
 have c1 := zuk cs hl
 have c2 := zav a
 have c3 := zav b
 have c4 := zyc cs 162 (cutAB a b) (fun x => ordC x (cutAB a b)) (fun x _ => zsw x (cutAB a b)) hl (z78 hc k1 k2)
 have c5 := zxh (cs.map Cut.row) (by intro r hr; obtain ⟨a, _, rfl⟩ := List.mem_map.1 hr; exact ⟨rfl, rfl⟩) (by simp; omega)
 rw [z9i hc k1 k2] at c4
 rw [h1] at c1
 rw [h2] at c2
 rw [h3] at c3
 simp only [cutsD, List.length_map] at c1 c4 c5
 have e1 : (cutAB a b).a = min a b := rfl
 have e2 : (cutAB a b).b = max a b := rfl
 rw [e1, e2] at c4
 rw [e1, e2]
 generalize posC (fun x => ordC x (cutAB a b)) cs = p at *
 generalize decide (cutAB a b ∈ cs) = A at *
 clear e1 e2 hc k1 k2 h h1 h2 h3
 refine zaj [44] [] zlw ?_
 simp -implicitDefEqProofs [zk8, cutsD]
 repeat' ((first | refine zaa (by first | exact c1 | exact c2 | exact c3) ?_ | ((with_reducible first | refine zal ?_ ?_ | refine zai ?_ ?_ | refine zaf ?_ ?_ | refine zad ?_ ?_) <;> intro _) | ((with_reducible first | refine zao ?_ ?_ | refine zaq ?_ ?_ | refine zam ?_ ?_ | refine zac ?_ ?_ | refine zak ?_ ?_ | refine zap ?_ ?_ | refine zah ?_ ?_ | refine zab ?_ ?_) <;> intro hq <;> (try simp at hq)) | refine zag (by omega) ?_ | refine zan (by omega) ?_) <;> simp -implicitDefEqProofs [*, h4])
 simp -implicitDefEqProofs [minL, minF, z92, z94, z7l]
 refine zaa c4 ?_
 simp -implicitDefEqProofs
 refine zaa c5 ?_
 simp -implicitDefEqProofs [downTo]
theorem zn1 (x : Cut) : ∀ d ∈ x.row, d.still = true := by
 intro d hd
 simp [Cut.row] at hd
 rcases hd with rfl | rfl <;> rfl
theorem z4v (cs : List Cut) (a b : Int) (hl : cs.length ≤ cap) : Den PP 154 [cutsD cs, .int .i64 a, .int .i64 b] [] (.tup [.ref 0 0 (withC cs a b).1.length, .int .i64 (withC cs a b).2]) [⟨(withC cs a b).1.map Cut.row, 2, .mut⟩] := by
 cases h : askMay cs a b with
 | false =>
   have c1 := zl4 cs a b hl h
   rw [show withC cs a b = ([], 1500) by simp [withC, h]]
   simp only [cutsD] at c1
   refine zgy [14, 30] [30] [30] [] (fun _ h => absurd h List.not_mem_nil) zoq ?_
   simp -implicitDefEqProofs [zl0, cutsD]
   refine zaa c1 ?_
   simp -implicitDefEqProofs [downTo]
 | true =>
   have c1 := ztj cs a b hl h
   obtain ⟨h1, h2, h3, h4⟩ := zgq.1 h
   obtain ⟨k1, k2, k3⟩ := zep.1 h1
   have hc := zpd h2 h3 h4
   have hins := z9o hc k1
   have hple := zqf (fun x => ordC x (cutAB a b)) cs
   obtain ⟨r, hr⟩ : ∃ r, withC cs a b = r := ⟨_, rfl⟩
   have hr' := hr
   unfold withC at hr'
   rw [if_pos h] at hr'
   rw [hr]
   generalize posC (fun x => ordC x (cutAB a b)) cs = p at *
   generalize cutAB a b = c at *
   clear hr h h1 h2 h3 h4 k1 k2
   simp only [cutsD] at c1
   refine zgy [14, 30] [30] [30] [] (fun _ h => absurd h List.not_mem_nil) zoq ?_
   simp -implicitDefEqProofs [zl0, cutsD]
   refine zaa c1 ?_
   by_cases hin : c ∈ cs
   ·rw [if_pos hin] at hr'
    subst hr'
    simp -implicitDefEqProofs [downTo, hin]
   ·rw [if_neg hin] at hr'
    by_cases h32 : cs.length = 32
    ·rw [if_pos h32] at hr'
     subst hr'
     simp -implicitDefEqProofs [downTo, hin, h32]
    ·rw [if_neg h32] at hr'
     subst hr'
     have h32' : ¬ (cs.length : Int) = 32 := by omega
     simp -implicitDefEqProofs [downTo, hin, h32']
     refine zer rfl (by simp) (by simp) (by simp) (z3r (cs.map Cut.row) c.row p (by simp [Cut.row]) (StillR.map _ _ fun a _ => zn1 a) (by intro r hr; rw [List.mem_singleton.1 hr]; exact ⟨rfl, rfl⟩) (zn1 c) (by simpa using hple) (by simp; omega)) ?_
     rw [← zpe, hins]
     have hil := zqy c cs
     simp -implicitDefEqProofs [downTo, hil]
theorem zu6 (cs : List Cut) (a b : Int) (hl : cs.length ≤ cap) : Den PP 155 [cutsD cs, .int .i64 a, .int .i64 b] [] (.tup [.ref 0 0 (withoutC cs a b).1.length, .int .i64 (withoutC cs a b).2]) [⟨(withoutC cs a b).1.map Cut.row, 2, .mut⟩] := by
 cases h : askMay cs a b with
 | false =>
   have c1 := zl4 cs a b hl h
   rw [show withoutC cs a b = ([], 1500) by simp [withoutC, h]]
   simp only [cutsD] at c1
   refine zgy [14, 27] [27] [27] [] (fun _ h => absurd h List.not_mem_nil) zjz ?_
   simp -implicitDefEqProofs [zhm, cutsD]
   refine zaa c1 ?_
   simp -implicitDefEqProofs [downTo]
 | true =>
   have c1 := ztj cs a b hl h
   obtain ⟨h1, h2, h3, h4⟩ := zgq.1 h
   obtain ⟨k1, k2, k3⟩ := zep.1 h1
   have hc := zpd h2 h3 h4
   have hdel := qat hc k1 k2
   have hat := z9i hc k1 k2
   have hat2 := fun h => (zmf (c := fun x => ordC x (cutAB a b)) (xs := cs) h).1
   rw [hat] at hat2
   rw [show withoutC cs a b = (cs.filter fun x => !decide (x = cutAB a b), 0) by unfold withoutC; rw [if_pos h]]
   have hnf : cutAB a b ∉ cs → cs.filter (fun x => !decide (x = cutAB a b)) = cs := by
    intro hn
    rw [List.filter_eq_self]
    intro x hx
    have : x ≠ cutAB a b := by rintro rfl; exact hn hx
    simp [this]
   generalize posC (fun x => ordC x (cutAB a b)) cs = p at *
   generalize cutAB a b = c at *
   clear h h1 h2 h3 h4 k1 k2 hat hc
   simp only [cutsD] at c1
   refine zgy [14, 27] [27] [27] [] (fun _ h => absurd h List.not_mem_nil) zjz ?_
   simp -implicitDefEqProofs [zhm, cutsD]
   refine zaa c1 ?_
   by_cases hin : c ∈ cs
   ·have hlt := hat2 (by simpa using hin)
    have hd := hdel hin
    have hw := zay (n := p) (by omega)
    have hw2 : IntKind.wrap .i64 ((p : Int) + 1) = (p : Int) + 1 := zas (by omega) (by omega)
    have hdl := congrArg List.length hd
    have hmap : (cs.map Cut.row).take p ++ (cs.map Cut.row).drop (p + 1) = (cs.filter fun x => !decide (x = c)).map Cut.row := by rw [← hd]; simp [List.map_take, List.map_drop]
    generalize (cs.filter fun x => !decide (x = c)) = F at *
    clear hnf hdel hat2 hw hd
    simp -implicitDefEqProofs [downTo, hin, hw2]
    refine zer rfl (by simp) (by simp) (by simp) (z2b (cs.map Cut.row) p (by intro r hr; obtain ⟨a, _, rfl⟩ := List.mem_map.1 hr; exact ⟨rfl, rfl⟩) (StillR.map _ _ fun a _ => zn1 a) (by simpa using hlt) (by simp; omega)) ?_
    rw [hmap]
    simp -implicitDefEqProofs [downTo]
   ·rw [hnf hin]
    simp -implicitDefEqProofs [downTo, hin]
theorem zn2 (cs : List Cut) (a b : Int) (hl : cs.length ≤ cap) : Den PP 153 [cutsD cs, .int .i64 a, .int .i64 b] [] (.tup [.bool (isC cs a b).1, .int .i64 (isC cs a b).2]) [] := by
 cases h : askMay cs a b with
 | false =>
   have c1 := zl4 cs a b hl h
   rw [show isC cs a b = (false, 1500) by simp [isC, h]]
   simp only [cutsD] at c1
   refine zaj [] [] zs2 ?_
   simp -implicitDefEqProofs [zqr, cutsD]
   refine zaa c1 ?_
   simp -implicitDefEqProofs [downTo]
 | true =>
   have c1 := ztj cs a b hl h
   rw [show isC cs a b = (decide (cutAB a b ∈ cs), 0) by simp [isC, h]]
   generalize decide (cutAB a b ∈ cs) = A at *
   generalize posC (fun x => ordC x (cutAB a b)) cs = p at *
   generalize cutAB a b = c at *
   simp only [cutsD] at c1
   refine zaj [] [] zs2 ?_
   simp -implicitDefEqProofs [zqr, cutsD]
   refine zaa c1 ?_
   simp -implicitDefEqProofs [downTo]
end Go.AM
/- AM: contracts: packets lost, doubled; cuts made, healed. -/
namespace Go.AM
set_option linter.unusedSimpArgs false
set_option linter.unusedVariables false
set_option maxRecDepth 8000
set_option maxHeartbeats 0
def doC (w : Wld) (a : Act) (ls : List Msg) : List Blk := [⟨[[.ref 1 0 w.nodes.length, .ref 2 0 w.cuts.length, .sl (ls.map Msg.row) ls.length]], 3, .box⟩, ⟨w.nodes.map Node.cells, 6, .mut⟩, ⟨w.cuts.map Cut.row, 2, .mut⟩, ⟨w.packets.map Msg.row, 11, .app⟩, ⟨[a.cells], 7, .box⟩]
def doS (w v : Wld) (qs : List Msg) (a : Act) : List Blk := [⟨[v.cells], 3, .box⟩, ⟨w.nodes.map Node.cells, 6, .app⟩, ⟨w.cuts.map Cut.row, 2, .app⟩, ⟨qs.map Msg.row, 11, .app⟩, ⟨[a.cells], 7, .box⟩]
theorem zxo (w : Wld) (a : Act) (h : w.packets = []) : Den PP 61 [.ptr 0 0 0, .ptr 4 0 0] (actB w a) (.tup []) (actB w a) := by
 have c1 := zhq w a h
 clear h
 simp only [actB, doA, doC, doS, copyD, nodeB, nodeD, intsD, Act.cells, Wld.cells, nodesD, cutsD, msgsD, msgD, List.cons_append, List.nil_append] at c1 ⊢
 refine zaj [] [8] zjc ?_
 simp -implicitDefEqProofs [zgv]
 refine zae [0, 1, 2, 3, 4] rfl (by decide) (by simp) c1 (by simp) (by simp [lentBs]) ?_
 simp -implicitDefEqProofs [framed, -leave]
 exact leave5 (za1 rfl) (zbb 5 _) (zby 5 _) (zbv 5 _) (za1 rfl)
theorem z5i (w : Wld) (a : Act) (m : Msg) (hw : w.tiny) (hq : queueMay w.packets = true) (h0 : 0 ≤ a.pick) (hp : a.pick ≤ 65535) (hm : w.packets[pickP w a]? = some m) : Den PP 61 [.ptr 0 0 0, .ptr 4 0 0] (actB w a) (.tup []) (doC w a (leftP w (pickP w a))) := by
 have c1 := zdz w a m hw hq h0 hp hm
 generalize leftP w (pickP w a) = ls at *
 clear hw hq h0 hp hm
 simp only [actB, doA, doC, doS, copyD, nodeB, nodeD, intsD, Act.cells, Wld.cells, nodesD, cutsD, msgsD, msgD, Msg.row] at c1 ⊢
 refine zaj [] [8] zjc ?_
 simp -implicitDefEqProofs [zgv]
 refine zae [0, 1, 2, 3, 4] rfl (by decide) (by simp) c1 (by simp) (by simp [lentBs]) ?_
 simp -implicitDefEqProofs [framed, -leave]
 exact leave5 (za1 rfl) (zbb 5 _) (zby 5 _) (zbv 5 _) (za1 rfl)
theorem ztv (w : Wld) (a : Act) (h : w.packets = []) : Den PP 62 [.ptr 0 0 0, .ptr 4 0 0] (actB w a) (.tup []) (actB w a) := by
 have c1 := zhq w a h
 clear h
 simp only [actB, doA, doC, doS, copyD, nodeB, nodeD, intsD, Act.cells, Wld.cells, nodesD, cutsD, msgsD, msgD, List.cons_append, List.nil_append] at c1 ⊢
 refine zaj [] [8, 15] zhy ?_
 simp -implicitDefEqProofs [zgc]
 refine zae [0, 1, 2, 3, 4] rfl (by decide) (by simp) c1 (by simp) (by simp [lentBs]) ?_
 simp -implicitDefEqProofs [framed, -leave]
 exact leave5 (za1 rfl) (zbb 5 _) (zby 5 _) (zbv 5 _) (za1 rfl)
theorem z29 (w : Wld) (a : Act) (m : Msg) (hw : worldMay w = true) (h0 : 0 ≤ a.pick) (hp : a.pick ≤ 65535) (hm : w.packets[pickP w a]? = some m) (hs : worldMay { w with packets := [m] } = true) : Den PP 62 [.ptr 0 0 0, .ptr 4 0 0] (actB w a) (.tup []) (doS w (sendW w [m]) w.packets a) := by
 have c1 := zdz w a m (zau hw) (zar hw).2.2.1 h0 hp hm
 have c2 := ztw w [m] hw hs
 generalize sendW w [m] = v at *
 generalize leftP w (pickP w a) = ls at *
 clear hw h0 hp hm hs
 simp only [actB, doA, doC, doS, copyD, nodeB, nodeD, intsD, Act.cells, Wld.cells, nodesD, cutsD, msgsD, msgD, Msg.row, List.map_cons, List.map_nil, List.length_cons, List.length_nil] at c1 c2 ⊢
 refine zaj [] [8, 15] zhy ?_
 simp -implicitDefEqProofs [zgc]
 refine zae [0, 1, 2, 3, 4] rfl (by decide) (by simp) c1 (by simp) (by simp [lentBs]) ?_
 simp -implicitDefEqProofs [framed, -leave]
 refine zae [0, 1, 2, 3, 6] rfl (by decide) (by simp) c2 (by simp) (by simp [lentBs]) ?_
 simp -implicitDefEqProofs [framed, -leave]
 exact leave5 (za1 rfl) (zbb 5 _) (zby 5 _) (zbv 5 _) (za1 rfl)
theorem z7m (w : Wld) (a : Act) (hw : w.tiny) : ∃ Z, (Z = .ref 2 0 w.cuts.length ∧ (withC w.cuts a.node a.other).2 ≠ 0 ∨ Z = .sl ((withC w.cuts a.node a.other).1.map Cut.row) (withC w.cuts a.node a.other).1.length ∧ (withC w.cuts a.node a.other).2 = 0) ∧
 Den PP 63 [.ptr 0 0 0, .ptr 4 0 0] (actB w a) (.tup []) [⟨[[.ref 1 0 w.nodes.length, Z, .ref 3 0 w.packets.length]], 3, .box⟩, ⟨w.nodes.map Node.cells, 6, .mut⟩, ⟨w.cuts.map Cut.row, 2, .app⟩, ⟨w.packets.map Msg.row, 11, .mut⟩, ⟨[a.cells], 7, .box⟩] := by
 have c1 := z4v w.cuts a.node a.other (by have := hw.cuts; unfold cap; omega)
 generalize withC w.cuts a.node a.other = r at *
 obtain ⟨cs, e⟩ := r
 simp only at c1 ⊢
 clear hw
 simp only [actB, doA, doC, doS, copyD, nodeB, nodeD, intsD, Act.cells, Wld.cells, nodesD, cutsD, msgsD, msgD] at c1 ⊢
 by_cases he : e = 0
 ·subst he
  refine ⟨_, .inr ⟨rfl, rfl⟩, ?_⟩
  refine zaj [] [] zkj ?_
  simp -implicitDefEqProofs [zhl]
  refine zaa c1 ?_
  simp -implicitDefEqProofs [downTo, -leave]
  exact leave5 (za1 rfl) (zbb 5 _) (zby 5 _) (zbv 5 _) (za1 rfl)
 ·refine ⟨_, .inl ⟨rfl, he⟩, ?_⟩
  refine zaj [] [] zkj ?_
  simp -implicitDefEqProofs [zhl]
  refine zaa c1 ?_
  simp -implicitDefEqProofs [downTo, he, -leave]
  exact leave5 (za1 rfl) (zbb 5 _) (zby 5 _) (zbv 5 _) (za1 rfl)
theorem z6g (w : Wld) (a : Act) (hw : w.tiny) : Den PP 64 [.ptr 0 0 0, .ptr 4 0 0] (actB w a) (.tup [])
 [⟨[[.ref 1 0 w.nodes.length, .sl ((withoutC w.cuts a.node a.other).1.map Cut.row) (withoutC w.cuts a.node a.other).1.length, .ref 3 0 w.packets.length]], 3, .box⟩, ⟨w.nodes.map Node.cells, 6, .mut⟩, ⟨w.cuts.map Cut.row, 2, .app⟩, ⟨w.packets.map Msg.row, 11, .mut⟩, ⟨[a.cells], 7, .box⟩] := by
 have c1 := zu6 w.cuts a.node a.other (by have := hw.cuts; unfold cap; omega)
 generalize withoutC w.cuts a.node a.other = r at *
 obtain ⟨cs, e⟩ := r
 simp only at c1 ⊢
 clear hw
 simp only [actB, doA, doC, doS, copyD, nodeB, nodeD, intsD, Act.cells, Wld.cells, nodesD, cutsD, msgsD, msgD] at c1 ⊢
 refine zaj [] [] zo0 ?_
 simp -implicitDefEqProofs [zj7]
 refine zaa c1 ?_
 simp -implicitDefEqProofs [downTo, -leave]
 exact leave5 (za1 rfl) (zbb 5 _) (zby 5 _) (zbv 5 _) (za1 rfl)
end Go.AM
/- AM: contracts: slices.Grow of nothing, slices.Concat. -/
namespace Go.AM
set_option linter.unusedSimpArgs false
set_option linter.unusedVariables false
set_option maxRecDepth 8000
set_option maxHeartbeats 0
theorem z5g (n : Nat) (h0 : 0 < n) (hn : n ≤ cap16) : Den PP 187 [.nil, .int .i64 n] [] (.ref 0 0 0) [⟨List.replicate n [.int .i64 0], 1, .mut⟩] := by
 unfold cap16 at hn
 have w1 : IntKind.wrap .i64 (n : Int) = n := zas (by omega) (by omega)
 have h1 : ¬ (n : Int) < 0 := by omega
 have h2 : (0 : Int) < n := by omega
 refine zaj [] [] zjm ?_
 have w0 : IntKind.wrap .i64 0 = 0 := zas (by omega) (by omega)
 simp -implicitDefEqProofs [zf3, w0, w1, h1, h2, h0, sliceD, boundD]
 refine zps ⟨by omega, by omega⟩ ?_
 rw [zvk]
 refine ⟨fun r hr => by rw [(List.mem_replicate.1 hr).2]; exact ⟨rfl, rfl⟩, ?_⟩
 simp -implicitDefEqProofs [appendD]
 refine zag ⟨by omega, by omega⟩ ?_
 simp -implicitDefEqProofs [w0, w1, sliceD, boundD]
def lrow (xs : List Int) : List D := [.sl (xs.map irow) xs.length]
theorem zv4 {L : List (List Int)} {i : Nat} {a : List Int} (h : L[i]? = some a) : (L.take (i + 1)).flatten = (L.take i).flatten ++ a := by
 have e1 : L.take (i + 1) = L.take i ++ [a] := by rw [List.take_add_one, h]; rfl
 rw [e1]; simp
def tot (L : List (List Int)) : Nat := L.flatten.length
theorem z08 {L : List (List Int)} {i : Nat} {a : List Int} (h : L[i]? = some a) : tot (L.take (i + 1)) = tot (L.take i) + a.length ∧ tot (L.take i) + a.length ≤ tot L := by
 have e : L.flatten = (L.take (i + 1)).flatten ++ (L.drop (i + 1)).flatten := by rw [← List.flatten_append, List.take_append_drop]
 unfold tot
 rw [e, zv4 h]
 simp
def frow (L : List (List Int)) : List (List D) := L.flatten.map irow
theorem zq4 (L : List (List Int)) : (frow L).length = tot L := by simp [frow, tot]
theorem z58 {L : List (List Int)} {i : Nat} {a : List Int} (h : L[i]? = some a) : frow (L.take (i + 1)) = frow (L.take i) ++ a.map irow := by
 unfold frow
 rw [zv4 h, List.map_append]
theorem z51 (A ys : List (List D)) (z : List D) (n s k : Nat) (hA : A.length = s) (hk : ys.length = k) (h : s + k ≤ n) :
 (A ++ List.replicate (n - s) z).take s ++ ys ++ (A ++ List.replicate (n - s) z).drop (s + k) = (A ++ ys) ++ List.replicate (n - (s + k)) z := by
 subst hA hk
 rw [List.take_left, List.drop_append, List.drop_eq_nil_of_le (by omega), List.nil_append, List.drop_replicate]
 congr 2
 omega
theorem z2g (L : List (List Int)) : StillR (frow L) := StillR.map _ _ fun a _ d hd => by rw [List.mem_singleton.1 hd]; rfl
theorem z23 (L : List (List Int)) (S : Nat → Bool) : (frow L).map (fun r => r.map (D.sweep S)) = frow L := (z2g L).mapR _ _
theorem zzh (L : List (List Int)) (hl : L.length ≤ cap16) (h0 : 0 < tot L) (hn : tot L ≤ cap16) : Den PP 113 [.sl (L.map lrow) L.length] [] (.ref 0 0 (tot L)) [⟨frow L, 1, .mut⟩] := by
 have c1 := z5g (tot L) h0 hn
 unfold cap16 at hl hn
 refine zaj [24] [] zh1 ?_
 simp -implicitDefEqProofs [zfd]
 refine za3 L (fun i rest => fun ⟨fr, bs⟩ => bs = [⟨[], 1, .mut⟩] ∧ fr 0 = .sl (L.map lrow) L.length ∧ fr 3 = .int .i64 (tot (L.take i)) ∧ fr 9 = .sl (L.map lrow) L.length ∧ fr 10 = .int .i64 L.length ∧ fr 11 = .int .i64 i)
  (fun ⟨fr, bs⟩ => bs = [⟨[], 1, .mut⟩] ∧ fr 0 = .sl (L.map lrow) L.length ∧ fr 3 = .int .i64 (tot L)) (fun _ => False) zed.eq_1 ?_ ?_ ?_ ?_ ?_
 ·exact ⟨rfl, rfl, rfl, rfl, rfl, rfl⟩
 ·rintro i ⟨fr, bs⟩ hi ⟨rfl, h0, h3, h9, h10, h11⟩
  subst hi
  rw [List.take_length] at *
  simp -implicitDefEqProofs [h0, h3, h9, h10, h11]
 ·rintro i a rest ⟨fr, bs⟩ hlt hget hg hd hd2 ⟨rfl, h0, h3, h9, h10, h11⟩
  have hlt' : (i : Int) < L.length := by omega
  have hw := zay (n := i) (by omega)
  obtain ⟨e1, e2⟩ := z08 hget
  rw [e1]
  clear e1
  generalize tot (L.take i) = s at *
  have w1 : IntKind.wrap .i64 ((s : Int) + a.length) = (s : Int) + a.length := zas (by omega) (by omega)
  have h1 : ¬ (s : Int) + a.length < 0 := by omega
  simp -implicitDefEqProofs [h0, h3, h9, h10, h11, hlt, hlt', hget, hg, lrow, w1, h1]
  repeat' ((first | ((with_reducible first | refine zal ?_ ?_ | refine zai ?_ ?_ | refine zaf ?_ ?_ | refine zad ?_ ?_) <;> intro _) | ((with_reducible first | refine zao ?_ ?_ | refine zaq ?_ ?_ | refine zam ?_ ?_ | refine zac ?_ ?_ | refine zak ?_ ?_ | refine zap ?_ ?_ | refine zah ?_ ?_ | refine zab ?_ ?_) <;> intro hq <;> (try simp at hq)) | refine zag (by omega) ?_ | refine zan (by omega) ?_) <;> simp -implicitDefEqProofs [*, h0, h3, h9, h10, h11, hlt, hlt', hget, hg, lrow, w1, h1, hw])
  exact zas (by omega) (by omega)
 ·rintro ⟨fr, bs⟩ ⟨rfl, h0, h3⟩
  simp -implicitDefEqProofs [h0, h3]
  refine zaa c1 ?_
  simp -implicitDefEqProofs [h0, h3]
  refine za3 L (fun i rest => fun ⟨fr, bs⟩ => bs = [⟨[], 1, .mut⟩, ⟨frow (L.take i) ++ List.replicate (tot L - tot (L.take i)) [.int .i64 0], 1, .mut⟩] ∧ fr 6 = .ref 1 0 (tot (L.take i)) ∧ fr 25 = .sl (L.map lrow) L.length ∧ fr 26 = .int .i64 L.length ∧ fr 27 = .int .i64 i)
   (fun ⟨fr, bs⟩ => bs = [⟨[], 1, .mut⟩, ⟨frow L, 1, .mut⟩] ∧ fr 6 = .ref 1 0 (tot L)) (fun _ => False) zec.eq_1 ?_ ?_ ?_ ?_ ?_
  ·exact ⟨by simp [tot, frow], by simp [tot], rfl, rfl, rfl⟩
  ·rintro i ⟨fr, bs⟩ hi ⟨rfl, h6, h25, h26, h27⟩
   subst hi
   rw [List.take_length, Nat.sub_self, List.replicate_zero, List.append_nil] at *
   simp -implicitDefEqProofs [h6, h25, h26, h27]
  ·rintro i a rest ⟨fr, bs⟩ hlt hget hg hd hd2 ⟨rfl, h6, h25, h26, h27⟩
   have hlt' : (i : Int) < L.length := by omega
   obtain ⟨e1, e2⟩ := z08 hget
   have e4 := z51 (frow (L.take i)) (a.map irow) [.int .i64 0] (tot L) (tot (L.take i)) a.length (zq4 _) (by simp) e2
   have e5 := zq4 (L.take i)
   rw [← z58 hget] at e4
   rw [e1]
   clear e1
   have hsw := z23 (L.take (i + 1))
   generalize frow (L.take (i + 1)) = B' at *
   generalize frow (L.take i) = B at *
   generalize tot (L.take i) = s at *
   generalize tot L = n at *
   have hB : (B ++ List.replicate (n - s) [D.int IntKind.i64 0]).length = n := by simp; omega
   generalize (B ++ List.replicate (n - s) [D.int IntKind.i64 0]) = R at *
   simp -implicitDefEqProofs [h6, h25, h26, h27, hlt, hlt', hget, hg, lrow, appendD]
   rw [List.append_assoc] at e4
   refine zag ⟨by omega, by omega⟩ ?_
   by_cases hs : s = n
   ·refine zag (by omega) ?_
    have ha : a = [] := List.length_eq_zero_iff.1 (by omega)
    subst ha
    have e6 : R = B' ++ List.replicate (n - (s + 0)) [D.int IntKind.i64 0] := by
     simpa using e4
    subst e6
    simp -implicitDefEqProofs [h6, h25, h26, h27, hsw]
    exact zas (by omega) (by omega)
   ·refine zbf (by omega) ?_
    refine zag (by omega) ?_
    rw [e4]
    simp -implicitDefEqProofs [h6, h25, h26, h27, hsw]
    exact zas (by omega) (by omega)
  ·rintro ⟨fr, bs⟩ ⟨rfl, h6⟩
   simp -implicitDefEqProofs [h6]
  ·rintro ⟨fr, bs⟩ h
   exact h.elim
 ·rintro ⟨fr, bs⟩ h
  exact h.elim
end Go.AM
