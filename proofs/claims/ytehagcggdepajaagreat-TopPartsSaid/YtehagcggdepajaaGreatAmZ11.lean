/- What the proof of this claim stands on, part 11. -/
import Derived.Test.YtehagcggdepajaaGreatAmZ10
/- AM: contracts: a view's ends, a key's owner. -/
namespace Go.AM
set_option linter.unusedSimpArgs false
set_option linter.unusedVariables false
set_option maxRecDepth 8000
set_option maxHeartbeats 0
theorem zsj (v : View) (hs : v.small) : Den PP 136 [viewD v, .fn 137 [] []] [] (pairD (succV v)) [] := by
 refine zah [] [] zxf ?_
 simp -implicitDefEqProofs [zr3, viewD, View.cells, peersD, intsD]
 refine zaa (zj5 v hs) ?_
 simp -implicitDefEqProofs
 refine zai (fun h => ?_) (fun h => ?_)
 rotate_left
 ·simp -implicitDefEqProofs [h, succV, pairD]
 simp -implicitDefEqProofs [h]
 refine zab (fun h2 => ?_) (fun h2 => ?_)
 ·have h3 : v.peers = [] := by simpa using h2
  simp -implicitDefEqProofs [h, h2, h3, succV, pairD]
 simp -implicitDefEqProofs [h2]
 refine zaa (zme v hs.1) ?_
 cases hp : v.peers with
 | nil => rw [hp] at h2; simp at h2
 | cons p ps =>
   have hc := zyn p.id (ps.map Peer.id)
   simp [intsD] at hc
   simp -implicitDefEqProofs [downTo]
   refine zaa hc ?_
   simp -implicitDefEqProofs [h, hp, succV, pairD]

theorem z3c (v : View) (hs : v.small) : Den PP 50 [viewD v] [] (pairD (succV v)) [] := by
 have hc := zsj v hs
 simp [viewD, View.cells, peersD, intsD, pairD] at hc
 refine zah [] [] zvr ?_
 simp -implicitDefEqProofs [zph, viewD, View.cells, peersD, intsD, pairD]
 refine zaa hc ?_
 simp -implicitDefEqProofs
end Go.AM
/- AM: contracts: a key's owner. -/
namespace Go.AM
set_option linter.unusedSimpArgs false
set_option linter.unusedVariables false
set_option maxRecDepth 8000
set_option maxHeartbeats 0
theorem z85 (one : Int) (ids : List Int) (hl : ids.length ≤ cap) : Den PP 138 [.int .i64 one, intsD ids] [] (.bool (place one && decide (ids.length ≤ 64) && ids.all place)) [] := by
 have hc := zgl ids hl
 simp [intsD] at hc
 refine zah [] [] z11 ?_
 simp -implicitDefEqProofs [zvo, intsD]
 refine zaa (zau one) ?_
 simp -implicitDefEqProofs
 refine zad (fun h => ?_) (fun h => ?_)
 rotate_left
 ·simp -implicitDefEqProofs [h]
 simp -implicitDefEqProofs [h]
 refine zal (fun h2 => ?_) (fun h2 => ?_)
 rotate_left
 ·simp -implicitDefEqProofs [h, h2]
  omega
 simp -implicitDefEqProofs [h2]
 refine zaa hc ?_
 simp -implicitDefEqProofs
 intros
 omega
theorem zq1 (key_ x : Int) (xs : List Int) (hl : xs.length < cap) : Den PP 223 [intsD (x :: xs), .fn 203 [] [.mem [.int .i64 key_]]] [] (.int .i64 (nearest key_ x xs)) [] := by
 refine zah [] [] zg6 ?_
 have h0 : ¬ ((xs.length : Int) + 1 < 1) := by omega
 simp -implicitDefEqProofs [zem, intsD, h0, irow]
 refine zdy (xs.length + 1) ?_
 have key : ∀ (Q : Ex → St → Prop) (r : Int) (hQ1 : ∀ fr, fr 5 = .int .i64 r → Q .normal ⟨fr, []⟩) (ys : List Int) (hys : ys.length ≤ cap) (rest : List Int) (i : Nat) (m : Int) (fr : Nat → D), ys.drop i = rest → i ≤ ys.length →
  fr 0 = .sl (ys.map irow) ys.length → fr 1 = .fn 203 [] [.mem [.int .i64 key_]] → fr 5 = .int .i64 m → fr 6 = .int .i64 i → nearest key_ m rest = r → sLoop (cf 0 [] []) 0 zb8 (blockQ 0 Q) (rest.length + 1) ⟨fr, []⟩ := by
  intro Q r hQ1 ys hys rest
  induction rest with
  | nil =>
    intro i m fr e hi h0 h1 h5 h6 hm
    refine zby zb8.eq_1 ?_
    have hi' := zgv e hi
    simp -implicitDefEqProofs [h0, h1, h5, h6, hi']
    exact hQ1 _ (by rw [← hm]; simp [h0, h1, h5, h6, nearest])
  | cons y rest ih =>
    intro i m fr e hi h0 h1 h5 h6 hm
    refine zby zb8.eq_1 ?_
    obtain ⟨hlt, hget, hd, hlen⟩ := zfu e
    have hlt' : (i : Int) < ys.length := by omega
    have hw := za1 (n := i) (by unfold cap at hys; omega)
    simp only [nearest] at hm
    simp -implicitDefEqProofs [h0, h1, h5, h6, hlt', hget, irow]
    refine zaa (z51 key_ y m) ?_
    simp -implicitDefEqProofs [zof]
    refine zaf (fun h2 => ?_) (fun h2 => ?_)
    all_goals simp -implicitDefEqProofs [h2, h0, h1, h5, h6, hw, hlt', hget, irow]
    ·exact ih (i + 1) y _ hd (by omega) (by simp [h0, h1, h5, h6]) (by simp [h0, h1, h5, h6]) (by simp) (by simp) (by rw [← hm, if_pos h2])
    ·exact ih (i + 1) m _ hd (by omega) (by simp [h0, h1, h5, h6]) (by simp [h0, h1, h5, h6]) (by simp [h0, h1, h5, h6]) (by simp) (by rw [← hm, if_neg h2])
 refine key _ (nearest key_ x xs) (fun fr h => ?_) (x :: xs) (by simp; omega) xs 1 x _ rfl (by simp) rfl rfl rfl rfl rfl
 simp -implicitDefEqProofs [h]
theorem z21 (ids : List Int) (key : Int) (hl : ids.length ≤ cap) : Den PP 188 [intsD ids, .int .i64 key] [] (pairD (rowOwner ids key)) [] := by
 have hc := z85 key ids hl
 simp only [rowOwner, pairD]
 generalize (place key && decide (ids.length ≤ 64) && ids.all place) = b at *
 simp [intsD] at hc
 refine zah [] [] zu6 ?_
 simp -implicitDefEqProofs [zp3, intsD]
 refine zaa hc ?_
 simp -implicitDefEqProofs
 cases b
 ·simp -implicitDefEqProofs
 simp -implicitDefEqProofs
 cases ids with
 | nil => simp -implicitDefEqProofs
 | cons x xs =>
   have hm := zq1 key x xs (by simpa [Nat.lt_iff_add_one_le] using hl)
   simp [intsD] at hm
   simp -implicitDefEqProofs
   refine zaa (qas key) ?_
   simp -implicitDefEqProofs
   refine zaa hm ?_
   simp -implicitDefEqProofs
theorem zm0 (v : View) (key : Int) (hs : v.small) : Den PP 114 [viewD v, .int .i64 key] [] (pairD (ownerV v key)) [] := by
 have hc := zj5 v hs
 have hi := zme v hs.1
 simp only [ownerV, pairD]
 simp [viewD, View.cells, peersD, intsD] at hc hi
 refine zah [17] [] zsz ?_
 simp -implicitDefEqProofs [znj, viewD, View.cells, peersD, intsD]
 refine zaa hc ?_
 simp -implicitDefEqProofs
 refine zad (fun h => ?_) (fun h => ?_)
 rotate_left
 ·simp -implicitDefEqProofs [h]
 simp -implicitDefEqProofs [h]
 refine zaa (zau key) ?_
 simp -implicitDefEqProofs
 refine zai (fun h2 => ?_) (fun h2 => ?_)
 rotate_left
 ·simp -implicitDefEqProofs [h, h2]
 simp -implicitDefEqProofs [h, h2]
 refine zaa hi ?_
 have hb1 : (v.peers.length + 1) * 8 ≤ 140737488355328 := by
  have := hs.1
  unfold cap16 at this
  omega
 have hb2 : v.peers.length ≤ 9223372036854775806 := by omega
 have ho := z21 (v.peers.map Peer.id ++ [v.id]) key (by unfold cap; simp; omega)
 simp [intsD, pairD, irow] at ho
 simp -implicitDefEqProofs [downTo, hb1, hb2, Fits]
 refine zaa ho ?_
 simp -implicitDefEqProofs
end Go.AM
/- AM: contracts: the document's answers about views. -/
namespace Go.AM
set_option linter.unusedSimpArgs false
set_option linter.unusedVariables false
set_option maxRecDepth 8000
set_option maxHeartbeats 0
theorem zn1 (xs ys : List Int) (hl : xs.length ≤ cap) : Den PP 104 [intsD xs, intsD ys] [] (.bool (decide (xs = ys))) [] := by
 refine zah [] [] ziv ?_
 simp -implicitDefEqProofs [zfn, intsD]
 refine zab (fun h => ?_) (fun h => ?_)
 ·simp -implicitDefEqProofs
  intro he
  subst he
  simp at h
 have hlen : xs.length = ys.length := by simp at h; omega
 simp -implicitDefEqProofs
 refine zdy (xs.length + 1) ?_
 have key : ∀ (Q : Ex → St → Prop) (r : Bool) (hQ1 : ∀ fr, r = true → Q .normal ⟨fr, []⟩) (hQ2 : ∀ fr bs, r = false → fr 4 = .bool false → Q .ret ⟨fr, bs⟩) (rest : List Int) (i : Nat) (fr : Nat → D), xs.drop i = rest → i ≤ xs.length →
  fr 0 = .sl (xs.map irow) xs.length → fr 1 = .sl (ys.map irow) ys.length → fr 5 = .int .i64 i → decide (rest = ys.drop i) = r → sLoop (cf 0 [] []) 0 zcm (blockQ 0 Q) (rest.length + 1) ⟨fr, []⟩ := by
  intro Q r hQ1 hQ2 rest
  induction rest with
  | nil =>
    intro i fr e hi h0 h1 h5 hm
    refine zby zcm.eq_1 ?_
    have hi' := zgv e hi
    simp -implicitDefEqProofs [h0, h1, h5, hi']
    exact hQ1 _ (by rw [← hm, hi', hlen]; simp)
  | cons x rest ih =>
    intro i fr e hi h0 h1 h5 hm
    refine zby zcm.eq_1 ?_
    obtain ⟨hlt, hget, hd, hl2⟩ := zfu e
    have hlt' : (i : Int) < xs.length := by omega
    have hlt2 : (i : Int) < ys.length := by omega
    have hw := za1 (n := i) (by unfold cap at hl; omega)
    obtain ⟨y, hy⟩ : ∃ y, ys[i]? = some y := ⟨ys[i], by simp⟩
    have hyd : ys.drop i = y :: ys.drop (i + 1) := by
     rw [List.drop_eq_getElem_cons (by omega)]
     have : ys[i] = y := by
      have := (List.getElem?_eq_some_iff.1 hy).2
      exact this
     rw [this]
    simp -implicitDefEqProofs [h0, h1, h5, hlt', hlt2, hget, hy, irow]
    refine zab (fun h2 => ?_) (fun h2 => ?_)
    all_goals simp -implicitDefEqProofs [h2, h0, h1, h5, hw]
    ·refine hQ2 _ _ ?_ (by rfl)
     rw [← hm, hyd]
     simp at h2
     simp [h2]
    ·refine ih (i + 1) _ hd (by omega) (by simp [h0, h1, h5]) (by simp [h0, h1, h5]) (by simp) ?_
     rw [← hm, hyd]
     simp at h2
     simp [h2]
 refine key _ (decide (xs = ys)) (fun fr h => ?_) (fun fr bs h h2 => ?_) xs 0 _ rfl (Nat.zero_le _) rfl rfl rfl rfl
 ·simp -implicitDefEqProofs [h]
 ·simp -implicitDefEqProofs [h, h2]

end Go.AM
/- AM: contracts: the document's peers. -/
namespace Go.AM
set_option linter.unusedSimpArgs false
set_option linter.unusedVariables false
set_option maxRecDepth 8000
set_option maxHeartbeats 0
end Go.AM
/- AM: contracts: the document's answers about views. -/
namespace Go.AM
set_option linter.unusedSimpArgs false
set_option linter.unusedVariables false
set_option maxRecDepth 8000
set_option maxHeartbeats 0
theorem zsx (xs ys : List Peer) (hl : xs.length ≤ cap) : Den PP 176 [peersD xs, peersD ys] [] (.bool (decide (xs = ys))) [] := by
 refine zah [] [] zh3 ?_
 simp -implicitDefEqProofs [ze5, peersD]
 refine zab (fun h => ?_) (fun h => ?_)
 ·simp -implicitDefEqProofs
  grind
 have hlen : xs.length = ys.length := by simp at h; omega
 simp -implicitDefEqProofs
 refine za7 xs (fun i rest => fun ⟨fr, bs⟩ => bs = [] ∧ fr 0 = .sl (xs.map Peer.row) xs.length ∧ fr 1 = .sl (ys.map Peer.row) ys.length ∧ fr 5 = .int .i64 i ∧ (rest = ys.drop i ↔ xs = ys))
  (fun ⟨fr, bs⟩ => bs = [] ∧ xs = ys) (fun ⟨fr, bs⟩ => fr 4 = .bool false ∧ ¬ xs = ys) zd9.eq_1 ?_ ?_ ?_ ?_ ?_
 ·exact ⟨rfl, rfl, rfl, rfl, by simp⟩
 ·rintro i ⟨fr, bs⟩ hi ⟨rfl, h0, h1, h5, he⟩
  simp -implicitDefEqProofs [*]
  grind
 ·rintro i a rest ⟨fr, bs⟩ hlt hget hg hd hd2 ⟨rfl, h0, h1, h5, he⟩
  have hlt' : (i : Int) < xs.length := by omega
  have hlt2 : i < ys.length := by omega
  have hlt3 : (i : Int) < ys.length := by omega
  have hw := za1 (n := i) (by unfold cap at hl; omega)
  rw [List.drop_eq_getElem_cons hlt2] at he
  generalize hy : ys[i] = b at he
  simp -implicitDefEqProofs [h0, h1, h5, hlt, hlt', hlt2, hlt3, hget, hg, hy, Peer.row, EQS]
  repeat' ((first | ((with_reducible first | refine zal ?_ ?_ | refine zaj ?_ ?_ | refine zaf ?_ ?_ | refine zae ?_ ?_) <;> intro _) | ((with_reducible first | refine zap ?_ ?_ | refine zaq ?_ ?_ | refine zan ?_ ?_ | refine zad ?_ ?_ | refine zak ?_ ?_ | refine zao ?_ ?_ | refine zai ?_ ?_ | refine zab ?_ ?_) <;> intro hq <;> (try simp at hq)) | refine zag (by omega) ?_ | refine zam (by omega) ?_) <;> simp -implicitDefEqProofs [*, EQS])
  all_goals (obtain ⟨a1, a2⟩ := a; obtain ⟨b1, b2⟩ := b; grind)
 ·rintro ⟨fr, bs⟩ ⟨rfl, h6⟩
  simp -implicitDefEqProofs [*]
 ·rintro ⟨fr, bs⟩ h
  simp -implicitDefEqProofs [h.1, h.2]
theorem zv5 (v w : View) (hs : v.small) : Den PP 98 [viewD v, viewD w] [] (.bool (decide (v = w))) [] := by
 have h1 := zsx v.peers w.peers (zrj hs.1)
 have h2 := zn1 v.passive w.passive hs.2
 simp [peersD, intsD] at h1 h2
 refine zah [] [] zi2 ?_
 simp -implicitDefEqProofs [zfk, viewD, View.cells, peersD, intsD]
 repeat' ((first | refine zaa (by first | exact h1 | exact h2) ?_ | ((with_reducible first | refine zal ?_ ?_ | refine zaj ?_ ?_ | refine zaf ?_ ?_ | refine zae ?_ ?_) <;> intro _) | ((with_reducible first | refine zap ?_ ?_ | refine zaq ?_ ?_ | refine zan ?_ ?_ | refine zad ?_ ?_ | refine zak ?_ ?_ | refine zao ?_ ?_ | refine zai ?_ ?_ | refine zab ?_ ?_) <;> intro hq <;> (try simp at hq)) | refine zag (by omega) ?_ | refine zam (by omega) ?_) <;> simp -implicitDefEqProofs [*, peersD])
 all_goals (obtain ⟨a, b, c⟩ := v; obtain ⟨a', b', c'⟩ := w; grind)
end Go.AM
/- Plain law: places put in their row, taken out. -/
namespace Go.AM
set_option linter.unusedSimpArgs false
set_option linter.unusedVariables false

theorem z2h : ∀ {xs ys : List Int}, xs.Pairwise (· < ·) → ys.Pairwise (· < ·) → (∀ a, a ∈ xs ↔ a ∈ ys) → xs = ys := by
 intro xs
 induction xs with
 | nil =>
   intro ys _ _ h
   cases ys with
   | nil => rfl
   | cons y ys => exact absurd ((h y).2 (by simp)) (by simp)
 | cons x xs ih =>
   intro ys hx hy h
   cases ys with
   | nil => exact absurd ((h x).1 (by simp)) (by simp)
   | cons y ys =>
     rw [List.pairwise_cons] at hx hy
     have hxy : x = y := by
      have h1 := (h x).1 (by simp)
      have h2 := (h y).2 (by simp)
      rcases List.mem_cons.1 h1 with h1 | h1
      ·exact h1
      ·rcases List.mem_cons.1 h2 with h2 | h2
       ·exact h2.symm
       ·have := hy.1 _ h1
        have := hx.1 _ h2
        omega
     subst hxy
     congr 1
     refine ih hx.2 hy.2 fun a => ?_
     have := h a
     simp only [List.mem_cons] at this
     constructor
     ·intro ha
      rcases this.1 (.inr ha) with h' | h'
      ·subst h'; exact absurd (hx.1 _ ha) (by omega)
      ·exact h'
     ·intro ha
      rcases this.2 (.inr ha) with h' | h'
      ·subst h'; exact absurd (hy.1 _ ha) (by omega)
      ·exact h'
theorem z52 : ∀ xs : List Int, incr xs = true ↔ xs.Pairwise (· < ·) := by
 intro xs
 induction xs with
 | nil => simp [incr]
 | cons x xs ih =>
   cases xs with
   | nil => simp [incr]
   | cons y ys =>
     simp only [incr, Bool.and_eq_true, decide_eq_true_eq, ih, List.pairwise_cons, List.mem_cons]
     constructor
     ·rintro ⟨h1, h2, h3⟩
      refine ⟨?_, h2, h3⟩
      rintro a (rfl | ha)
      ·exact h1
      ·have := h2 a ha
       omega
     ·rintro ⟨h1, h2, h3⟩
      exact ⟨h1 y (.inl rfl), h2, h3⟩
theorem zci (xs : List Int) : passiveMay xs = true ↔ xs.Pairwise (· < ·) ∧ (∀ x ∈ xs, place x = true) ∧ xs.length ≤ 16 := by
 rw [← zl3]
 simp only [refPassiveMay, Bool.and_eq_true, z52, decide_eq_true_eq, List.all_eq_true]
 constructor
 ·rintro ⟨⟨h1, h2⟩, h3⟩; exact ⟨h1, h2, h3⟩
 ·rintro ⟨h1, h2, h3⟩; exact ⟨⟨h1, h2⟩, h3⟩

def posI (xs : List Int) (id : Int) : Nat := (xs.takeWhile fun x => decide (x < id)).length
theorem z3z (xs : List Int) (id : Int) : posI xs id ≤ xs.length := (List.takeWhile_prefix _).length_le
def insU (id : Int) : List Int → List Int
 | [] => [id]
 | x :: xs => if x < id then x :: insU id xs else id :: x :: xs
theorem zv8 (id : Int) : ∀ xs : List Int, insL xs (posI xs id) id = insU id xs := by
 intro xs
 induction xs with
 | nil => rfl
 | cons x xs ih =>
   unfold insU
   by_cases h : x < id
   ·rw [if_pos h, ← ih]
    simp [posI, insL, List.takeWhile_cons, h]
   ·rw [if_neg h]
    simp [posI, insL, List.takeWhile_cons, h]
theorem zj1 {id a : Int} : ∀ {xs : List Int}, a ∈ insU id xs ↔ a = id ∨ a ∈ xs := by
 intro xs
 induction xs with
 | nil => simp [insU]
 | cons x xs ih =>
   unfold insU
   split
   ·simp only [List.mem_cons, ih]
    constructor
    ·rintro (h | h | h)
     ·exact .inr (.inl h)
     ·exact .inl h
     ·exact .inr (.inr h)
    ·rintro (h | h | h)
     ·exact .inr (.inl h)
     ·exact .inl h
     ·exact .inr (.inr h)
   ·simp
theorem ze9 (id : Int) (xs : List Int) : (insU id xs).length = xs.length + 1 := by rw [← zv8, zpk]
theorem zov {id : Int} : ∀ {xs : List Int}, xs.Pairwise (· < ·) → id ∉ xs → (insU id xs).Pairwise (· < ·) := by
 intro xs
 induction xs with
 | nil => intro _ _; simp [insU]
 | cons x xs ih =>
   intro h hn
   rw [List.pairwise_cons] at h
   simp only [List.mem_cons, not_or] at hn
   unfold insU
   split
   ·rename_i hlt
    rw [List.pairwise_cons]
    refine ⟨fun a ha => ?_, ih h.2 hn.2⟩
    rcases zj1.1 ha with rfl | ha
    ·exact hlt
    ·exact h.1 a ha
   ·rename_i hge
    rw [List.pairwise_cons, List.pairwise_cons]
    refine ⟨?_, h⟩
    intro a ha
    rcases List.mem_cons.1 ha with rfl | ha
    ·omega
    ·have := h.1 a ha
     omega
theorem z4g {xs : List Int} {id : Int} (i : Nat) (x : Int) (h : i < posI xs id) (hx : xs[i]? = some x) : x < id := by simpa using zll _ xs i x h hx
theorem zrz {xs : List Int} (h : xs.Pairwise (· < ·)) {i j : Nat} {x y : Int} (hij : i < j) (hx : xs[i]? = some x) (hy : xs[j]? = some y) : x < y := by
 obtain ⟨hi, rfl⟩ := List.getElem?_eq_some_iff.1 hx
 obtain ⟨hj, rfl⟩ := List.getElem?_eq_some_iff.1 hy
 exact List.pairwise_iff_getElem.1 h i j hi hj hij
theorem z3v {xs : List Int} {id : Int} (h : xs.Pairwise (· < ·)) (i : Nat) (x : Int) (hi : posI xs id ≤ i) (hx : xs[i]? = some x) : id ≤ x := by
 have hlt : posI xs id < xs.length := by
  have := (List.getElem?_eq_some_iff.1 hx).1
  omega
 have hq : xs[posI xs id]? = some xs[posI xs id] := by simp [hlt]
 have h1 := zlk _ xs _ hq
 simp at h1
 rcases Nat.lt_or_ge (posI xs id) i with h2 | h2
 ·have := zrz h h2 hq hx
  omega
 ·have : i = posI xs id := by omega
  subst this
  rw [hq] at hx
  cases hx
  exact h1
theorem zzb {xs : List Int} {id : Int} (h : xs.Pairwise (· < ·)) : xs[posI xs id]? = some id ↔ id ∈ xs := by
 constructor
 ·intro h'
  exact List.mem_of_getElem? h'
 ·intro h'
  obtain ⟨j, hj⟩ := List.getElem?_of_mem h'
  rcases Nat.lt_trichotomy j (posI xs id) with h1 | h1 | h1
  ·have := z4g j id h1 hj
   omega
  ·rw [← h1]; exact hj
  ·have hlt := (List.getElem?_eq_some_iff.1 hj).1
   have hq : xs[posI xs id]? = some (xs[posI xs id]'(by omega)) := by simp
   have h2 := zrz h h1 hq hj
   have h3 := z3v h (posI xs id) _ (Nat.le_refl _) hq
   omega

def withP (xs : List Int) (id : Int) : List Int × Int :=
 if passiveMay xs && place id then (if id ∈ xs then (xs, 0) else if xs.length = 16 then ([], 801) else (insU id xs, 0)) else ([], 800)
def withoutP (xs : List Int) (id : Int) : List Int × Int := if passiveMay xs && place id then (xs.filter (fun y => !decide (y = id)), 0) else ([], 800)
theorem zmq {xs : List Int} {p : Int → Bool} (h : passiveMay xs = true) : passiveMay (xs.filter p) = true := by
 obtain ⟨h1, h2, h3⟩ := (zci xs).1 h
 refine (zci _).2 ⟨h1.filter _, fun x hx => h2 x (List.mem_filter.1 hx).1, Nat.le_trans (List.length_filter_le _ _) h3⟩
theorem zi7 {xs : List Int} {id : Int} (h : passiveMay xs = true) (hp : place id = true) (hn : id ∉ xs) (hl : xs.length ≠ 16) : passiveMay (insU id xs) = true := by
 obtain ⟨h1, h2, h3⟩ := (zci xs).1 h
 refine (zci _).2 ⟨zov h1 hn, fun x hx => ?_, by rw [ze9]; omega⟩
 rcases zj1.1 hx with rfl | hx
 ·exact hp
 ·exact h2 x hx
theorem z1y {xs : List Int} {id : Int} (h : id ∉ xs) : xs.filter (fun y => !decide (y = id)) = xs := by
 rw [List.filter_eq_self]
 intro a ha
 simp
 rintro rfl
 exact h ha
theorem z05 {xs : List Int} {id : Int} (h : xs.Pairwise (· < ·)) (hm : id ∈ xs) : xs.length = (xs.filter (fun y => !decide (y = id))).length + 1 := by
 have : xs = insU id (xs.filter (fun y => !decide (y = id))) := by
  refine z2h h (zov (h.filter _) (by simp)) fun a => ?_
  rw [zj1, List.mem_filter]
  simp
  constructor
  ·intro ha
   by_cases h' : a = id
   ·exact .inl h'
   ·exact .inr ⟨ha, h'⟩
  ·rintro (rfl | ⟨ha, _⟩)
   ·exact hm
   ·exact ha
 have h2 := congrArg List.length this
 rw [ze9] at h2
 exact h2
theorem z5f (xs : List Int) (id : Int) : (withP xs id).1.length ≤ 16 := by
 unfold withP
 split
 ·rename_i h
  rw [Bool.and_eq_true] at h
  have hl := ((zci xs).1 h.1).2.2
  split
  ·exact hl
  ·split
   ·simp
   ·rw [ze9]; omega
 ·simp
theorem z2p (p : Int → Bool) : ∀ (xs : List Int) (i : Nat), (fIdx p i xs = -1 ∧ xs.filter (fun x => !p x) = xs) ∨ ∃ f, fIdx p i xs = ((i + f : Nat) : Int) ∧ f < xs.length ∧ (xs.take (f + 1)).filter (fun x => !p x) = xs.take f := by
 intro xs
 induction xs with
 | nil => intro i; exact .inl ⟨rfl, rfl⟩
 | cons x xs ih =>
   intro i
   simp only [fIdx]
   by_cases h : p x = true
   ·right
    exact ⟨0, by simp [h], by simp, by simp [h]⟩
   ·have h' : p x = false := by simpa using h
    rw [if_neg h]
    rcases ih (i + 1) with ⟨h1, h2⟩ | ⟨f, h1, h2, h3⟩
    ·left
     refine ⟨h1, ?_⟩
     rw [List.filter_cons]
     simp [h', h2]
    ·right
     refine ⟨f + 1, by rw [h1]; congr 1; omega, by simpa using h2, ?_⟩
     rw [List.take_succ_cons, List.filter_cons, h3]
     simp [h']
theorem z3j (p : Int → Bool) (xs : List Int) : (fIdx p 0 xs = -1 ∧ xs.filter (fun x => !p x) = xs) ∨ ∃ f : Nat, fIdx p 0 xs = (f : Int) ∧ f < xs.length ∧ (xs.take (f + 1)).filter (fun x => !p x) = xs.take f := by
 rcases z2p p xs 0 with h | ⟨f, h⟩
 ·exact .inl h
 ·exact .inr ⟨f, by simpa using h⟩
end Go.AM
/- Plain law: where a search by a comparison ends; stores by it. -/
namespace Go.AM
set_option linter.unusedSimpArgs false
set_option linter.unusedVariables false

def posC {α : Type} (c : α → Int) (xs : List α) : Nat := (xs.takeWhile fun x => decide (c x < 0)).length
def atC {α : Type} (c : α → Int) (xs : List α) : Bool := (xs[posC c xs]?).any fun x => decide (c x = 0)
def MonoC {α : Type} (c : α → Int) (xs : List α) : Prop := ∀ (i j : Nat) (x y : α), i ≤ j → xs[i]? = some x → xs[j]? = some y → c y < 0 → c x < 0
theorem zfv {α : Type} (c : α → Int) (a : α) (xs : List α) : posC c (a :: xs) = if c a < 0 then posC c xs + 1 else 0 := by
 unfold posC
 rw [List.takeWhile_cons]
 by_cases h : c a < 0 <;> simp [h]
theorem z2y {α : Type} (c : α → Int) : atC c [] = false := rfl
theorem zsr {α : Type} (c : α → Int) (a : α) (xs : List α) : atC c (a :: xs) = if c a < 0 then atC c xs else decide (c a = 0) := by
 unfold atC
 rw [zfv]
 by_cases h : c a < 0 <;> simp [h]
theorem zpc {α : Type} (c : α → Int) (xs : List α) : posC c xs ≤ xs.length := by
 induction xs with
 | nil => simp [posC]
 | cons a xs ih => rw [zfv]; split <;> simp <;> omega
theorem zsk {α : Type} (c : α → Int) (xs : List α) : ∀ (i : Nat) (x : α), i < posC c xs → xs[i]? = some x → c x < 0 := by
 induction xs with
 | nil => intro i x h; simp [posC] at h
 | cons a xs ih =>
   intro i x h hx
   rw [zfv] at h
   by_cases ha : c a < 0
   ·rw [if_pos ha] at h
    cases i with
    | zero => simp at hx; subst hx; exact ha
    | succ i => exact ih i x (by omega) (by simpa using hx)
   ·rw [if_neg ha] at h; omega
theorem z4a {α : Type} (c : α → Int) (xs : List α) : ∀ x, xs[posC c xs]? = some x → 0 ≤ c x := by
 induction xs with
 | nil => intro x h; simp [posC] at h
 | cons a xs ih =>
   intro x hx
   rw [zfv] at hx
   by_cases ha : c a < 0
   ·rw [if_pos ha] at hx
    exact ih x (by simpa using hx)
   ·rw [if_neg ha] at hx
    simp at hx
    subst hx
    omega
theorem zy7 {α : Type} {c : α → Int} {xs : List α} (hm : MonoC c xs) : ∀ (i : Nat) (x : α), posC c xs ≤ i → xs[i]? = some x → 0 ≤ c x := by
 intro i x hi hx
 apply Classical.byContradiction
 intro hc
 have hlt : posC c xs < xs.length := by
  have := (List.getElem?_eq_some_iff.1 hx).1
  omega
 have h1 : xs[posC c xs]? = some xs[posC c xs] := by simp
 have h2 := hm _ _ _ _ hi h1 hx (by omega)
 have h3 := z4a c xs _ h1
 omega
theorem zl7 {α : Type} {c : α → Int} {xs : List α} (h : atC c xs = true) : posC c xs < xs.length ∧ ∃ x, xs[posC c xs]? = some x ∧ c x = 0 := by
 unfold atC at h
 cases hx : xs[posC c xs]? with
 | none => rw [hx] at h; cases h
 | some x =>
   rw [hx] at h
   exact ⟨(List.getElem?_eq_some_iff.1 hx).1, x, rfl, by simpa using h⟩

def keyC (k : Int) (i : Item) : Int := cmpI i.key k
theorem zpy (a b : Int) : cmpI a b < 0 ↔ a < b := by unfold cmpI; split <;> (try split) <;> omega
theorem zje (a b : Int) : cmpI a b = 0 ↔ a = b := by unfold cmpI; split <;> (try split) <;> omega
theorem zyv : ∀ {is : List Item}, risingK is → ∀ (i j : Nat) (x y : Item), i < j → is[i]? = some x → is[j]? = some y → x.key < y.key := by
 intro is
 induction is with
 | nil => intro _ i j x y _ h; simp at h
 | cons a is ih =>
   intro h i j x y hij hx hy
   rw [zct] at h
   cases j with
   | zero => omega
   | succ j =>
     simp at hy
     cases i with
     | zero =>
       simp at hx
       subst hx
       exact h.1 y (List.mem_of_getElem? hy)
     | succ i => exact ih h.2 i j x y (by omega) (by simpa using hx) hy
theorem zzk {is : List Item} (h : risingK is) (k : Int) : MonoC (keyC k) is := by
 intro i j x y hij hx hy hc
 unfold keyC at hc ⊢
 rw [zpy] at hc ⊢
 by_cases e : i = j
 ·subst e
  rw [hx] at hy
  cases hy
  exact hc
 ·have := zyv h i j x y (by omega) hx hy
  omega
theorem z29 : ∀ {is : List Item}, risingK is → ∀ k, getS is k = if atC (keyC k) is then is[posC (keyC k) is]? else none := by
 intro is
 induction is with
 | nil => intro _ k; simp [getS, z2y]
 | cons a is ih =>
   intro h k
   rw [zct] at h
   rw [zer, zfv, zsr]
   simp only [keyC, zpy, zje]
   by_cases h1 : a.key < k
   ·rw [if_neg (by omega), if_pos h1, if_pos h1, ih h.2 k]
    simp [keyC]
   ·by_cases h2 : a.key = k
    ·simp [h1, h2]
    ·simp [h1, h2]
     exact zm1 h.1 (by omega)
theorem z9k (x : Item) : ∀ (is : List Item), (∀ a, is[posC (keyC x.key) is]? = some a → atC (keyC x.key) is = true → putS x is = is.set (posC (keyC x.key) is) (bestI a x)) ∧ (atC (keyC x.key) is = false → putS x is = insL is (posC (keyC x.key) is) x) := by
 intro is
 induction is with
 | nil => exact ⟨fun a h => by simp at h, fun _ => by simp [putS, insL, posC]⟩
 | cons b is ih =>
   rw [zfv, zsr]
   simp only [keyC, zpy, zje]
   by_cases h1 : b.key < x.key
   ·simp only [if_pos h1]
    have e : putS x (b :: is) = b :: putS x is := by
     unfold putS
     rw [if_neg (by omega), if_neg (by omega)]
     cases is <;> simp [putS]
    rw [e]
    exact ⟨fun a ha ht => by rw [ih.1 a (by simpa using ha) ht]; rfl, fun ht => by rw [ih.2 ht]; simp [insL, keyC]⟩
   ·simp only [if_neg h1]
    by_cases h2 : b.key = x.key
    ·refine ⟨fun a ha _ => ?_, fun ht => by simp [h2] at ht⟩
     simp at ha
     subst ha
     simp [putS, h2]
    ·refine ⟨fun a ha ht => by simp [h2] at ht, fun _ => ?_⟩
     have h3 : x.key < b.key := by omega
     simp [putS, h3, insL]
def getR (is : List Item) (k : Int) : Item × Bool := if storeMay is then (match getS is k with | some i => (i, true) | none => (zeroItem, false)) else (zeroItem, false)
end Go.AM
/- AM: contracts: binary search by a comparison. -/
namespace Go.AM
set_option linter.unusedSimpArgs false
set_option linter.unusedVariables false
set_option maxRecDepth 8000
set_option maxHeartbeats 0
theorem znv (xs : List Item) (g : Nat) (key : Int) (c : Item → Int) (hc : ∀ x ∈ xs, Den PP g [.agg x.row, .int .i64 key] [] (.int .i64 (c x)) []) (hl : xs.length ≤ cap) (hr : MonoC c xs) :
 Den PP 125 [.sl (xs.map Item.row) xs.length, .int .i64 key, .fn g [] []] [] (.tup [.int .i64 (posC c xs), .bool (atC c xs)]) [] := by
 have hlo := zsk c xs
 have hhi := zy7 hr
 have hat := zpc c xs
 have hac : atC c xs = (xs[posC c xs]?).any fun x => decide (c x = 0) := rfl
 rw [hac]
 clear hac
 generalize posC c xs = at_ at *
 refine zah [] [] zc0 ?_
 simp -implicitDefEqProofs [zb0]
 refine zhe xs.length (fun m ⟨fr, bs⟩ => ∃ lo hi : Nat, bs = [] ∧ hi - lo ≤ m ∧ lo ≤ at_ ∧ at_ ≤ hi ∧ hi ≤ xs.length ∧ fr 0 = .sl (xs.map Item.row) xs.length ∧ fr 1 = .int .i64 key ∧ fr 2 = .fn g [] [] ∧ fr 8 = .int .i64 xs.length ∧ fr 9 = .int .i64 lo ∧ fr 10 = .int .i64 hi)
  (fun ⟨fr, bs⟩ => bs = [] ∧ fr 0 = .sl (xs.map Item.row) xs.length ∧ fr 1 = .int .i64 key ∧ fr 2 = .fn g [] [] ∧ fr 8 = .int .i64 xs.length ∧ fr 9 = .int .i64 at_) (fun _ => False) zbo.eq_1 ?_ ?_ ?_ ?_ ?_
 ·exact ⟨0, xs.length, rfl, by omega, by omega, hat, by omega, rfl, rfl, rfl, rfl, rfl, rfl⟩
 ·rintro ⟨fr, bs⟩ ⟨lo, hi, rfl, h1, h2, h3, h4, h0, h5, h9, h6, h7, h8⟩
  have e1 : lo = at_ := by omega
  have e2 : hi = at_ := by omega
  simp -implicitDefEqProofs [h0, h5, h9, h6, h7, h8, e1, e2]
 ·rintro m ⟨fr, bs⟩ ⟨lo, hi, rfl, h1, h2, h3, h4, h0, h5, h9, h6, h7, h8⟩
  by_cases hlt : lo < hi
  ·have hlt' : (lo : Int) < hi := by omega
   have hm := zup (lo := lo) (hi := hi) (by omega) (by omega)
   have hml : (lo + hi) / 2 < xs.length := by omega
   have hml' : (((lo + hi) / 2 : Nat) : Int) < xs.length := by omega
   have hw := za1 (n := (lo + hi) / 2) (by unfold cap at hl; omega)
   have hb1 : lo ≤ (lo + hi) / 2 := by omega
   have hb2 : (lo + hi) / 2 < hi := by omega
   generalize (lo + hi) / 2 = mid at *
   obtain ⟨x, hx⟩ : ∃ x, xs[mid] = x := ⟨_, rfl⟩
   have hx' : xs[mid]? = some x := by simp [hml, hx]
   have hcx := hc x (List.mem_of_getElem? hx')
   simp only [Item.row] at hcx
   simp -implicitDefEqProofs [h0, h5, h9, h6, h7, h8, hlt', hlt, hm, hml, hml', hx, Item.row]
   refine zaa hcx ?_
   simp -implicitDefEqProofs
   refine zaf (fun hc => ?_) (fun hc => ?_)
   all_goals simp -implicitDefEqProofs [h0, h5, h9, h6, h7, h8, hc, hw]
   ·have : mid < at_ := by
     apply Classical.byContradiction
     intro hx2
     have := hhi mid x (by omega) hx'
     omega
    exact ⟨mid + 1, hi, by omega, by omega, by omega, by omega, by simp, by simp⟩
   ·have : at_ ≤ mid := by
     apply Classical.byContradiction
     intro hx2
     have := hlo mid x (by omega) hx'
     omega
    exact ⟨lo, mid, by omega, by omega, by omega, by omega, by simp, by simp⟩
  ·have e1 : lo = at_ := by omega
   have e2 : hi = at_ := by omega
   simp -implicitDefEqProofs [h0, h5, h9, h6, h7, h8, e1, e2]
 ·rintro ⟨fr, bs⟩ ⟨rfl, h0, h1, h2, h6, h7⟩
  simp -implicitDefEqProofs [h0, h1, h2, h6, h7]
  refine zal (fun hc2 => ?_) (fun hc2 => ?_)
  ·obtain ⟨x, hx⟩ : ∃ x, xs[at_]'(by omega) = x := ⟨_, rfl⟩
   have hal : at_ < xs.length := by omega
   have hx' : xs[at_]? = some x := by simp [hx, hal]
   have hcx := hc x (List.mem_of_getElem? hx')
   simp only [Item.row] at hcx
   simp -implicitDefEqProofs [h0, h1, h2, h6, h7, hc2, hx, hal, Item.row]
   refine zaa hcx ?_
   simp -implicitDefEqProofs [h0, h1, h2, h6, h7, hc2, hx, hal, hx', Item.row]
  ·have hp : xs[at_]? = none := by rw [List.getElem?_eq_none]; omega
   simp -implicitDefEqProofs [h0, h1, h2, h6, h7, hc2, hp]
 ·rintro ⟨fr, bs⟩ h
  exact h.elim
theorem zwu (xs : List Cut) (g : Nat) (key : Cut) (c : Cut → Int) (hc : ∀ x ∈ xs, Den PP g [.agg x.row, .agg [.int .i64 key.a, .int .i64 key.b]] [] (.int .i64 (c x)) []) (hl : xs.length ≤ cap) (hr : MonoC c xs) :
 Den PP 237 [.sl (xs.map Cut.row) xs.length, .agg [.int .i64 key.a, .int .i64 key.b], .fn g [] []] [] (.tup [.int .i64 (posC c xs), .bool (atC c xs)]) [] := by
 have hlo := zsk c xs
 have hhi := zy7 hr
 have hat := zpc c xs
 have hac : atC c xs = (xs[posC c xs]?).any fun x => decide (c x = 0) := rfl
 rw [hac]
 clear hac
 generalize posC c xs = at_ at *
 refine zah [] [] zcw ?_
 simp -implicitDefEqProofs [zbs]
 refine zhe xs.length (fun m ⟨fr, bs⟩ => ∃ lo hi : Nat, bs = [⟨[[.int .i64 key.a, .int .i64 key.b]], 2, .box⟩] ∧ hi - lo ≤ m ∧ lo ≤ at_ ∧ at_ ≤ hi ∧ hi ≤ xs.length ∧ fr 0 = .sl (xs.map Cut.row) xs.length ∧ fr 4 = .ptr 0 0 0 ∧ fr 2 = .fn g [] [] ∧ fr 8 = .int .i64 xs.length ∧ fr 9 = .int .i64 lo ∧ fr 10 = .int .i64 hi)
  (fun ⟨fr, bs⟩ => bs = [⟨[[.int .i64 key.a, .int .i64 key.b]], 2, .box⟩] ∧ fr 0 = .sl (xs.map Cut.row) xs.length ∧ fr 4 = .ptr 0 0 0 ∧ fr 2 = .fn g [] [] ∧ fr 8 = .int .i64 xs.length ∧ fr 9 = .int .i64 at_) (fun _ => False) zbh.eq_1 ?_ ?_ ?_ ?_ ?_
 ·exact ⟨0, xs.length, rfl, by omega, by omega, hat, by omega, rfl, rfl, rfl, rfl, rfl, rfl⟩
 ·rintro ⟨fr, bs⟩ ⟨lo, hi, rfl, h1, h2, h3, h4, h0, h5, h9, h6, h7, h8⟩
  have e1 : lo = at_ := by omega
  have e2 : hi = at_ := by omega
  simp -implicitDefEqProofs [h0, h5, h9, h6, h7, h8, e1, e2]
 ·rintro m ⟨fr, bs⟩ ⟨lo, hi, rfl, h1, h2, h3, h4, h0, h5, h9, h6, h7, h8⟩
  by_cases hlt : lo < hi
  ·have hlt' : (lo : Int) < hi := by omega
   have hm := zup (lo := lo) (hi := hi) (by omega) (by omega)
   have hml : (lo + hi) / 2 < xs.length := by omega
   have hml' : (((lo + hi) / 2 : Nat) : Int) < xs.length := by omega
   have hw := za1 (n := (lo + hi) / 2) (by unfold cap at hl; omega)
   have hb1 : lo ≤ (lo + hi) / 2 := by omega
   have hb2 : (lo + hi) / 2 < hi := by omega
   generalize (lo + hi) / 2 = mid at *
   obtain ⟨x, hx⟩ : ∃ x, xs[mid] = x := ⟨_, rfl⟩
   have hx' : xs[mid]? = some x := by simp [hml, hx]
   have hcx := hc x (List.mem_of_getElem? hx')
   simp only [Cut.row] at hcx
   simp -implicitDefEqProofs [h0, h5, h9, h6, h7, h8, hlt', hlt, hm, hml, hml', hx, Cut.row]
   refine zaa hcx ?_
   simp -implicitDefEqProofs
   refine zaf (fun hc => ?_) (fun hc => ?_)
   all_goals simp -implicitDefEqProofs [h0, h5, h9, h6, h7, h8, hc, hw]
   ·have : mid < at_ := by
     apply Classical.byContradiction
     intro hx2
     have := hhi mid x (by omega) hx'
     omega
    exact ⟨mid + 1, hi, by omega, by omega, by omega, by omega, by simp, by simp⟩
   ·have : at_ ≤ mid := by
     apply Classical.byContradiction
     intro hx2
     have := hlo mid x (by omega) hx'
     omega
    exact ⟨lo, mid, by omega, by omega, by omega, by omega, by simp, by simp⟩
  ·have e1 : lo = at_ := by omega
   have e2 : hi = at_ := by omega
   simp -implicitDefEqProofs [h0, h5, h9, h6, h7, h8, e1, e2]
 ·rintro ⟨fr, bs⟩ ⟨rfl, h0, h1, h2, h6, h7⟩
  simp -implicitDefEqProofs [h0, h1, h2, h6, h7]
  refine zal (fun hc2 => ?_) (fun hc2 => ?_)
  ·obtain ⟨x, hx⟩ : ∃ x, xs[at_]'(by omega) = x := ⟨_, rfl⟩
   have hal : at_ < xs.length := by omega
   have hx' : xs[at_]? = some x := by simp [hx, hal]
   have hcx := hc x (List.mem_of_getElem? hx')
   simp only [Cut.row] at hcx
   simp -implicitDefEqProofs [h0, h1, h2, h6, h7, hc2, hx, hal, Cut.row]
   refine zaa hcx ?_
   simp -implicitDefEqProofs [h0, h1, h2, h6, h7, hc2, hx, hal, hx', Cut.row]
  ·have hp : xs[at_]? = none := by rw [List.getElem?_eq_none]; omega
   simp -implicitDefEqProofs [h0, h1, h2, h6, h7, hc2, hp]
 ·rintro ⟨fr, bs⟩ h
  exact h.elim
end Go.AM
/- AM: contracts: slices.Delete of one. -/
namespace Go.AM
set_option linter.unusedSimpArgs false
set_option linter.unusedVariables false
set_option maxRecDepth 8000
set_option maxHeartbeats 0
theorem z1s (rows : List (List D)) (p : Nat) (hf : Fits 2 rows) (hst : StillR rows) (hp : p < rows.length) (hl : rows.length ≤ 1000000) :
 GivesC (DenF PP [0]) 210 rows 2 [.int .i64 p, .int .i64 ((p : Int) + 1)] (rows.take p ++ rows.drop (p + 1)) := by
 refine zh7 (fun r hr => (hf r hr).1) hst fun fl hfl hrow hfs htake hget => ?_
 have hzs : StillR [([D.int IntKind.i64 0, D.int IntKind.i64 0] : List D)] := by intro r hr d hd; rw [List.mem_singleton.1 hr] at hd; simp at hd; rcases hd with rfl | rfl <;> rfl
 generalize hn : rows.length = n at *
 have hfit : Fits 2 (List.take (n - (p + 1)) (List.drop (p + 1) fl)) := by
  intro r hr
  have : r ∈ rows := by
   rw [← htake]
   have h1 : List.take (n - (p + 1)) (List.drop (p + 1) fl) = List.drop (p + 1) (List.take n fl) := by rw [List.drop_take]
   rw [h1] at hr
   exact List.mem_of_mem_drop hr
  exact hf r this
 have hyl : (List.take (n - (p + 1)) (List.drop (p + 1) fl)).length = n - (p + 1) := by simp; omega
 have hne : ¬ (p : Int) = (p : Int) + 1 := by omega
 have hcl : (fl.take p ++ (List.take (n - (p + 1)) (List.drop (p + 1) fl) ++ fl.drop (n - 1))).length = fl.length := by simp; omega
 have hmin : p + min (n - (p + 1)) (fl.length - (p + 1)) = n - 1 := by omega
 have hmin2 : (p : Int) + ((min (n - (p + 1)) (fl.length - (p + 1)) : Nat) : Int) = ((n - 1 : Nat) : Int) := by omega
 have hpn : p + (n - (p + 1)) = n - 1 := by omega
 have hcS : StillR (fl.take p ++ (List.take (n - (p + 1)) (List.drop (p + 1) fl) ++ fl.drop (n - 1))) := (hfs.take _).append (((hfs.drop _).take _).append (hfs.drop _))
 refine ⟨.ref 0 0 (n - 1), [⟨ovr (fl.take p ++ (List.take (n - (p + 1)) (List.drop (p + 1) fl) ++ fl.drop (n - 1))) (n - 1) [[D.int IntKind.i64 0, D.int IntKind.i64 0]], 2, .mut⟩], ?_, ?_⟩
 ·refine zc7 [] [] [] [] (by simp) (fun _ h => absurd h List.not_mem_nil) ze0 ?_
  simp -implicitDefEqProofs [-leave, zdb]
  refine zam (by simp [boundD]; omega) ?_
  simp -implicitDefEqProofs [-leave, hne]
  refine zav (0) (p) ?_
  simp -implicitDefEqProofs [-leave, hne]
  by_cases hE : p + 1 < fl.length
  ·refine zav (p + 1) (n) ?_
   simp -implicitDefEqProofs [-leave, hne, hfit]
   repeat' (first | (refine zag (by omega) ?_) | (refine zbd (by omega) ?_))
   simp -implicitDefEqProofs [-leave, hne, hyl, hpn, hmin, hmin2]
   generalize (fl.take p ++ (List.take (n - (p + 1)) (List.drop (p + 1) fl) ++ fl.drop (n - 1))) = B at *
   refine zav (n - 1) (n) ?_
   simp -implicitDefEqProofs [-leave, hne]
   try refine zch (by first | omega | (simp; done) | (simp; omega)) ?_
   have hnn : n - (n - 1) = 1 := by omega
   try simp -implicitDefEqProofs [-leave, hne, hnn]
   rw [zcn (by omega) (by simpa [hnn] using hcS.ovr hzs (n - 1))]
   simp [hnn]
  ·obtain rfl : n = p + 1 := by omega
   have hB : fl.take p ++ (List.take (p + 1 - (p + 1)) (List.drop (p + 1) fl) ++ fl.drop (p + 1 - 1)) = fl := by simp
   rw [hB] at *
   refine zj0 (p + 1) ?_
   try simp -implicitDefEqProofs [-leave, hne]
   refine ⟨by simp [Fits], ?_⟩
   repeat' (first | (refine zag (by omega) ?_) | (refine zbd (by omega) ?_))
   try simp -implicitDefEqProofs [-leave, hne]
   refine zav (p) (p + 1) ?_
   simp -implicitDefEqProofs [-leave, hne]
   try refine zch (by first | omega | (simp; done) | (simp; omega)) ?_
   try simp -implicitDefEqProofs [-leave, hne]
   rw [zcn (by omega) (by simpa using hcS.ovr hzs p)]
   simp [Fits]
 ·refine zbg rfl rfl rfl ?_ ?_ (.inl rfl)
  ·rw [zas (by rw [hcl]; simp; omega), hcl]
   omega
  ·rw [List.drop_zero, ← htake]
   have h1 : (ovr (fl.take p ++ (List.take (n - (p + 1)) (List.drop (p + 1) fl) ++ fl.drop (n - 1))) (n - 1) [[D.int IntKind.i64 0, D.int IntKind.i64 0]]).take (n - 1) = fl.take p ++ List.take (n - (p + 1)) (List.drop (p + 1) fl) := by
    unfold ovr
    rw [List.append_assoc, List.take_append_of_le_length (by simp; omega), List.take_take, Nat.min_self, ← List.append_assoc, List.take_left' (by simp; omega)]
   rw [h1, List.take_take, List.drop_take, Nat.min_eq_left (by omega)]
end Go.AM
/- Plain law: stores: put twice, in another row. -/
namespace Go.AM
set_option linter.unusedSimpArgs false
set_option linter.unusedVariables false

end Go.AM
namespace Go.AM
end Go.AM
/- Plain law: peers: one is heard, all age. -/
namespace Go.AM
set_option linter.unusedSimpArgs false
set_option linter.unusedVariables false

def PeerOk (base last : Int) (p : Peer) : Prop := place p.id = true ∧ 0 ≤ p.missed ∧ p.missed < 3 ∧ last < far base p.id
theorem zx0 {base : Int} : ∀ (ps : List Peer) (last : Int), peersOk base last ps = true ↔ (∀ p ∈ ps, PeerOk base last p) ∧ ps.Pairwise (fun p q => far base p.id < far base q.id) := by
 intro ps
 induction ps with
 | nil => intro last; simp [peersOk]
 | cons p ps ih =>
   intro last
   simp only [peersOk, Bool.and_eq_true, decide_eq_true_eq, ih, List.mem_cons, List.pairwise_cons, PeerOk]
   constructor
   ·rintro ⟨⟨⟨⟨h1, h2⟩, h3⟩, h4⟩, h5, h6⟩
    refine ⟨?_, fun q hq => (h5 q hq).2.2.2, h6⟩
    rintro q (rfl | hq)
    ·exact ⟨h1, h2, h3, h4⟩
    ·obtain ⟨a, b, c, d⟩ := h5 q hq
     exact ⟨a, b, c, by omega⟩
   ·rintro ⟨h1, h2, h3⟩
    obtain ⟨a, b, c, d⟩ := h1 p (.inl rfl)
    refine ⟨⟨⟨⟨a, b⟩, c⟩, d⟩, fun q hq => ?_, h3⟩
    obtain ⟨a', b', c', d'⟩ := h1 q (.inr hq)
    exact ⟨a', b', c', h2 q hq⟩
theorem zbn {base : Int} {ps : List Peer} : peersMay base ps = true ↔ place base = true ∧ ps.length ≤ 16 ∧ (∀ p ∈ ps, PeerOk base 0 p) ∧ ps.Pairwise (fun p q => far base p.id < far base q.id) := by
 simp only [peersMay, Bool.and_eq_true, decide_eq_true_eq, zx0]
 constructor
 ·rintro ⟨⟨a, b⟩, c⟩; exact ⟨a, b, c⟩
 ·rintro ⟨a, b, c⟩; exact ⟨⟨a, b⟩, c⟩

theorem z0w (base id : Int) : ∀ ps : List Peer, hearG base id true ps = ps.filter fun p => !decide (p.id = id) := by
 intro ps
 induction ps with
 | nil => rfl
 | cons p ps ih =>
   simp only [hearG, Bool.true_or, ih]
   by_cases h : p.id = id <;> simp [h]
theorem zht (base id : Int) (p : Peer) (ps : List Peer) (h : far base id ≤ far base p.id) : hearG base id false (p :: ps) = ⟨id, 0⟩ :: (p :: ps).filter fun p => !decide (p.id = id) := by
 simp only [hearG, h, decide_true, Bool.or_true, z0w]
 by_cases h2 : p.id = id <;> simp [h2]
theorem zgb (base id : Int) (p : Peer) (ps : List Peer) (h : ¬ far base id ≤ far base p.id) : hearG base id false (p :: ps) = p :: hearG base id false ps := by
 have : p.id ≠ id := by intro e; rw [e] at h; omega
 simp [hearG, h, this]
theorem zwc (base id : Int) : ∀ ps : List Peer, (hearG base id false ps).filter (fun p => !decide (p.id = id)) = ps.filter fun p => !decide (p.id = id) := by
 intro ps
 induction ps with
 | nil => simp [hearG]
 | cons p ps ih =>
   by_cases h : far base id ≤ far base p.id
   ·rw [zht _ _ _ _ h]
    simp
   ·rw [zgb _ _ _ _ h]
    have : p.id ≠ id := by intro e; rw [e] at h; omega
    simp [this, ih]
theorem zre (base id : Int) : ∀ (ps : List Peer) (q : Peer), q ∈ hearG base id false ps → q.id = id → q = ⟨id, 0⟩ := by
 intro ps
 induction ps with
 | nil => intro q hq _; simpa [hearG] using hq
 | cons p ps ih =>
   intro q hq e
   by_cases h : far base id ≤ far base p.id
   ·rw [zht _ _ _ _ h] at hq
    rcases List.mem_cons.1 hq with h1 | h1
    ·exact h1
    ·have := (List.mem_filter.1 h1).2
     simp [e] at this
   ·rw [zgb _ _ _ _ h] at hq
    rcases List.mem_cons.1 hq with h1 | h1
    ·subst h1
     rw [e] at h
     omega
    ·exact ih q h1 e
theorem zzw (base id : Int) : ∀ (ps : List Peer) (q : Peer), q ∈ hearG base id false ps → q = ⟨id, 0⟩ ∨ q ∈ ps := by
 intro ps
 induction ps with
 | nil => intro q hq; exact .inl (by simpa [hearG] using hq)
 | cons p ps ih =>
   intro q hq
   by_cases h : far base id ≤ far base p.id
   ·rw [zht _ _ _ _ h] at hq
    rcases List.mem_cons.1 hq with h1 | h1
    ·exact .inl h1
    ·exact .inr (List.mem_filter.1 h1).1
   ·rw [zgb _ _ _ _ h] at hq
    rcases List.mem_cons.1 hq with h1 | h1
    ·exact .inr (by simp [h1])
    ·rcases ih q h1 with h2 | h2
     ·exact .inl h2
     ·exact .inr (List.mem_cons_of_mem _ h2)
theorem znw (base id : Int) : ∀ ps : List Peer, (hearG base id false ps).length = (ps.filter fun p => !decide (p.id = id)).length + 1 := by
 intro ps
 induction ps with
 | nil => rfl
 | cons p ps ih =>
   by_cases h : far base id ≤ far base p.id
   ·rw [zht _ _ _ _ h]
    simp
   ·rw [zgb _ _ _ _ h]
    have : p.id ≠ id := by intro e; rw [e] at h; omega
    simp [this, ih]
theorem z5a (base id : Int) (ps : List Peer) : ∃ q ∈ hearG base id false ps, q.id = id := by
 have h := (z2z base id ps false id).2 (.inr ⟨rfl, rfl⟩)
 simpa using h
theorem z09 {base id : Int} (hb : place base = true) (hid : place id = true) : ∀ ps : List Peer, (∀ p ∈ ps, place p.id = true) → ps.Pairwise (fun p q => far base p.id < far base q.id) → (hearG base id false ps).Pairwise (fun p q => far base p.id < far base q.id) := by
 intro ps
 induction ps with
 | nil => intro _ _; simp [hearG]
 | cons p ps ih =>
   intro hp hr
   by_cases h : far base id ≤ far base p.id
   ·rw [zht _ _ _ _ h, List.pairwise_cons]
    refine ⟨fun q hq => ?_, hr.filter _⟩
    obtain ⟨h1, h2⟩ := List.mem_filter.1 hq
    have h3 : far base p.id ≤ far base q.id := by
     rcases List.mem_cons.1 h1 with h4 | h4
     ·subst h4; omega
     ·have := (List.pairwise_cons.1 hr).1 q h4
      omega
    have h5 : far base q.id ≠ far base id := by
     intro e
     have := (zti hb (hp q h1) hid).1 e
     simp [this] at h2
    show far base id < far base q.id
    omega
   ·rw [zgb _ _ _ _ h, List.pairwise_cons]
    refine ⟨fun q hq => ?_, ih (fun q hq => hp q (List.mem_cons_of_mem _ hq)) (List.pairwise_cons.1 hr).2⟩
    rcases zzw base id ps q hq with h1 | h1
    ·subst h1
     show far base p.id < far base id
     omega
    ·exact (List.pairwise_cons.1 hr).1 q h1
theorem zqd (base : Int) (p : Peer) (ps : List Peer) (id : Int) : findAt base (p :: ps) id = if far base p.id < far base id then findAt base ps id + 1 else 0 := by
 unfold findAt
 rw [List.takeWhile_cons]
 by_cases h : far base p.id < far base id <;> simp [h]
theorem zyg (base : Int) (p : Peer) (ps : List Peer) (id : Int) : peerIs base (p :: ps) id = if far base p.id < far base id then peerIs base ps id else decide (far base p.id = far base id) := by
 unfold peerIs
 rw [zqd]
 by_cases h : far base p.id < far base id <;> simp [h, isFar]
theorem z6m {base id : Int} (hb : place base = true) (hid : place id = true) : ∀ ps : List Peer, (∀ p ∈ ps, place p.id = true) → ps.Pairwise (fun p q => far base p.id < far base q.id) →
 (peerIs base ps id = true → findAt base ps id < ps.length ∧ (∃ m, ps[findAt base ps id]? = some ⟨id, m⟩) ∧ hearG base id false ps = ps.set (findAt base ps id) ⟨id, 0⟩) ∧ (peerIs base ps id = false → hearG base id false ps = insL ps (findAt base ps id) ⟨id, 0⟩) := by
 intro ps
 induction ps with
 | nil => intro _ _; exact ⟨fun h => by simp [peerIs, findAt, isFar] at h, fun _ => rfl⟩
 | cons p ps ih =>
   intro hp hr
   have hr' := (List.pairwise_cons.1 hr).2
   obtain ⟨i1, i2⟩ := ih (fun q hq => hp q (List.mem_cons_of_mem _ hq)) hr'
   rw [zyg, zqd]
   have hno : ∀ q ∈ ps, far base id ≤ far base p.id → q.id ≠ id := by
    intro q hq h e
    have := (List.pairwise_cons.1 hr).1 q hq
    rw [e] at this
    omega
   by_cases h : far base p.id < far base id
   ·rw [if_pos h, if_pos h, zgb _ _ _ _ (by omega)]
    refine ⟨fun h1 => ?_, fun h1 => ?_⟩
    ·obtain ⟨a, b, c⟩ := i1 h1
     exact ⟨by simp; omega, by simpa using b, by simp [c]⟩
    ·rw [i2 h1]
     simp [insL]
   ·rw [if_neg h, if_neg h, zht _ _ _ _ (by omega)]
    have hf : ps.filter (fun p => !decide (p.id = id)) = ps := by
     rw [List.filter_eq_self]
     intro q hq
     have := hno q hq (by omega)
     simp [this]
    refine ⟨fun h1 => ?_, fun h1 => ?_⟩
    ·have e : p.id = id := (zti hb (hp p (by simp)) hid).1 (by simpa using h1)
     obtain ⟨pi, pm⟩ := p
     simp only at e
     subst e
     refine ⟨by simp, ⟨pm, rfl⟩, ?_⟩
     simp [hf]
    ·have e : p.id ≠ id := by
      intro e
      rw [e] at h1
      simp at h1
     simp [e, hf, insL]
def ageL (ps : List Peer) : List Peer := (ps.filter fun p => !decide (p.missed + 1 = 3)).map fun p => ⟨p.id, p.missed + 1⟩
def lostL (ps : List Peer) : List Int := (ps.filter fun p => decide (p.missed + 1 = 3)).map Peer.id
def ageR (base : Int) (ps : List Peer) : List Peer × List Int × Int := if peersMay base ps then (ageL ps, lostL ps, 0) else ([], [], 700)
theorem z4f (ps : List Peer) (p : Peer) : ageL (ps ++ [p]) = if p.missed + 1 = 3 then ageL ps else ageL ps ++ [⟨p.id, p.missed + 1⟩] := by
 by_cases h : p.missed + 1 = 3 <;> simp [ageL, h]
theorem z2c (ps : List Peer) (p : Peer) : lostL (ps ++ [p]) = if p.missed + 1 = 3 then lostL ps ++ [p.id] else lostL ps := by
 by_cases h : p.missed + 1 = 3 <;> simp [lostL, h]
theorem zj9 (ps : List Peer) : (ageL ps).length + (lostL ps).length = ps.length := by
 induction ps with
 | nil => rfl
 | cons p ps ih =>
   by_cases h : p.missed + 1 = 3 <;> simp [ageL, lostL, h] at ih ⊢ <;> omega
theorem z6u {base : Int} {ps : List Peer} (h : peersMay base ps = true) : peersMay base (ageL ps) = true := by
 obtain ⟨a, b, c, d⟩ := zbn.1 h
 have hl := zj9 ps
 refine zbn.2 ⟨a, by omega, fun q hq => ?_, ?_⟩
 ·obtain ⟨p, hp, rfl⟩ := List.mem_map.1 hq
  obtain ⟨h1, h2⟩ := List.mem_filter.1 hp
  obtain ⟨e, f, g, k⟩ := c p h1
  simp at h2
  exact ⟨e, by simp; omega, by simp; omega, k⟩
 ·unfold ageL
  rw [List.pairwise_map]
  exact d.filter _
end Go.AM
/- Plain law: peers heard in a row stand in the row of distances. -/
namespace Go.AM
set_option linter.unusedSimpArgs false
set_option linter.unusedVariables false

end Go.AM
/- Plain law: cuts put in their row, taken out. -/
namespace Go.AM
set_option linter.unusedSimpArgs false
set_option linter.unusedVariables false

def numC (c : Cut) : Int := c.a * 256 + c.b
def cutOk (c : Cut) : Bool := place c.a && place c.b && decide (c.a < c.b)
def cutsOk : Option Cut → List Cut → Bool
 | _, [] => true
 | q, c :: cs => cutOk c && (match q with | none => true | some q => decide (numC q < numC c)) && cutsOk (some c) cs
def cutsMay (cs : List Cut) : Bool := cutsOk none cs && decide (cs.length ≤ 32)
def ordC (x y : Cut) : Int := if cmpI x.a y.a = 0 then cmpI x.b y.b else cmpI x.a y.a
theorem zl9 (c : Cut) : cutOk c = true ↔ (0 ≤ c.a ∧ c.a < 256) ∧ (0 ≤ c.b ∧ c.b < 256) ∧ c.a < c.b := by
 simp [cutOk, place, and_assoc]
theorem zmu {x y : Cut} (hx : cutOk x = true) (hy : cutOk y = true) : ordC x y < 0 ↔ numC x < numC y := by
 rw [zl9] at hx hy
 unfold ordC numC
 by_cases h : cmpI x.a y.a = 0
 ·rw [if_pos h, zpy]
  rw [zje] at h
  omega
 ·rw [if_neg h, zpy]
  rw [zje] at h
  omega
theorem z8c {x y : Cut} : ordC x y = 0 ↔ x = y := by
 obtain ⟨xa, xb⟩ := x
 obtain ⟨ya, yb⟩ := y
 unfold ordC
 by_cases h : cmpI xa ya = 0
 ·rw [if_pos h, zje]
  rw [zje] at h
  simp [h]
 ·rw [if_neg h]
  constructor
  ·intro e; exact absurd e h
  ·intro e
   have : xa = ya := by injection e
   exact absurd ((zje _ _).2 this) h
theorem z6o {x y : Cut} (hx : cutOk x = true) (hy : cutOk y = true) (h : numC x = numC y) : x = y := by
 rw [zl9] at hx hy
 obtain ⟨xa, xb⟩ := x
 obtain ⟨ya, yb⟩ := y
 simp only [numC] at h hx hy
 have : xa = ya ∧ xb = yb := by omega
 rw [this.1, this.2]
theorem z1g : ∀ (cs : List Cut) (q : Option Cut), cutsOk q cs = true ↔ (∀ c ∈ cs, cutOk c = true) ∧ cs.Pairwise (fun x y => numC x < numC y) ∧ (∀ k, q = some k → ∀ c ∈ cs, numC k < numC c) := by
 intro cs
 induction cs with
 | nil => intro q; simp [cutsOk]
 | cons c cs ih =>
   intro q
   simp only [cutsOk, Bool.and_eq_true, ih, List.mem_cons, List.pairwise_cons]
   constructor
   ·rintro ⟨⟨h1, h2⟩, h3, h4, h5⟩
    refine ⟨?_, ⟨fun d hd => h5 c rfl d hd, h4⟩, ?_⟩
    ·rintro d (rfl | hd)
     ·exact h1
     ·exact h3 d hd
    ·rintro k rfl d hd
     simp only [decide_eq_true_eq] at h2
     rcases hd with rfl | hd
     ·exact h2
     ·exact Int.lt_trans h2 (h5 c rfl d hd)
   ·rintro ⟨h1, ⟨h2, h3⟩, h4⟩
    refine ⟨⟨h1 c (.inl rfl), ?_⟩, fun d hd => h1 d (.inr hd), h3, ?_⟩
    ·cases q with
     | none => rfl
     | some q => simpa using h4 q rfl c (.inl rfl)
    ·rintro k hk d hd
     cases hk
     exact h2 d hd
theorem zek {cs : List Cut} : cutsMay cs = true ↔ (∀ c ∈ cs, cutOk c = true) ∧ cs.Pairwise (fun x y => numC x < numC y) ∧ cs.length ≤ 32 := by
 simp only [cutsMay, Bool.and_eq_true, decide_eq_true_eq, z1g]
 constructor
 ·rintro ⟨⟨a, b, _⟩, c⟩; exact ⟨a, b, c⟩
 ·rintro ⟨a, b, c⟩; exact ⟨⟨a, b, by simp⟩, c⟩
def cutAB (a b : Int) : Cut := ⟨min a b, max a b⟩
theorem zoi {a b : Int} (ha : place a = true) (hb : place b = true) (h : a ≠ b) : cutOk (cutAB a b) = true := by
 rw [zgf] at ha hb
 rw [zl9]
 simp only [cutAB]
 omega
def insC (c : Cut) : List Cut → List Cut
 | [] => [c]
 | x :: xs => if numC x < numC c then x :: insC c xs else c :: x :: xs
theorem zsm {c d : Cut} : ∀ {cs : List Cut}, d ∈ insC c cs ↔ d = c ∨ d ∈ cs := by
 intro cs
 induction cs with
 | nil => simp [insC]
 | cons x xs ih =>
   unfold insC
   by_cases h : numC x < numC c
   ·rw [if_pos h]; simp [ih]; grind
   ·rw [if_neg h]; simp
theorem zo3 (c : Cut) (cs : List Cut) : (insC c cs).length = cs.length + 1 := by
 induction cs with
 | nil => rfl
 | cons x xs ih =>
   unfold insC
   split <;> simp [ih]
theorem z3p {c : Cut} : ∀ {cs : List Cut}, (∀ d ∈ cs, numC d ≠ numC c) → cs.Pairwise (fun x y => numC x < numC y) → (insC c cs).Pairwise (fun x y => numC x < numC y) := by
 intro cs
 induction cs with
 | nil => intro _ _; simp [insC]
 | cons x xs ih =>
   intro hne hp
   rw [List.pairwise_cons] at hp
   unfold insC
   by_cases h : numC x < numC c
   ·rw [if_pos h, List.pairwise_cons]
    refine ⟨fun d hd => ?_, ih (fun d hd => hne d (List.mem_cons_of_mem _ hd)) hp.2⟩
    rcases zsm.1 hd with rfl | hd
    ·exact h
    ·exact hp.1 d hd
   ·rw [if_neg h, List.pairwise_cons]
    have h2 := hne x (by simp)
    refine ⟨fun d hd => ?_, List.pairwise_cons.2 hp⟩
    rcases List.mem_cons.1 hd with rfl | hd
    ·omega
    ·have := hp.1 d hd
     omega
theorem z87 {c : Cut} (hc : cutOk c = true) : ∀ {cs : List Cut}, (∀ d ∈ cs, cutOk d = true) → insL cs (posC (fun x => ordC x c) cs) c = insC c cs := by
 intro cs
 induction cs with
 | nil => intro _; rfl
 | cons x xs ih =>
   intro h
   rw [zfv]
   unfold insC
   have h1 := zmu (h x (by simp)) hc
   by_cases h2 : numC x < numC c
   ·rw [if_pos (h1.2 h2), if_pos h2, ← ih fun d hd => h d (List.mem_cons_of_mem _ hd)]
    simp [insL]
   ·rw [if_neg (fun e => h2 (h1.1 e)), if_neg h2]
    simp [insL]
theorem z55 {c : Cut} (hc : cutOk c = true) {cs : List Cut} (h : ∀ d ∈ cs, cutOk d = true) (hp : cs.Pairwise (fun x y => numC x < numC y)) : MonoC (fun x => ordC x c) cs := by
 intro i j x y hij hx hy hlt
 simp only at hlt ⊢
 rw [zmu (h y (List.mem_of_getElem? hy)) hc] at hlt
 rw [zmu (h x (List.mem_of_getElem? hx)) hc]
 by_cases e : i = j
 ·subst e
  rw [hx] at hy
  cases hy
  exact hlt
 ·obtain ⟨hi, rfl⟩ := List.getElem?_eq_some_iff.1 hx
  obtain ⟨hj, rfl⟩ := List.getElem?_eq_some_iff.1 hy
  have := List.pairwise_iff_getElem.1 hp i j hi hj (by omega)
  omega
theorem z72 {c : Cut} (hc : cutOk c = true) : ∀ {cs : List Cut}, (∀ d ∈ cs, cutOk d = true) → cs.Pairwise (fun x y => numC x < numC y) → atC (fun x => ordC x c) cs = decide (c ∈ cs) := by
 intro cs
 induction cs with
 | nil => intro _ _; simp [z2y]
 | cons x xs ih =>
   intro h hp
   rw [List.pairwise_cons] at hp
   rw [zsr]
   have h1 := zmu (h x (by simp)) hc
   by_cases h2 : numC x < numC c
   ·rw [if_pos (h1.2 h2), ih (fun d hd => h d (List.mem_cons_of_mem _ hd)) hp.2]
    have : c ≠ x := by rintro rfl; omega
    simp [this]
   ·rw [if_neg (fun e => h2 (h1.1 e))]
    rw [Bool.eq_iff_iff]
    simp only [decide_eq_true_eq, z8c, List.mem_cons]
    constructor
    ·rintro rfl; exact .inl rfl
    ·rintro (rfl | hc2)
     ·rfl
     ·have := hp.1 c hc2
      omega
theorem z8k {c : Cut} (hc : cutOk c = true) : ∀ {cs : List Cut}, (∀ d ∈ cs, cutOk d = true) → cs.Pairwise (fun x y => numC x < numC y) → c ∈ cs →
 cs.take (posC (fun x => ordC x c) cs) ++ cs.drop (posC (fun x => ordC x c) cs + 1) = cs.filter fun x => !decide (x = c) := by
 intro cs
 induction cs with
 | nil => intro _ _ h; simp at h
 | cons x xs ih =>
   intro h hp hm
   rw [List.pairwise_cons] at hp
   rw [zfv]
   have h1 := zmu (h x (by simp)) hc
   by_cases h2 : numC x < numC c
   ·have hne : x ≠ c := by rintro rfl; omega
    rw [if_pos (h1.2 h2)]
    have hm' : c ∈ xs := by
     rcases List.mem_cons.1 hm with e | e
     ·exact absurd e.symm hne
     ·exact e
    have := ih (fun d hd => h d (List.mem_cons_of_mem _ hd)) hp.2 hm'
    simp [hne, this]
   ·have he : x = c := by
     rcases List.mem_cons.1 hm with e | e
     ·exact e.symm
     ·have := hp.1 c e
      omega
    subst he
    rw [if_neg (fun e => h2 (h1.1 e))]
    have : xs.filter (fun y => !decide (y = x)) = xs := by
     rw [List.filter_eq_self]
     intro y hy
     have := hp.1 y hy
     have hne : y ≠ x := by rintro rfl; omega
     simp [hne]
    simp [this]
def askMay (cs : List Cut) (a b : Int) : Bool := cutsMay cs && place a && place b && !decide (a = b)
def withC (cs : List Cut) (a b : Int) : List Cut × Int := if askMay cs a b then (if cutAB a b ∈ cs then (cs, 0) else if cs.length = 32 then ([], 1501) else (insC (cutAB a b) cs, 0)) else ([], 1500)
def withoutC (cs : List Cut) (a b : Int) : List Cut × Int := if askMay cs a b then (cs.filter fun x => !decide (x = cutAB a b), 0) else ([], 1500)
def isC (cs : List Cut) (a b : Int) : Bool × Int := if askMay cs a b then (decide (cutAB a b ∈ cs), 0) else (false, 1500)
theorem zf9 {cs : List Cut} {a b : Int} : askMay cs a b = true ↔ cutsMay cs = true ∧ place a = true ∧ place b = true ∧ a ≠ b := by simp [askMay, and_assoc]
theorem zya {cs : List Cut} {c : Cut} (h : cutsMay cs = true) (hc : cutOk c = true) (hn : c ∉ cs) (hl : cs.length ≠ 32) : cutsMay (insC c cs) = true := by
 obtain ⟨h1, h2, h3⟩ := zek.1 h
 refine zek.2 ⟨fun d hd => ?_, z3p (fun d hd e => ?_) h2, by rw [zo3]; omega⟩
 ·rcases zsm.1 hd with rfl | hd
  ·exact hc
  ·exact h1 d hd
 ·have := z6o (h1 d hd) hc e
  subst this
  exact hn hd
theorem zqh {cs : List Cut} {p : Cut → Bool} (h : cutsMay cs = true) : cutsMay (cs.filter p) = true := by
 obtain ⟨h1, h2, h3⟩ := zek.1 h
 exact zek.2 ⟨fun d hd => h1 d (List.mem_filter.1 hd).1, h2.filter _, by have := List.length_filter_le p cs; omega⟩
end Go.AM
/- AM: contracts: may a row of cuts be. -/
namespace Go.AM
set_option linter.unusedSimpArgs false
set_option linter.unusedVariables false
set_option maxRecDepth 8000
set_option maxHeartbeats 0
def orL : List Int → Int
 | [] => 0
 | v :: vs => if v = 0 then orL vs else v
theorem qao (xs : List Int) (hl : xs.length ≤ cap) : Den PP 214 [intsD xs] [] (.int .i64 (orL xs)) [] := by
 obtain ⟨r, hr⟩ : ∃ r, orL xs = r := ⟨_, rfl⟩
 rw [hr]
 unfold cap at hl
 refine zah [] [] ztp ?_
 simp -implicitDefEqProofs [znn, intsD]
 refine za7 xs (fun i rest => fun ⟨fr, bs⟩ => bs = [] ∧ fr 3 = .int .i64 0 ∧ fr 6 = intsD xs ∧ fr 7 = .int .i64 xs.length ∧ fr 8 = .int .i64 i ∧ orL rest = r)
  (fun ⟨fr, bs⟩ => bs = [] ∧ fr 3 = .int .i64 0 ∧ r = 0) (fun ⟨fr, bs⟩ => fr 2 = .int .i64 r) zjo.eq_1 ?_ ?_ ?_ ?_ ?_
 ·exact ⟨rfl, rfl, rfl, rfl, rfl, hr⟩
 ·rintro i ⟨fr, bs⟩ hi ⟨rfl, h3, h6, h7, h8, he⟩
  simp -implicitDefEqProofs [h3, h6, h7, h8, hi, intsD]
  simpa [orL] using he.symm
 ·rintro i a rest ⟨fr, bs⟩ hlt hget hg hd hd2 ⟨rfl, h3, h6, h7, h8, he⟩
  have hlt' : (i : Int) < xs.length := by omega
  have hw := za1 (n := i) (by omega)
  simp only [orL] at he
  clear hr
  by_cases ha : a = 0
  ·rw [if_pos ha] at he
   simp -implicitDefEqProofs [h3, h6, h7, h8, hlt, hlt', hget, hg, ha, hw, intsD, irow]
   exact he
  ·rw [if_neg ha] at he
   simp -implicitDefEqProofs [h3, h6, h7, h8, hlt, hlt', hget, hg, ha, hw, intsD, irow]
   rw [he]
 ·rintro ⟨fr, bs⟩ ⟨rfl, h3, he⟩
  simp -implicitDefEqProofs [h3, he]
 ·rintro ⟨fr, bs⟩ h
  simp -implicitDefEqProofs [h]
theorem zrb (x y : Cut) : Den PP 162 [.agg x.row, .agg y.row] [] (.int .i64 (ordC x y)) [] := by
 have c1 := qao [cmpI x.a y.a, cmpI x.b y.b] (by unfold cap; simp)
 have e : orL [cmpI x.a y.a, cmpI x.b y.b] = ordC x y := by
  unfold ordC orL orL orL
  split
  ·split
   ·rename_i h; exact h.symm
   ·rfl
  ·rfl
 rw [e] at c1
 simp [intsD, irow] at c1
 clear e
 refine zah [] [] zsi ?_
 simp -implicitDefEqProofs [znt, Cut.row]
 refine zaa (zfa _ _) ?_
 simp -implicitDefEqProofs
 refine zaa (zfa _ _) ?_
 simp -implicitDefEqProofs
 refine zaa c1 ?_
 simp -implicitDefEqProofs
def prevC (cs : List Cut) (i : Nat) : Option Cut := if i = 0 then none else cs[i - 1]?
theorem ztc (cs : List Cut) (hl : cs.length ≤ cap) : Den PP 77 [cutsD cs] [] (.bool (cutsMay cs)) [] := by
 obtain ⟨A, hA⟩ : ∃ A, cutsOk none cs = A := ⟨_, rfl⟩
 unfold cap at hl
 refine zah [] [] zy6 ?_
 simp -implicitDefEqProofs [zri, cutsD]
 refine za7 cs (fun i rest => fun ⟨fr, bs⟩ => bs = [] ∧ fr 0 = cutsD cs ∧ fr 5 = cutsD cs ∧ fr 6 = .int .i64 cs.length ∧ fr 7 = .int .i64 i ∧ cutsOk (prevC cs i) rest = A ∧ (∀ q, prevC cs i = some q → cutOk q = true))
  (fun ⟨fr, bs⟩ => bs = [] ∧ fr 0 = cutsD cs ∧ A = true) (fun ⟨fr, bs⟩ => fr 2 = .bool false ∧ A = false) zlu.eq_1 ?_ ?_ ?_ ?_ ?_
 ·exact ⟨rfl, rfl, rfl, rfl, rfl, hA, by simp [prevC]⟩
 ·rintro i ⟨fr, bs⟩ hi ⟨rfl, h0, h5, h6, h7, he, _⟩
  simp -implicitDefEqProofs [h0, h5, h6, h7, hi]
  simpa [cutsOk] using he.symm
 ·rintro i a rest ⟨fr, bs⟩ hlt hget hg hd hd2 ⟨rfl, h0, h5, h6, h7, he, hq⟩
  have hlt' : (i : Int) < cs.length := by omega
  have hw := za1 (n := i) (by omega)
  simp only [cutsOk] at he
  have hp : prevC cs (i + 1) = some a := by simp [prevC, hget]
  rw [hp]
  by_cases ha : cutOk a = true
  ·have ha' := (zl9 a).1 ha
   have p1 : place a.a = true := by rw [zgf]; omega
   have p2 : place a.b = true := by rw [zgf]; omega
   have p3 : ¬ a.b ≤ a.a := by omega
   have c1 := zau a.a
   have c2 := zau a.b
   rw [p1] at c1
   rw [p2] at c2
   rw [ha] at he
   have hqa : ∀ q, some a = some q → cutOk q = true := by rintro q ⟨⟩; exact ha
   clear hA
   cases i with
   | zero =>
     simp [prevC] at he
     simp -implicitDefEqProofs [h0, h5, h6, h7, hlt, hlt', hget, hg, cutsD, Cut.row]
     repeat' ((first | refine zaa (by first | exact c1 | exact c2) ?_ | ((with_reducible first | refine zal ?_ ?_ | refine zaj ?_ ?_ | refine zaf ?_ ?_ | refine zae ?_ ?_) <;> intro _) | ((with_reducible first | refine zap ?_ ?_ | refine zaq ?_ ?_ | refine zan ?_ ?_ | refine zad ?_ ?_ | refine zak ?_ ?_ | refine zao ?_ ?_ | refine zai ?_ ?_ | refine zab ?_ ?_) <;> intro hq <;> (try simp at hq)) | refine zag (by omega) ?_ | refine zam (by omega) ?_) <;> simp -implicitDefEqProofs [*, cutsD, Cut.row, hw, p3])
     exact zax (by omega) (by omega)
   | succ j =>
     have hj : j < cs.length := by omega
     have hj' : (j : Int) < cs.length := by omega
     have hjw : IntKind.wrap .i64 (j : Int) = j := zax (by omega) (by omega)
     obtain ⟨q, hqj⟩ : ∃ q, cs[j] = q := ⟨_, rfl⟩
     have hpj : prevC cs (j + 1) = some q := by simp [prevC, hj, hqj]
     rw [hpj] at he hq
     have hqo := zmu (hq q rfl) ha
     have c3 := zrb q a
     simp only [Cut.row] at c3
     simp at he
     clear hq
     by_cases hn : numC q < numC a
     ·have ho : ¬ 0 ≤ ordC q a := by have := hqo.2 hn; omega
      simp [hn] at he
      generalize ordC q a = o at *
      clear hqo
      simp -implicitDefEqProofs [h0, h5, h6, h7, hlt, hlt', hget, hg, cutsD, Cut.row]
      repeat' ((first | refine zaa (by first | exact c1 | exact c2 | exact c3) ?_ | ((with_reducible first | refine zal ?_ ?_ | refine zaj ?_ ?_ | refine zaf ?_ ?_ | refine zae ?_ ?_) <;> intro _) | ((with_reducible first | refine zap ?_ ?_ | refine zaq ?_ ?_ | refine zan ?_ ?_ | refine zad ?_ ?_ | refine zak ?_ ?_ | refine zao ?_ ?_ | refine zai ?_ ?_ | refine zab ?_ ?_) <;> intro hq <;> (try simp at hq)) | refine zag (by omega) ?_ | refine zam (by omega) ?_) <;> simp -implicitDefEqProofs [*, cutsD, Cut.row, hw, p3, hjw, hj, hj', hqj, ho])
      all_goals first | exact he | exact hw | exact ⟨hw, he⟩ | omega
     ·have ho : 0 ≤ ordC q a := by have : ¬ ordC q a < 0 := fun e => hn (hqo.1 e); omega
      simp [hn] at he
      generalize ordC q a = o at *
      clear hqo
      simp -implicitDefEqProofs [h0, h5, h6, h7, hlt, hlt', hget, hg, cutsD, Cut.row]
      repeat' ((first | refine zaa (by first | exact c1 | exact c2 | exact c3) ?_ | ((with_reducible first | refine zal ?_ ?_ | refine zaj ?_ ?_ | refine zaf ?_ ?_ | refine zae ?_ ?_) <;> intro _) | ((with_reducible first | refine zap ?_ ?_ | refine zaq ?_ ?_ | refine zan ?_ ?_ | refine zad ?_ ?_ | refine zak ?_ ?_ | refine zao ?_ ?_ | refine zai ?_ ?_ | refine zab ?_ ?_) <;> intro hq <;> (try simp at hq)) | refine zag (by omega) ?_ | refine zam (by omega) ?_) <;> simp -implicitDefEqProofs [*, cutsD, Cut.row, hw, p3, hjw, hj, hj', hqj, ho])
      all_goals omega
  ·have ha' : cutOk a = false := by simpa using ha
   rw [ha'] at he
   simp at he
   have c1 := zau a.a
   have c2 := zau a.b
   have hor : place a.a = false ∨ (place a.a = true ∧ (place a.b = false ∨ (place a.b = true ∧ a.b ≤ a.a))) := by
    simp only [cutOk] at ha'
    generalize place a.a = X at *
    generalize place a.b = Y at *
    cases X <;> cases Y <;> simp at ha' ⊢ <;> omega
   clear ha ha' hq hp hA
   rcases hor with h | ⟨h, h2 | ⟨h2, h3⟩⟩
   ·rw [h] at c1
    simp -implicitDefEqProofs [h0, h5, h6, h7, hlt, hlt', hget, hg, cutsD, Cut.row]
    repeat' ((first | refine zaa (by first | exact c1 | exact c2) ?_ | ((with_reducible first | refine zal ?_ ?_ | refine zaj ?_ ?_ | refine zaf ?_ ?_ | refine zae ?_ ?_) <;> intro _) | ((with_reducible first | refine zap ?_ ?_ | refine zaq ?_ ?_ | refine zan ?_ ?_ | refine zad ?_ ?_ | refine zak ?_ ?_ | refine zao ?_ ?_ | refine zai ?_ ?_ | refine zab ?_ ?_) <;> intro hq <;> (try simp at hq)) | refine zag (by omega) ?_ | refine zam (by omega) ?_) <;> simp -implicitDefEqProofs [*, cutsD, Cut.row, hw])
   ·rw [h] at c1
    rw [h2] at c2
    simp -implicitDefEqProofs [h0, h5, h6, h7, hlt, hlt', hget, hg, cutsD, Cut.row]
    repeat' ((first | refine zaa (by first | exact c1 | exact c2) ?_ | ((with_reducible first | refine zal ?_ ?_ | refine zaj ?_ ?_ | refine zaf ?_ ?_ | refine zae ?_ ?_) <;> intro _) | ((with_reducible first | refine zap ?_ ?_ | refine zaq ?_ ?_ | refine zan ?_ ?_ | refine zad ?_ ?_ | refine zak ?_ ?_ | refine zao ?_ ?_ | refine zai ?_ ?_ | refine zab ?_ ?_) <;> intro hq <;> (try simp at hq)) | refine zag (by omega) ?_ | refine zam (by omega) ?_) <;> simp -implicitDefEqProofs [*, cutsD, Cut.row, hw])
   ·rw [h] at c1
    rw [h2] at c2
    simp -implicitDefEqProofs [h0, h5, h6, h7, hlt, hlt', hget, hg, cutsD, Cut.row]
    repeat' ((first | refine zaa (by first | exact c1 | exact c2) ?_ | ((with_reducible first | refine zal ?_ ?_ | refine zaj ?_ ?_ | refine zaf ?_ ?_ | refine zae ?_ ?_) <;> intro _) | ((with_reducible first | refine zap ?_ ?_ | refine zaq ?_ ?_ | refine zan ?_ ?_ | refine zad ?_ ?_ | refine zak ?_ ?_ | refine zao ?_ ?_ | refine zai ?_ ?_ | refine zab ?_ ?_) <;> intro hq <;> (try simp at hq)) | refine zag (by omega) ?_ | refine zam (by omega) ?_) <;> simp -implicitDefEqProofs [*, cutsD, Cut.row, hw])
 ·rintro ⟨fr, bs⟩ ⟨rfl, h0, h1⟩
  simp -implicitDefEqProofs [h0, cutsD, cutsMay, hA, h1]
  omega
 ·rintro ⟨fr, bs⟩ h
  simp -implicitDefEqProofs [h.1, h.2, cutsMay, hA]
end Go.AM
/- AM: contracts: binary search, places put and taken out. -/
namespace Go.AM
set_option linter.unusedSimpArgs false
set_option linter.unusedVariables false
set_option maxRecDepth 8000
set_option maxHeartbeats 0
theorem zt3 (a : Int) : Den PP 220 [.int .i64 a] [] (.bool false) [] := by
 refine zah [] [] zk1 ?_
 simp -implicitDefEqProofs [zg0]
theorem z6g (a b : Int) : Den PP 219 [.int .i64 a, .int .i64 b] [] (.bool (decide (a < b))) [] := by
 refine zah [] [] zpw ?_
 simp -implicitDefEqProofs [zkn]
 repeat' ((first | refine zaa (by first | exact zp5 _) ?_ | ((with_reducible first | refine zal ?_ ?_ | refine zaj ?_ ?_ | refine zaf ?_ ?_ | refine zae ?_ ?_) <;> intro _) | ((with_reducible first | refine zap ?_ ?_ | refine zaq ?_ ?_ | refine zan ?_ ?_ | refine zad ?_ ?_ | refine zak ?_ ?_ | refine zao ?_ ?_ | refine zai ?_ ?_ | refine zab ?_ ?_) <;> intro hq <;> (try simp at hq)) | refine zag (by omega) ?_ | refine zam (by omega) ?_) <;> simp -implicitDefEqProofs [*])
theorem zxm (xs : List Int) (id : Int) (hl : xs.length ≤ cap) (hr : xs.Pairwise (· < ·)) :
 Den PP 185 [intsD xs, .int .i64 id] [] (.tup [.int .i64 (posI xs id), .bool (decide (xs[posI xs id]? = some id))]) [] := by
 have hlo := fun i x => z4g (xs := xs) (id := id) i x
 have hhi := fun i x => z3v (id := id) hr i x
 have hat := z3z xs id
 generalize posI xs id = at_ at *
 refine zah [] [] zfw ?_
 simp -implicitDefEqProofs [zdk, intsD]
 refine zhe xs.length (fun m ⟨fr, bs⟩ => ∃ lo hi : Nat, bs = [] ∧ hi - lo ≤ m ∧ lo ≤ at_ ∧ at_ ≤ hi ∧ hi ≤ xs.length ∧ fr 0 = intsD xs ∧ fr 1 = .int .i64 id ∧ fr 6 = .int .i64 xs.length ∧ fr 7 = .int .i64 lo ∧ fr 8 = .int .i64 hi)
  (fun ⟨fr, bs⟩ => bs = [] ∧ fr 0 = intsD xs ∧ fr 1 = .int .i64 id ∧ fr 6 = .int .i64 xs.length ∧ fr 7 = .int .i64 at_) (fun _ => False) zc6.eq_1 ?_ ?_ ?_ ?_ ?_
 ·exact ⟨0, xs.length, rfl, by omega, by omega, hat, by omega, rfl, rfl, rfl, rfl, rfl⟩
 ·rintro ⟨fr, bs⟩ ⟨lo, hi, rfl, h1, h2, h3, h4, h0, h5, h6, h7, h8⟩
  have e1 : lo = at_ := by omega
  have e2 : hi = at_ := by omega
  simp -implicitDefEqProofs [h0, h5, h6, h7, h8, e1, e2]
 ·rintro m ⟨fr, bs⟩ ⟨lo, hi, rfl, h1, h2, h3, h4, h0, h5, h6, h7, h8⟩
  by_cases hlt : lo < hi
  ·have hlt' : (lo : Int) < hi := by omega
   have hm := zup (lo := lo) (hi := hi) (by omega) (by omega)
   have hml : (lo + hi) / 2 < xs.length := by omega
   have hml' : (((lo + hi) / 2 : Nat) : Int) < xs.length := by omega
   have hw := za1 (n := (lo + hi) / 2) (by unfold cap at hl; omega)
   have hb1 : lo ≤ (lo + hi) / 2 := by omega
   have hb2 : (lo + hi) / 2 < hi := by omega
   generalize (lo + hi) / 2 = mid at *
   obtain ⟨x, hx⟩ : ∃ x, xs[mid] = x := ⟨_, rfl⟩
   have hx' : xs[mid]? = some x := by simp [hml, hx]
   simp -implicitDefEqProofs [h0, h5, h6, h7, h8, hlt', hlt, hm, hml, hml', irow, hx, intsD]
   refine zaa (z6g x id) ?_
   simp -implicitDefEqProofs
   refine zaf (fun hc => ?_) (fun hc => ?_)
   all_goals simp -implicitDefEqProofs [h0, h5, h6, h7, h8, hc, hw, intsD]
   ·have : mid < at_ := by
     apply Classical.byContradiction
     intro hx2
     have := hhi mid x (by omega) hx'
     omega
    exact ⟨mid + 1, hi, by omega, by omega, by omega, by omega, by simp, by simp⟩
   ·have : at_ ≤ mid := by
     apply Classical.byContradiction
     intro hx2
     have := hlo mid x (by omega) hx'
     omega
    exact ⟨lo, mid, by omega, by omega, by omega, by omega, by simp, by simp⟩
  ·have e1 : lo = at_ := by omega
   have e2 : hi = at_ := by omega
   simp -implicitDefEqProofs [h0, h5, h6, h7, h8, e1, e2]
 ·rintro ⟨fr, bs⟩ ⟨rfl, h0, h1, h6, h7⟩
  simp -implicitDefEqProofs [h0, h1, h6, h7]
  refine zal (fun hc => ?_) (fun hc => ?_)
  ·obtain ⟨x, hx⟩ : ∃ x, xs[at_] = x := ⟨_, rfl⟩
   simp -implicitDefEqProofs [h0, h1, h6, h7, hc, irow, hx, intsD]
   repeat' ((first | refine zaa (by first | exact zt3 _) ?_ | ((with_reducible first | refine zal ?_ ?_ | refine zaj ?_ ?_ | refine zaf ?_ ?_ | refine zae ?_ ?_) <;> intro _) | ((with_reducible first | refine zap ?_ ?_ | refine zaq ?_ ?_ | refine zan ?_ ?_ | refine zad ?_ ?_ | refine zak ?_ ?_ | refine zao ?_ ?_ | refine zai ?_ ?_ | refine zab ?_ ?_) <;> intro hq <;> (try simp at hq)) | refine zag (by omega) ?_ | refine zam (by omega) ?_) <;> simp -implicitDefEqProofs [*, h0, h1, h6, h7, hc, irow, hx, intsD])
  ·have hp : xs[at_]? = none := by rw [List.getElem?_eq_none]; omega
   simp -implicitDefEqProofs [h0, h1, h6, h7, hc, hp, intsD]
 ·rintro ⟨fr, bs⟩ h
  exact h.elim
theorem zhb (xs : List Int) (g : Nat) (caps : List D) (p : Int → Bool) (hp : TellsI g caps p xs) (hl : xs.length ≤ 1000000) :
 GivesC (DenF PP [0]) 225 (xs.map irow) 1 [.fn g [] caps] ((xs.filter fun x => !p x).map irow) := by
 refine zh7 (fun r hr => by obtain ⟨a, _, rfl⟩ := List.mem_map.1 hr; rfl) (StillR.map _ _ fun a _ d hd => by rw [List.mem_singleton.1 hd]; rfl) fun fl hfl hrow hfs htake hget => ?_
 have hi0 := zf2 xs (by unfold cap; omega) g caps p hp
 have hi1 : Den PP 165 [.sl fl xs.length, .fn g [] caps] [] (.int .i64 (fIdx p 0 xs)) [] := z43 (by
  simp only [List.map_cons, List.map_nil, D.cut]
  rw [List.length_map] at htake
  rw [htake]
  exact hi0)
 simp only [List.length_map] at *
 rcases z3j p xs with ⟨he, hf⟩ | ⟨f, he, hf, hff⟩
 ·rw [he] at hi1
  refine ⟨.ref 0 0 xs.length, [⟨fl, 1, .mut⟩], ?_, ?_⟩
  ·refine zc7 [] [] [] [] (by simp) (fun _ h => absurd h List.not_mem_nil) zdq ?_
   simp -implicitDefEqProofs [-leave, zcu, hp.2.1]
   refine zaa hi1 ?_
   simp -implicitDefEqProofs [-leave, hp.2.1]
   rw [zcn (by omega) (by simpa using hfs)]
   rfl
  ·rw [hf]
   exact zbg rfl rfl rfl (by simpa using hfl) (by simpa using htake.symm) (.inl rfl)
 ·rw [he] at hi1
  have hfl' : f < fl.length := by omega
  have hw := za1 (n := f) (by omega)
  have hne : ¬ (f : Int) = -1 := by omega
  have hm1 := List.length_filter_le (fun x => !p x) xs
  obtain ⟨m, hm⟩ : ∃ m, (xs.filter fun x => !p x).length = m := ⟨_, rfl⟩
  rw [hm] at hm1
  have hcells : ∀ k, k < xs.length → fl[k]? = (xs[k]?).map irow := by
   intro k hk
   rw [hget k hk, List.getElem?_map]
  refine ⟨.ref 0 0 m, [⟨(xs.filter fun x => !p x).map irow ++ List.replicate (xs.length - m) [.int .i64 0] ++ fl.drop xs.length, 1, .mut⟩], ?_, ?_⟩
  ·refine zc7 [] [] [] [] (by simp) (fun _ h => absurd h List.not_mem_nil) zdq ?_
   simp -implicitDefEqProofs [-leave, zcu, hp.2.1]
   refine zaa hi1 ?_
   simp -implicitDefEqProofs [-leave, hp.2.1, hne, hw]
   refine zhe (xs.length - (f + 1)) (fun q ⟨fr, bs⟩ => ∃ (i j : Nat) (cur : List (List D)), bs = [⟨cur, 1, .mut⟩, ⟨[], 1, .mut⟩] ∧ xs.length - j ≤ q ∧ j ≤ xs.length ∧ i < j ∧ cur.length = fl.length ∧ StillR cur ∧
    (∀ r ∈ cur, r.length = 1) ∧ cur.take i = ((xs.take j).filter fun x => !p x).map irow ∧ cur.drop j = fl.drop j ∧ fr 0 = .ref 0 0 xs.length ∧ fr 1 = .fn g [] caps ∧ fr 5 = .int .i64 i ∧ fr 6 = .int .i64 j)
    (fun ⟨fr, bs⟩ => ∃ cur : List (List D), bs = [⟨cur, 1, .mut⟩, ⟨[], 1, .mut⟩] ∧ m < xs.length ∧ cur.length = fl.length ∧ StillR cur ∧ cur.take m = (xs.filter fun x => !p x).map irow ∧ cur.drop xs.length = fl.drop xs.length ∧ fr 0 = .ref 0 0 xs.length ∧ fr 5 = .int .i64 m)
    (fun _ => False) zdd.eq_1 ?_ ?_ ?_ ?_ ?_
   ·refine ⟨f, f + 1, fl, rfl, by omega, by omega, by omega, rfl, hfs, hrow, ?_, rfl, rfl, rfl, rfl, rfl⟩
    rw [hff, List.map_take, ← htake, List.take_take]
    congr 1
    omega
   ·rintro ⟨fr, bs⟩ ⟨i, j, cur, rfl, hq, hj, hij, hcl, hcs, hcr, hct, hcd, h0, h1, h5, h6⟩
    have hje : j = xs.length := by omega
    subst hje
    rw [List.take_length] at hct
    have him : i = m := by
     have := congrArg List.length hct
     simp at this
     omega
    subst him
    simp -implicitDefEqProofs [-leave, h0, h1, h5, h6]
    exact ⟨hij, hcl, hcs, hct, hcd⟩
   ·rintro q ⟨fr, bs⟩ ⟨i, j, cur, rfl, hq, hj, hij, hcl, hcs, hcr, hct, hcd, h0, h1, h5, h6⟩
    by_cases hjx : j = xs.length
    ·subst hjx
     rw [List.take_length] at hct
     have him : i = m := by
      have := congrArg List.length hct
      simp at this
      omega
     subst him
     simp -implicitDefEqProofs [-leave, h0, h1, h5, h6]
     exact ⟨hij, hcl, hcs, hct, hcd⟩
    ·have hjl : j < xs.length := by omega
     have hjl' : (j : Int) < xs.length := by omega
     obtain ⟨x, hx⟩ : ∃ x, xs[j] = x := ⟨_, rfl⟩
     have hx' : xs[j]? = some x := by simp [hjl, hx]
     have hcj : cur[j]? = some [.int .i64 x] := by
      have h7 : (cur.drop j)[0]? = (fl.drop j)[0]? := by rw [hcd]
      rw [List.getElem?_drop, List.getElem?_drop, Nat.add_zero, hcells j hjl, hx'] at h7
      exact h7
     have hwj := za1 (n := j) (by omega)
     have hwi := za1 (n := i) (by omega)
     have hil' : (i : Int) < xs.length := by omega
     obtain ⟨r0, hr0⟩ : ∃ r0, cur[i]? = some r0 := ⟨cur[i]'(by omega), by simp⟩
     have hr0l : r0.length = 1 := hcr r0 (List.mem_of_getElem? hr0)
     obtain ⟨d0, rfl⟩ := List.length_eq_one_iff.1 hr0l
     have hsw := hcs.sweep
     have hicl : i < cur.length := by omega
     have htk : xs.take (j + 1) = xs.take j ++ [x] := by rw [List.take_add_one, hx']; rfl
     simp -implicitDefEqProofs [-leave, h0, h1, h5, h6, hjl', hcj, hp.1, hp.2.1]
     refine zaa (hp.2.2 x (List.mem_of_getElem? hx')) ?_
     simp -implicitDefEqProofs [-leave]
     refine zai (fun hpx => ?_) (fun hpx => ?_)
     all_goals simp -implicitDefEqProofs [-leave, h0, h1, h5, h6, hwi, hwj, hil', hr0, hp.1, hp.2.1, hsw]
     ·refine ⟨i, j + 1, ?_⟩
      simp
      refine ⟨by omega, by omega, by omega, hcl, hcs, hcr, ?_, ?_⟩
      ·rw [htk, List.filter_append, hct]
       simp [hpx]
      ·rw [← List.drop_drop, ← List.drop_drop, hcd]
     ·refine ⟨i + 1, j + 1, ?_⟩
      simp
      refine ⟨by omega, by omega, by omega, hcl, hcs.set (by simp [D.still]) i, ?_, ?_, ?_⟩
      ·intro r hr
       rcases List.mem_or_eq_of_mem_set hr with h | h
       ·exact hcr r h
       ·rw [h]; rfl
      ·rw [htk, List.filter_append, List.map_append, ← hct, List.take_add_one]
       simp [hpx, irow, List.take_set, hicl]
       rw [List.set_eq_of_length_le (by simp; omega)]
      ·rw [List.drop_set_of_lt (by omega), ← List.drop_drop, ← List.drop_drop, hcd]
   ·rintro ⟨fr, bs⟩ ⟨cur, rfl, hlt, hcl, hcs, hct, hcd, h0, h5⟩
    simp -implicitDefEqProofs [-leave, h0, h5]
    refine zhk (m) (xs.length) (by simp; rfl) rfl (by first | rfl | omega | (simp [boundD]; done) | (simp [boundD]; omega) | (simp; done) | (simp; omega)) (by first | rfl | omega | (simp [boundD]; done) | (simp [boundD]; omega) | (simp; done) | (simp; omega)) (by omega) (by first | rfl | omega | (simp [boundD]; done) | (simp [boundD]; omega) | (simp; done) | (simp; omega)) rfl (by first | rfl | omega | (simp [boundD]; done) | (simp [boundD]; omega) | (simp; done) | (simp; omega)) ?_
    simp -implicitDefEqProofs [-leave, h0, h5]
    try refine zch (by first | omega | (simp; done) | (simp; omega)) ?_
    try simp -implicitDefEqProofs [-leave, h0, h5]
    have hov := zas (rows := cur) (p := m) (ys := List.replicate (xs.length - m) [D.int IntKind.i64 0]) (by simp; omega)
    refine zhk (0) (m) (by simp; rfl) rfl (by first | rfl | omega | (simp [boundD]; done) | (simp [boundD]; omega) | (simp; done) | (simp; omega)) (by first | rfl | omega | (simp [boundD]; done) | (simp [boundD]; omega) | (simp; done) | (simp; omega)) (by omega) (by first | rfl | omega | (simp [boundD]; done) | (simp [boundD]; omega) | (simp; done) | (simp; omega)) rfl (by first | rfl | omega | (simp [boundD]; done) | (simp [boundD]; omega) | (simp; done) | (simp; omega)) ?_
    simp -implicitDefEqProofs [-leave, h0, h5]
    rw [zcn (by omega) (by simpa using hcs.ovr (b := List.replicate (xs.length - m) [D.int IntKind.i64 0]) (fun r hr d hd => by rw [(List.mem_replicate.1 hr).2] at hd; rw [List.mem_singleton.1 hd]; rfl) m)]
    simp only [List.take_succ_cons, List.take_zero, ovr, List.length_replicate, hct, show m + (xs.length - m) = xs.length by omega, hcd, List.append_assoc]
   ·rintro ⟨fr, bs⟩ h
    exact h.elim
  ·refine zbg rfl rfl rfl ?_ ?_ (.inl rfl)
   ·simp; omega
   ·rw [List.drop_zero, List.append_assoc, List.take_left' (by simpa using hm)]
theorem znq (xs : List Int) (id : Int) (hl : xs.length ≤ cap) : Den PP 112 [intsD xs, .int .i64 id] [] (.tup [.ref 0 0 (withP xs id).1.length, .int .i64 (withP xs id).2]) [⟨(withP xs id).1.map irow, 1, .mut⟩] := by
 have c1 := zgj xs hl
 have c2 := fun h : xs.length ≤ 16 => zmd (xs.map irow) (by simp) (by simp; omega)
 have c3 := fun h => zxm xs id hl h
 simp only [intsD, List.length_map] at c1 c2 c3
 refine zgc [25, 31] [31] [31] [] (fun _ h => absurd h List.not_mem_nil) zqb ?_
 simp -implicitDefEqProofs [zki, intsD]
 refine zaa c1 ?_
 simp -implicitDefEqProofs
 refine zad (fun h1 => ?_) (fun h1 => ?_)
 rotate_left
 ·simp -implicitDefEqProofs [h1, withP]
 obtain ⟨hr, hp, h16⟩ := (zci xs).1 h1
 simp -implicitDefEqProofs [h1]
 refine zaa (zau id) ?_
 simp -implicitDefEqProofs
 refine zai (fun h2 => ?_) (fun h2 => ?_)
 rotate_left
 ·simp -implicitDefEqProofs [h1, h2, withP]
 simp -implicitDefEqProofs [h1, h2]
 refine zaa (c3 hr) ?_
 simp -implicitDefEqProofs
 refine zaf (fun h3 => ?_) (fun h3 => ?_)
 ·have h4 := (zzb hr).1 h3
  simp -implicitDefEqProofs
  refine zaa (c2 h16) ?_
  simp -implicitDefEqProofs [h1, h2, h4, withP]
 ·have h4 : ¬ id ∈ xs := fun h => h3 ((zzb hr).2 h)
  simp -implicitDefEqProofs
  refine zaf (fun h5 => ?_) (fun h5 => ?_)
  ·have h5' : xs.length = 16 := by omega
   simp -implicitDefEqProofs [h1, h2, h4, h5', withP]
  ·have h5' : ¬ xs.length = 16 := by omega
   simp -implicitDefEqProofs
   refine zaa (c2 h16) ?_
   simp -implicitDefEqProofs
   refine zel rfl (by simp) (by simp) (by simp) (z1o (xs.map irow) (irow id) (posI xs id) (by simp) (StillR.map _ _ fun a _ d hd => by rw [List.mem_singleton.1 hd]; rfl) (by intro r hr; rw [List.mem_singleton.1 hr]; exact ⟨rfl, rfl⟩) (by intro d hd; rw [List.mem_singleton.1 hd]; rfl) (by simpa using z3z xs id) (by simp; omega)) ?_
   rw [← zoh, zv8]
   simp -implicitDefEqProofs [downTo, h1, h2, h4, h5', withP]
theorem zfc (id a : Int) : Den PP 224 [.int .i64 a, .mem [.int .i64 id]] [] (.bool (decide (a = id))) [] := by
 refine zah [] [] zkf ?_
 simp -implicitDefEqProofs [zgi]
theorem zp2 (xs : List Int) (id : Int) (hl : xs.length ≤ cap) : Den PP 191 [intsD xs, .int .i64 id] [] (.tup [.ref 0 0 (withoutP xs id).1.length, .int .i64 (withoutP xs id).2]) [⟨(withoutP xs id).1.map irow, 1, .mut⟩] := by
 have c1 := zgj xs hl
 have c2 := fun h : xs.length ≤ 16 => zmd (xs.map irow) (by simp) (by simp; omega)
 have c3 := fun h : xs.length ≤ 16 => zhb xs 224 [.mem [.int .i64 id]] (fun a => decide (a = id)) ⟨fun _ => rfl, fun _ _ => rfl, fun a _ => zfc id a⟩ (by omega)
 simp only [intsD, List.length_map] at c1 c2
 refine zgc [17] [17] [17] [] (fun _ h => absurd h List.not_mem_nil) zmi ?_
 simp -implicitDefEqProofs [zhi, intsD]
 refine zaa c1 ?_
 simp -implicitDefEqProofs
 refine zad (fun h1 => ?_) (fun h1 => ?_)
 rotate_left
 ·simp -implicitDefEqProofs [h1, withoutP]
 obtain ⟨hr, hp, h16⟩ := (zci xs).1 h1
 simp -implicitDefEqProofs [h1]
 refine zaa (zau id) ?_
 simp -implicitDefEqProofs
 refine zai (fun h2 => ?_) (fun h2 => ?_)
 rotate_left
 ·simp -implicitDefEqProofs [h1, h2, withoutP]
 simp -implicitDefEqProofs [h1, h2]
 refine zaa (c2 h16) ?_
 simp -implicitDefEqProofs
 refine zel rfl (by simp) (by simp) (by simp) (c3 h16) ?_
 simp -implicitDefEqProofs [downTo, h1, h2, withoutP]
end Go.AM
/- AM: contracts: the document's answers about views, more. -/
namespace Go.AM
set_option linter.unusedSimpArgs false
set_option linter.unusedVariables false
set_option maxRecDepth 8000
set_option maxHeartbeats 0
end Go.AM
/- AM: contracts: items, stores, nodes. -/
namespace Go.AM
set_option linter.unusedSimpArgs false
set_option linter.unusedVariables false
set_option maxRecDepth 8000
set_option maxHeartbeats 0
theorem zpn (c w : Int) : Den PP 195 [.agg [.int .i64 c, .int .i64 w]] [] (.bool (verMay c w)) [] := by
 refine zah [] [] zqk ?_
 simp -implicitDefEqProofs [zlw]
 repeat' ((first | refine zaa (by first | exact zau _) ?_ | ((with_reducible first | refine zal ?_ ?_ | refine zaj ?_ ?_ | refine zaf ?_ ?_ | refine zae ?_ ?_) <;> intro _) | ((with_reducible first | refine zap ?_ ?_ | refine zaq ?_ ?_ | refine zan ?_ ?_ | refine zad ?_ ?_ | refine zak ?_ ?_ | refine zao ?_ ?_ | refine zai ?_ ?_ | refine zab ?_ ?_) <;> intro hq <;> (try simp at hq)) | refine zag (by omega) ?_ | refine zam (by omega) ?_) <;> simp -implicitDefEqProofs [*, verMay])
theorem zeb (x : Int) : Den PP 149 [.int .i64 x] [] (.bool (byte x)) [] := by
 refine zah [] [] zul ?_
 simp -implicitDefEqProofs [zps]
 repeat' ((first | ((with_reducible first | refine zal ?_ ?_ | refine zaj ?_ ?_ | refine zaf ?_ ?_ | refine zae ?_ ?_) <;> intro _) | ((with_reducible first | refine zap ?_ ?_ | refine zaq ?_ ?_ | refine zan ?_ ?_ | refine zad ?_ ?_ | refine zak ?_ ?_ | refine zao ?_ ?_ | refine zai ?_ ?_ | refine zab ?_ ?_) <;> intro hq <;> (try simp at hq)) | refine zag (by omega) ?_ | refine zam (by omega) ?_) <;> simp -implicitDefEqProofs [*, byte])
theorem zjz (i : Item) : Den PP 123 [.agg i.row] [] (.bool (itemMay i)) [] := by
 refine zah [] [] zxo ?_
 simp -implicitDefEqProofs [zrg, Item.row]
 repeat' ((first | refine zaa (by first | exact zeb _ | exact zpn _ _) ?_ | ((with_reducible first | refine zal ?_ ?_ | refine zaj ?_ ?_ | refine zaf ?_ ?_ | refine zae ?_ ?_) <;> intro _) | ((with_reducible first | refine zap ?_ ?_ | refine zaq ?_ ?_ | refine zan ?_ ?_ | refine zad ?_ ?_ | refine zak ?_ ?_ | refine zao ?_ ?_ | refine zai ?_ ?_ | refine zab ?_ ?_) <;> intro hq <;> (try simp at hq)) | refine zag (by omega) ?_ | refine zam (by omega) ?_) <;> simp -implicitDefEqProofs [*, itemMay])
theorem zuq (k c w v : Int) (g : Bool) : Den PP 123 [.agg [.int .i64 k, .int .i64 c, .int .i64 w, .int .i64 v, .bool g]] [] (.bool (itemMay ⟨k, c, w, v, g⟩)) [] := zjz ⟨k, c, w, v, g⟩
def prevKey (is : List Item) (i : Nat) : Option Int := if i = 0 then none else (is[i - 1]?).map Item.key
theorem zpo (is : List Item) (hl : is.length ≤ cap16) : Den PP 115 [itemsD is] [] (.bool (storeMay is)) [] := by
 obtain ⟨A, hA⟩ : ∃ A, itemsOk none is = A := ⟨_, rfl⟩
 unfold cap16 at hl
 refine zah [] [] zt9 ?_
 simp -implicitDefEqProofs [zoy, itemsD]
 refine za7 is (fun i rest => fun ⟨fr, bs⟩ => bs = [] ∧ fr 0 = itemsD is ∧ fr 5 = itemsD is ∧ fr 6 = .int .i64 is.length ∧ fr 7 = .int .i64 i ∧ itemsOk (prevKey is i) rest = A)
  (fun ⟨fr, bs⟩ => bs = [] ∧ fr 0 = itemsD is ∧ A = true) (fun ⟨fr, bs⟩ => fr 2 = .bool false ∧ A = false) zkp.eq_1 ?_ ?_ ?_ ?_ ?_
 ·exact ⟨rfl, rfl, rfl, rfl, rfl, hA⟩
 ·rintro i ⟨fr, bs⟩ hi ⟨rfl, h0, h5, h6, h7, he⟩
  simp -implicitDefEqProofs [h0, h5, h6, h7, hi]
  simpa [itemsOk] using he.symm
 ·rintro i a rest ⟨fr, bs⟩ hlt hget hg hd hd2 ⟨rfl, h0, h5, h6, h7, he⟩
  have hlt' : (i : Int) < is.length := by omega
  have hw := za1 (n := i) (by omega)
  have c1 := zjz a
  simp [Item.row] at c1
  simp only [itemsOk] at he
  have hp : prevKey is (i + 1) = some a.key := by simp [prevKey, hget]
  cases i with
  | zero =>
    simp [prevKey] at he
    simp -implicitDefEqProofs [h0, h5, h6, h7, hlt, hlt', hget, hg, itemsD, Item.row]
    repeat' ((first | refine zaa (by first | exact c1) ?_ | ((with_reducible first | refine zal ?_ ?_ | refine zaj ?_ ?_ | refine zaf ?_ ?_ | refine zae ?_ ?_) <;> intro _) | ((with_reducible first | refine zap ?_ ?_ | refine zaq ?_ ?_ | refine zan ?_ ?_ | refine zad ?_ ?_ | refine zak ?_ ?_ | refine zao ?_ ?_ | refine zai ?_ ?_ | refine zab ?_ ?_) <;> intro hq <;> (try simp at hq)) | refine zag (by omega) ?_ | refine zam (by omega) ?_) <;> simp -implicitDefEqProofs [*, itemsD, Item.row, hw])
    all_goals grind
  | succ j =>
    have hj : j < is.length := by omega
    have hj' : (j : Int) < is.length := by omega
    have hjw : IntKind.wrap .i64 (j : Int) = j := zax (by omega) (by omega)
    obtain ⟨b, hb⟩ : ∃ b, is[j] = b := ⟨_, rfl⟩
    have hpj : prevKey is (j + 1) = some b.key := by simp [prevKey, hj, hb]
    rw [hpj] at he
    simp -implicitDefEqProofs [h0, h5, h6, h7, hlt, hlt', hget, hg, itemsD, Item.row]
    repeat' ((first | refine zaa (by first | exact c1) ?_ | ((with_reducible first | refine zal ?_ ?_ | refine zaj ?_ ?_ | refine zaf ?_ ?_ | refine zae ?_ ?_) <;> intro _) | ((with_reducible first | refine zap ?_ ?_ | refine zaq ?_ ?_ | refine zan ?_ ?_ | refine zad ?_ ?_ | refine zak ?_ ?_ | refine zao ?_ ?_ | refine zai ?_ ?_ | refine zab ?_ ?_) <;> intro hq <;> (try simp at hq)) | refine zag (by omega) ?_ | refine zam (by omega) ?_) <;> simp -implicitDefEqProofs [*, itemsD, Item.row, hw, hb])
    all_goals grind
 ·rintro ⟨fr, bs⟩ ⟨rfl, h0, h1⟩
  simp -implicitDefEqProofs [h0, itemsD, storeMay, hA, h1]
  omega
 ·rintro ⟨fr, bs⟩ h
  simp -implicitDefEqProofs [h.1, h.2, storeMay, hA]
theorem z7f (t : Told) : Den PP 117 [.agg t.row] [] (.bool (toldOdd t)) [] := by
 refine zah [] [] zwx ?_
 simp -implicitDefEqProofs [zr1, Told.row]
 repeat' ((first | refine zaa (by first | exact zeb _) ?_ | ((with_reducible first | refine zal ?_ ?_ | refine zaj ?_ ?_ | refine zaf ?_ ?_ | refine zae ?_ ?_) <;> intro _) | ((with_reducible first | refine zap ?_ ?_ | refine zaq ?_ ?_ | refine zan ?_ ?_ | refine zad ?_ ?_ | refine zak ?_ ?_ | refine zao ?_ ?_ | refine zai ?_ ?_ | refine zab ?_ ?_) <;> intro hq <;> (try simp at hq)) | refine zag (by omega) ?_ | refine zam (by omega) ?_) <;> simp -implicitDefEqProofs [*, toldOdd])
end Go.AM
/- AM: contracts: nodes, sharing. -/
namespace Go.AM
set_option linter.unusedSimpArgs false
set_option linter.unusedVariables false
set_option maxRecDepth 8000
set_option maxHeartbeats 0
theorem zjl (xs : List Told) (hl : xs.length ≤ cap) : Den PP 189 [toldsD xs, .fn 117 [] []] [] (.int .i64 (gIdx toldOdd 0 xs)) [] := by
 obtain ⟨A, hA⟩ : ∃ A, gIdx toldOdd 0 xs = A := ⟨_, rfl⟩
 unfold cap at hl
 refine zah [] [] zd5 ?_
 simp -implicitDefEqProofs [zcr, toldsD, hA]
 refine za7 xs (fun i rest => fun ⟨fr, bs⟩ => bs = [] ∧ fr 0 = toldsD xs ∧ fr 1 = .fn 117 [] [] ∧ fr 7 = .int .i64 xs.length ∧ fr 8 = .int .i64 i ∧ gIdx toldOdd i rest = A)
  (fun ⟨fr, bs⟩ => bs = [] ∧ A = -1) (fun ⟨fr, bs⟩ => fr 4 = .int .i64 A) zck.eq_1 ?_ ?_ ?_ ?_ ?_
 ·exact ⟨rfl, rfl, rfl, rfl, rfl, hA⟩
 ·rintro i ⟨fr, bs⟩ hi ⟨rfl, h0, h1, h7, h8, he⟩
  simp -implicitDefEqProofs [h0, h1, h7, h8, hi]
  simpa [gIdx] using he.symm
 ·rintro i a rest ⟨fr, bs⟩ hlt hget hg hd hd2 ⟨rfl, h0, h1, h7, h8, he⟩
  have hlt' : (i : Int) < xs.length := by omega
  have hw := za1 (n := i) (by omega)
  have c1 := z7f a
  simp [Told.row] at c1
  simp only [gIdx] at he
  simp -implicitDefEqProofs [h0, h1, h7, h8, hlt, hlt', hget, hg, toldsD, Told.row]
  repeat' ((first | refine zaa (by first | exact c1) ?_ | ((with_reducible first | refine zal ?_ ?_ | refine zaj ?_ ?_ | refine zaf ?_ ?_ | refine zae ?_ ?_) <;> intro _) | ((with_reducible first | refine zap ?_ ?_ | refine zaq ?_ ?_ | refine zan ?_ ?_ | refine zad ?_ ?_ | refine zak ?_ ?_ | refine zao ?_ ?_ | refine zai ?_ ?_ | refine zab ?_ ?_) <;> intro hq <;> (try simp at hq)) | refine zag (by omega) ?_ | refine zam (by omega) ?_) <;> simp -implicitDefEqProofs [*, toldsD, Told.row, hw])
  all_goals grind
 ·rintro ⟨fr, bs⟩ ⟨rfl, h1⟩
  simp -implicitDefEqProofs [h1]
 ·rintro ⟨fr, bs⟩ h
  simp -implicitDefEqProofs [h]
theorem zhl (xs : List Told) (hl : xs.length ≤ cap) : Den PP 116 [toldsD xs, .fn 117 [] []] [] (.bool (xs.any toldOdd)) [] := by
 have c1 := zjl xs hl
 have h1 := zst toldOdd xs 0
 obtain ⟨A, hA⟩ : ∃ A, xs.any toldOdd = A := ⟨_, rfl⟩
 rw [hA] at h1
 simp [toldsD] at c1
 refine zah [] [] zdr ?_
 simp -implicitDefEqProofs [zcj, toldsD]
 refine zaa c1 ?_
 simp -implicitDefEqProofs [h1, hA]
theorem zzv (x : Node) (hs : x.small) : Den PP 40 [nodeD x] [] (.bool (nodeMay x)) [] := by
 obtain ⟨h1, h2, h3⟩ := hs
 have c1 := zj5 x.view h1
 have c2 := zpo x.items (by unfold cap16; omega)
 have c3 := zhl x.log (by unfold cap; omega)
 obtain ⟨A, hA⟩ : ∃ A, x.log.any toldOdd = A := ⟨_, rfl⟩
 rw [hA] at c3
 simp [viewD, View.cells, peersD, intsD, itemsD, toldsD] at c1 c2 c3
 obtain ⟨hp, hq⟩ := h1
 unfold cap16 at hp
 unfold cap at hq
 have w1 : IntKind.wrap .i64 ((x.view.peers.length : Int) + x.view.passive.length) = x.view.peers.length + x.view.passive.length := zax (by omega) (by omega)
 have w2 : IntKind.wrap .i64 ((x.view.peers.length : Int) + x.view.passive.length + x.items.length) = x.view.peers.length + x.view.passive.length + x.items.length := zax (by omega) (by omega)
 have w3 : IntKind.wrap .i64 ((x.view.peers.length : Int) + x.view.passive.length + x.items.length + x.log.length) = x.view.peers.length + x.view.passive.length + x.items.length + x.log.length := zax (by omega) (by omega)
 refine zah [] [] zyf ?_
 simp -implicitDefEqProofs [zsa, nodeD, Node.cells, peersD, intsD, itemsD, toldsD]
 repeat' ((first | refine zaa (by first | exact c1 | exact c2 | exact c3) ?_ | ((with_reducible first | refine zal ?_ ?_ | refine zaj ?_ ?_ | refine zaf ?_ ?_ | refine zae ?_ ?_) <;> intro _) | ((with_reducible first | refine zap ?_ ?_ | refine zaq ?_ ?_ | refine zan ?_ ?_ | refine zad ?_ ?_ | refine zak ?_ ?_ | refine zao ?_ ?_ | refine zai ?_ ?_ | refine zab ?_ ?_) <;> intro hq <;> (try simp at hq)) | refine zag (by omega) ?_ | refine zam (by omega) ?_) <;> simp -implicitDefEqProofs [*, w1, w2, w3])
 all_goals simp only [nodeMay, emptyN, hA]
 all_goals grind
theorem zd6 (x : Node) (hs : x.small) : Den PP 84 [nodeD x] [] (.bool (nodeUp x)) [] := by
 have c1 := zzv x hs
 simp only [nodeD, Node.cells, peersD, intsD, itemsD, toldsD] at c1
 refine zah [] [] z0g ?_
 cases hu : x.up
 all_goals
  rw [hu] at c1
  simp -implicitDefEqProofs [zue, nodeD, Node.cells, peersD, intsD, itemsD, toldsD, hu]
  repeat' ((first | refine zaa (by first | exact c1) ?_ | ((with_reducible first | refine zal ?_ ?_ | refine zaj ?_ ?_ | refine zaf ?_ ?_ | refine zae ?_ ?_) <;> intro _) | ((with_reducible first | refine zap ?_ ?_ | refine zaq ?_ ?_ | refine zan ?_ ?_ | refine zad ?_ ?_ | refine zak ?_ ?_ | refine zao ?_ ?_ | refine zai ?_ ?_ | refine zab ?_ ?_) <;> intro hq <;> (try simp at hq)) | refine zag (by omega) ?_ | refine zam (by omega) ?_) <;> simp -implicitDefEqProofs [*])
  all_goals simp [nodeUp, hu]
theorem z7e (x : Node) (hs : x.small) : Den PP 39 [nodeD x] [] (.tup [.ref 0 0 (shareOf x).1.length, .int .i64 (shareOf x).2]) [⟨(shareOf x).1.map Msg.row0, 11, .mut⟩] := by
 have c1 := zd6 x hs
 have c2 := z3c x.view hs.1
 have c3 := fun k => zm0 x.view k hs.1
 simp only [nodeD, Node.cells, viewD, View.cells, peersD, intsD, itemsD, toldsD, pairD] at c1 c2 c3
 obtain ⟨h1, h2, h3⟩ := hs
 refine zah [] [] zxi ?_
 simp -implicitDefEqProofs [zrk, nodeD, Node.cells, peersD, intsD, itemsD, toldsD]
 repeat' ((first | refine zaa (by first | exact c1 | exact c2) ?_ | ((with_reducible first | refine zal ?_ ?_ | refine zaj ?_ ?_ | refine zaf ?_ ?_ | refine zae ?_ ?_) <;> intro _) | ((with_reducible first | refine zap ?_ ?_ | refine zaq ?_ ?_ | refine zan ?_ ?_ | refine zad ?_ ?_ | refine zak ?_ ?_ | refine zao ?_ ?_ | refine zai ?_ ?_ | refine zab ?_ ?_) <;> intro hq <;> (try simp at hq)) | refine zag (by omega) ?_ | refine zam (by omega) ?_) <;> simp -implicitDefEqProofs [*, shareOf])
 have hu : x.items.length ≤ 16 := by
  have := ‹nodeUp x = true›
  simp only [nodeUp, nodeMay, storeMay, Bool.and_eq_true, decide_eq_true_eq] at this
  exact this.2.1.1.2.2
 have hf : ∀ i, ((x.items.take i).filterMap (shareOne x)).length ≤ 16 := fun i => Nat.le_trans (List.length_filterMap_le _ _) (by simp; omega)
 refine za7 x.items (fun i rest => fun ⟨fr, bs⟩ => bs = [⟨[x.cells], 6, .box⟩, ⟨[], 11, .mut⟩, ⟨((x.items.take i).filterMap (shareOne x)).map Msg.row0, 11, .mut⟩] ∧ fr 1 = .ptr 0 0 0 ∧ fr 4 = .ref 2 0 ((x.items.take i).filterMap (shareOne x)).length ∧ fr 5 = .int .i64 (succV x.view).1 ∧ fr 21 = itemsD x.items ∧ fr 22 = .int .i64 x.items.length ∧ fr 23 = .int .i64 i)
  (fun ⟨fr, bs⟩ => bs = [⟨[x.cells], 6, .box⟩, ⟨[], 11, .mut⟩, ⟨(x.items.filterMap (shareOne x)).map Msg.row0, 11, .mut⟩] ∧ fr 4 = .ref 2 0 (x.items.filterMap (shareOne x)).length) (fun ⟨fr, bs⟩ => False) zk8.eq_1 ?_ ?_ ?_ ?_ ?_
 ·exact ⟨rfl, rfl, rfl, rfl, rfl, rfl, rfl⟩
 ·rintro i ⟨fr, bs⟩ hi ⟨rfl, h1', h4, h5, h21, h22, h23⟩
  simp -implicitDefEqProofs [h1', h4, h5, h21, h22, h23, hi]
 ·rintro i a rest ⟨fr, bs⟩ hlt hget hg hd hd2 ⟨rfl, h1', h4, h5, h21, h22, h23⟩
  have hlt' : (i : Int) < x.items.length := by omega
  have hw := za1 (n := i) (by omega)
  have htk : x.items.take (i + 1) = x.items.take i ++ [a] := by rw [List.take_add_one, hget]; rfl
  have c4 := c3 a.key
  have hfi := hf i
  generalize hacc : (x.items.take i).filterMap (shareOne x) = acc at *
  clear c3 hf
  simp -implicitDefEqProofs [h1', h4, h5, h21, h22, h23, hlt, hlt', hget, hg, Node.cells, peersD, intsD, itemsD, toldsD, Item.row]
  repeat' ((first | refine zaa (by first | exact c4) ?_ | ((with_reducible first | refine zal ?_ ?_ | refine zaj ?_ ?_ | refine zaf ?_ ?_ | refine zae ?_ ?_) <;> intro _) | ((with_reducible first | refine zap ?_ ?_ | refine zaq ?_ ?_ | refine zan ?_ ?_ | refine zad ?_ ?_ | refine zak ?_ ?_ | refine zao ?_ ?_ | refine zai ?_ ?_ | refine zab ?_ ?_) <;> intro hq <;> (try simp at hq)) | refine zag (by omega) ?_ | refine zam (by omega) ?_) <;> simp -implicitDefEqProofs [*, Node.cells, peersD, intsD, itemsD, toldsD, Item.row, hw, htk, hacc, Fits, shareOne, Msg.row0])
 ·rintro ⟨fr, bs⟩ ⟨rfl, h1⟩
  simp -implicitDefEqProofs [h1]
 ·rintro ⟨fr, bs⟩ h
  exact h.elim
end Go.AM
/- AM: contracts: what the statements' own helpers do with items, messages, nodes. -/
namespace Go.AM
set_option linter.unusedSimpArgs false
set_option linter.unusedVariables false
set_option maxRecDepth 8000
set_option maxHeartbeats 0
theorem zs1 (xs ys : List Item) (hl : xs.length ≤ cap) : Den PP 44 [itemsD xs, itemsD ys] [] (.bool (decide (xs = ys))) [] := by
 refine zah [] [] zic ?_
 simp -implicitDefEqProofs [ze6, itemsD]
 refine zab (fun h => ?_) (fun h => ?_)
 ·simp -implicitDefEqProofs
  grind
 have hlen : xs.length = ys.length := by simp at h; omega
 simp -implicitDefEqProofs
 refine za7 xs (fun i rest => fun ⟨fr, bs⟩ => bs = [] ∧ fr 0 = .sl (xs.map Item.row) xs.length ∧ fr 1 = .sl (ys.map Item.row) ys.length ∧ fr 5 = .int .i64 i ∧ (rest = ys.drop i ↔ xs = ys))
  (fun ⟨fr, bs⟩ => bs = [] ∧ xs = ys) (fun ⟨fr, bs⟩ => fr 4 = .bool false ∧ ¬ xs = ys) zec.eq_1 ?_ ?_ ?_ ?_ ?_
 ·exact ⟨rfl, rfl, rfl, rfl, by simp⟩
 ·rintro i ⟨fr, bs⟩ hi ⟨rfl, h0, h1, h5, he⟩
  simp -implicitDefEqProofs [*]
  grind
 ·rintro i a rest ⟨fr, bs⟩ hlt hget hg hd hd2 ⟨rfl, h0, h1, h5, he⟩
  have hlt' : (i : Int) < xs.length := by omega
  have hlt2 : i < ys.length := by omega
  have hlt3 : (i : Int) < ys.length := by omega
  have hw := za1 (n := i) (by unfold cap at hl; omega)
  rw [List.drop_eq_getElem_cons hlt2] at he
  generalize hy : ys[i] = b at he
  simp -implicitDefEqProofs [h0, h1, h5, hlt, hlt', hlt2, hlt3, hget, hg, hy, Item.row, EQS]
  repeat' ((first | ((with_reducible first | refine zal ?_ ?_ | refine zaj ?_ ?_ | refine zaf ?_ ?_ | refine zae ?_ ?_) <;> intro _) | ((with_reducible first | refine zap ?_ ?_ | refine zaq ?_ ?_ | refine zan ?_ ?_ | refine zad ?_ ?_ | refine zak ?_ ?_ | refine zao ?_ ?_ | refine zai ?_ ?_ | refine zab ?_ ?_) <;> intro hq <;> (try simp at hq)) | refine zag (by omega) ?_ | refine zam (by omega) ?_) <;> simp -implicitDefEqProofs [*, EQS, hw, Item.row])
  all_goals (obtain ⟨_, _, _, _, _⟩ := a; obtain ⟨_, _, _, _, _⟩ := b; grind)
 ·rintro ⟨fr, bs⟩ ⟨rfl, h6⟩
  simp -implicitDefEqProofs [*]
 ·rintro ⟨fr, bs⟩ h
  simp -implicitDefEqProofs [h.1, h.2]
theorem zs0 (xs ys : List Told) (hl : xs.length ≤ cap) : Den PP 99 [toldsD xs, toldsD ys] [] (.bool (decide (xs = ys))) [] := by
 refine zah [] [] zh6 ?_
 simp -implicitDefEqProofs [ze4, toldsD]
 refine zab (fun h => ?_) (fun h => ?_)
 ·simp -implicitDefEqProofs
  grind
 have hlen : xs.length = ys.length := by simp at h; omega
 simp -implicitDefEqProofs
 refine za7 xs (fun i rest => fun ⟨fr, bs⟩ => bs = [] ∧ fr 0 = .sl (xs.map Told.row) xs.length ∧ fr 1 = .sl (ys.map Told.row) ys.length ∧ fr 5 = .int .i64 i ∧ (rest = ys.drop i ↔ xs = ys))
  (fun ⟨fr, bs⟩ => bs = [] ∧ xs = ys) (fun ⟨fr, bs⟩ => fr 4 = .bool false ∧ ¬ xs = ys) zd8.eq_1 ?_ ?_ ?_ ?_ ?_
 ·exact ⟨rfl, rfl, rfl, rfl, by simp⟩
 ·rintro i ⟨fr, bs⟩ hi ⟨rfl, h0, h1, h5, he⟩
  simp -implicitDefEqProofs [*]
  grind
 ·rintro i a rest ⟨fr, bs⟩ hlt hget hg hd hd2 ⟨rfl, h0, h1, h5, he⟩
  have hlt' : (i : Int) < xs.length := by omega
  have hlt2 : i < ys.length := by omega
  have hlt3 : (i : Int) < ys.length := by omega
  have hw := za1 (n := i) (by unfold cap at hl; omega)
  rw [List.drop_eq_getElem_cons hlt2] at he
  generalize hy : ys[i] = b at he
  simp -implicitDefEqProofs [h0, h1, h5, hlt, hlt', hlt2, hlt3, hget, hg, hy, Told.row, EQS]
  repeat' ((first | ((with_reducible first | refine zal ?_ ?_ | refine zaj ?_ ?_ | refine zaf ?_ ?_ | refine zae ?_ ?_) <;> intro _) | ((with_reducible first | refine zap ?_ ?_ | refine zaq ?_ ?_ | refine zan ?_ ?_ | refine zad ?_ ?_ | refine zak ?_ ?_ | refine zao ?_ ?_ | refine zai ?_ ?_ | refine zab ?_ ?_) <;> intro hq <;> (try simp at hq)) | refine zag (by omega) ?_ | refine zam (by omega) ?_) <;> simp -implicitDefEqProofs [*, EQS, hw, Told.row])
  all_goals (obtain ⟨_, _, _⟩ := a; obtain ⟨_, _, _⟩ := b; grind)
 ·rintro ⟨fr, bs⟩ ⟨rfl, h6⟩
  simp -implicitDefEqProofs [*]
 ·rintro ⟨fr, bs⟩ h
  simp -implicitDefEqProofs [h.1, h.2]
theorem zyx (a b : Msg) (hl : a.ids.length ≤ cap) : Den PP 34 [msgD a, msgD b] [] (.bool (decide (a = b))) [] := by
 have h1 := zn1 a.ids b.ids hl
 simp only [intsD] at h1
 refine zah [] [] zjd ?_
 simp -implicitDefEqProofs [zf0, msgD, Msg.row, intsD, EQS]
 repeat' ((first | refine zaa (by first | exact h1) ?_ | ((with_reducible first | refine zal ?_ ?_ | refine zaj ?_ ?_ | refine zaf ?_ ?_ | refine zae ?_ ?_) <;> intro _) | ((with_reducible first | refine zap ?_ ?_ | refine zaq ?_ ?_ | refine zan ?_ ?_ | refine zad ?_ ?_ | refine zak ?_ ?_ | refine zao ?_ ?_ | refine zai ?_ ?_ | refine zab ?_ ?_) <;> intro hq <;> (try simp at hq)) | refine zag (by omega) ?_ | refine zam (by omega) ?_) <;> simp -implicitDefEqProofs [*, EQS])
 all_goals (obtain ⟨_, _, _, _, _, ⟨_, _, _, _, _⟩, _⟩ := a; obtain ⟨_, _, _, _, _, ⟨_, _, _, _, _⟩, _⟩ := b; grind)
theorem zur (xs ys : List Msg) (hl : xs.length ≤ cap16) (hi : ∀ m ∈ xs, m.ids.length ≤ cap) : Den PP 31 [msgsD xs, msgsD ys] [] (.bool (decide (xs = ys))) [] := by
 refine zah [] [] zi0 ?_
 simp -implicitDefEqProofs [zfj, msgsD]
 refine zab (fun h => ?_) (fun h => ?_)
 ·simp -implicitDefEqProofs
  grind
 have hlen : xs.length = ys.length := by simp at h; omega
 simp -implicitDefEqProofs
 refine za7 xs (fun i rest => fun ⟨fr, bs⟩ => bs = [] ∧ fr 0 = .sl (xs.map Msg.row) xs.length ∧ fr 1 = .sl (ys.map Msg.row) ys.length ∧ fr 5 = .int .i64 i ∧ (rest = ys.drop i ↔ xs = ys))
  (fun ⟨fr, bs⟩ => bs = [] ∧ xs = ys) (fun ⟨fr, bs⟩ => fr 4 = .bool false ∧ ¬ xs = ys) zep.eq_1 ?_ ?_ ?_ ?_ ?_
 ·exact ⟨rfl, rfl, rfl, rfl, by simp⟩
 ·rintro i ⟨fr, bs⟩ hi ⟨rfl, h0, h1, h5, he⟩
  simp -implicitDefEqProofs [*]
  grind
 ·rintro i a rest ⟨fr, bs⟩ hlt hget hg hd hd2 ⟨rfl, h0, h1, h5, he⟩
  have hlt' : (i : Int) < xs.length := by omega
  have hlt2 : i < ys.length := by omega
  have hlt3 : (i : Int) < ys.length := by omega
  have hw := za1 (n := i) (by unfold cap16 at hl; omega)
  rw [List.drop_eq_getElem_cons hlt2] at he
  generalize hy : ys[i] = b at he
  obtain ⟨e, hab⟩ : ∃ e, decide (a = b) = e := ⟨_, rfl⟩
  have c1 := zyx a b (hi a (List.mem_of_getElem? hget))
  rw [hab] at c1
  simp only [msgD, Msg.row] at c1
  simp -implicitDefEqProofs [h0, h1, h5, hlt, hlt', hlt2, hlt3, hget, hg, hy, Msg.row, EQS]
  repeat' ((first | refine zaa (by first | exact c1) ?_ | ((with_reducible first | refine zal ?_ ?_ | refine zaj ?_ ?_ | refine zaf ?_ ?_ | refine zae ?_ ?_) <;> intro _) | ((with_reducible first | refine zap ?_ ?_ | refine zaq ?_ ?_ | refine zan ?_ ?_ | refine zad ?_ ?_ | refine zak ?_ ?_ | refine zao ?_ ?_ | refine zai ?_ ?_ | refine zab ?_ ?_) <;> intro hq <;> (try simp at hq)) | refine zag (by omega) ?_ | refine zam (by omega) ?_) <;> simp -implicitDefEqProofs [*, EQS, hw, Msg.row])
  all_goals (by_cases hq : a = b <;> grind)
 ·rintro ⟨fr, bs⟩ ⟨rfl, h6⟩
  simp -implicitDefEqProofs [*]
 ·rintro ⟨fr, bs⟩ h
  simp -implicitDefEqProofs [h.1, h.2]
theorem zu2 (x y : Node) (hs : x.small) : Den PP 30 [nodeD x, nodeD y] [] (.bool (decide (x = y))) [] := by
 have c1 := zv5 x.view y.view hs.1
 have c2 := zs1 x.items y.items (by have := hs.2.1; unfold cap; omega)
 have c3 := zs0 x.log y.log (by have := hs.2.2; unfold cap; omega)
 simp only [viewD, View.cells, peersD, intsD, itemsD, toldsD] at c1 c2 c3
 refine zah [] [] ziz ?_
 simp -implicitDefEqProofs [zfs, nodeD, Node.cells, peersD, intsD, itemsD, toldsD]
 refine zad (fun h => ?_) (fun h => ?_)
 all_goals simp -implicitDefEqProofs [h]
 all_goals repeat' ((first | refine zaa (by first | exact c1 | exact c2 | exact c3) ?_ | ((with_reducible first | refine zal ?_ ?_ | refine zaj ?_ ?_ | refine zaf ?_ ?_ | refine zae ?_ ?_) <;> intro _) | ((with_reducible first | refine zap ?_ ?_ | refine zaq ?_ ?_ | refine zan ?_ ?_ | refine zad ?_ ?_ | refine zak ?_ ?_ | refine zao ?_ ?_ | refine zai ?_ ?_ | refine zab ?_ ?_) <;> intro hq <;> (try simp at hq)) | refine zag (by omega) ?_ | refine zam (by omega) ?_) <;> simp -implicitDefEqProofs [*])
 all_goals (obtain ⟨_, _, _, _⟩ := x; obtain ⟨_, _, _, _⟩ := y; grind)
end Go.AM
/- AM: contracts: what the statements' helpers do with slices. -/
namespace Go.AM
set_option linter.unusedSimpArgs false
set_option linter.unusedVariables false
set_option maxRecDepth 8000
set_option maxHeartbeats 0
end Go.AM
/- AM: contracts: the document's best, its put; what a node takes. -/
namespace Go.AM
set_option linter.unusedSimpArgs false
set_option linter.unusedVariables false
set_option maxRecDepth 8000
set_option maxHeartbeats 0
def newerR (a b : Item) : Bool × Int := if verMay a.count a.writer && verMay b.count b.writer then (decide (b.count < a.count) || decide (a.count = b.count) && decide (b.writer < a.writer), 0) else (false, 300)
def bestR (a b : Item) : Item × Int := if itemMay a && (itemMay b && decide (a.key = b.key)) then (bestI a b, 0) else (zeroItem, 400)
end Go.AM
/- AM: contracts: the best of two, a store's item, its put. -/
namespace Go.AM
set_option linter.unusedSimpArgs false
set_option linter.unusedVariables false
set_option maxRecDepth 8000
set_option maxHeartbeats 0
theorem ztq (a b : Item) : Den PP 230 [.agg [.int .i64 a.count, .int .i64 a.writer], .agg [.int .i64 b.count, .int .i64 b.writer]] [] (.tup [.bool (newerR a b).1, .int .i64 (newerR a b).2]) [] := by
 refine zah [] [] zn8 ?_
 simp -implicitDefEqProofs [zjp]
 repeat' ((first | refine zaa (by first | exact zpn _ _) ?_ | ((with_reducible first | refine zal ?_ ?_ | refine zaj ?_ ?_ | refine zaf ?_ ?_ | refine zae ?_ ?_) <;> intro _) | ((with_reducible first | refine zap ?_ ?_ | refine zaq ?_ ?_ | refine zan ?_ ?_ | refine zad ?_ ?_ | refine zak ?_ ?_ | refine zao ?_ ?_ | refine zai ?_ ?_ | refine zab ?_ ?_) <;> intro hq <;> (try simp at hq)) | refine zag (by omega) ?_ | refine zam (by omega) ?_) <;> simp -implicitDefEqProofs [*, newerR])
theorem zwp (a b : Item) (ha : verMay a.count a.writer = true) (hb : verMay b.count b.writer = true) : Den PP 196 [.mem a.row, .mem b.row] [] (.bool (better a b)) [] := by
 have c1 := ztq a b
 simp only [newerR, ha, hb, Bool.and_self, if_true] at c1
 obtain ⟨ak, ac, aw, av, ag⟩ := a
 obtain ⟨bk, bc, bw, bv, bg⟩ := b
 simp only [Item.row, better] at c1 ⊢
 clear ha hb
 refine zah [] [] zqi ?_
 by_cases h1 : ac = bc
 ·subst h1
  by_cases h2 : aw = bw
  ·subst h2
   clear c1
   cases ag <;> cases bg
   all_goals simp -implicitDefEqProofs [zf5, EQS]
  ·have h3 : decide (bw < aw) = (decide (bw < aw) || false) := by simp
   simp -implicitDefEqProofs [zf5, EQS, h2]
   simp at c1
   refine zaa c1 ?_
   simp -implicitDefEqProofs [EQS, h2]
 ·simp -implicitDefEqProofs [zf5, EQS, h1]
  simp [h1] at c1
  refine zaa c1 ?_
  simp -implicitDefEqProofs [EQS, h1]
theorem z4o (a b : Item) : Den PP 127 [.agg a.row, .agg b.row] [] (.tup [.agg (bestR a b).1.row, .int .i64 (bestR a b).2]) [] := by
 have c1 := zjz a
 have c2 := zjz b
 have c3 := fun h1 h2 => zwp a b h1 h2
 have hv : itemMay a = true → verMay a.count a.writer = true := by
  intro h; simp only [itemMay, Bool.and_eq_true] at h; exact h.1.2
 have hw : itemMay b = true → verMay b.count b.writer = true := by
  intro h; simp only [itemMay, Bool.and_eq_true] at h; exact h.1.2
 have hbr : bestR a b = if itemMay a && (itemMay b && decide (a.key = b.key)) then (bestI a b, 0) else (zeroItem, 400) := rfl
 obtain ⟨A, hA⟩ : ∃ A, itemMay a = A := ⟨_, rfl⟩
 obtain ⟨B, hB⟩ : ∃ B, itemMay b = B := ⟨_, rfl⟩
 rw [hA] at c1 hv hbr
 rw [hB] at c2 hw hbr
 obtain ⟨r, hr⟩ : ∃ r, bestR a b = r := ⟨_, rfl⟩
 rw [hr] at hbr ⊢
 unfold bestI at hbr
 obtain ⟨q, hq⟩ : ∃ q, better a b = q := ⟨_, rfl⟩
 rw [hq] at c3 hbr
 obtain ⟨ak, ac, aw, av, ag⟩ := a
 obtain ⟨bk, bc, bw, bv, bg⟩ := b
 simp only [Item.row] at c1 c2 c3 hv hw hbr ⊢
 clear hA hB hr hq
 refine zah [] [] zvk ?_
 cases A <;> cases B
 case true.true =>
  have c3' := c3 (hv rfl) (hw rfl)
  clear c3 hv hw
  by_cases hk : ak = bk
  ·subst hk
   cases q
   all_goals
    simp at hbr
    subst hbr
    simp -implicitDefEqProofs [zhw]
    repeat' ((first | refine zaa (by first | exact c1 | exact c2 | exact c3') ?_ | ((with_reducible first | refine zal ?_ ?_ | refine zaj ?_ ?_ | refine zaf ?_ ?_ | refine zae ?_ ?_) <;> intro _) | ((with_reducible first | refine zap ?_ ?_ | refine zaq ?_ ?_ | refine zan ?_ ?_ | refine zad ?_ ?_ | refine zak ?_ ?_ | refine zao ?_ ?_ | refine zai ?_ ?_ | refine zab ?_ ?_) <;> intro hq <;> (try simp at hq)) | refine zag (by omega) ?_ | refine zam (by omega) ?_) <;> simp -implicitDefEqProofs [*])
  ·simp [hk] at hbr
   subst hbr
   simp -implicitDefEqProofs [zhw, zeroItem]
   repeat' ((first | refine zaa (by first | exact c1 | exact c2) ?_ | ((with_reducible first | refine zal ?_ ?_ | refine zaj ?_ ?_ | refine zaf ?_ ?_ | refine zae ?_ ?_) <;> intro _) | ((with_reducible first | refine zap ?_ ?_ | refine zaq ?_ ?_ | refine zan ?_ ?_ | refine zad ?_ ?_ | refine zak ?_ ?_ | refine zao ?_ ?_ | refine zai ?_ ?_ | refine zab ?_ ?_) <;> intro hq <;> (try simp at hq)) | refine zag (by omega) ?_ | refine zam (by omega) ?_) <;> simp -implicitDefEqProofs [*, hk])
 all_goals
  clear c3 hv hw
  simp at hbr
  subst hbr
  simp -implicitDefEqProofs [zhw, zeroItem]
  repeat' ((first | refine zaa (by first | exact c1 | exact c2) ?_ | ((with_reducible first | refine zal ?_ ?_ | refine zaj ?_ ?_ | refine zaf ?_ ?_ | refine zae ?_ ?_) <;> intro _) | ((with_reducible first | refine zap ?_ ?_ | refine zaq ?_ ?_ | refine zan ?_ ?_ | refine zad ?_ ?_ | refine zak ?_ ?_ | refine zao ?_ ?_ | refine zai ?_ ?_ | refine zab ?_ ?_) <;> intro hq <;> (try simp at hq)) | refine zag (by omega) ?_ | refine zam (by omega) ?_) <;> simp -implicitDefEqProofs [*])
theorem zon (x : Item) (k : Int) : Den PP 126 [.agg x.row, .int .i64 k] [] (.int .i64 (keyC k x)) [] := by
 refine zah [] [] zqj ?_
 simp -implicitDefEqProofs [zla, Item.row, keyC]
 repeat' ((first | refine zaa (by first | exact zfa _ _) ?_ | ((with_reducible first | refine zal ?_ ?_ | refine zaj ?_ ?_ | refine zaf ?_ ?_ | refine zae ?_ ?_) <;> intro _) | ((with_reducible first | refine zap ?_ ?_ | refine zaq ?_ ?_ | refine zan ?_ ?_ | refine zad ?_ ?_ | refine zak ?_ ?_ | refine zao ?_ ?_ | refine zai ?_ ?_ | refine zab ?_ ?_) <;> intro hq <;> (try simp at hq)) | refine zag (by omega) ?_ | refine zam (by omega) ?_) <;> simp -implicitDefEqProofs [*])
theorem zlx (is : List Item) (k : Int) (hl : is.length ≤ cap16) : Den PP 130 [itemsD is, .int .i64 k] [] (.tup [.agg (getR is k).1.row, .bool (getR is k).2]) [] := by
 have c1 := zpo is hl
 have c2 := fun h => znv is 126 k (keyC k) (fun x _ => zon x k) (by unfold cap; unfold cap16 at hl; omega) h
 simp only [itemsD] at c1
 refine zah [] [] zu7 ?_
 simp -implicitDefEqProofs [zpt, itemsD]
 refine zaa c1 ?_
 simp -implicitDefEqProofs
 refine zai (fun h1 => ?_) (fun h1 => ?_)
 rotate_left
 ·simp -implicitDefEqProofs [h1, getR, zeroItem, Item.row]
 obtain ⟨hm, hr, h16⟩ := (zc1 is).1 h1
 have hg := z29 hr k
 have hat := fun h => zl7 (c := keyC k) (xs := is) h
 have c3 := c2 (zzk hr k)
 clear c2 c1
 generalize atC (keyC k) is = A at *
 generalize posC (keyC k) is = p at *
 simp -implicitDefEqProofs [h1]
 refine zaa c3 ?_
 cases A with
 | false =>
   simp -implicitDefEqProofs [h1, hg, getR, zeroItem, Item.row]
 | true =>
   obtain ⟨hlt, x, hx, hx0⟩ := hat rfl
   have hlt' : (p : Int) < is.length := by omega
   simp at hg
   rw [hx] at hg
   have hxr : (is.map Item.row)[p]? = some x.row := by simp [hx]
   have hx2 : is[p] = x := by simpa [hlt] using hx
   simp -implicitDefEqProofs [h1, hg, getR, hlt', hlt, hx2, Item.row]
end Go.AM
/- AM: contracts: a store's put. -/
namespace Go.AM
set_option linter.unusedSimpArgs false
set_option linter.unusedVariables false
set_option maxRecDepth 8000
set_option maxHeartbeats 0
theorem zt1 (i : Item) : ∀ d ∈ i.row, d.still = true := by
 intro d hd
 simp [Item.row] at hd
 rcases hd with rfl | rfl | rfl | rfl | rfl <;> rfl
theorem zpe (is : List Item) (x : Item) (hl : is.length ≤ cap16) : Den PP 43 [itemsD is, .agg x.row] [] (.tup [.ref 0 0 (putR is x).1.length, .int .i64 (putR is x).2]) [⟨(putR is x).1.map Item.row, 5, .mut⟩] := by
 have c1 := zpo is hl
 have c0 := zjz x
 have c2 := fun h : is.length ≤ 16 => zr9 (is.map Item.row) (by intro r hr; obtain ⟨a, _, rfl⟩ := List.mem_map.1 hr; exact ⟨rfl, rfl⟩) (by simp; omega)
 have c3 := fun h => znv is 126 x.key (keyC x.key) (fun y _ => zon y x.key) (by unfold cap; unfold cap16 at hl; omega) h
 obtain ⟨r, hr⟩ : ∃ r, putR is x = r := ⟨_, rfl⟩
 have hr' := hr
 unfold putR at hr'
 rw [hr]
 clear hr
 simp only [itemsD, Item.row, List.length_map] at c0 c1 c2
 refine zgc [18, 26] [26] [26] [] (fun _ h => absurd h List.not_mem_nil) zuv ?_
 simp -implicitDefEqProofs [zpl, itemsD, Item.row]
 refine zaa c1 ?_
 simp -implicitDefEqProofs
 cases h1 : storeMay is with
 | false =>
   rw [h1] at hr'
   simp at hr'
   subst hr'
   simp -implicitDefEqProofs
 | true =>
 cases h2 : itemMay x with
 | false =>
   rw [h2] at hr' c0
   simp at hr'
   subst hr'
   simp -implicitDefEqProofs
   repeat' ((first | refine zaa (by first | exact c0) ?_ | ((with_reducible first | refine zal ?_ ?_ | refine zaj ?_ ?_ | refine zaf ?_ ?_ | refine zae ?_ ?_) <;> intro _) | ((with_reducible first | refine zap ?_ ?_ | refine zaq ?_ ?_ | refine zan ?_ ?_ | refine zad ?_ ?_ | refine zak ?_ ?_ | refine zao ?_ ?_ | refine zai ?_ ?_ | refine zab ?_ ?_) <;> intro hq <;> (try simp at hq)) | refine zag (by omega) ?_ | refine zam (by omega) ?_) <;> simp -implicitDefEqProofs [*])
 | true =>
 obtain ⟨hm, hri, h16⟩ := (zc1 is).1 h1
 rw [h1, h2] at hr'
 rw [h2] at c0
 have hlen := zxs x is hri
 have hg := z29 hri x.key
 obtain ⟨hp1, hp2⟩ := z9k x is
 have hat := fun h => zl7 (c := keyC x.key) (xs := is) h
 have hple := zpc (keyC x.key) is
 have c4 := c3 (zzk hri x.key)
 clear c3
 generalize atC (keyC x.key) is = A at *
 generalize posC (keyC x.key) is = p at *
 simp -implicitDefEqProofs
 refine zaa c0 ?_
 simp -implicitDefEqProofs
 refine zaa (c2 h16) ?_
 simp -implicitDefEqProofs [downTo]
 refine zaa c4 ?_
 simp -implicitDefEqProofs [downTo]
 cases A with
 | true =>
   obtain ⟨hlt, y, hy, hy0⟩ := hat rfl
   have hmy := hm y (List.mem_of_getElem? hy)
   have hky : y.key = x.key := by simpa [keyC, zje] using hy0
   have c5 := z4o y x
   have hbr : bestR y x = (bestI y x, 0) := by simp [bestR, hmy, h2, hky]
   have hput := hp1 y hy rfl
   rw [hbr] at c5
   have hr2 : r = (is.set p (bestI y x), 0) := by
    rw [← hr', hput]
    simp [h16]
   subst hr2
   have hlt' : (p : Int) < is.length := by omega
   have hy2 : is[p] = y := by simpa [hlt] using hy
   generalize bestI y x = b at *
   simp only [Item.row] at c5
   clear hr' hput hbr hg hp1 hp2 hat hlen c4 hm hri
   simp -implicitDefEqProofs [hlt, hlt', hy2, Item.row]
   refine zaa c5 ?_
   simp -implicitDefEqProofs [hlt, hlt', hy2, Item.row]
 | false =>
   have hput := hp2 rfl
   simp at hg
   rw [hg] at hlen
   simp at hlen
   rw [hput] at hr' hlen
   by_cases h5 : is.length = 16
   ·have hr2 : r = ([], 501) := by
     rw [← hr']
     simp [h5]
    subst hr2
    clear hr' hput hg hp1 hp2 hat hlen c4 hm hri
    simp -implicitDefEqProofs [h5]
   ·have hr2 : r = (insL is p x, 0) := by
     rw [← hr']
     simp
     omega
    subst hr2
    clear hr' hput hg hp1 hp2 hat hlen c4 hm hri
    have h5' : ¬ (is.length : Int) = 16 := by omega
    simp -implicitDefEqProofs [h5']
    refine zel rfl (by simp) (by simp) (by simp) (zy2 (is.map Item.row) x.row p (by simp [Item.row]) (StillR.map _ _ fun a _ => zt1 a) (by intro r hr; rw [List.mem_singleton.1 hr]; exact ⟨rfl, rfl⟩) (zt1 x) (by simpa using hple) (by simp; omega)) ?_
    rw [← zoh]
    simp -implicitDefEqProofs [downTo]
end Go.AM
/- AM: contracts: what chapter 9's statements build on. -/
namespace Go.AM
set_option linter.unusedSimpArgs false
set_option linter.unusedVariables false
set_option maxRecDepth 8000
set_option maxHeartbeats 0
end Go.AM
/- AM: contracts: the document's nodes and sharing; chapter 18's helpers. -/
namespace Go.AM
set_option linter.unusedSimpArgs false
set_option linter.unusedVariables false
set_option maxRecDepth 8000
set_option maxHeartbeats 0
end Go.AM
/- AM: contracts: messages that may be. -/
namespace Go.AM
set_option linter.unusedSimpArgs false
set_option linter.unusedVariables false
set_option maxRecDepth 8000
set_option maxHeartbeats 0
def noneM (ids : List Int) (key : Int) (i : Item) (has : Bool) : Bool := decide (ids.length = 0) && decide (key = 0) && decide (i = zeroItem) && !has
theorem zvy (kind f t key ik ic iw iv : Int) (ig has : Bool) (ids : List Int) : Den PP 169 [.agg [.int .i64 kind, .int .i64 f, .int .i64 t, .sl (ids.map irow) ids.length, .int .i64 key, .int .i64 ik, .int .i64 ic, .int .i64 iw, .int .i64 iv, .bool ig, .bool has]] [] (.bool (noneM ids key ⟨ik, ic, iw, iv, ig⟩ has)) [] := by
 refine zah [] [] zp9 ?_
 simp -implicitDefEqProofs [zml, EQS]
 repeat' ((first | ((with_reducible first | refine zal ?_ ?_ | refine zaj ?_ ?_ | refine zaf ?_ ?_ | refine zae ?_ ?_) <;> intro _) | ((with_reducible first | refine zap ?_ ?_ | refine zaq ?_ ?_ | refine zan ?_ ?_ | refine zad ?_ ?_ | refine zak ?_ ?_ | refine zao ?_ ?_ | refine zai ?_ ?_ | refine zab ?_ ?_) <;> intro hq <;> (try simp at hq)) | refine zag (by omega) ?_ | refine zam (by omega) ?_) <;> simp -implicitDefEqProofs [*, EQS])
 all_goals (simp only [noneM, zeroItem, Item.mk.injEq]; first | (simp [*]; done) | (simp [*]; grind) | grind)
theorem zi3 (kind f t key ik ic iw iv : Int) (ig has : Bool) : Den PP 169 [.agg [.int .i64 kind, .int .i64 f, .int .i64 t, .nil, .int .i64 key, .int .i64 ik, .int .i64 ic, .int .i64 iw, .int .i64 iv, .bool ig, .bool has]] [] (.bool (noneM [] key ⟨ik, ic, iw, iv, ig⟩ has)) [] := by
 refine zah [] [] zp9 ?_
 simp -implicitDefEqProofs [zml, EQS]
 repeat' ((first | ((with_reducible first | refine zal ?_ ?_ | refine zaj ?_ ?_ | refine zaf ?_ ?_ | refine zae ?_ ?_) <;> intro _) | ((with_reducible first | refine zap ?_ ?_ | refine zaq ?_ ?_ | refine zan ?_ ?_ | refine zad ?_ ?_ | refine zak ?_ ?_ | refine zao ?_ ?_ | refine zai ?_ ?_ | refine zab ?_ ?_) <;> intro hq <;> (try simp at hq)) | refine zag (by omega) ?_ | refine zam (by omega) ?_) <;> simp -implicitDefEqProofs [*, EQS])
 all_goals (simp only [noneM, zeroItem, Item.mk.injEq]; first | (simp [*]; done) | (simp [*]; grind) | grind)
theorem zkr (m : Msg) (hl : m.ids.length ≤ cap) : Den PP 85 [msgD m] [] (.bool (msgMay m)) [] := by
 obtain ⟨kind, from_, to, ids, key, ⟨ik, ic, iw, iv, ig⟩, has⟩ := m
 have c1 := zgl ids hl
 obtain ⟨A, hA⟩ : ∃ A, ids.all place = A := ⟨_, rfl⟩
 rw [hA] at c1
 simp only [intsD] at c1
 refine zah [] [] z2m ?_
 simp -implicitDefEqProofs [zve, msgD, Msg.row, intsD, EQS]
 repeat' ((first | refine zaa (by first | exact c1 | exact zuq _ _ _ _ _ | exact zau _ | exact zvy _ _ _ _ _ _ _ _ _ _ _ | exact zi3 _ _ _ _ _ _ _ _ _ _ | exact zc5 (zi3 _ _ _ _ _ _ _ _ _ _) | exact zc5 (by simpa using zi3 _ _ _ _ _ _ _ _ _ _)) ?_ | ((with_reducible first | refine zal ?_ ?_ | refine zaj ?_ ?_ | refine zaf ?_ ?_ | refine zae ?_ ?_) <;> intro _) | ((with_reducible first | refine zap ?_ ?_ | refine zaq ?_ ?_ | refine zan ?_ ?_ | refine zad ?_ ?_ | refine zak ?_ ?_ | refine zao ?_ ?_ | refine zai ?_ ?_ | refine zab ?_ ?_) <;> intro hq <;> (try simp at hq)) | refine zag (by omega) ?_ | refine zam (by omega) ?_) <;> simp -implicitDefEqProofs [*, EQS])
 all_goals (try simp only [noneM, zeroItem, Item.mk.injEq] at *)
 all_goals (simp only [msgMay, hA, zeroItem, Item.mk.injEq]; first | (simp [*]; done) | (simp [*]; grind) | grind)
end Go.AM
/- AM: contracts: slices.Delete of one. -/
namespace Go.AM
set_option linter.unusedSimpArgs false
set_option linter.unusedVariables false
set_option maxRecDepth 8000
set_option maxHeartbeats 0
theorem zka (rows : List (List D)) (p : Nat) (hf : Fits 11 rows) (hst : StillR rows) (hp : p < rows.length) (hl : rows.length ≤ 1000000) :
 GivesC (DenF PP [0]) 236 rows 11 [.int .i64 p, .int .i64 ((p : Int) + 1)] (rows.take p ++ rows.drop (p + 1)) := by
 refine zh7 (fun r hr => (hf r hr).1) hst fun fl hfl hrow hfs htake hget => ?_
 have hzs : StillR [([D.int IntKind.i64 0, D.int IntKind.i64 0, D.int IntKind.i64 0, D.nil, D.int IntKind.i64 0, D.int IntKind.i64 0, D.int IntKind.i64 0, D.int IntKind.i64 0, D.int IntKind.i64 0, D.bool false, D.bool false] : List D)] := by intro r hr d hd; rw [List.mem_singleton.1 hr] at hd; exact List.all_eq_true.1 (rfl : ([D.int IntKind.i64 0, D.int IntKind.i64 0, D.int IntKind.i64 0, D.nil, D.int IntKind.i64 0, D.int IntKind.i64 0, D.int IntKind.i64 0, D.int IntKind.i64 0, D.int IntKind.i64 0, D.bool false, D.bool false] : List D).all D.still = true) d hd
 generalize hn : rows.length = n at *
 have hfit : Fits 11 (List.take (n - (p + 1)) (List.drop (p + 1) fl)) := by
  intro r hr
  have : r ∈ rows := by
   rw [← htake]
   have h1 : List.take (n - (p + 1)) (List.drop (p + 1) fl) = List.drop (p + 1) (List.take n fl) := by rw [List.drop_take]
   rw [h1] at hr
   exact List.mem_of_mem_drop hr
  exact hf r this
 have hyl : (List.take (n - (p + 1)) (List.drop (p + 1) fl)).length = n - (p + 1) := by simp; omega
 have hne : ¬ (p : Int) = (p : Int) + 1 := by omega
 have hcl : (fl.take p ++ (List.take (n - (p + 1)) (List.drop (p + 1) fl) ++ fl.drop (n - 1))).length = fl.length := by simp; omega
 have hmin : p + min (n - (p + 1)) (fl.length - (p + 1)) = n - 1 := by omega
 have hmin2 : (p : Int) + ((min (n - (p + 1)) (fl.length - (p + 1)) : Nat) : Int) = ((n - 1 : Nat) : Int) := by omega
 have hpn : p + (n - (p + 1)) = n - 1 := by omega
 have hcS : StillR (fl.take p ++ (List.take (n - (p + 1)) (List.drop (p + 1) fl) ++ fl.drop (n - 1))) := (hfs.take _).append (((hfs.drop _).take _).append (hfs.drop _))
 refine ⟨.ref 0 0 (n - 1), [⟨ovr (fl.take p ++ (List.take (n - (p + 1)) (List.drop (p + 1) fl) ++ fl.drop (n - 1))) (n - 1) [[D.int IntKind.i64 0, D.int IntKind.i64 0, D.int IntKind.i64 0, D.nil, D.int IntKind.i64 0, D.int IntKind.i64 0, D.int IntKind.i64 0, D.int IntKind.i64 0, D.int IntKind.i64 0, D.bool false, D.bool false]], 11, .mut⟩], ?_, ?_⟩
 ·refine zc7 [] [] [] [] (by simp) (fun _ h => absurd h List.not_mem_nil) zez ?_
  simp -implicitDefEqProofs [-leave, zc8]
  refine zam (by simp [boundD]; omega) ?_
  simp -implicitDefEqProofs [-leave, hne]
  refine zav (0) (p) ?_
  simp -implicitDefEqProofs [-leave, hne]
  by_cases hE : p + 1 < fl.length
  ·refine zav (p + 1) (n) ?_
   simp -implicitDefEqProofs [-leave, hne, hfit]
   repeat' (first | (refine zag (by omega) ?_) | (refine zbd (by omega) ?_))
   simp -implicitDefEqProofs [-leave, hne, hyl, hpn, hmin, hmin2]
   generalize (fl.take p ++ (List.take (n - (p + 1)) (List.drop (p + 1) fl) ++ fl.drop (n - 1))) = B at *
   refine zav (n - 1) (n) ?_
   simp -implicitDefEqProofs [-leave, hne]
   try refine zch (by first | omega | (simp; done) | (simp; omega)) ?_
   have hnn : n - (n - 1) = 1 := by omega
   try simp -implicitDefEqProofs [-leave, hne, hnn]
   rw [zcn (by omega) (by simpa [hnn] using hcS.ovr hzs (n - 1))]
   simp [hnn]
  ·obtain rfl : n = p + 1 := by omega
   have hB : fl.take p ++ (List.take (p + 1 - (p + 1)) (List.drop (p + 1) fl) ++ fl.drop (p + 1 - 1)) = fl := by simp
   rw [hB] at *
   refine zj0 (p + 1) ?_
   try simp -implicitDefEqProofs [-leave, hne]
   refine ⟨by simp [Fits], ?_⟩
   repeat' (first | (refine zag (by omega) ?_) | (refine zbd (by omega) ?_))
   try simp -implicitDefEqProofs [-leave, hne]
   refine zav (p) (p + 1) ?_
   simp -implicitDefEqProofs [-leave, hne]
   try refine zch (by first | omega | (simp; done) | (simp; omega)) ?_
   try simp -implicitDefEqProofs [-leave, hne]
   rw [zcn (by omega) (by simpa using hcS.ovr hzs p)]
   simp [Fits]
 ·refine zbg rfl rfl rfl ?_ ?_ (.inl rfl)
  ·rw [zas (by rw [hcl]; simp; omega), hcl]
   omega
  ·rw [List.drop_zero, ← htake]
   have h1 : (ovr (fl.take p ++ (List.take (n - (p + 1)) (List.drop (p + 1) fl) ++ fl.drop (n - 1))) (n - 1) [[D.int IntKind.i64 0, D.int IntKind.i64 0, D.int IntKind.i64 0, D.nil, D.int IntKind.i64 0, D.int IntKind.i64 0, D.int IntKind.i64 0, D.int IntKind.i64 0, D.int IntKind.i64 0, D.bool false, D.bool false]]).take (n - 1) = fl.take p ++ List.take (n - (p + 1)) (List.drop (p + 1) fl) := by
    unfold ovr
    rw [List.append_assoc, List.take_append_of_le_length (by simp; omega), List.take_take, Nat.min_self, ← List.append_assoc, List.take_left' (by simp; omega)]
   rw [h1, List.take_take, List.drop_take, Nat.min_eq_left (by omega)]
end Go.AM
/- Plain law: greetings. -/
namespace Go.AM
set_option linter.unusedSimpArgs false
set_option linter.unusedVariables false

def knowsV (v : View) (x : Int) : Bool := (v.peers.map Peer.id).contains x || v.passive.contains x
def roomV (v : View) (x : Int) : Bool := knowsV v x || decide (v.peers.length + v.passive.length < 16)
def knownV (v : View) (x : Int) : View := if roomV v x then ⟨v.id, hearG v.id x false v.peers, v.passive.filter fun y => !decide (y = x)⟩ else v
def tellV (v : View) (x : Int) : View := if !decide (x = v.id) && !knowsV v x then knownV v x else v
def helloV (v : View) (a : Int) (ids : List Int) : View := ids.foldl tellV (knownV v a)
def helloOk (v : View) (a : Int) (ids : List Int) : Bool := viewMay v && (place a && (!decide (a = v.id) && (decide (ids.length ≤ 16) && ids.all place)))

theorem zhm {v : View} (h1 : peersMay v.id v.peers = true) (h2 : passiveMay v.passive = true) (h3 : v.peers.length + v.passive.length ≤ 16) (h4 : ∀ x ∈ v.passive, x ≠ v.id ∧ x ∉ v.peers.map Peer.id) : viewMay v = true := by
 simp only [viewMay, Bool.and_eq_true, decide_eq_true_eq, Bool.not_eq_true']
 refine ⟨⟨⟨h1, h2⟩, h3⟩, ?_⟩
 rw [List.any_eq_false]
 intro x hx
 simp only [oddIn, Bool.or_eq_true, not_or]
 rw [zhq h1 (zd1 h2 x hx)]
 have := h4 x hx
 simpa using this
theorem z10 (v : View) (x : Int) : knowsV v x = true ↔ (∃ q ∈ v.peers, q.id = x) ∨ x ∈ v.passive := by
 simp [knowsV]
theorem zle {b x : Int} {ps : List Peer} (q : Peer) : q ∈ hearG b x false ps ↔ q = ⟨x, 0⟩ ∨ (q ∈ ps ∧ q.id ≠ x) := by
 have hf := zwc b x ps
 constructor
 ·intro h
  by_cases he : q.id = x
  ·exact .inl (zre b x ps q h he)
  ·rcases zzw b x ps q h with h' | h'
   ·exact .inl h'
   ·exact .inr ⟨h', he⟩
 ·rintro (rfl | ⟨h, he⟩)
  ·obtain ⟨q, hq, hi⟩ := z5a b x ps
   rw [← zre b x ps q hq hi]
   exact hq
  ·have : q ∈ (hearG b x false ps).filter fun p => !decide (p.id = x) := by rw [hf]; simp [h, he]
   exact (List.mem_filter.1 this).1
theorem zjt (v : View) (x : Int) : (knownV v x).id = v.id := by
 unfold knownV; split <;> rfl
theorem zjb {v : View} {x : Int} (h : roomV v x = false) : knownV v x = v := by
 unfold knownV; rw [if_neg (by simp [h])]
theorem zgy {v : View} {x : Int} (h : roomV v x = true) (q : Peer) : q ∈ (knownV v x).peers ↔ q = ⟨x, 0⟩ ∨ (q ∈ v.peers ∧ q.id ≠ x) := by
 unfold knownV; rw [if_pos h]; exact zle q
theorem zg9 {v : View} {x : Int} (h : roomV v x = true) (y : Int) : y ∈ (knownV v x).passive ↔ y ∈ v.passive ∧ y ≠ x := by
 unfold knownV; rw [if_pos h]; simp
theorem z7b (v : View) (x : Int) : (tellV v x).id = v.id := by
 unfold tellV; split
 ·exact zjt v x
 ·rfl

def sizeV (v : View) : Nat := v.peers.length + v.passive.length
theorem zn9 {b : Int} {ps : List Peer} (h : peersMay b ps = true) {x : Int} : (ps.filter fun p => !decide (p.id = x)).length + (if (∃ q ∈ ps, q.id = x) then 1 else 0) = ps.length := by
 obtain ⟨hb, _, h1, h2⟩ := zbn.1 h
 clear h h1
 induction ps with
 | nil => simp
 | cons p ps ih =>
   have hp := (List.pairwise_cons.1 h2).1
   have ih := ih (by first | assumption | (rename_i hlen; simp at hlen; omega)) (List.pairwise_cons.1 h2).2
   by_cases he : p.id = x
   ·have hno : ¬ ∃ q ∈ ps, q.id = x := by
     rintro ⟨q, hq, hqx⟩
     have := hp q hq
     rw [he, hqx] at this
     omega
    rw [if_neg hno] at ih
    rw [if_pos ⟨p, by simp, he⟩]
    simp [he]
    simpa using ih
   ·have : (∃ q ∈ p :: ps, q.id = x) ↔ ∃ q ∈ ps, q.id = x := by simp [he]
    simp only [this]
    simp [he]
    omega
theorem zx9 {xs : List Int} (h : passiveMay xs = true) (x : Int) : (xs.filter fun y => !decide (y = x)).length + (if x ∈ xs then 1 else 0) = xs.length := by
 by_cases hx : x ∈ xs
 ·rw [if_pos hx, ← z05 ((zci xs).1 h).1 hx]
 ·rw [if_neg hx, z1y hx]; rfl
theorem zxy {v : View} {x : Int} (hv : viewMay v = true) (h : roomV v x = true) : sizeV (knownV v x) = if knowsV v x then sizeV v else sizeV v + 1 := by
 obtain ⟨h1, h2, h3, h4⟩ := za2 hv
 have e1 := zn9 h1 (x := x)
 have e2 := zx9 h2 x
 have e3 := znw v.id x v.peers
 have hk := z10 v x
 unfold sizeV knownV
 rw [if_pos h]
 simp only
 by_cases hp : ∃ q ∈ v.peers, q.id = x
 ·have hnx : x ∉ v.passive := by
   intro hx
   obtain ⟨q, hq, hqx⟩ := hp
   exact (h4 x hx).2 (List.mem_map.2 ⟨q, hq, hqx⟩)
  rw [if_pos hp] at e1
  rw [if_neg hnx] at e2
  rw [if_pos (hk.2 (.inl hp))]
  omega
 ·rw [if_neg hp] at e1
  by_cases hx : x ∈ v.passive
  ·rw [if_pos hx] at e2
   rw [if_pos (hk.2 (.inr hx))]
   omega
  ·rw [if_neg hx] at e2
   have : ¬ knowsV v x = true := by rw [hk]; simp [hp, hx]
   rw [if_neg this]
   omega
theorem zj4 {v : View} {x : Int} (hv : viewMay v = true) (hx : place x = true) (hn : x ≠ v.id) : viewMay (knownV v x) = true ∧ (roomV v x = true → refHeard v.id v.peers x = (hearG v.id x false v.peers, 0)) := by
 cases hr : roomV v x with
 | false => rw [zjb hr]; exact ⟨hv, by simp⟩
 | true =>
   have hsz := zxy hv hr
   obtain ⟨h1, h2, h3, h4⟩ := za2 hv
   obtain ⟨hb, _, hok, hpw⟩ := zbn.1 h1
   have hle : sizeV (knownV v x) ≤ 16 := by
    rw [hsz]
    unfold roomV at hr
    split
    ·exact h3
    ·rename_i hk
     simp [hk] at hr
     unfold sizeV
     omega
   have hpm : peersMay v.id (hearG v.id x false v.peers) = true := by
    rw [zbn]
    refine ⟨hb, ?_, ?_, z09 hb hx v.peers (fun p hp => (hok p hp).1) hpw⟩
    ·have : (knownV v x).peers = hearG v.id x false v.peers := by unfold knownV; rw [if_pos hr]
     unfold sizeV at hle
     rw [this] at hle
     omega
    ·intro p hp
     rcases zle (b := v.id) p |>.1 hp with rfl | ⟨hp, _⟩
     ·refine ⟨hx, by simp, by simp, ?_⟩
      have := zqa hb hx
      have := mt (zsu hb hx).1 hn
      simp only
      omega
     ·exact hok p hp
   have hpeers : (knownV v x).peers = hearG v.id x false v.peers := by unfold knownV; rw [if_pos hr]
   refine ⟨zhm ?_ ?_ hle ?_, fun _ => ?_⟩
   ·rw [hpeers, zjt]; exact hpm
   ·unfold knownV; rw [if_pos hr]; exact zmq h2
   ·intro y hy
    rw [zg9 hr] at hy
    have := h4 y hy.1
    refine ⟨by rw [zjt]; exact this.1, ?_⟩
    intro hm
    obtain ⟨q, hq, hqy⟩ := List.mem_map.1 hm
    rw [zgy hr] at hq
    rcases hq with rfl | ⟨hq, _⟩
    ·exact hy.2 hqy.symm
    ·exact this.2 (List.mem_map.2 ⟨q, hq, hqy⟩)
   ·have hl : (hearG v.id x false v.peers).length ≤ 16 := (zbn.1 hpm).2.1
    unfold refHeard
    rw [zo9, h1, hx]
    simp [hn, hl]
theorem z5y {v : View} {x : Int} (hv : viewMay v = true) (hx : place x = true) : viewMay (tellV v x) = true := by
 unfold tellV
 split
 ·rename_i h
  simp only [Bool.and_eq_true, Bool.not_eq_true', decide_eq_false_iff_not] at h
  exact (zj4 hv hx h.1).1
 ·exact hv
theorem zvq : ∀ (ids : List Int) (v : View), viewMay v = true → (∀ x ∈ ids, place x = true) → viewMay (ids.foldl tellV v) = true ∧ (ids.foldl tellV v).id = v.id := by
 intro ids
 induction ids with
 | nil => intro v hv _; exact ⟨hv, rfl⟩
 | cons x ids ih =>
   intro v hv hp
   obtain ⟨a, b⟩ := ih (tellV v x) (z5y hv (hp x (by simp))) (fun y hy => hp y (by simp [hy]))
   exact ⟨a, by rw [List.foldl_cons, b, z7b]⟩
theorem zh1 {v : View} {a : Int} {ids : List Int} (h : helloOk v a ids = true) : viewMay v = true ∧ place a = true ∧ a ≠ v.id ∧ ids.length ≤ 16 ∧ ∀ x ∈ ids, place x = true := by
 simp only [helloOk, Bool.and_eq_true, Bool.not_eq_true', decide_eq_false_iff_not, decide_eq_true_eq, List.all_eq_true] at h
 exact ⟨h.1, h.2.1, h.2.2.1, h.2.2.2.1, h.2.2.2.2⟩
theorem zm5 {v : View} {a : Int} {ids : List Int} (h : helloOk v a ids = true) : viewMay (helloV v a ids) = true ∧ (helloV v a ids).id = v.id := by
 obtain ⟨h1, h2, h3, h4, h5⟩ := zh1 h
 obtain ⟨a, b⟩ := zvq ids _ (zj4 h1 h2 h3).1 h5
 exact ⟨a, by unfold helloV; rw [b, zjt]⟩

end Go.AM
/- AM: plain: time that goes by, for a view. -/
namespace Go.AM
set_option linter.unusedSimpArgs false
set_option linter.unusedVariables false
def agedP (lost : List Int) (p : List Int) : List Int := lost.foldl (fun p x => (withP p x).1) p
def ageV (v : View) : View := ⟨v.id, ageL v.peers, agedP (lostL v.peers) v.passive⟩
theorem z47 : ∀ (lost p : List Int), passiveMay p = true → (∀ x ∈ lost, place x = true ∧ x ∉ p) → lost.Nodup → p.length + lost.length ≤ 16 →
 passiveMay (agedP lost p) = true ∧ (agedP lost p).length = p.length + lost.length ∧ ∀ y, y ∈ agedP lost p ↔ y ∈ p ∨ y ∈ lost := by
 intro lost
 induction lost with
 | nil => intro p hp _ _ _; exact ⟨hp, by simp [agedP], by simp [agedP]⟩
 | cons x lost ih =>
   intro p hp hl hn hk
   obtain ⟨hx, hxp⟩ := hl x (by simp)
   have hne : p.length ≠ 16 := by simp at hk; omega
   have e : withP p x = (insU x p, 0) := by simp [withP, hp, hx, hxp, hne]
   have e2 : agedP (x :: lost) p = agedP lost (insU x p) := by simp [agedP, e]
   rw [List.nodup_cons] at hn
   obtain ⟨h1, h2, h3⟩ := ih (insU x p) (zi7 hp hx hxp hne) (fun y hy => ⟨(hl y (by simp [hy])).1, fun hm => by
    rcases zj1.1 hm with rfl | hm
    ·exact hn.1 hy
    ·exact (hl y (by simp [hy])).2 hm⟩) hn.2 (by rw [ze9]; simp at hk; omega)
   rw [e2]
   refine ⟨h1, by rw [h2, ze9]; simp; omega, fun y => ?_⟩
   rw [h3, zj1]
   simp only [List.mem_cons]
   constructor
   ·rintro ((h | h) | h)
    ·exact .inr (.inl h)
    ·exact .inl h
    ·exact .inr (.inr h)
   ·rintro (h | h | h)
    ·exact .inl (.inr h)
    ·exact .inl (.inl h)
    ·exact .inr h
theorem zom {x : Int} {ps : List Peer} (h : x ∈ lostL ps) : ∃ p ∈ ps, p.missed + 1 = 3 ∧ p.id = x := by
 obtain ⟨p, hp, rfl⟩ := List.mem_map.1 h
 obtain ⟨h1, h2⟩ := List.mem_filter.1 hp
 exact ⟨p, h1, by simpa using h2, rfl⟩
theorem zs6 {q : Peer} {ps : List Peer} (h : q ∈ ageL ps) : ∃ p ∈ ps, p.missed + 1 ≠ 3 ∧ q = ⟨p.id, p.missed + 1⟩ := by
 obtain ⟨p, hp, rfl⟩ := List.mem_map.1 h
 obtain ⟨h1, h2⟩ := List.mem_filter.1 hp
 exact ⟨p, h1, by simpa using h2, rfl⟩
theorem zyh {base : Int} {ps : List Peer} (h : peersMay base ps = true) : (lostL ps).Nodup := by
 have hp := (zbn.1 h).2.2.2
 unfold lostL List.Nodup
 rw [List.pairwise_map]
 refine (hp.filter _).imp ?_
 intro a b hab he
 rw [he] at hab
 omega
theorem z1x {base : Int} {ps : List Peer} (h : peersMay base ps = true) {p q : Peer} (hp : p ∈ ps) (hq : q ∈ ps) (he : p.id = q.id) : p = q := by
 have hw := (zbn.1 h).2.2.2
 induction ps with
 | nil => cases hp
 | cons a ps ih =>
   have hh := zbn.1 h
   rw [List.pairwise_cons] at hw
   have key : ∀ b ∈ ps, far base a.id < far base b.id := hw.1
   rcases List.mem_cons.1 hp with rfl | hp' <;> rcases List.mem_cons.1 hq with rfl | hq'
   ·rfl
   ·have := key q hq'; rw [he] at this; omega
   ·have := key p hp'; rw [he] at this; omega
   ·refine ih (zbn.2 ⟨hh.1, by have := hh.2.1; simp at this; omega, fun x hx => hh.2.2.1 x (by simp [hx]), hw.2⟩) hp' hq' hw.2
theorem zjn {v : View} (h : viewMay v = true) : viewMay (ageV v) = true ∧ (ageV v).peers.length + (ageV v).passive.length = v.peers.length + v.passive.length ∧ (∀ y, y ∈ (ageV v).passive ↔ y ∈ v.passive ∨ y ∈ lostL v.peers) := by
 obtain ⟨h1, h2, h3, h4⟩ := za2 h
 have hlen := zj9 v.peers
 have hpl := zcs h1
 have hlost : ∀ x ∈ lostL v.peers, place x = true ∧ x ∉ v.passive := by
  intro x hx
  obtain ⟨p, hp, hm, rfl⟩ := zom hx
  exact ⟨(hpl p hp).1, fun hm => (h4 _ hm).2 (List.mem_map.2 ⟨p, hp, rfl⟩)⟩
 obtain ⟨a1, a2, a3⟩ := z47 (lostL v.peers) v.passive h2 hlost (zyh h1) (by omega)
 refine ⟨zhm (z6u h1) a1 ?_ ?_, ?_, a3⟩
 ·show (ageL v.peers).length + (agedP (lostL v.peers) v.passive).length ≤ 16
  rw [a2]; omega
 ·intro x hx
  show x ≠ v.id ∧ x ∉ (ageL v.peers).map Peer.id
  have hx' : x ∈ v.passive ∨ x ∈ lostL v.peers := (a3 x).1 hx
  rcases hx' with hx' | hx'
  ·refine ⟨(h4 x hx').1, fun hm => ?_⟩
   obtain ⟨q, hq, rfl⟩ := List.mem_map.1 hm
   obtain ⟨p, hp, -, rfl⟩ := zs6 hq
   exact (h4 _ hx').2 (List.mem_map.2 ⟨p, hp, rfl⟩)
  ·obtain ⟨p, hp, hm, rfl⟩ := zom hx'
   refine ⟨z25 h hp, fun hm' => ?_⟩
   obtain ⟨q, hq, he⟩ := List.mem_map.1 hm'
   obtain ⟨p', hp', hm2, rfl⟩ := zs6 hq
   have := z1x h1 hp' hp he
   rw [this] at hm2
   exact hm2 hm
 ·show (ageL v.peers).length + (agedP (lostL v.peers) v.passive).length = _
  rw [a2]; omega
def greetV (w : View) : List Int := w.peers.map Peer.id ++ w.passive
def greetM (w : View) (to : Int) : Msg := ⟨0, w.id, to, w.peers.map Peer.id, 0, zeroItem, false⟩
end Go.AM
/- AM: plain: worlds, acts. -/
namespace Go.AM
set_option linter.unusedSimpArgs false
set_option linter.unusedVariables false
structure Wld where
 nodes : List Node
 cuts : List Cut
 packets : List Msg
 deriving DecidableEq, Inhabited
def nodesD (xs : List Node) : D := .sl (xs.map Node.cells) xs.length
@[simp] theorem z7x (S : Nat → Bool) (x : Node) : x.cells.map (D.sweep S) = x.cells := rfl
@[simp] theorem z8d (fr fp : Nat → Nat → Nat → D) (x : Node) : x.cells.map (D.mapR fr fp) = x.cells := rfl
@[simp] theorem z9u (x : Node) : idsL x.cells = [] := rfl
@[simp] theorem z81 (x : Node) : ridsL x.cells = [] := rfl
@[simp] theorem z88 (x : Node) : x.cells.take 6 = x.cells := rfl
@[simp] theorem z8p (x : Node) : x.cells.drop 6 = [] := rfl
theorem zdi (x : Node) : x.cells = [.bool x.up, .int .i64 x.view.id, .sl (x.view.peers.map Peer.row) x.view.peers.length, .sl (x.view.passive.map irow) x.view.passive.length, .sl (x.items.map Item.row) x.items.length, .sl (x.log.map Told.row) x.log.length] := rfl
@[simp] theorem z53 (x : Node) : x.cells.length = 6 := rfl
def Wld.cells (w : Wld) : List D := [nodesD w.nodes, cutsD w.cuts, msgsD w.packets]
def wldD (w : Wld) : D := .agg w.cells
structure Wld.small (w : Wld) : Prop where
 nodes : w.nodes.length ≤ cap16
 node : ∀ x ∈ w.nodes, x.small
 cuts : w.cuts.length ≤ cap
 packets : w.packets.length ≤ cap16
 packet : ∀ m ∈ w.packets, m.ids.length ≤ cap
def nodesOk : Option Int → List Node → Bool
 | _, [] => true
 | q, x :: xs => nodeMay x && (q.all (fun y => decide (y < x.view.id)) && nodesOk (some x.view.id) xs)
def nodesMay (xs : List Node) : Bool := nodesOk none xs && (decide (1 ≤ xs.length) && decide (xs.length ≤ 8))
def oddM (m : Msg) : Bool := !msgMay m
def queueMay (ms : List Msg) : Bool := decide (ms.length ≤ 512) && !ms.any oddM
def namedN (x : Node) : List Int := x.view.peers.map Peer.id ++ x.view.passive
def namedC (c : Cut) : List Int := [c.a, c.b]
def namedM (m : Msg) : List Int := m.from_ :: m.to :: m.ids
def namedW (w : Wld) : List Int := w.nodes.flatMap namedN ++ w.cuts.flatMap namedC ++ w.packets.flatMap namedM
def cmpN (id : Int) (x : Node) : Int := cmpI x.view.id id
def posN (id : Int) (xs : List Node) : Nat := posC (cmpN id) xs
def isN (id : Int) (xs : List Node) : Bool := atC (cmpN id) xs
def worldMay (w : Wld) : Bool := nodesMay w.nodes && (cutsMay w.cuts && (queueMay w.packets && !(namedW w).any fun id => !isN id w.nodes))
def NamedSmall (w : Wld) : Prop := w.nodes.length ≤ 8 ∧ (∀ x ∈ w.nodes, x.view.peers.length ≤ 16 ∧ x.view.passive.length ≤ 16) ∧ w.cuts.length ≤ 32 ∧ w.packets.length ≤ 512 ∧ ∀ m ∈ w.packets, m.ids.length ≤ 16
theorem zj2 {α β : Type} {f : α → List β} {n : Nat} : ∀ (xs : List α), (∀ x ∈ xs, (f x).length ≤ n) → (xs.flatMap f).length ≤ xs.length * n := by
 intro xs
 induction xs with
 | nil => intro _; simp
 | cons x xs ih =>
   intro h
   have h1 := ih fun y hy => h y (by simp [hy])
   have h2 := h x (by simp)
   simp only [List.flatMap_cons, List.length_append, List.length_cons]
   rw [Nat.succ_mul]
   omega
theorem z4c {w : Wld} (h : NamedSmall w) : (namedW w).length ≤ 16384 := by
 obtain ⟨h1, h2, h3, h4, h5⟩ := h
 have a := zj2 (f := namedN) (n := 32) w.nodes (fun x hx => by have := h2 x hx; simp [namedN]; omega)
 have b := zj2 (f := namedC) (n := 2) w.cuts (fun x hx => by simp [namedC])
 have c := zj2 (f := namedM) (n := 18) w.packets (fun x hx => by have := h5 x hx; simp [namedM]; omega)
 unfold namedW
 simp only [List.length_append]
 omega
theorem zxz : ∀ (xs : List Node) (q : Option Int), nodesOk q xs = true → (∀ x ∈ xs, nodeMay x = true ∧ ∀ y, q = some y → y < x.view.id) ∧ xs.Pairwise (fun x y => x.view.id < y.view.id) := by
 intro xs
 induction xs with
 | nil => intro q _; exact ⟨by simp, List.Pairwise.nil⟩
 | cons x xs ih =>
   intro q h
   simp only [nodesOk, Bool.and_eq_true] at h
   obtain ⟨h1, h2, h3⟩ := h
   obtain ⟨i1, i2⟩ := ih _ h3
   have hq : ∀ y, q = some y → y < x.view.id := by
    rintro y rfl
    simpa using h2
   refine ⟨?_, List.pairwise_cons.2 ⟨fun y hy => (i1 y hy).2 _ rfl, i2⟩⟩
   intro y hy
   rcases List.mem_cons.1 hy with rfl | hy
   ·exact ⟨h1, hq⟩
   ·refine ⟨(i1 y hy).1, fun z hz => ?_⟩
    have := hq z hz
    have := (i1 y hy).2 _ rfl
    omega
theorem zc4 {xs : List Node} (h : nodesMay xs = true) : (∀ x ∈ xs, nodeMay x = true) ∧ xs.Pairwise (fun x y => x.view.id < y.view.id) ∧ 1 ≤ xs.length ∧ xs.length ≤ 8 := by
 simp only [nodesMay, Bool.and_eq_true, decide_eq_true_eq] at h
 obtain ⟨h1, h2, h3⟩ := h
 obtain ⟨a, b⟩ := zxz _ _ h1
 exact ⟨fun x hx => (a x hx).1, b, h2, h3⟩
theorem zev {x : Node} (h : nodeMay x = true) : (x.up = true ∨ emptyN x = true) ∧ viewMay x.view = true ∧ storeMay x.items = true ∧ x.log.length ≤ 64 ∧ x.log.any toldOdd = false := by
 simp only [nodeMay, Bool.and_eq_true, Bool.or_eq_true, decide_eq_true_eq, Bool.not_eq_true'] at h
 obtain ⟨⟨⟨⟨h1, h2⟩, h3⟩, h4⟩, h5⟩ := h
 exact ⟨h1, h2, h3, h4, h5⟩
theorem zay {xs : List Node} (h : nodesMay xs = true) (id : Int) : MonoC (cmpN id) xs := by
 have hp := (zc4 h).2.1
 intro i j x y hij hx hy hc
 rcases Nat.lt_or_ge i j with h1 | h1
 ·obtain ⟨hi, rfl⟩ := List.getElem?_eq_some_iff.1 hx
  obtain ⟨hj, rfl⟩ := List.getElem?_eq_some_iff.1 hy
  have := List.pairwise_iff_getElem.1 hp i j hi hj h1
  unfold cmpN at *
  rw [zof] at *
  omega
 ·obtain rfl : i = j := by omega
  rw [hx] at hy
  cases hy
  exact hc
theorem z2i {m : Msg} (h : msgMay m = true) : m.ids.length ≤ 16 := by
 simp only [msgMay, Bool.and_eq_true] at h
 obtain ⟨_, _, _, h⟩ := h
 split at h
 ·simp only [Bool.and_eq_true, decide_eq_true_eq] at h; exact h.2
 ·split at h
  ·simp only [Bool.and_eq_true, decide_eq_true_eq] at h; omega
  ·split at h
   ·simp only [Bool.and_eq_true, decide_eq_true_eq] at h; omega
   ·split at h
    ·simp only [Bool.and_eq_true, decide_eq_true_eq] at h; omega
    ·cases h
theorem zkk {ms : List Msg} (h : queueMay ms = true) : ms.length ≤ 512 ∧ ∀ m ∈ ms, msgMay m = true := by
 simp only [queueMay, Bool.and_eq_true, decide_eq_true_eq, Bool.not_eq_true'] at h
 refine ⟨h.1, fun m hm => ?_⟩
 have := List.any_eq_false.1 h.2 m hm
 simpa [oddM] using this
theorem zp4 {w : Wld} (h1 : nodesMay w.nodes = true) (h2 : cutsMay w.cuts = true) (h3 : queueMay w.packets = true) : NamedSmall w := by
 obtain ⟨a1, a2, a3, a4⟩ := zc4 h1
 obtain ⟨b1, b2⟩ := zkk h3
 refine ⟨a4, fun x hx => ?_, ?_, b1, fun m hm => z2i (b2 m hm)⟩
 ·obtain ⟨p1, p2, p3, _⟩ := za2 (zev (a1 x hx)).2.1
  omega
 ·simp only [cutsMay, Bool.and_eq_true, decide_eq_true_eq] at h2
  exact h2.2
theorem zar {w : Wld} (h : worldMay w = true) : nodesMay w.nodes = true ∧ cutsMay w.cuts = true ∧ queueMay w.packets = true ∧ ∀ id ∈ namedW w, isN id w.nodes = true := by
 simp only [worldMay, Bool.and_eq_true, Bool.not_eq_true'] at h
 obtain ⟨h1, h2, h3, h4⟩ := h
 exact ⟨h1, h2, h3, fun id hid => by simpa using List.any_eq_false.1 h4 id hid⟩
theorem zth {x : Node} (h : nodeMay x = true) : x.view.peers.length ≤ 16 ∧ x.view.passive.length ≤ 16 ∧ x.items.length ≤ 16 ∧ x.log.length ≤ 64 := by
 obtain ⟨_, h2, h3, h4, _⟩ := zev h
 obtain ⟨p1, p2, p3, _⟩ := za2 h2
 simp only [storeMay, Bool.and_eq_true, decide_eq_true_eq] at h3
 omega
theorem za3 {x : Node} (h : nodeMay x = true) : x.small := by
 obtain ⟨h1, h2, h3, h4⟩ := zth h
 refine ⟨⟨?_, ?_⟩, ?_, ?_⟩ <;> (try unfold cap16) <;> (try unfold cap) <;> omega
structure Wld.tiny (w : Wld) : Prop where
 nodes : w.nodes.length ≤ 8
 node : ∀ x ∈ w.nodes, nodeMay x = true
 cuts : w.cuts.length ≤ 32
 packets : w.packets.length ≤ 512
 packet : ∀ m ∈ w.packets, m.ids.length ≤ 16
theorem zat {w : Wld} (h : worldMay w = true) : w.tiny := by
 obtain ⟨h1, h2, h3, h4⟩ := zar h
 obtain ⟨n1, n2, n3, n4, n5⟩ := zp4 h1 h2 h3
 exact ⟨n1, (zc4 h1).1, n3, n4, n5⟩
theorem Wld.tiny.small {w : Wld} (h : w.tiny) : w.small :=
 ⟨by have := h.nodes; unfold cap16; omega, fun x hx => za3 (h.node x hx), by have := h.cuts; unfold cap; omega, by have := h.packets; unfold cap16; omega, fun m hm => by have := h.packet m hm; unfold cap; omega⟩
def sendW (w : Wld) (ms : List Msg) : Wld := { w with packets := w.packets ++ ms.take (512 - w.packets.length) }
theorem Rep.mem_less {w : World} {M : Foot} {ρ : Nat → Loc} {v : Value} {cs more : List D} (h : Rep w M ρ v (.mem (cs ++ more))) : Rep w M ρ v (.mem cs) := by
 have hi := h.mem_inv
 cases hi with
 | mem g off _ vals hc hv =>
   refine .imm _ _ (.mem g off cs vals (fun j hj => hc j (by simp; omega)) fun j d hd => hv j d ?_)
   rw [List.getElem?_append_left (List.getElem?_eq_some_iff.1 hd).1]
   exact hd
theorem zba {P : Program} {f : Nat} {args : List D} {r : D} {nbs : List Blk} (h : Den P f args [] r nbs) : Den P f args [] (r.freeze nbs) [] := by
 refine ⟨h.1, fun w M0 ρ vals hM hS hs ha => (h.2 w M0 ρ vals hM hS hs ha).mono ?_⟩
 rintro e w' ⟨v, ρ'', rfl, hr, hS2, _, _, hp2, har⟩
 have hbel := har.below
 refine ⟨v, ρ, rfl, ?_, hS.below hbel, Nat.le_refl _, fun _ _ => rfl, zho hbel _, hbel.size, hbel.os, hbel.tape, hbel.output, fun g hg _ => hbel.block g hg, fun i g base n rl esz _ hi => by rw [hS.out i (Nat.zero_le _)] at hi; cases hi⟩
 rw [zxt]
 have h1 : Rep w' M0 noLoc v (r.freeze nbs) := hS2.freeze (Ext.refl _) (M' := M0) (Pres.sub fun g o h => .inl h) hr (by
  intro x hx g base n rl esz hat o ho hm
  have := har.fresh x g _ _ _ _ (Nat.zero_le _) hat
  have := hM g o hm
  omega)
 exact h1.move (Pres.refl _ _) fun b hb => absurd rfl hb
theorem z6h {P : Program} {f : Nat} {pre post : List D} {bs : List Blk} {r : D} {bs' : List Blk} {cs more : List D} (h : Den P f (pre ++ .mem cs :: post) bs r bs') : Den P f (pre ++ .mem (cs ++ more) :: post) bs r bs' := by
 refine ⟨h.1, fun w M0 ρ vals hM hS hs ha => h.2 w M0 ρ vals hM hS (by rw [hs]; simp) ?_⟩
 intro i v d hv hd
 by_cases hi : i = pre.length
 ·subst hi
  simp at hd
  subst hd
  exact (ha pre.length v (.mem (cs ++ more)) hv (by simp)).mem_less
 ·refine ha i v d hv ?_
  rw [← hd]
  rcases Nat.lt_or_gt_of_ne hi with h | h
  ·rw [List.getElem?_append_left h, List.getElem?_append_left h]
  ·rw [List.getElem?_append_right (by omega), List.getElem?_append_right (by omega)]
   obtain ⟨m, hm⟩ : ∃ m, i - pre.length = m + 1 := ⟨i - pre.length - 1, by omega⟩
   rw [hm]
   rfl
end Go.AM
/- AM: contracts: nodes and messages cloned; queues. -/
namespace Go.AM
set_option linter.unusedSimpArgs false
set_option linter.unusedVariables false
set_option maxRecDepth 8000
set_option maxHeartbeats 0
theorem z0y (rows : List (List D)) (hf : Fits 6 rows) (hl : rows.length * 112 ≤ 140737488355328) : Den PP 144 [.sl rows rows.length] [] (.ref 0 0 rows.length) [⟨rows, 6, .mut⟩] := by
 cases hr : rows with
 | nil =>
   refine znu (pre := []) (post := []) ?_ ?_
   ·refine zah [] [] zb9 ?_
    simp -implicitDefEqProofs [zbi]
   ·refine zah [] [] zb9 ?_
    simp -implicitDefEqProofs [zbi, Fits]
 | cons r rs =>
   rw [hr] at hf hl
   have h63 : (r :: rs).length ≤ 9223372036854775807 := by omega
   have hlen : 0 < (r :: rs).length := by simp
   generalize hn : (r :: rs).length = n at *
   generalize r :: rs = rows at *
   refine zah [] [] zb9 ?_
   simp -implicitDefEqProofs [zbi, hlen, List.take_of_length_le (Nat.le_of_eq hn), hf, hn, hl, h63]
theorem zw9 (m : Msg) (hl : m.ids.length ≤ cap) : Den PP 163 [msgD m] [] (.bool (oddM m)) [] := by
 have c1 := zkr m hl
 unfold oddM
 simp only [msgD, Msg.row, intsD] at c1 ⊢
 refine zah [] [] zqs ?_
 simp -implicitDefEqProofs [zl2]
 refine zaa c1 ?_
 simp -implicitDefEqProofs
theorem z35 (xs : List Msg) (hl : xs.length ≤ cap16) (hi : ∀ m ∈ xs, m.ids.length ≤ cap) : Den PP 215 [msgsD xs, .fn 163 [] []] [] (.int .i64 (gIdx oddM 0 xs)) [] := by
 obtain ⟨A, hA⟩ : ∃ A, gIdx oddM 0 xs = A := ⟨_, rfl⟩
 unfold cap16 at hl
 refine zah [] [] zei ?_
 simp -implicitDefEqProofs [zcx, msgsD, hA]
 refine za7 xs (fun i rest => fun ⟨fr, bs⟩ => bs = [] ∧ fr 0 = msgsD xs ∧ fr 1 = .fn 163 [] [] ∧ fr 7 = .int .i64 xs.length ∧ fr 8 = .int .i64 i ∧ gIdx oddM i rest = A)
  (fun ⟨fr, bs⟩ => bs = [] ∧ A = -1) (fun ⟨fr, bs⟩ => fr 4 = .int .i64 A) zcq.eq_1 ?_ ?_ ?_ ?_ ?_
 ·exact ⟨rfl, rfl, rfl, rfl, rfl, hA⟩
 ·rintro i ⟨fr, bs⟩ hi ⟨rfl, h0, h1, h7, h8, he⟩
  simp -implicitDefEqProofs [h0, h1, h7, h8, hi]
  simpa [gIdx] using he.symm
 ·rintro i a rest ⟨fr, bs⟩ hlt hget hg hd hd2 ⟨rfl, h0, h1, h7, h8, he⟩
  have hlt' : (i : Int) < xs.length := by omega
  have hw := za1 (n := i) (by omega)
  have c1 := zw9 a (hi a (List.mem_of_getElem? hget))
  clear hi
  simp only [msgD, Msg.row, intsD] at c1
  simp only [gIdx] at he
  generalize oddM a = B at *
  simp -implicitDefEqProofs [h0, h1, h7, h8, hlt, hlt', hget, hg, msgsD, Msg.row, intsD]
  repeat' ((first | refine zaa (by first | exact c1) ?_ | ((with_reducible first | refine zal ?_ ?_ | refine zaj ?_ ?_ | refine zaf ?_ ?_ | refine zae ?_ ?_) <;> intro _) | ((with_reducible first | refine zap ?_ ?_ | refine zaq ?_ ?_ | refine zan ?_ ?_ | refine zad ?_ ?_ | refine zak ?_ ?_ | refine zao ?_ ?_ | refine zai ?_ ?_ | refine zab ?_ ?_) <;> intro hq <;> (try simp at hq)) | refine zag (by omega) ?_ | refine zam (by omega) ?_) <;> simp -implicitDefEqProofs [*, msgsD, Msg.row, hw])
  all_goals grind
 ·rintro ⟨fr, bs⟩ ⟨rfl, h1⟩
  simp -implicitDefEqProofs [h1]
 ·rintro ⟨fr, bs⟩ h
  simp -implicitDefEqProofs [h]
theorem ztz (xs : List Msg) (hl : xs.length ≤ cap16) (hi : ∀ m ∈ xs, m.ids.length ≤ cap) : Den PP 164 [msgsD xs, .fn 163 [] []] [] (.bool (xs.any oddM)) [] := by
 have c1 := z35 xs hl hi
 have h1 := zst oddM xs 0
 obtain ⟨A, hA⟩ : ∃ A, (xs.any oddM) = A := ⟨_, rfl⟩
 rw [hA] at h1
 rw [hA]
 clear hA
 generalize gIdx oddM 0 xs = G at *
 simp only [msgsD] at c1 ⊢
 refine zah [] [] zd0 ?_
 simp -implicitDefEqProofs [zco]
 refine zaa c1 ?_
 simp -implicitDefEqProofs [h1]
theorem zva (xs : List Msg) (hl : xs.length ≤ cap16) (hi : ∀ m ∈ xs, m.ids.length ≤ cap) : Den PP 78 [msgsD xs] [] (.bool (queueMay xs)) [] := by
 have c1 := ztz xs hl hi
 unfold queueMay
 generalize (xs.any oddM) = A at *
 simp only [msgsD] at c1 ⊢
 refine zah [] [] zuj ?_
 clear hi
 simp -implicitDefEqProofs [zp1]
 repeat' ((first | refine zaa (by first | exact c1) ?_ | ((with_reducible first | refine zal ?_ ?_ | refine zaj ?_ ?_ | refine zaf ?_ ?_ | refine zae ?_ ?_) <;> intro _) | ((with_reducible first | refine zap ?_ ?_ | refine zaq ?_ ?_ | refine zan ?_ ?_ | refine zad ?_ ?_ | refine zak ?_ ?_ | refine zao ?_ ?_ | refine zai ?_ ?_ | refine zab ?_ ?_) <;> intro hq <;> (try simp at hq)) | refine zag (by omega) ?_ | refine zam (by omega) ?_) <;> simp -implicitDefEqProofs [*])
 all_goals grind
end Go.AM
/- AM: contracts: may nodes be. -/
namespace Go.AM
set_option linter.unusedSimpArgs false
set_option linter.unusedVariables false
set_option maxRecDepth 8000
set_option maxHeartbeats 0
def prevN (xs : List Node) (i : Nat) : Option Int := if i = 0 then none else (xs[i - 1]?).map fun x => x.view.id
theorem zy0 (xs : List Node) (hl : xs.length ≤ cap) (hs : ∀ x ∈ xs, x.small) : Den PP 76 [nodesD xs] [] (.bool (nodesMay xs)) [] := by
 unfold nodesMay
 obtain ⟨A, hA⟩ : ∃ A, nodesOk none xs = A := ⟨_, rfl⟩
 rw [hA]
 unfold cap at hl
 refine zah [] [] zqn ?_
 simp -implicitDefEqProofs [zmc, nodesD]
 refine za7 xs (fun i rest => fun ⟨fr, bs⟩ => bs = [] ∧ fr 0 = nodesD xs ∧ fr 5 = nodesD xs ∧ fr 6 = .int .i64 xs.length ∧ fr 7 = .int .i64 i ∧ nodesOk (prevN xs i) rest = A)
  (fun ⟨fr, bs⟩ => bs = [] ∧ fr 0 = nodesD xs ∧ A = true) (fun ⟨fr, bs⟩ => fr 2 = .bool false ∧ A = false) zir.eq_1 ?_ ?_ ?_ ?_ ?_
 ·exact ⟨rfl, rfl, rfl, rfl, rfl, hA⟩
 ·rintro i ⟨fr, bs⟩ hi ⟨rfl, h0, h5, h6, h7, he⟩
  simp -implicitDefEqProofs [h0, h5, h6, h7, hi]
  simpa [nodesOk] using he.symm
 ·rintro i a rest ⟨fr, bs⟩ hlt hget hg hd hd2 ⟨rfl, h0, h5, h6, h7, he⟩
  have hlt' : (i : Int) < xs.length := by omega
  have hw := za1 (n := i) (by omega)
  have c1 := zzv a (hs a (List.mem_of_getElem? hget))
  simp only [nodesOk] at he
  have hp : prevN xs (i + 1) = some a.view.id := by simp [prevN, hget]
  rw [hp]
  simp only [nodeD, Node.cells, peersD, intsD, itemsD, toldsD] at c1
  clear hs hA hp
  generalize nodeMay a = M at *
  cases i with
  | zero =>
    simp [prevN] at he
    simp -implicitDefEqProofs [h0, h5, h6, h7, hlt, hlt', hget, hg, nodesD, Node.cells, peersD, intsD, itemsD, toldsD]
    repeat' ((first | refine zaa (by first | exact c1) ?_ | ((with_reducible first | refine zal ?_ ?_ | refine zaj ?_ ?_ | refine zaf ?_ ?_ | refine zae ?_ ?_) <;> intro _) | ((with_reducible first | refine zap ?_ ?_ | refine zaq ?_ ?_ | refine zan ?_ ?_ | refine zad ?_ ?_ | refine zak ?_ ?_ | refine zao ?_ ?_ | refine zai ?_ ?_ | refine zab ?_ ?_) <;> intro hq <;> (try simp at hq)) | refine zag (by omega) ?_ | refine zam (by omega) ?_) <;> simp -implicitDefEqProofs [*, nodesD, Node.cells, peersD, intsD, itemsD, toldsD, hw])
    all_goals grind
  | succ j =>
    have hj : j < xs.length := by omega
    have hj' : (j : Int) < xs.length := by omega
    have hjw : IntKind.wrap .i64 (j : Int) = j := zax (by omega) (by omega)
    obtain ⟨q, hqj⟩ : ∃ q, xs[j] = q := ⟨_, rfl⟩
    have hpj : prevN xs (j + 1) = some q.view.id := by simp [prevN, hj, hqj]
    rw [hpj] at he
    simp at he
    simp -implicitDefEqProofs [h0, h5, h6, h7, hlt, hlt', hget, hg, nodesD, Node.cells, peersD, intsD, itemsD, toldsD]
    repeat' ((first | refine zaa (by first | exact c1) ?_ | ((with_reducible first | refine zal ?_ ?_ | refine zaj ?_ ?_ | refine zaf ?_ ?_ | refine zae ?_ ?_) <;> intro _) | ((with_reducible first | refine zap ?_ ?_ | refine zaq ?_ ?_ | refine zan ?_ ?_ | refine zad ?_ ?_ | refine zak ?_ ?_ | refine zao ?_ ?_ | refine zai ?_ ?_ | refine zab ?_ ?_) <;> intro hq <;> (try simp at hq)) | refine zag (by omega) ?_ | refine zam (by omega) ?_) <;> simp -implicitDefEqProofs [*, nodesD, Node.cells, peersD, intsD, itemsD, toldsD, hw, hj, hj', hjw, hqj])
    all_goals grind
 ·rintro ⟨fr, bs⟩ ⟨rfl, h0, h1⟩
  clear hs hA
  simp -implicitDefEqProofs [h0, h1, nodesD]
  repeat' ((first | ((with_reducible first | refine zal ?_ ?_ | refine zaj ?_ ?_ | refine zaf ?_ ?_ | refine zae ?_ ?_) <;> intro _) | ((with_reducible first | refine zap ?_ ?_ | refine zaq ?_ ?_ | refine zan ?_ ?_ | refine zad ?_ ?_ | refine zak ?_ ?_ | refine zao ?_ ?_ | refine zai ?_ ?_ | refine zab ?_ ?_) <;> intro hq <;> (try simp at hq)) | refine zag (by omega) ?_ | refine zam (by omega) ?_) <;> simp -implicitDefEqProofs [*, nodesD])
  all_goals grind
 ·rintro ⟨fr, bs⟩ ⟨h2, h1⟩
  simp -implicitDefEqProofs [h1, h2]
end Go.AM
/- AM: contracts: all that a world names. -/
namespace Go.AM
set_option linter.unusedSimpArgs false
set_option linter.unusedVariables false
set_option maxRecDepth 8000
set_option maxHeartbeats 0
theorem zi9 {α β : Type} {f : α → List β} {xs : List α} {i : Nat} {a : α} (h : xs[i]? = some a) : (xs.take (i + 1)).flatMap f = (xs.take i).flatMap f ++ f a := by
 have e1 : xs.take (i + 1) = xs.take i ++ [a] := by rw [List.take_add_one, h]; rfl
 rw [e1]; simp
def fmap (f : Node → List Int) (xs : List Node) : List Int := xs.flatMap f
def fmapC (f : Cut → List Int) (xs : List Cut) : List Int := xs.flatMap f
def fmapM (f : Msg → List Int) (xs : List Msg) : List Int := xs.flatMap f
theorem zx4 (w : Wld) (h : NamedSmall w) : Den PP 80 [.mem w.cells] [] (.ref 0 0 (namedW w).length) [⟨(namedW w).map irow, 1, .mut⟩] := by
 obtain ⟨ns, cs, ps⟩ := w
 obtain ⟨h1, h2, h3, h4, h5⟩ := h
 simp only at h1 h2 h3 h4 h5
 have e0 : namedW ⟨ns, cs, ps⟩ = fmap namedN ns ++ fmapC namedC cs ++ fmapM namedM ps := rfl
 rw [e0]
 simp only [Wld.cells, nodesD, cutsD, msgsD]
 have bN : ∀ i, (fmap namedN (ns.take i)).length ≤ 512 := fun i => by
  have := zj2 (f := namedN) (n := 32) (ns.take i) (fun x hx => by have := h2 x (List.mem_of_mem_take hx); simp [namedN]; omega)
  simp only [List.length_take] at this
  unfold fmap
  omega
 have bC : ∀ i, (fmapC namedC (cs.take i)).length ≤ 512 := fun i => by
  have := zj2 (f := namedC) (n := 2) (cs.take i) (fun x hx => by simp [namedC])
  simp only [List.length_take] at this
  unfold fmapC
  omega
 have bM : ∀ i, (fmapM namedM (ps.take i)).length ≤ 16384 := fun i => by
  have := zj2 (f := namedM) (n := 18) (ps.take i) (fun x hx => by have := h5 x (List.mem_of_mem_take hx); simp [namedM]; omega)
  simp only [List.length_take] at this
  unfold fmapM
  omega
 refine zah [] [] zqp ?_
 simp -implicitDefEqProofs [zlq]
 refine za7 ns (fun i rest => fun ⟨fr, bs⟩ => bs = [⟨[], 1, .mut⟩, ⟨(fmap namedN (ns.take i)).map irow, 1, .mut⟩] ∧ fr 0 = .mem [.sl (ns.map Node.cells) ns.length, .sl (cs.map Cut.row) cs.length, .sl (ps.map Msg.row) ps.length] ∧ fr 3 = .ref 1 0 (fmap namedN (ns.take i)).length ∧ fr 13 = .int .i64 ns.length ∧ fr 14 = .int .i64 i)
  (fun ⟨fr, bs⟩ => bs = [⟨[], 1, .mut⟩, ⟨(fmap namedN ns).map irow, 1, .mut⟩] ∧ fr 0 = .mem [.sl (ns.map Node.cells) ns.length, .sl (cs.map Cut.row) cs.length, .sl (ps.map Msg.row) ps.length] ∧ fr 3 = .ref 1 0 (fmap namedN ns).length) (fun _ => False) ziq.eq_1 ?_ ?_ ?_ ?_ ?_
 ·exact ⟨rfl, rfl, rfl, rfl, rfl⟩
 ·rintro i ⟨fr, bs⟩ hi ⟨rfl, h0, h3, h13, h14⟩
  subst hi
  rw [List.take_length] at *
  simp -implicitDefEqProofs [h0, h3, h13, h14]
 ·rintro i a rest ⟨fr, bs⟩ hlt hget hg hd hd2 ⟨rfl, h0, h3, h13, h14⟩
  have hlt' : (i : Int) < ns.length := by omega
  have c1 := zme a.view (by have := (h2 a (List.mem_of_getElem? hget)).1; unfold cap16; omega)
  have b1 := bN i
  have b2 := bN (i + 1)
  have e1 : fmap namedN (ns.take (i + 1)) = fmap namedN (ns.take i) ++ namedN a := zi9 hget
  rw [e1] at b2 ⊢
  clear e1 h2 h5 bN bC bM e0
  generalize fmap namedN (ns.take i) = L at *
  simp only [View.cells, peersD, intsD] at c1
  have c1 := z6h (pre := []) (post := []) (more := [.sl (a.items.map Item.row) a.items.length, .sl (a.log.map Told.row) a.log.length]) c1
  simp only [List.nil_append, List.cons_append] at c1
  simp only [namedN, List.length_append, List.length_map] at b2 ⊢
  simp -implicitDefEqProofs [h0, h3, h13, h14, hlt, hlt', hget, hg, Node.cells, peersD, intsD, itemsD, toldsD]
  repeat' ((first | refine zaa (by first | exact c1) ?_ | ((with_reducible first | refine zal ?_ ?_ | refine zaj ?_ ?_ | refine zaf ?_ ?_ | refine zae ?_ ?_) <;> intro _) | ((with_reducible first | refine zap ?_ ?_ | refine zaq ?_ ?_ | refine zan ?_ ?_ | refine zad ?_ ?_ | refine zak ?_ ?_ | refine zao ?_ ?_ | refine zai ?_ ?_ | refine zab ?_ ?_) <;> intro hq <;> (try simp at hq)) | refine zag (by omega) ?_ | refine zam (by omega) ?_) <;> simp -implicitDefEqProofs [*, h0, h3, h13, h14, hlt, hlt', hget, hg, Node.cells, peersD, intsD, itemsD, toldsD, downTo])
  refine ⟨by intro r hr; obtain ⟨p, _, rfl⟩ := List.mem_map.1 hr; exact ⟨rfl, rfl⟩, ?_⟩
  refine zag ⟨by omega, by omega⟩ ?_
  simp -implicitDefEqProofs [h0, h3, h13, h14, hlt, hlt', hget, hg, Node.cells, peersD, intsD, itemsD, toldsD, downTo, Function.comp_def]
  refine zag ⟨by omega, by omega⟩ ?_
  simp -implicitDefEqProofs [h0, h3, h13, h14, hlt, hlt', hget, hg, Node.cells, peersD, intsD, itemsD, toldsD, downTo, Function.comp_def]
  exact ⟨Nat.add_assoc .., zax (by omega) (by omega)⟩
 ·rintro ⟨fr, bs⟩ ⟨rfl, h0, h3⟩
  have bN0 := bN ns.length
  rw [List.take_length] at bN0
  clear bN h2 e0
  generalize fmap namedN ns = LN at *
  simp -implicitDefEqProofs [h0, h3]
  refine za7 cs (fun i rest => fun ⟨fr, bs⟩ => bs = [⟨[], 1, .mut⟩, ⟨(LN ++ fmapC namedC (cs.take i)).map irow, 1, .mut⟩] ∧ fr 0 = .mem [.sl (ns.map Node.cells) ns.length, .sl (cs.map Cut.row) cs.length, .sl (ps.map Msg.row) ps.length] ∧ fr 3 = .ref 1 0 (LN ++ fmapC namedC (cs.take i)).length ∧ fr 42 = .sl (cs.map Cut.row) cs.length ∧ fr 43 = .int .i64 cs.length ∧ fr 44 = .int .i64 i)
   (fun ⟨fr, bs⟩ => bs = [⟨[], 1, .mut⟩, ⟨(LN ++ fmapC namedC cs).map irow, 1, .mut⟩] ∧ fr 0 = .mem [.sl (ns.map Node.cells) ns.length, .sl (cs.map Cut.row) cs.length, .sl (ps.map Msg.row) ps.length] ∧ fr 3 = .ref 1 0 (LN ++ fmapC namedC cs).length) (fun _ => False) zih.eq_1 ?_ ?_ ?_ ?_ ?_
  ·exact ⟨by simp [fmapC], by simp [h0], by simp [fmapC, h3], rfl, rfl, rfl⟩
  ·rintro i ⟨fr, bs⟩ hi ⟨rfl, h0, h3, h13, h43, h14⟩
   subst hi
   rw [List.take_length] at *
   simp -implicitDefEqProofs [h0, h3, h13, h14, h43]
  ·rintro i a rest ⟨fr, bs⟩ hlt hget hg hd hd2 ⟨rfl, h0, h3, h42, h43, h44⟩
   have hlt' : (i : Int) < cs.length := by omega
   have b1 := bC i
   have e1 : fmapC namedC (cs.take (i + 1)) = fmapC namedC (cs.take i) ++ namedC a := zi9 hget
   rw [e1, ← List.append_assoc]
   have b2 : (LN ++ fmapC namedC (cs.take i)).length ≤ 1024 := by simp; omega
   clear e1 h5 bC bM b1
   generalize LN ++ fmapC namedC (cs.take i) = L at *
   simp -implicitDefEqProofs [h0, h3, h42, h43, h44, hlt, hlt', hget, hg, Cut.row, namedC]
   refine ⟨by simp [Fits], ?_⟩
   refine zag ⟨by omega, by omega⟩ ?_
   simp -implicitDefEqProofs [h0, h3, h42, h43, h44, hlt, hlt', hget, hg, Cut.row, downTo, Function.comp_def]
   exact ⟨⟨rfl, rfl⟩, zax (by omega) (by omega)⟩
  ·rintro ⟨fr, bs⟩ ⟨rfl, h0, h3⟩
   have bC0 := bC cs.length
   rw [List.take_length] at bC0
   have bL : (LN ++ fmapC namedC cs).length ≤ 1024 := by simp; omega
   clear bC
   rw [← List.append_assoc]
   generalize hLC : LN ++ fmapC namedC cs = LC at *
   simp -implicitDefEqProofs [h0, h3]
   refine za7 ps (fun i rest => fun ⟨fr, bs⟩ => bs = [⟨[], 1, .mut⟩, ⟨(LC ++ fmapM namedM (ps.take i)).map irow, 1, .mut⟩] ∧ fr 3 = .ref 1 0 (LC ++ fmapM namedM (ps.take i)).length ∧ fr 59 = .sl (ps.map Msg.row) ps.length ∧ fr 60 = .int .i64 ps.length ∧ fr 61 = .int .i64 i)
    (fun ⟨fr, bs⟩ => bs = [⟨[], 1, .mut⟩, ⟨(LC ++ fmapM namedM ps).map irow, 1, .mut⟩] ∧ fr 3 = .ref 1 0 (LC ++ fmapM namedM ps).length) (fun _ => False) zin.eq_1 ?_ ?_ ?_ ?_ ?_
   ·exact ⟨by simp [fmapM], by simp [fmapM, h3], rfl, rfl, rfl⟩
   ·rintro i ⟨fr, bs⟩ hi ⟨rfl, h3, h13, h43, h14⟩
    subst hi
    rw [List.take_length] at *
    simp -implicitDefEqProofs [h3, h13, h14, h43]
   ·rintro i a rest ⟨fr, bs⟩ hlt hget hg hd hd2 ⟨rfl, h3, h59, h60, h61⟩
    have hlt' : (i : Int) < ps.length := by omega
    have b1 := bM i
    have b5 := h5 a (List.mem_of_getElem? hget)
    have e1 : fmapM namedM (ps.take (i + 1)) = fmapM namedM (ps.take i) ++ namedM a := zi9 hget
    rw [e1, ← List.append_assoc]
    have b2 : (LC ++ fmapM namedM (ps.take i)).length ≤ 65536 := by simp; omega
    clear e1 h5 bM b1
    generalize LC ++ fmapM namedM (ps.take i) = L at *
    simp -implicitDefEqProofs [h3, h59, h60, h61, hlt, hlt', hget, hg, Msg.row, intsD, namedM]
    refine ⟨by simp [Fits], ?_⟩
    refine zag ⟨by omega, by omega⟩ ?_
    simp -implicitDefEqProofs [h3, h59, h60, h61, hlt, hlt', hget, hg, Msg.row, intsD, downTo, Function.comp_def]
    refine zag ⟨by omega, by omega⟩ ?_
    simp -implicitDefEqProofs [h3, h59, h60, h61, hlt, hlt', hget, hg, Msg.row, intsD, downTo, Function.comp_def]
    exact ⟨⟨rfl, rfl⟩, by omega, zax (by omega) (by omega)⟩
   ·rintro ⟨fr, bs⟩ ⟨rfl, h3⟩
    simp -implicitDefEqProofs [h3]
    rw [← hLC]
    simp [Nat.add_assoc]
   ·rintro ⟨fr, bs⟩ h
    exact h.elim
  ·rintro ⟨fr, bs⟩ h
   exact h.elim
 ·rintro ⟨fr, bs⟩ h
  exact h.elim
end Go.AM
/- AM: contracts: nodes found; may a world be. -/
namespace Go.AM
set_option linter.unusedSimpArgs false
set_option linter.unusedVariables false
set_option maxRecDepth 8000
set_option maxHeartbeats 0
theorem zwa (xs : List Node) (g : Nat) (key : Int) (c : Node → Int) (hc : ∀ x ∈ xs, Den PP g [.agg x.cells, .int .i64 key] [] (.int .i64 (c x)) []) (hl : xs.length ≤ cap) (hr : MonoC c xs) :
 Den PP 166 [.sl (xs.map Node.cells) xs.length, .int .i64 key, .fn g [] []] [] (.tup [.int .i64 (posC c xs), .bool (atC c xs)]) [] := by
 have hlo := zsk c xs
 have hhi := zy7 hr
 have hat := zpc c xs
 have hac : atC c xs = (xs[posC c xs]?).any fun x => decide (c x = 0) := rfl
 rw [hac]
 clear hac
 generalize posC c xs = at_ at *
 refine zah [] [] zc2 ?_
 simp -implicitDefEqProofs [zb1]
 refine zhe xs.length (fun m ⟨fr, bs⟩ => ∃ lo hi : Nat, bs = [] ∧ hi - lo ≤ m ∧ lo ≤ at_ ∧ at_ ≤ hi ∧ hi ≤ xs.length ∧ fr 0 = .sl (xs.map Node.cells) xs.length ∧ fr 1 = .int .i64 key ∧ fr 2 = .fn g [] [] ∧ fr 8 = .int .i64 xs.length ∧ fr 9 = .int .i64 lo ∧ fr 10 = .int .i64 hi)
  (fun ⟨fr, bs⟩ => bs = [] ∧ fr 0 = .sl (xs.map Node.cells) xs.length ∧ fr 1 = .int .i64 key ∧ fr 2 = .fn g [] [] ∧ fr 8 = .int .i64 xs.length ∧ fr 9 = .int .i64 at_) (fun _ => False) zbp.eq_1 ?_ ?_ ?_ ?_ ?_
 ·exact ⟨0, xs.length, rfl, by omega, by omega, hat, by omega, rfl, rfl, rfl, rfl, rfl, rfl⟩
 ·rintro ⟨fr, bs⟩ ⟨lo, hi, rfl, h1, h2, h3, h4, h0, h5, h9, h6, h7, h8⟩
  have e1 : lo = at_ := by omega
  have e2 : hi = at_ := by omega
  simp -implicitDefEqProofs [h0, h5, h9, h6, h7, h8, e1, e2]
 ·rintro m ⟨fr, bs⟩ ⟨lo, hi, rfl, h1, h2, h3, h4, h0, h5, h9, h6, h7, h8⟩
  by_cases hlt : lo < hi
  ·have hlt' : (lo : Int) < hi := by omega
   have hm := zup (lo := lo) (hi := hi) (by omega) (by omega)
   have hml : (lo + hi) / 2 < xs.length := by omega
   have hml' : (((lo + hi) / 2 : Nat) : Int) < xs.length := by omega
   have hw := za1 (n := (lo + hi) / 2) (by unfold cap at hl; omega)
   have hb1 : lo ≤ (lo + hi) / 2 := by omega
   have hb2 : (lo + hi) / 2 < hi := by omega
   generalize (lo + hi) / 2 = mid at *
   obtain ⟨x, hx⟩ : ∃ x, xs[mid] = x := ⟨_, rfl⟩
   have hx' : xs[mid]? = some x := by simp [hml, hx]
   have hcx := hc x (List.mem_of_getElem? hx')
   simp only [Node.cells, peersD, intsD, itemsD, toldsD] at hcx
   simp -implicitDefEqProofs [h0, h5, h9, h6, h7, h8, hlt', hlt, hm, hml, hml', hx, Node.cells, peersD, intsD, itemsD, toldsD]
   refine zaa hcx ?_
   simp -implicitDefEqProofs
   refine zaf (fun hc => ?_) (fun hc => ?_)
   all_goals simp -implicitDefEqProofs [h0, h5, h9, h6, h7, h8, hc, hw]
   ·have : mid < at_ := by
     apply Classical.byContradiction
     intro hx2
     have := hhi mid x (by omega) hx'
     omega
    exact ⟨mid + 1, hi, by omega, by omega, by omega, by omega, by simp, by simp⟩
   ·have : at_ ≤ mid := by
     apply Classical.byContradiction
     intro hx2
     have := hlo mid x (by omega) hx'
     omega
    exact ⟨lo, mid, by omega, by omega, by omega, by omega, by simp, by simp⟩
  ·have e1 : lo = at_ := by omega
   have e2 : hi = at_ := by omega
   simp -implicitDefEqProofs [h0, h5, h9, h6, h7, h8, e1, e2]
 ·rintro ⟨fr, bs⟩ ⟨rfl, h0, h1, h2, h6, h7⟩
  simp -implicitDefEqProofs [h0, h1, h2, h6, h7]
  refine zal (fun hc2 => ?_) (fun hc2 => ?_)
  ·obtain ⟨x, hx⟩ : ∃ x, xs[at_]'(by omega) = x := ⟨_, rfl⟩
   have hal : at_ < xs.length := by omega
   have hx' : xs[at_]? = some x := by simp [hx, hal]
   have hcx := hc x (List.mem_of_getElem? hx')
   simp only [Node.cells, peersD, intsD, itemsD, toldsD] at hcx
   simp -implicitDefEqProofs [h0, h1, h2, h6, h7, hc2, hx, hal, Node.cells, peersD, intsD, itemsD, toldsD]
   refine zaa hcx ?_
   simp -implicitDefEqProofs [h0, h1, h2, h6, h7, hc2, hx, hal, hx', Node.cells, peersD, intsD, itemsD, toldsD]
  ·have hp : xs[at_]? = none := by rw [List.getElem?_eq_none]; omega
   simp -implicitDefEqProofs [h0, h1, h2, h6, h7, hc2, hp]
 ·rintro ⟨fr, bs⟩ h
  exact h.elim
theorem zuh (x : Node) (id : Int) : Den PP 167 [.agg x.cells, .int .i64 id] [] (.int .i64 (cmpN id x)) [] := by
 simp only [Node.cells, peersD, intsD, itemsD, toldsD, cmpN]
 refine zah [] [] zo6 ?_
 simp -implicitDefEqProofs [zkl]
 refine zaa (zfa _ _) ?_
 simp -implicitDefEqProofs
theorem zkd (w : Wld) (id : Int) (hl : w.nodes.length ≤ cap) (hr : MonoC (cmpN id) w.nodes) : Den PP 82 [.mem w.cells, .int .i64 id] [] (.tup [.int .i64 (posN id w.nodes), .bool (isN id w.nodes)]) [] := by
 have c1 := zwa w.nodes 167 id (cmpN id) (fun x _ => zuh x id) hl hr
 unfold posN isN
 generalize posC (cmpN id) w.nodes = P at *
 generalize atC (cmpN id) w.nodes = A at *
 simp only [Wld.cells, nodesD, cutsD, msgsD]
 clear hr
 refine zah [] [] ztf ?_
 simp -implicitDefEqProofs [zns]
 refine zaa c1 ?_
 simp -implicitDefEqProofs
theorem zy5 (w : Wld) (id : Int) (hl : w.nodes.length ≤ cap) (hr : MonoC (cmpN id) w.nodes) : Den PP 81 [.int .i64 id, .mem w.cells] [] (.bool (!isN id w.nodes)) [] := by
 have c1 := zkd w id hl hr
 generalize posN id w.nodes = P at *
 generalize isN id w.nodes = A at *
 simp only [Wld.cells, nodesD, cutsD, msgsD] at c1 ⊢
 clear hr
 refine zah [] [] zqw ?_
 simp -implicitDefEqProofs [zma]
 refine zaa c1 ?_
 simp -implicitDefEqProofs
theorem zbf (w : Wld) (hs : w.small) : Den PP 23 [wldD w] [] (.bool (worldMay w)) [] := by
 have c1 := zy0 w.nodes (by have := hs.nodes; unfold cap16 at this; unfold cap; omega) hs.node
 have c2 := ztc w.cuts hs.cuts
 have c3 := zva w.packets hs.packets hs.packet
 unfold worldMay
 cases h1 : nodesMay w.nodes with
 | false =>
   rw [h1] at c1
   clear h1 hs c2 c3
   simp only [wldD, Wld.cells, nodesD, cutsD, msgsD] at c1 ⊢
   refine zah [] [] zg2 ?_
   simp -implicitDefEqProofs [zgt]
   refine zaa c1 ?_
   simp -implicitDefEqProofs
 | true =>
   cases h2 : cutsMay w.cuts with
   | false =>
     rw [h1] at c1
     rw [h2] at c2
     clear h1 h2 hs c3
     simp only [wldD, Wld.cells, nodesD, cutsD, msgsD] at c1 c2 ⊢
     refine zah [] [] zg2 ?_
     simp -implicitDefEqProofs [zgt]
     refine zaa c1 ?_
     simp -implicitDefEqProofs
     refine zaa c2 ?_
     simp -implicitDefEqProofs
   | true =>
     cases h3 : queueMay w.packets with
     | false =>
       rw [h1] at c1
       rw [h2] at c2
       rw [h3] at c3
       clear h1 h2 h3 hs
       simp only [wldD, Wld.cells, nodesD, cutsD, msgsD] at c1 c2 c3 ⊢
       refine zah [] [] zg2 ?_
       simp -implicitDefEqProofs [zgt]
       refine zaa c1 ?_
       simp -implicitDefEqProofs
       refine zaa c2 ?_
       simp -implicitDefEqProofs
       refine zaa c3 ?_
       simp -implicitDefEqProofs
     | true =>
       have hn := zp4 h1 h2 h3
       have hl := z4c hn
       have c4 := zx4 w hn
       have hm := fun id => zay h1 id
       have c5 := zde (namedW w) (by unfold cap; omega) 81 [.mem w.cells] (fun id => !isN id w.nodes) ⟨fun _ => rfl, fun _ _ => rfl, fun id _ => zy5 w id (by have := hn.1; unfold cap; omega) (hm id)⟩
       rw [h1] at c1
       rw [h2] at c2
       rw [h3] at c3
       generalize (namedW w).any (fun id => !isN id w.nodes) = A at *
       generalize namedW w = L at *
       clear h1 h2 h3 hs hn hl hm
       simp only [wldD, Wld.cells, nodesD, cutsD, msgsD, intsD] at c1 c2 c3 c4 c5 ⊢
       refine zah [] [] zg2 ?_
       simp -implicitDefEqProofs [zgt]
       refine zaa c1 ?_
       simp -implicitDefEqProofs
       refine zaa c2 ?_
       simp -implicitDefEqProofs
       refine zaa c3 ?_
       simp -implicitDefEqProofs
       refine zaa c4 ?_
       simp -implicitDefEqProofs [downTo]
       refine zaa c5 ?_
       simp -implicitDefEqProofs
end Go.AM
/- AM: contracts: a queue copied; one taken out. -/
namespace Go.AM
set_option linter.unusedSimpArgs false
set_option linter.unusedVariables false
set_option maxRecDepth 8000
set_option maxHeartbeats 0
theorem zut (xs : List Msg) : Fits 11 (xs.map Msg.row) := by
 intro r hr
 obtain ⟨m, _, rfl⟩ := List.mem_map.1 hr
 exact ⟨rfl, rfl⟩
theorem zzs {α β : Type} {f : α → β} {xs : List α} {i : Nat} {a : α} (h : xs[i]? = some a) : (xs.map f).set i (f a) = xs.map f := by
 apply List.ext_getElem?
 intro j
 rw [List.getElem?_set]
 split
 ·rename_i hij
  subst hij
  have hlt := (List.getElem?_eq_some_iff.1 h).1
  rw [List.getElem?_eq_getElem hlt] at h
  simp [hlt, Option.some.inj h]
 ·rfl
theorem zm2 (xs : List Msg) (hl : xs.length ≤ cap16) (hl2 : xs.length * 104 ≤ 140737488355328) (hi : ∀ m ∈ xs, m.ids.length ≤ cap) : Den PP 146 [msgsD xs] [] (.ref 0 0 xs.length) [⟨xs.map Msg.row, 11, .mut⟩] := by
 have c1 := z4h (xs.map Msg.row) (zut xs) (by simpa using hl2)
 unfold cap16 at hl
 simp only [List.length_map, msgsD] at c1 ⊢
 refine zah [6] [] ztd ?_
 simp -implicitDefEqProofs [znm]
 refine zaa c1 ?_
 simp -implicitDefEqProofs
 refine za7 xs (fun i rest => fun ⟨fr, bs⟩ => bs = [⟨[], 11, .mut⟩, ⟨xs.map Msg.row, 11, .mut⟩] ∧ fr 3 = .ref 1 0 xs.length ∧ fr 8 = .int .i64 xs.length ∧ fr 9 = .int .i64 i)
  (fun ⟨fr, bs⟩ => bs = [⟨[], 11, .mut⟩, ⟨xs.map Msg.row, 11, .mut⟩] ∧ fr 3 = .ref 1 0 xs.length) (fun _ => False) zju.eq_1 ?_ ?_ ?_ ?_ ?_
 ·exact ⟨rfl, rfl, rfl, rfl⟩
 ·rintro i ⟨fr, bs⟩ hi ⟨rfl, h3, h8, h9⟩
  simp -implicitDefEqProofs [h3, h8, h9, hi]
 ·rintro i a rest ⟨fr, bs⟩ hlt hget hg hd hd2 ⟨rfl, h3, h8, h9⟩
  have hlt' : (i : Int) < xs.length := by omega
  have hw := za1 (n := i) (by omega)
  have c2 := zmd (a.ids.map irow) (by simp) (by have := hi a (List.mem_of_getElem? hget); unfold cap at this; simp; omega)
  clear hi
  simp only [List.length_map] at c2
  simp -implicitDefEqProofs [h3, h8, h9, hlt, hlt', hget, hg, Msg.row, intsD]
  refine zaa c2 ?_
  simp -implicitDefEqProofs [h3, h8, h9, hlt, hlt', hget, hg, Msg.row, intsD]
  exact ⟨zzs (f := Msg.row) hget, zax (by omega) (by omega)⟩
 ·rintro ⟨fr, bs⟩ ⟨rfl, h3⟩
  simp -implicitDefEqProofs [h3]
 ·rintro ⟨fr, bs⟩ h
  exact h.elim
theorem z0i (xs : List Msg) (p : Nat) (m : Msg) (hi : ∀ m ∈ xs, m.ids.length ≤ cap) (hq : queueMay xs = true) (hm : xs[p]? = some m) :
 Den PP 207 [msgsD xs, .int .i64 p] [] (.tup [msgD m, .ref 0 0 (xs.take p ++ xs.drop (p + 1)).length, .int .i64 0]) [⟨(xs.take p ++ xs.drop (p + 1)).map Msg.row, 11, .mut⟩] := by
 have hlt := (List.getElem?_eq_some_iff.1 hm).1
 have hg : ∀ h : p < xs.length, xs[p] = m := fun h => by rw [List.getElem?_eq_getElem h] at hm; exact Option.some.inj hm
 have h512 : xs.length ≤ 512 := by
  unfold queueMay at hq
  simp only [Bool.and_eq_true, decide_eq_true_eq] at hq
  exact hq.1
 have c1 := zva xs (by unfold cap16; omega) hi
 have c2 := zm2 xs (by unfold cap16; omega) (by omega) hi
 have c3 := zka (xs.map Msg.row) p (zut xs) (by
  intro r hr d hd
  obtain ⟨y, _, rfl⟩ := List.mem_map.1 hr
  simp only [Msg.row, intsD] at hd
  exact List.all_eq_true.1 (rfl : (List.all _ D.still) = true) d hd) (by simpa using hlt) (by simp; omega)
 rw [← List.map_take, ← List.map_drop, ← List.map_append] at c3
 rw [hq] at c1
 have hlen : (xs.take p ++ xs.drop (p + 1)).length = xs.length - 1 := by simp; omega
 have hw : IntKind.wrap .i64 ((p : Int) + 1) = (p : Int) + 1 := zax (by omega) (by omega)
 have hp' : (p : Int) < xs.length := by omega
 have hp0 : ¬ (p : Int) < 0 := by omega
 have hp1 : ¬ (xs.length : Int) ≤ p := by omega
 generalize (xs.take p ++ xs.drop (p + 1)) = ys at *
 clear hi hq
 simp only [msgsD, msgD] at c1 c2 ⊢
 refine zgc [24, 34] [30] [30] [] (fun _ h => absurd h List.not_mem_nil) ztu ?_
 simp -implicitDefEqProofs [zn2]
 refine zaa c1 ?_
 simp -implicitDefEqProofs [hp0, hp1]
 refine zaa c2 ?_
 simp -implicitDefEqProofs [hlt, hp', hm, hg, Msg.row, intsD, hw]
 refine ⟨?_, ?_⟩
 all_goals
  refine zel rfl (by simp) (by simp) (by simp) c3 ?_
  simp -implicitDefEqProofs [downTo, hlen]
end Go.AM
/- AM: what is handed in, told. -/
namespace Go.AM
set_option linter.unusedSimpArgs false
set_option linter.unusedVariables false
set_option maxRecDepth 8000
theorem zc3 {n : Nat} {cs : List D} (h : Tell TT (n + 1) 3 cs) : ∃ x, cs = [.int .i64 x] ∧ in64 x := by
 simp [Tell] at h
 obtain ⟨x, rfl, hx⟩ := h
 exact ⟨x, rfl, wf64 hx⟩
theorem zmj {n : Nat} {cs : List D} (h : Tell TT (n + 1) 4 cs) : ∃ x, cs = [.bool x] := by
 simpa [Tell] using h
theorem zpg {n : Nat} {cs : List D} (h : Tell TT (n + 2) 36 cs) : ∃ xs : List Int, cs = [intsD xs] ∧ xs.length * 8 ≤ 140737488351232 ∧ ∀ x ∈ xs, in64 x := by
 unfold Tell at h
 simp at h
 obtain ⟨rows, rfl, hl, hr⟩ := h
 obtain ⟨xs, rfl, hx⟩ := zpf (f := irow) (Q := in64) rows fun r h => by
  obtain ⟨x, rfl, hx⟩ := zc3 (hr r h)
  exact ⟨x, rfl, hx⟩
 exact ⟨xs, by simp [intsD], by simpa using hl, hx⟩
theorem z23 {n : Nat} {cs : List D} (h : Tell TT (n + 2) 204 cs) : ∃ p : Peer, cs = p.row ∧ in64 p.id ∧ in64 p.missed := by
 unfold Tell at h
 simp [Tell.TellFs] at h
 obtain ⟨a, b, rfl, h1, h2⟩ := h
 obtain ⟨x, rfl, hx⟩ := zc3 h1
 obtain ⟨y, rfl, hy⟩ := zc3 h2
 exact ⟨⟨x, y⟩, rfl, hx, hy⟩
theorem zr2 {n : Nat} {cs : List D} (h : Tell TT (n + 3) 35 cs) : ∃ ps : List Peer, cs = [peersD ps] ∧ ps.length * 16 ≤ 140737488351232 ∧ ∀ p ∈ ps, in64 p.id ∧ in64 p.missed := by
 unfold Tell at h
 simp at h
 obtain ⟨rows, rfl, hl, hr⟩ := h
 obtain ⟨xs, rfl, hx⟩ := zpf (f := Peer.row) (Q := fun p => in64 p.id ∧ in64 p.missed) rows fun r h => z23 (hr r h)
 exact ⟨xs, by simp [peersD], by simpa using hl, hx⟩
def View.tame (v : View) : Prop := v.peers.length * 16 ≤ 140737488351232 ∧ v.passive.length * 8 ≤ 140737488351232 ∧ in64 v.id ∧ (∀ p ∈ v.peers, in64 p.id ∧ in64 p.missed) ∧ ∀ x ∈ v.passive, in64 x
theorem View.tame.small {v : View} (h : v.tame) : v.small := by
 obtain ⟨h1, h2, _⟩ := h
 unfold View.small cap16 cap
 omega
theorem zwj {n : Nat} {cs : List D} (h : Tell TT (n + 4) 38 cs) : ∃ v : View, cs = v.cells ∧ v.tame := by
 unfold Tell at h
 simp [Tell.TellFs] at h
 obtain ⟨a, r, rfl, h1, b, c, rfl, h2, h3⟩ := h
 obtain ⟨x, rfl, hx⟩ := zc3 h1
 obtain ⟨ps, rfl, hp, hp2⟩ := zr2 h2
 obtain ⟨xs, rfl, hq, hq2⟩ := zpg h3
 exact ⟨⟨x, ps, xs⟩, rfl, hp, hq, hx, hp2, hq2⟩
theorem zt0 {n : Nat} {cs : List D} (h : Tell TT (n + 2) 44 cs) : ∃ c w : Int, cs = [.int .i64 c, .int .i64 w] ∧ in64 c ∧ in64 w := by
 unfold Tell at h
 simp [Tell.TellFs] at h
 obtain ⟨a, b, rfl, h1, h2⟩ := h
 obtain ⟨x, rfl, hx⟩ := zc3 h1
 obtain ⟨y, rfl, hy⟩ := zc3 h2
 exact ⟨x, y, rfl, hx, hy⟩
def Item.tame (i : Item) : Prop := in64 i.key ∧ in64 i.count ∧ in64 i.writer ∧ in64 i.value
theorem zvx {n : Nat} {cs : List D} (h : Tell TT (n + 3) 46 cs) : ∃ i : Item, cs = i.row ∧ i.tame := by
 unfold Tell at h
 simp [Tell.TellFs] at h
 obtain ⟨a, r1, rfl, h1, b, r2, rfl, h2, c, d, rfl, h3, h4⟩ := h
 obtain ⟨x, rfl, hx⟩ := zc3 h1
 obtain ⟨y, z, rfl, hy, hz⟩ := zt0 h2
 obtain ⟨u, rfl, hu⟩ := zc3 h3
 obtain ⟨g, rfl⟩ := zmj h4
 exact ⟨⟨x, y, z, u, g⟩, rfl, hx, hy, hz, hu⟩
theorem zrw {n : Nat} {cs : List D} (h : Tell TT (n + 4) 39 cs) : ∃ is : List Item, cs = [itemsD is] ∧ is.length * 40 ≤ 140737488351232 ∧ ∀ i ∈ is, i.tame := by
 unfold Tell at h
 simp at h
 obtain ⟨rows, rfl, hl, hr⟩ := h
 obtain ⟨xs, rfl, hx⟩ := zpf (f := Item.row) (Q := Item.tame) rows fun r h => zvx (hr r h)
 exact ⟨xs, by simp [itemsD], by simpa using hl, hx⟩
theorem z2x {n : Nat} {cs : List D} (h : Tell TT (n + 2) 61 cs) : ∃ t : Told, cs = t.row ∧ in64 t.key ∧ in64 t.value := by
 unfold Tell at h
 simp [Tell.TellFs] at h
 obtain ⟨a, r1, rfl, h1, b, c, rfl, h2, h3⟩ := h
 obtain ⟨x, rfl, hx⟩ := zc3 h1
 obtain ⟨g, rfl⟩ := zmj h2
 obtain ⟨u, rfl, hu⟩ := zc3 h3
 exact ⟨⟨x, g, u⟩, rfl, hx, hu⟩
theorem z2l {n : Nat} {cs : List D} (h : Tell TT (n + 3) 40 cs) : ∃ ts : List Told, cs = [toldsD ts] ∧ ts.length * 24 ≤ 140737488351232 ∧ ∀ t ∈ ts, in64 t.key ∧ in64 t.value := by
 unfold Tell at h
 simp at h
 obtain ⟨rows, rfl, hl, hr⟩ := h
 obtain ⟨xs, rfl, hx⟩ := zpf (f := Told.row) (Q := fun t => in64 t.key ∧ in64 t.value) rows fun r h => z2x (hr r h)
 exact ⟨xs, by simp [toldsD], by simpa using hl, hx⟩
def Node.tame (x : Node) : Prop := x.view.tame ∧ x.items.length * 40 ≤ 140737488351232 ∧ (∀ i ∈ x.items, i.tame) ∧ x.log.length * 24 ≤ 140737488351232 ∧ ∀ t ∈ x.log, in64 t.key ∧ in64 t.value
theorem Node.tame.small {x : Node} (h : x.tame) : x.small := ⟨h.1.small, h.2.1, h.2.2.2.1⟩
theorem z3r {n : Nat} {cs : List D} (h : Tell TT (n + 5) 42 cs) : ∃ x : Node, cs = x.cells ∧ x.tame := by
 unfold Tell at h
 simp [Tell.TellFs] at h
 obtain ⟨a, r1, rfl, h1, b, r2, rfl, h2, c, d, rfl, h3, h4⟩ := h
 obtain ⟨u, rfl⟩ := zmj h1
 obtain ⟨v, rfl, hv⟩ := zwj h2
 obtain ⟨is, rfl, h5, h6⟩ := zrw h3
 obtain ⟨ts, rfl, h7, h8⟩ := z2l h4
 exact ⟨⟨u, v, is, ts⟩, rfl, hv, h5, h6, h7, h8⟩
theorem qbn {n : Nat} {d : D} (h : TellArg TT (n + 5) 42 d) : ∃ x : Node, d = nodeD x ∧ x.tame := by
 simp [TellArg] at h
 obtain ⟨cs, rfl, h⟩ := h
 obtain ⟨v, rfl, hv⟩ := z3r h
 exact ⟨v, rfl, hv⟩
theorem qby {n : Nat} {d : D} (h : TellArg TT (n + 3) 46 d) : ∃ x : Item, d = .agg x.row ∧ x.tame := by
 simp [TellArg] at h
 obtain ⟨cs, rfl, h⟩ := h
 obtain ⟨v, rfl, hv⟩ := zvx h
 exact ⟨v, rfl, hv⟩
theorem qa6 {n : Nat} {d : D} (h : TellArg TT (n + 4) 39 d) : ∃ x : List Item, d = itemsD x ∧ x.length * 40 ≤ 140737488351232 ∧ ∀ i ∈ x, i.tame := by
 simp [TellArg] at h
 obtain ⟨xs, hx, h2⟩ := zrw h
 simp at hx
 exact ⟨xs, hx, h2⟩
theorem z63 {n : Nat} {d : D} (h : TellArg TT (n + 2) 36 d) : ∃ x : List Int, d = intsD x ∧ x.length * 8 ≤ 140737488351232 ∧ ∀ i ∈ x, in64 i := by
 simp [TellArg] at h
 obtain ⟨xs, hx, h2⟩ := zpg h
 simp at hx
 exact ⟨xs, hx, h2⟩
theorem qbg {n : Nat} {d : D} (h : TellArg TT (n + 3) 35 d) : ∃ x : List Peer, d = peersD x ∧ x.length * 16 ≤ 140737488351232 ∧ ∀ p ∈ x, in64 p.id ∧ in64 p.missed := by
 simp [TellArg] at h
 obtain ⟨xs, hx, h2⟩ := zr2 h
 simp at hx
 exact ⟨xs, hx, h2⟩
theorem qbq {n : Nat} {d : D} (h : TellArg TT (n + 1) 4 d) : ∃ x, d = .bool x ∧ True := by
 simp [TellArg] at h
 obtain ⟨x, hx⟩ := zmj h
 simp at hx
 exact ⟨x, hx, trivial⟩
theorem z9b {n : Nat} {d : D} (h : TellArg TT (n + 1) 3 d) : ∃ x, d = .int .i64 x ∧ in64 x := by
 simp [TellArg] at h
 obtain ⟨x, hx, h2⟩ := zc3 h
 simp at hx
 exact ⟨x, hx, h2⟩
theorem qbl {n : Nat} {d : D} (h : TellArg TT (n + 4) 38 d) : ∃ v : View, d = viewD v ∧ v.tame := by
 simp [TellArg] at h
 obtain ⟨cs, rfl, h⟩ := h
 obtain ⟨v, rfl, hv⟩ := zwj h
 exact ⟨v, rfl, hv⟩
end Go.AM
/- AM: contracts: a node is copied, takes an item. -/
namespace Go.AM
set_option linter.unusedSimpArgs false
set_option linter.unusedVariables false
set_option maxRecDepth 8000
set_option maxHeartbeats 0
theorem zzq {α : Type} {f : α → List D} {n : Nat} (h : ∀ a, (f a).length = n ∧ (f a).all D.isCell = true) (xs : List α) : Fits n (xs.map f) := by
 intro r hr
 obtain ⟨a, _, rfl⟩ := List.mem_map.1 hr
 exact h a
theorem zl1 (v : View) (hs : v.small) : Den PP 110 [viewD v] [] (.agg [.int .i64 v.id, .ref 0 0 v.peers.length, .ref 1 0 v.passive.length]) [⟨v.peers.map Peer.row, 2, .mut⟩, ⟨v.passive.map irow, 1, .mut⟩] := by
 obtain ⟨h1, h2⟩ := hs
 unfold cap16 at h1
 unfold cap at h2
 have c1 := zq6 (v.peers.map Peer.row) (zzq (f := Peer.row) (n := 2) (fun _ => ⟨rfl, rfl⟩) _) (by simp; omega)
 have c2 := zmd (v.passive.map irow) (zzq (f := irow) (n := 1) (fun _ => ⟨rfl, rfl⟩) _) (by simp; omega)
 simp only [List.length_map] at c1 c2
 refine zah [5, 8] [] zu1 ?_
 simp -implicitDefEqProofs [zo4, viewD, View.cells, peersD, intsD]
 refine zaa c1 ?_
 simp -implicitDefEqProofs [downTo]
 refine zaa c2 ?_
 simp -implicitDefEqProofs [downTo]
def copyD (x : Node) : D := .agg [.bool x.up, .int .i64 x.view.id, .ref 0 0 x.view.peers.length, .ref 1 0 x.view.passive.length, .ref 2 0 x.items.length, .ref 3 0 x.log.length]
def nodeB (x : Node) : List Blk := [⟨x.view.peers.map Peer.row, 2, .mut⟩, ⟨x.view.passive.map irow, 1, .mut⟩, ⟨x.items.map Item.row, 5, .mut⟩, ⟨x.log.map Told.row, 3, .mut⟩]
theorem zds (x : Node) (hs : x.small) : Den PP 86 [nodeD x] [] (copyD x) (nodeB x) := by
 have c1 := zl1 x.view hs.1
 obtain ⟨⟨h1, h2⟩, h3, h4⟩ := hs
 unfold cap16 at h1
 unfold cap at h2
 have c2 := zr9 (x.items.map Item.row) (zzq (f := Item.row) (n := 5) (fun _ => ⟨rfl, rfl⟩) _) (by simp; omega)
 have c3 := z0s (x.log.map Told.row) (zzq (f := Told.row) (n := 3) (fun _ => ⟨rfl, rfl⟩) _) (by simp; omega)
 simp only [List.length_map, viewD, View.cells, peersD, intsD] at c1 c2 c3
 unfold copyD nodeB
 refine zah [5, 8, 11] [] zvn ?_
 simp -implicitDefEqProofs [zp0, nodeD, Node.cells, peersD, intsD, itemsD, toldsD]
 refine zaa c1 ?_
 simp -implicitDefEqProofs [downTo]
 refine zaa c2 ?_
 simp -implicitDefEqProofs [downTo]
 refine zaa c3 ?_
 simp -implicitDefEqProofs [downTo]
def takeI (x : Node) (i : Item) : Node := if (putR x.items i).2 = 0 then { x with items := (putR x.items i).1 } else x
theorem z4w (x : Node) (i : Item) (hs : x.small) (h : (nodeUp x && itemMay i) = true) : Den PP 42 [nodeD x, .agg i.row] [] (.tup [copyD (takeI x i), .int .i64 0]) (nodeB (takeI x i)) := by
 have c1 := zd6 x hs
 have c2 := zjz i
 have c3 := zds x hs
 have c4 := zpe x.items i (by have := hs.2.1; unfold cap16; omega)
 rw [Bool.and_eq_true] at h
 obtain ⟨h1, h2⟩ := h
 rw [h1] at c1
 rw [h2] at c2
 unfold takeI
 generalize putR x.items i = r at *
 obtain ⟨is, e⟩ := r
 simp only [nodeD, Node.cells, peersD, intsD, itemsD, toldsD, Item.row, copyD, nodeB] at c1 c2 c3 c4 ⊢
 clear h1 h2
 refine zah [19, 24] [] zvp ?_
 by_cases he : e = 0
 ·subst he
  simp -implicitDefEqProofs [zks, nodeD, Node.cells, peersD, intsD, itemsD, toldsD, Item.row]
  refine zaa c1 ?_
  simp -implicitDefEqProofs
  refine zaa c2 ?_
  simp -implicitDefEqProofs
  refine zaa c3 ?_
  simp -implicitDefEqProofs [downTo]
  refine zaa c4 ?_
  simp -implicitDefEqProofs [downTo]
 ·simp -implicitDefEqProofs [zks, nodeD, Node.cells, peersD, intsD, itemsD, toldsD, Item.row]
  refine zaa c1 ?_
  simp -implicitDefEqProofs
  refine zaa c2 ?_
  simp -implicitDefEqProofs
  refine zaa c3 ?_
  simp -implicitDefEqProofs [downTo]
  refine zaa c4 ?_
  simp -implicitDefEqProofs [downTo, he]
end Go.AM
/- AM: contracts: a world copied, messages sent in it. -/
namespace Go.AM
set_option linter.unusedSimpArgs false
set_option linter.unusedVariables false
set_option maxRecDepth 8000
set_option maxHeartbeats 0
theorem z0h (xs : List Node) : Fits 6 (xs.map Node.cells) := by
 intro r hr
 obtain ⟨m, _, rfl⟩ := List.mem_map.1 hr
 exact ⟨rfl, rfl⟩
theorem z4d (xs : List Cut) : Fits 2 (xs.map Cut.row) := by
 intro r hr
 obtain ⟨m, _, rfl⟩ := List.mem_map.1 hr
 exact ⟨rfl, rfl⟩
def wldR (w : Wld) (i j k : Nat) : List D := [.ref i 0 w.nodes.length, .ref j 0 w.cuts.length, .ref k 0 w.packets.length]
def wldB (w : Wld) : List Blk := [⟨w.nodes.map Node.cells, 6, .mut⟩, ⟨w.cuts.map Cut.row, 2, .mut⟩, ⟨w.packets.map Msg.row, 11, .mut⟩]
theorem za8 (w : Wld) (h : w.tiny) : Den PP 57 [wldD w] [] (.agg (wldR w 0 1 2)) (wldB w) := by
 obtain ⟨ns, cs, ps⟩ := w
 obtain ⟨h1, h2, h3, h4, h5⟩ := h
 simp only at h1 h2 h3 h4 h5
 have c1 := z0y (ns.map Node.cells) (z0h ns) (by simp; omega)
 have c2 := zv1 (cs.map Cut.row) (z4d cs) (by simp; omega)
 have c3 := zm2 ps (by unfold cap16; omega) (by omega) (fun m hm => by have := h5 m hm; unfold cap; omega)
 simp only [wldD, Wld.cells, nodesD, cutsD, msgsD, List.length_map, wldR, wldB] at c1 c2 c3 ⊢
 refine zah [6, 9, 12] [] zso ?_
 simp -implicitDefEqProofs [zni]
 refine zaa c1 ?_
 simp -implicitDefEqProofs
 refine zaa c2 ?_
 simp -implicitDefEqProofs
 refine zaa c3 ?_
 simp -implicitDefEqProofs
 refine za7 ns (fun i rest => fun ⟨fr, bs⟩ => bs = [⟨[[.ref 2 0 ns.length, .ref 3 0 cs.length, .ref 4 0 ps.length]], 3, .box⟩, ⟨[[.nil, .nil, .nil]], 3, .box⟩, ⟨ns.map Node.cells, 6, .mut⟩, ⟨cs.map Cut.row, 2, .mut⟩, ⟨ps.map Msg.row, 11, .mut⟩] ∧ fr 1 = .ptr 0 0 0 ∧ fr 2 = .ptr 1 0 0 ∧ fr 18 = .int .i64 ns.length ∧ fr 19 = .int .i64 i)
  (fun ⟨fr, bs⟩ => bs = [⟨[[.ref 2 0 ns.length, .ref 3 0 cs.length, .ref 4 0 ps.length]], 3, .box⟩, ⟨[[.nil, .nil, .nil]], 3, .box⟩, ⟨ns.map Node.cells, 6, .mut⟩, ⟨cs.map Cut.row, 2, .mut⟩, ⟨ps.map Msg.row, 11, .mut⟩] ∧ fr 1 = .ptr 0 0 0 ∧ fr 2 = .ptr 1 0 0) (fun _ => False) zi5.eq_1 ?_ ?_ ?_ ?_ ?_
 ·exact ⟨rfl, rfl, rfl, rfl, rfl⟩
 ·rintro i ⟨fr, bs⟩ hi ⟨rfl, h1, h2, h18, h19⟩
  simp -implicitDefEqProofs [h1, h2, h18, h19, hi]
 ·rintro i a rest ⟨fr, bs⟩ hlt hget hg hd hd2 ⟨rfl, k1, k2, h18, h19⟩
  have hlt' : (i : Int) < ns.length := by omega
  have c4 := zds a (za3 (h2 a (List.mem_of_getElem? hget)))
  clear h2 h5
  simp only [nodeD, Node.cells, peersD, intsD, itemsD, toldsD, copyD, nodeB] at c4
  simp -implicitDefEqProofs [k1, k2, h18, h19, hlt, hlt', hget, hg, Node.cells, peersD, intsD, itemsD, toldsD]
  refine zaa c4 ?_
  simp -implicitDefEqProofs [k1, k2, h18, h19, hlt, hlt', hget, hg, Node.cells, peersD, intsD, itemsD, toldsD]
  exact ⟨zzs (f := Node.cells) hget, zax (by omega) (by omega)⟩
 ·rintro ⟨fr, bs⟩ ⟨rfl, h1, h2⟩
  simp -implicitDefEqProofs [h1, h2]
 ·rintro ⟨fr, bs⟩ h
  exact h.elim
theorem z6f (m : Msg) : m.row.length = 11 := rfl
theorem zmr (w : Wld) (ms : List Msg) (hw : worldMay w = true) (hm : worldMay { w with packets := ms } = true) : Den PP 206 [wldD w, msgsD ms] [] (.tup [.agg (wldR (sendW w ms) 0 1 2), .int .i64 0]) (wldB (sendW w ms)) := by
 have t1 := zat hw
 have t2 := zat hm
 have c1 := zbf w t1.small
 have c2 := zbf _ t2.small
 have c3 := za8 w t1
 have h1 := t1.packets
 have h2 := t2.packets
 simp only at h2
 have hk : (min ms.length (512 - w.packets.length)) ≤ ms.length := Nat.min_le_left ..
 have c4 := zm2 (ms.take (512 - w.packets.length)) (by simp; unfold cap16; omega) (by simp; omega) (fun m hm' => by have := t2.packet m (List.mem_of_mem_take hm'); unfold cap; omega)
 rw [hw] at c1
 rw [hm] at c2
 have hmi : (if (512 : Int) - w.packets.length < ms.length then (512 : Int) - w.packets.length else ms.length) = ((ms.take (512 - w.packets.length)).length : Nat) := by simp only [List.length_take]; split <;> omega
 have hle : (ms.take (512 - w.packets.length)).length ≤ ms.length := by simp; omega
 have hpk : w.packets.length + (ms.take (512 - w.packets.length)).length ≤ 512 := by simp; omega
 have htk : (ms.map Msg.row).take (ms.take (512 - w.packets.length)).length = (ms.take (512 - w.packets.length)).map Msg.row := by
  rw [← List.map_take]; congr 1; simp
 unfold sendW
 generalize (ms.take (512 - w.packets.length)) = ks at *
 obtain ⟨ns, cs, ps⟩ := w
 clear hw hm t1 t2 hk
 simp only [wldD, Wld.cells, nodesD, cutsD, msgsD, List.length_map, wldR, wldB] at *
 have w1 : IntKind.wrap .i64 (512 - (ps.length : Int)) = 512 - (ps.length : Int) := zax (by omega) (by omega)
 have c4 : Den PP 146 [.sl (ms.map Msg.row) ks.length] [] (.ref 0 0 ks.length) [⟨ks.map Msg.row, 11, .mut⟩] := z43 (by simp only [List.map_cons, List.map_nil, D.cut, htk]; exact c4)
 refine zah [22] [] zsg ?_
 simp -implicitDefEqProofs [znr]
 refine zaa c1 ?_
 simp -implicitDefEqProofs
 refine zaa c2 ?_
 simp -implicitDefEqProofs
 refine zaa c3 ?_
 have hle' : (ks.length : Int) ≤ ms.length := by omega
 simp -implicitDefEqProofs [w1, minL, minF, hmi, sliceD, boundD, z6f, hle, hle']
 refine zaa c4 ?_
 simp -implicitDefEqProofs
 refine zag ⟨by omega, by omega⟩ ?_
 simp -implicitDefEqProofs
end Go.AM
/- AM: plain: acts. -/
namespace Go.AM
set_option linter.unusedSimpArgs false
set_option linter.unusedVariables false
structure Act where
 kind : Int
 node : Int
 other : Int
 pick : Int
 ids : List Int
 key : Int
 value : Int
 deriving DecidableEq, Inhabited
def Act.cells (a : Act) : List D := [.int .i64 a.kind, .int .i64 a.node, .int .i64 a.other, .int .i64 a.pick, intsD a.ids, .int .i64 a.key, .int .i64 a.value]
def actD (a : Act) : D := .agg a.cells
@[simp] theorem z70 (S : Nat → Bool) (x : Act) : x.cells.map (D.sweep S) = x.cells := rfl
@[simp] theorem z8s (fr fp : Nat → Nat → Nat → D) (x : Act) : x.cells.map (D.mapR fr fp) = x.cells := rfl
@[simp] theorem z9w (x : Act) : idsL x.cells = [] := rfl
@[simp] theorem z84 (x : Act) : ridsL x.cells = [] := rfl
@[simp] theorem z50 (x : Act) : x.cells.length = 7 := rfl
def mayA (w : Wld) (a : Act) : Bool :=
 if a.kind = 1 ∨ a.kind = 2 ∨ a.kind = 3 then decide (0 ≤ a.pick) && decide (a.pick ≤ 65535)
 else if a.kind < 0 ∨ 10 < a.kind ∨ isN a.node w.nodes = false then false
 else if a.kind = 4 ∨ a.kind = 5 then isN a.other w.nodes && !decide (a.node = a.other)
 else if a.kind = 7 then decide (a.ids.length ≤ 16) && !a.ids.any fun id => !isN id w.nodes
 else if a.kind = 8 then byte a.key && byte a.value
 else if a.kind = 9 ∨ a.kind = 10 then byte a.key
 else true
def newP (id : Int) (L : List Int) : List Int := L.foldl (fun p y => if y = id then p else (withP p y).1) []
def newN (id : Int) (L : List Int) : Node := ⟨true, ⟨id, [], newP id L⟩, [], []⟩
def newZ (id : Int) (L : List Int) : D := if (L.all fun y => decide (y = id)) = true then .nil else intsD (newP id L)
theorem zzg {p : List Int} {y : Int} (h : passiveMay p = true) (hy : place y = true) (hl : p.length < 16) : withP p y = (if y ∈ p then p else insU y p, 0) ∧ passiveMay (withP p y).1 = true ∧ (withP p y).1.length ≤ p.length + 1 ∧ ∀ x, x ∈ (withP p y).1 ↔ x = y ∨ x ∈ p := by
 have hne : p.length ≠ 16 := by omega
 by_cases hm : y ∈ p
 ·have e : withP p y = (p, 0) := by simp [withP, h, hy, hm]
  rw [e]
  refine ⟨by simp [hm], h, by simp, fun x => ⟨fun hx => .inr hx, ?_⟩⟩
  rintro (rfl | hx)
  ·exact hm
  ·exact hx
 ·have e : withP p y = (insU y p, 0) := by simp [withP, h, hy, hm, hne]
  rw [e]
  exact ⟨by simp [hm], zi7 h hy hm hne, by rw [ze9]; omega, fun x => zj1⟩
theorem z75 (id : Int) : ∀ (L p : List Int), passiveMay p = true → (∀ y ∈ L, place y = true) → p.length + L.length ≤ 16 →
 passiveMay (L.foldl (fun p y => if y = id then p else (withP p y).1) p) = true ∧ (L.foldl (fun p y => if y = id then p else (withP p y).1) p).length ≤ p.length + L.length ∧
  ∀ x, x ∈ L.foldl (fun p y => if y = id then p else (withP p y).1) p ↔ x ∈ p ∨ (x ∈ L ∧ x ≠ id) := by
 intro L
 induction L with
 | nil => intro p h _ _; exact ⟨h, by simp, by simp⟩
 | cons y L ih =>
   intro p h hp hl
   simp only [List.foldl_cons, List.length_cons] at hl ⊢
   by_cases hy : y = id
   ·rw [if_pos hy]
    obtain ⟨h1, h2, h3⟩ := ih p h (fun x hx => hp x (by simp [hx])) (by omega)
    refine ⟨h1, by omega, fun x => ?_⟩
    rw [h3]
    simp only [List.mem_cons]
    constructor
    ·rintro (hx | ⟨hx, hn⟩)
     ·exact .inl hx
     ·exact .inr ⟨.inr hx, hn⟩
    ·rintro (hx | ⟨rfl | hx, hn⟩)
     ·exact .inl hx
     ·exact absurd hy hn
     ·exact .inr ⟨hx, hn⟩
   ·rw [if_neg hy]
    obtain ⟨_, w2, w3, w4⟩ := zzg h (hp y (by simp)) (by omega)
    obtain ⟨h1, h2, h3⟩ := ih _ w2 (fun x hx => hp x (by simp [hx])) (by omega)
    refine ⟨h1, by omega, fun x => ?_⟩
    rw [h3, w4]
    simp only [List.mem_cons]
    constructor
    ·rintro ((rfl | hx) | ⟨hx, hn⟩)
     ·exact .inr ⟨.inl rfl, hy⟩
     ·exact .inl hx
     ·exact .inr ⟨.inr hx, hn⟩
    ·rintro (hx | ⟨rfl | hx, hn⟩)
     ·exact .inl (.inr hx)
     ·exact .inl (.inl rfl)
     ·exact .inr ⟨hx, hn⟩
theorem zp6 {id : Int} {L : List Int} (hp : ∀ y ∈ L, place y = true) (hl : L.length ≤ 16) : passiveMay (newP id L) = true ∧ (newP id L).length ≤ L.length ∧ ∀ x, x ∈ newP id L ↔ x ∈ L ∧ x ≠ id := by
 obtain ⟨h1, h2, h3⟩ := z75 id L [] (by rfl) hp (by simpa using hl)
 refine ⟨h1, by simpa [newP] using h2, fun x => ?_⟩
 have := h3 x
 simpa [newP] using this
theorem zv9 {id : Int} {L : List Int} {i : Nat} {y : Int} (h : L[i]? = some y) : newP id (L.take (i + 1)) = if y = id then newP id (L.take i) else (withP (newP id (L.take i)) y).1 := by
 have e1 : L.take (i + 1) = L.take i ++ [y] := by rw [List.take_add_one, h]; rfl
 unfold newP
 rw [e1, List.foldl_append]
 rfl
theorem z4z {id : Int} {L : List Int} {i : Nat} {y : Int} (h : L[i]? = some y) : newZ id (L.take (i + 1)) = if y = id then newZ id (L.take i) else intsD (newP id (L.take (i + 1))) := by
 have e1 : L.take (i + 1) = L.take i ++ [y] := by rw [List.take_add_one, h]; rfl
 unfold newZ
 by_cases hy : y = id
 ·rw [if_pos hy, zv9 h, if_pos hy, e1, List.all_append]
  simp [hy]
 ·rw [if_neg hy, e1, List.all_append]
  simp [hy]
theorem zz4 {id : Int} {L : List Int} (hp : ∀ y ∈ L, place y = true) (hl : L.length ≤ 16) : (newZ id L).nrm = intsD (newP id L) := by
 unfold newZ
 split
 ·rename_i h
  have : newP id L = [] := by
   apply List.eq_nil_iff_forall_not_mem.2
   intro x hx
   obtain ⟨h1, h2⟩ := ((zp6 hp hl).2.2 x).1 hx
   have := List.all_eq_true.1 h x h1
   simp at this
   exact h2 this
  rw [this]; rfl
 ·simp [intsD]
theorem zz2 {P : Program} {f : Nat} {args : List D} {bs : List Blk} {r : D} {bs' : List Blk} (h : Den P f args bs r bs') : Den P f args bs r.nrm bs' :=
 ⟨h.1, fun w M0 ρ vals hM hS hs ha => (h.2 w M0 ρ vals hM hS hs ha).mono fun e w' ⟨v, ρ', he, hr, hrest⟩ => ⟨v, ρ', he, hr.nrm, hrest⟩⟩
def lowD (n0 : Nat) : D → Bool
 | .ref b _ _ => decide (b < n0)
 | .int _ _ => true
 | .bool _ => true
 | .nil => true
 | .zs _ => true
 | .sl _ _ => true
 | .mem _ => true
 | _ => false
theorem z61 {n0 : Nat} {d : D} (h : lowD n0 d = true) : ∀ b ∈ d.rids, b < n0 := by
 cases d <;> simp [lowD, D.rids] at h ⊢
 exact h
theorem z6e {n0 : Nat} {d : D} (h : lowD n0 d = true) (L : List Nat) (bs : List Blk) : d.mapR (expRef n0 L) (expPtr n0 bs) = d := by
 cases d with
 | ref b o l =>
   simp [lowD] at h
   show expRef n0 L b o l = _
   simp [expRef, h]
 | _ => first | rfl | cases h
theorem zl6 {cs : List D} (h : ∀ d ∈ cs, lowD 0 d = true) (fr fp : Nat → Nat → Nat → D) : cs.map (D.mapR fr fp) = cs := by
 rw [List.map_congr_left (g := id), List.map_id]
 intro d hd
 have := h d hd
 cases d with
 | ref b o l => simp [lowD] at this
 | _ => first | rfl | cases this
theorem zt7 {b : Nat} : ∀ {cs : List D}, b ∈ ridsL cs → ∃ d ∈ cs, b ∈ d.rids
 | [], h => by simp [ridsL] at h
 | d :: ds, h => by
   simp only [ridsL, List.mem_append] at h
   rcases h with h | h
   ·exact ⟨d, by simp, h⟩
   ·obtain ⟨e, he, hb⟩ := zt7 h
    exact ⟨e, by simp [he], hb⟩
theorem z5x {n0 : Nat} {st : St} (h : ∀ k ∈ st.bs.take n0, ∀ r ∈ k.rows, ∀ d ∈ r, lowD n0 d = true) : leave n0 st (.tup []) = some (.tup [], st.bs.take n0) := by
 have h1 : (lentRids (st.bs.take n0)).filter (fun b => decide (n0 ≤ b)) = [] := by
  rw [List.filter_eq_nil_iff]
  intro b hb
  unfold lentRids at hb
  obtain ⟨k, hk, hb⟩ := List.mem_flatMap.1 hb
  obtain ⟨r, hr, hb⟩ := List.mem_flatMap.1 hb
  obtain ⟨d, hd, hb⟩ := zt7 hb
  have := z61 (h k hk r hr d hd) b hb
  simp; omega
 have h2 : (st.bs.take n0).map (Blk.mapR (expRef n0 []) (expPtr n0 st.bs)) = st.bs.take n0 := by
  rw [List.map_congr_left (g := id), List.map_id]
  intro k hk
  show { k with rows := _ } = k
  have : k.rows.map (fun r => r.map (D.mapR (expRef n0 []) (expPtr n0 st.bs))) = k.rows := by
   rw [List.map_congr_left (g := id), List.map_id]
   intro r hr
   rw [List.map_congr_left (g := id), List.map_id]
   ·rfl
   ·intro d hd
    exact z6e (h k hk r hr d hd) _ _
  rw [this]
 unfold leave
 simp only [D.rids, ridsL, List.nil_append, h1, h2]
 simp [D.mapR, mapRL]
def lowR (n0 : Nat) (rows : List (List D)) : Prop := ∀ r ∈ rows, ∀ d ∈ r, lowD n0 d = true
theorem zx1 {α : Type} (n0 : Nat) (f : α → List D) (xs : List α) (h : ∀ x, ∀ d ∈ f x, lowD n0 d = true) : lowR n0 (xs.map f) := by
 intro r hr
 obtain ⟨x, _, rfl⟩ := List.mem_map.1 hr
 exact h x
theorem zru (n0 : Nat) (x : Node) : ∀ d ∈ x.cells, lowD n0 d = true := List.all_eq_true.1 (rfl : (x.cells.all fun d => lowD n0 d) = true)
theorem za9 (n0 : Nat) (xs : List Node) : lowR n0 (xs.map Node.cells) := zx1 n0 _ xs (zru n0)
theorem zbt (n0 : Nat) (xs : List Cut) : lowR n0 (xs.map Cut.row) := zx1 n0 _ xs fun x => List.all_eq_true.1 (rfl : (x.row.all fun d => lowD n0 d) = true)
theorem zbu (n0 : Nat) (xs : List Msg) : lowR n0 (xs.map Msg.row) := zx1 n0 _ xs fun x => List.all_eq_true.1 (rfl : (x.row.all fun d => lowD n0 d) = true)
theorem zgd {n0 : Nat} {rows : List (List D)} {P : Nat} {cs : List D} (h : lowR n0 rows) (hc : ∀ d ∈ cs, lowD n0 d = true) : lowR n0 (rows.set P cs) := by
 intro r hr
 rcases List.mem_or_eq_of_mem_set hr with h1 | rfl
 ·exact h r h1
 ·exact hc
theorem zaz {n0 : Nat} {cs : List D} (h : (cs.all fun d => lowD n0 d) = true) : lowR n0 [cs] := by
 intro r hr
 rw [List.mem_singleton.1 hr]
 exact List.all_eq_true.1 h
theorem low5 {n0 : Nat} {a b c d e : Blk} (ha : lowR n0 a.rows) (hb : lowR n0 b.rows) (hc : lowR n0 c.rows) (hd : lowR n0 d.rows) (he : lowR n0 e.rows) : ∀ k ∈ [a, b, c, d, e], ∀ r ∈ k.rows, ∀ x ∈ r, lowD n0 x = true := by
 intro k hk
 simp only [List.mem_cons, List.not_mem_nil, or_false] at hk
 rcases hk with rfl | rfl | rfl | rfl | rfl
 ·exact ha
 ·exact hb
 ·exact hc
 ·exact hd
 ·exact he
theorem leave5 {fr : Nat → D} {a b c d e : Blk} {news : List Blk} (ha : lowR 5 a.rows) (hb : lowR 5 b.rows) (hc : lowR 5 c.rows) (hd : lowR 5 d.rows) (he : lowR 5 e.rows) : leave 5 ⟨fr, a :: b :: c :: d :: e :: news⟩ (.tup []) = some (.tup [], [a, b, c, d, e]) :=
 z5x (st := ⟨fr, a :: b :: c :: d :: e :: news⟩) (low5 ha hb hc hd he)
def actB (w : Wld) (a : Act) : List Blk := [⟨[[.ref 1 0 w.nodes.length, .ref 2 0 w.cuts.length, .ref 3 0 w.packets.length]], 3, .box⟩, ⟨w.nodes.map Node.cells, 6, .mut⟩, ⟨w.cuts.map Cut.row, 2, .mut⟩, ⟨w.packets.map Msg.row, 11, .mut⟩, ⟨[a.cells], 7, .box⟩]
end Go.AM
/- AM: contracts: what an act's doer asks. -/
namespace Go.AM
set_option linter.unusedSimpArgs false
set_option linter.unusedVariables false
set_option maxRecDepth 8000
set_option maxHeartbeats 0
theorem znd (w : Wld) (id : Int) (hl : w.nodes.length ≤ cap) (hr : MonoC (cmpN id) w.nodes) : Den PP 147 [.mem w.cells, .int .i64 id] [] (.bool (isN id w.nodes)) [] := by
 have c1 := zkd w id hl hr
 generalize posN id w.nodes = P at *
 generalize isN id w.nodes = A at *
 simp only [Wld.cells, nodesD, cutsD, msgsD] at c1 ⊢
 clear hr
 refine zah [] [] zmx ?_
 simp -implicitDefEqProofs [zis]
 refine zaa c1 ?_
 simp -implicitDefEqProofs
theorem z1b (w : Wld) (id : Int) (hl : w.nodes.length ≤ cap) (hr : MonoC (cmpN id) w.nodes) : Den PP 148 [.int .i64 id, .mem [.mem w.cells]] [] (.bool (!isN id w.nodes)) [] := by
 have c1 := znd w id hl hr
 generalize isN id w.nodes = A at *
 simp only [Wld.cells, nodesD, cutsD, msgsD] at c1 ⊢
 clear hr
 refine zah [] [] zmw ?_
 simp -implicitDefEqProofs [zio]
 refine zaa c1 ?_
 simp -implicitDefEqProofs
theorem zcc (w : Wld) (a : Act) (hl : w.nodes.length ≤ cap) (hr : ∀ id, MonoC (cmpN id) w.nodes) (hi : a.ids.length ≤ cap) : Den PP 58 [.mem w.cells, .mem a.cells] [] (.bool (mayA w a)) [] := by
 have c1 := znd w a.node hl (hr a.node)
 have c2 := znd w a.other hl (hr a.other)
 have c3 := zde a.ids hi 148 [.mem [.mem w.cells]] (fun id => !isN id w.nodes) ⟨fun _ => rfl, fun _ _ => rfl, fun id _ => z1b w id hl (hr id)⟩
 have c4 := zeb a.key
 have c5 := zeb a.value
 unfold mayA
 generalize (a.ids.any fun id => !isN id w.nodes) = X at *
 generalize isN a.node w.nodes = A at *
 generalize isN a.other w.nodes = B at *
 generalize byte a.key = K at *
 generalize byte a.value = V at *
 clear hr
 simp only [Wld.cells, Act.cells, nodesD, cutsD, msgsD, intsD] at c1 c2 c3 ⊢
 obtain ⟨k, n, o, p, ids, key, value⟩ := a
 simp only at *
 by_cases hk : k < 0 ∨ 10 < k
 ·have e : ∀ i : Int, 0 ≤ i → i ≤ 10 → ¬ k = i := fun i h1 h2 => by omega
  have e1 := e 1 (by omega) (by omega)
  have e2 := e 2 (by omega) (by omega)
  have e3 := e 3 (by omega) (by omega)
  clear e
  refine zah [] [] zjg ?_
  simp -implicitDefEqProofs [zg4, e1, e2, e3]
  rcases hk with hk | hk
  ·simp -implicitDefEqProofs [hk, e1, e2, e3]
  ·have h2 : ¬ k < 0 := by omega
   simp -implicitDefEqProofs [hk, h2, e1, e2, e3]
 ·have hk2 : k = 1 ∨ k = 2 ∨ k = 3 ∨ k = 0 ∨ k = 4 ∨ k = 5 ∨ k = 6 ∨ k = 7 ∨ k = 8 ∨ k = 9 ∨ k = 10 := by omega
  clear hk
  rcases hk2 with rfl | rfl | rfl | rfl | rfl | rfl | rfl | rfl | rfl | rfl | rfl
  all_goals
   refine zah [] [] zjg ?_
   simp -implicitDefEqProofs [zg4]
   repeat' ((first | refine zaa (by first | exact c1 | exact c2 | exact c3 | exact c4 | exact c5) ?_ | ((with_reducible first | refine zal ?_ ?_ | refine zaj ?_ ?_ | refine zaf ?_ ?_ | refine zae ?_ ?_) <;> intro _) | ((with_reducible first | refine zap ?_ ?_ | refine zaq ?_ ?_ | refine zan ?_ ?_ | refine zad ?_ ?_ | refine zak ?_ ?_ | refine zao ?_ ?_ | refine zai ?_ ?_ | refine zab ?_ ?_) <;> intro hq <;> (try simp at hq)) | refine zag (by omega) ?_ | refine zam (by omega) ?_) <;> simp -implicitDefEqProofs [*])
  all_goals grind
end Go.AM
/- AM: contracts: a doer's node, what it sends, what it picks. -/
namespace Go.AM
set_option linter.unusedSimpArgs false
set_option linter.unusedVariables false
set_option maxRecDepth 8000
set_option maxHeartbeats 0
theorem zdg {w : Wld} {id : Int} (h : isN id w.nodes = true) : posN id w.nodes < w.nodes.length := (zl7 h).1
theorem zdm (w : Wld) (a : Act) (hl : w.nodes.length ≤ cap) (hr : MonoC (cmpN a.node) w.nodes) (hi : isN a.node w.nodes = true) : Den PP 150 [.ptr 0 0 0, .ptr 4 0 0] [⟨[[.ref 1 0 w.nodes.length, .ref 2 0 w.cuts.length, .ref 3 0 w.packets.length]], 3, .box⟩, ⟨w.nodes.map Node.cells, 6, .mut⟩, ⟨w.cuts.map Cut.row, 2, .mut⟩, ⟨w.packets.map Msg.row, 11, .mut⟩, ⟨[a.cells], 7, .box⟩] (.ptr 1 (posN a.node w.nodes) 0) [⟨[[.ref 1 0 w.nodes.length, .ref 2 0 w.cuts.length, .ref 3 0 w.packets.length]], 3, .box⟩, ⟨w.nodes.map Node.cells, 6, .mut⟩, ⟨w.cuts.map Cut.row, 2, .mut⟩, ⟨w.packets.map Msg.row, 11, .mut⟩, ⟨[a.cells], 7, .box⟩] := by
 have c1 := zkd w a.node hl hr
 have hp := zdg hi
 generalize posN a.node w.nodes = P at *
 rw [hi] at c1
 clear hi hr
 have hp' : (P : Int) < w.nodes.length := by omega
 simp only [Wld.cells, Act.cells, nodesD, cutsD, msgsD, intsD] at c1 ⊢
 refine zah [] [] zit ?_
 simp -implicitDefEqProofs [zgn]
 refine zaa c1 ?_
 simp -implicitDefEqProofs [hp, hp']
theorem zft (w : Wld) (id : Int) (qs : List Msg) (hl : w.nodes.length ≤ cap) (hr : MonoC (cmpN id) w.nodes) (hi : isN id w.nodes = true) : Den PP 150 [.ptr 0 0 0, .ptr 4 0 0] [⟨[[.ref 1 0 w.nodes.length, .ref 2 0 w.cuts.length, .sl (w.packets.map Msg.row) w.packets.length]], 3, .box⟩, ⟨w.nodes.map Node.cells, 6, .mut⟩, ⟨w.cuts.map Cut.row, 2, .mut⟩, ⟨qs.map Msg.row, 11, .app⟩, ⟨[[.int .i64 0, .int .i64 id, .int .i64 0, .int .i64 0, .nil, .int .i64 0, .int .i64 0]], 7, .box⟩] (.ptr 1 (posN id w.nodes) 0) [⟨[[.ref 1 0 w.nodes.length, .ref 2 0 w.cuts.length, .sl (w.packets.map Msg.row) w.packets.length]], 3, .box⟩, ⟨w.nodes.map Node.cells, 6, .mut⟩, ⟨w.cuts.map Cut.row, 2, .mut⟩, ⟨qs.map Msg.row, 11, .app⟩, ⟨[[.int .i64 0, .int .i64 id, .int .i64 0, .int .i64 0, .nil, .int .i64 0, .int .i64 0]], 7, .box⟩] := by
 have c1 := zkd w id hl hr
 have hp := zdg hi
 generalize posN id w.nodes = P at *
 rw [hi] at c1
 clear hi hr
 have hp' : (P : Int) < w.nodes.length := by omega
 simp only [Wld.cells, Act.cells, nodesD, cutsD, msgsD, intsD] at c1 ⊢
 refine zah [] [] zit ?_
 simp -implicitDefEqProofs [zgn]
 refine zaa c1 ?_
 simp -implicitDefEqProofs [hp, hp']
theorem zpp (w : Wld) (ms : List Msg) (hw : worldMay w = true) (hm : worldMay { w with packets := ms } = true) : Den PP 151 [.ptr 0 0 0, msgsD ms] [⟨[[.ref 1 0 w.nodes.length, .ref 2 0 w.cuts.length, .ref 3 0 w.packets.length]], 3, .box⟩, ⟨w.nodes.map Node.cells, 6, .mut⟩, ⟨w.cuts.map Cut.row, 2, .mut⟩, ⟨w.packets.map Msg.row, 11, .mut⟩] (.tup []) [⟨[(sendW w ms).cells], 3, .box⟩, ⟨w.nodes.map Node.cells, 6, .app⟩, ⟨w.cuts.map Cut.row, 2, .app⟩, ⟨w.packets.map Msg.row, 11, .app⟩] := by
 have c1 := zmr w ms hw hm
 have e : (sendW w ms).nodes = w.nodes ∧ (sendW w ms).cuts = w.cuts := ⟨rfl, rfl⟩
 generalize sendW w ms = v at *
 obtain ⟨ns, cs, ps⟩ := v
 obtain ⟨e1, e2⟩ := e
 simp only at e1 e2
 subst e1 e2
 clear hw hm
 simp only [wldD, wldR, wldB, Wld.cells, Act.cells, nodesD, cutsD, msgsD, intsD] at c1 ⊢
 refine zah [] [] zfy ?_
 simp -implicitDefEqProofs [zeq]
 refine zaa c1 ?_
 simp -implicitDefEqProofs [downTo]
theorem zgx (w : Wld) (ms : List Msg) (qs : List Msg) (hw : worldMay w = true) (hm : worldMay { w with packets := ms } = true) : Den PP 151 [.ptr 0 0 0, msgsD ms] [⟨[[.ref 1 0 w.nodes.length, .ref 2 0 w.cuts.length, .sl (w.packets.map Msg.row) w.packets.length]], 3, .box⟩, ⟨w.nodes.map Node.cells, 6, .mut⟩, ⟨w.cuts.map Cut.row, 2, .mut⟩, ⟨qs.map Msg.row, 11, .app⟩] (.tup []) [⟨[(sendW w ms).cells], 3, .box⟩, ⟨w.nodes.map Node.cells, 6, .app⟩, ⟨w.cuts.map Cut.row, 2, .app⟩, ⟨qs.map Msg.row, 11, .app⟩] := by
 have c1 := zmr w ms hw hm
 have e : (sendW w ms).nodes = w.nodes ∧ (sendW w ms).cuts = w.cuts := ⟨rfl, rfl⟩
 generalize sendW w ms = v at *
 obtain ⟨ns, cs, ps⟩ := v
 obtain ⟨e1, e2⟩ := e
 simp only at e1 e2
 subst e1 e2
 clear hw hm
 simp only [wldD, wldR, wldB, Wld.cells, Act.cells, nodesD, cutsD, msgsD, intsD] at c1 ⊢
 refine zah [] [] zfy ?_
 simp -implicitDefEqProofs [zeq]
 refine zaa c1 ?_
 simp -implicitDefEqProofs [downTo]
theorem ztn (w : Wld) (ms : List Msg) (hw : worldMay w = true) (hm : worldMay { w with packets := ms } = true) : Den PP 151 [.ptr 0 0 0, .ref 4 0 ms.length] [⟨[[.ref 1 0 w.nodes.length, .ref 2 0 w.cuts.length, .ref 3 0 w.packets.length]], 3, .box⟩, ⟨w.nodes.map Node.cells, 6, .mut⟩, ⟨w.cuts.map Cut.row, 2, .mut⟩, ⟨w.packets.map Msg.row, 11, .app⟩, ⟨ms.map Msg.row, 11, .mut⟩] (.tup []) [⟨[(sendW w ms).cells], 3, .box⟩, ⟨w.nodes.map Node.cells, 6, .app⟩, ⟨w.cuts.map Cut.row, 2, .app⟩, ⟨w.packets.map Msg.row, 11, .app⟩, ⟨ms.map Msg.row, 11, .app⟩] := by
 have c1 := zmr w ms hw hm
 have e : (sendW w ms).nodes = w.nodes ∧ (sendW w ms).cuts = w.cuts := ⟨rfl, rfl⟩
 generalize sendW w ms = v at *
 obtain ⟨ns, cs, ps⟩ := v
 obtain ⟨e1, e2⟩ := e
 simp only at e1 e2
 subst e1 e2
 clear hw hm
 simp only [wldD, wldR, wldB, Wld.cells, Act.cells, nodesD, cutsD, msgsD, intsD] at c1 ⊢
 refine zah [] [] zfy ?_
 simp -implicitDefEqProofs [zeq]
 refine zaa c1 ?_
 simp -implicitDefEqProofs [downTo]
theorem zg5 (w : Wld) (a : Act) (h : w.packets = []) : Den PP 152 [.ptr 0 0 0, .ptr 4 0 0] (actB w a) (.tup [.agg [.int .i64 0, .int .i64 0, .int .i64 0, .nil, .int .i64 0, .int .i64 0, .int .i64 0, .int .i64 0, .int .i64 0, .bool false, .bool false], .ref 5 0 0, .bool false]) (actB w a ++ [⟨[], 11, .mut⟩]) := by
 unfold actB
 rw [h]
 simp only [Wld.cells, Act.cells, nodesD, cutsD, msgsD, intsD]
 refine zah [] [] zgz ?_
 simp -implicitDefEqProofs [zfd]
def pickP (w : Wld) (a : Act) : Nat := (a.pick % w.packets.length).toNat
def leftP (w : Wld) (p : Nat) : List Msg := w.packets.take p ++ w.packets.drop (p + 1)
theorem zdt (w : Wld) (a : Act) (m : Msg) (hw : w.tiny) (hq : queueMay w.packets = true) (h0 : 0 ≤ a.pick) (hp : a.pick ≤ 65535) (hm : w.packets[pickP w a]? = some m) : Den PP 152 [.ptr 0 0 0, .ptr 4 0 0] (actB w a) (.tup [msgD m, msgsD (leftP w (pickP w a)), .bool true])
 [⟨[[.ref 1 0 w.nodes.length, .ref 2 0 w.cuts.length, .ref 3 0 w.packets.length]], 3, .box⟩, ⟨w.nodes.map Node.cells, 6, .mut⟩, ⟨w.cuts.map Cut.row, 2, .mut⟩, ⟨w.packets.map Msg.row, 11, .app⟩, ⟨[a.cells], 7, .box⟩] := by
 have c1 := z0i w.packets (pickP w a) m (fun m hm => by have := hw.packet m hm; unfold cap; omega) hq hm
 have hlt := (List.getElem?_eq_some_iff.1 hm).1
 have h512 := hw.packets
 have e : (leftP w (pickP w a)) = w.packets.take (pickP w a) ++ w.packets.drop (pickP w a + 1) := rfl
 rw [← e] at c1
 have hmod : ((pickP w a : Nat) : Int) = a.pick % w.packets.length := by
  unfold pickP
  rw [Int.toNat_of_nonneg (Int.emod_nonneg _ (by omega))]
 have hmod2 : a.pick.tmod w.packets.length = ((pickP w a : Nat) : Int) := by rw [hmod, Int.tmod_eq_emod_of_nonneg h0]
 generalize leftP w (pickP w a) = ls at *
 generalize pickP w a = P at *
 clear hq hmod e
 have hne : ¬ (w.packets.length : Int) = 0 := by omega
 have hne2 : ¬ w.packets = [] := by intro h; rw [h] at hlt; simp at hlt
 unfold actB
 simp only [msgD, Msg.row, Wld.cells, Act.cells, nodesD, cutsD, msgsD, intsD] at c1 ⊢
 refine zah [] [] zgz ?_
 simp -implicitDefEqProofs [zfd, hne, hne2, hmod2]
 refine zaa c1 ?_
 simp -implicitDefEqProofs [downTo, hmod2]
end Go.AM
/- AM: contracts: the document's take; a node spoiled. -/
namespace Go.AM
set_option linter.unusedSimpArgs false
set_option linter.unusedVariables false
set_option maxRecDepth 8000
set_option maxHeartbeats 0
end Go.AM
/- Plain law: a store takes items twice. -/
namespace Go.AM
set_option linter.unusedSimpArgs false
set_option linter.unusedVariables false

end Go.AM
/- AM: contracts: writing; the document's. -/
namespace Go.AM
set_option linter.unusedSimpArgs false
set_option linter.unusedVariables false
set_option maxRecDepth 8000
set_option maxHeartbeats 0
def wrI (x : Node) (i : Item) : Item := { i with count := (getR x.items i.key).1.count + 1, writer := x.view.id }
def wrMay (x : Node) (i : Item) : Bool := nodeUp x && (byte i.key && byte i.value)
def wrOk (x : Node) (i : Item) : Bool := decide ((wrI x i).count ≤ 65535) && decide ((putR x.items (wrI x i)).2 = 0)
def wrN (x : Node) (i : Item) : Node := { x with items := (putR x.items (wrI x i)).1 }
def wrE (x : Node) (i : Item) : Int := if wrMay x i then 1701 else 1700
def getW : Option Item → Item × Bool
 | some i => (i, true)
 | none => (zeroItem, false)
theorem zt8 {is : List Item} (h : storeMay is = true) (k : Int) : getR is k = getW (getS is k) := by
 unfold getR
 rw [if_pos h]
 cases getS is k <;> rfl
theorem zrl {is : List Item} (h : storeMay is = true) (k : Int) : 0 ≤ (getR is k).1.count ∧ (getR is k).1.count ≤ 65535 := by
 rw [zt8 h]
 cases hg : getS is k with
 | none => simp [getW, zeroItem]
 | some i =>
   have hm := ((zc1 is).1 h).1 i (zzn hg).2
   simp only [itemMay, verMay, Bool.and_eq_true, decide_eq_true_eq] at hm
   simp only [getW]
   omega
theorem z58 (x : Node) (i : Item) (hs : x.small) (h : wrMay x i = false) : Den PP 211 [nodeD x, .agg i.row] [] (.tup [.agg [.bool false, .int .i64 0, .nil, .nil, .nil, .nil], .int .i64 1700]) [] := by
 have c1 := zd6 x hs
 unfold wrMay at h
 generalize nodeUp x = U at *
 have c2 := zeb i.key
 have c3 := zeb i.value
 generalize byte i.key = A at *
 generalize byte i.value = B at *
 simp only [nodeD, Node.cells, peersD, intsD, itemsD, toldsD, Item.row] at c1 c2 c3 ⊢
 refine zah [] [] zhc ?_
 cases U <;> cases A <;> cases B
 all_goals
  simp at h
 all_goals
  simp -implicitDefEqProofs [zet]
  repeat' ((first | refine zaa (by first | exact c1 | exact c2 | exact c3) ?_ | ((with_reducible first | refine zal ?_ ?_ | refine zaj ?_ ?_ | refine zaf ?_ ?_ | refine zae ?_ ?_) <;> intro _) | ((with_reducible first | refine zap ?_ ?_ | refine zaq ?_ ?_ | refine zan ?_ ?_ | refine zad ?_ ?_ | refine zak ?_ ?_ | refine zao ?_ ?_ | refine zai ?_ ?_ | refine zab ?_ ?_) <;> intro hq <;> (try simp at hq)) | refine zag (by omega) ?_ | refine zam (by omega) ?_) <;> simp -implicitDefEqProofs [*])
theorem z13 (x : Node) (i : Item) (hs : x.small) (h : wrMay x i = true) (hf : wrOk x i = false) : Den PP 211 [nodeD x, .agg i.row] [] (.tup [.agg [.bool false, .int .i64 0, .nil, .nil, .nil, .nil], .int .i64 1701]) [] := by
 have c1 := zd6 x hs
 unfold wrMay at h
 simp only [Bool.and_eq_true] at h
 obtain ⟨h1, h2, h3⟩ := h
 have c2 := zeb i.key
 have c3 := zeb i.value
 rw [h1] at c1
 rw [h2] at c2
 rw [h3] at c3
 have hst : storeMay x.items = true := by simp only [nodeUp, nodeMay, Bool.and_eq_true] at h1; grind
 have hc := zrl hst i.key
 have c4 := zlx x.items i.key (by have := hs.2.1; unfold cap16; omega)
 have c5 := zds x hs
 have c6 := zpe x.items (wrI x i) (by have := hs.2.1; unfold cap16; omega)
 unfold wrOk at hf
 unfold wrI at hf c6
 generalize getR x.items i.key = r at *
 obtain ⟨⟨ik, ic, iw, iv, ig⟩, g⟩ := r
 simp only at hc hf c6
 have w1 : IntKind.wrap .i64 (ic + 1) = ic + 1 := zax (by omega) (by omega)
 clear h1 h2 h3 hst hc
 generalize putR x.items { i with count := ic + 1, writer := x.view.id } = q at *
 obtain ⟨is, e⟩ := q
 simp only [nodeD, Node.cells, peersD, intsD, itemsD, toldsD, Item.row, copyD, nodeB] at c1 c2 c3 c4 c5 c6 ⊢
 refine zah [50, 55] [] zhc ?_
 by_cases hq : ic + 1 ≤ 65535
 ·have hq2 : ¬ 65535 < ic + 1 := by omega
  have he : ¬ e = 0 := by simpa [hq] using hf
  clear hf hq
  simp -implicitDefEqProofs [zet, w1]
  repeat' ((first | refine zaa (by first | exact c1 | exact c2 | exact c3 | exact c4 | exact c5 | exact c6) ?_ | ((with_reducible first | refine zal ?_ ?_ | refine zaj ?_ ?_ | refine zaf ?_ ?_ | refine zae ?_ ?_) <;> intro _) | ((with_reducible first | refine zap ?_ ?_ | refine zaq ?_ ?_ | refine zan ?_ ?_ | refine zad ?_ ?_ | refine zak ?_ ?_ | refine zao ?_ ?_ | refine zai ?_ ?_ | refine zab ?_ ?_) <;> intro hq <;> (try simp at hq)) | refine zag (by omega) ?_ | refine zam (by omega) ?_) <;> simp -implicitDefEqProofs [*, downTo, w1, hq2, he])
 ·have hq2 : 65535 < ic + 1 := by omega
  clear hf hq
  simp -implicitDefEqProofs [zet, w1]
  repeat' ((first | refine zaa (by first | exact c1 | exact c2 | exact c3 | exact c4 | exact c5 | exact c6) ?_ | ((with_reducible first | refine zal ?_ ?_ | refine zaj ?_ ?_ | refine zaf ?_ ?_ | refine zae ?_ ?_) <;> intro _) | ((with_reducible first | refine zap ?_ ?_ | refine zaq ?_ ?_ | refine zan ?_ ?_ | refine zad ?_ ?_ | refine zak ?_ ?_ | refine zao ?_ ?_ | refine zai ?_ ?_ | refine zab ?_ ?_) <;> intro hq <;> (try simp at hq)) | refine zag (by omega) ?_ | refine zam (by omega) ?_) <;> simp -implicitDefEqProofs [*, downTo, w1, hq2])
theorem zzi (x : Node) (i : Item) (hs : x.small) (h : wrMay x i = true) (hf : wrOk x i = true) : Den PP 211 [nodeD x, .agg i.row] [] (.tup [copyD (wrN x i), .int .i64 0]) (nodeB (wrN x i)) := by
 have c1 := zd6 x hs
 unfold wrMay at h
 simp only [Bool.and_eq_true] at h
 obtain ⟨h1, h2, h3⟩ := h
 have c2 := zeb i.key
 have c3 := zeb i.value
 rw [h1] at c1
 rw [h2] at c2
 rw [h3] at c3
 have hst : storeMay x.items = true := by simp only [nodeUp, nodeMay, Bool.and_eq_true] at h1; grind
 have hc := zrl hst i.key
 have c4 := zlx x.items i.key (by have := hs.2.1; unfold cap16; omega)
 have c5 := zds x hs
 have c6 := zpe x.items (wrI x i) (by have := hs.2.1; unfold cap16; omega)
 unfold wrOk at hf
 unfold wrN
 unfold wrI at hf c6 ⊢
 generalize getR x.items i.key = r at *
 obtain ⟨⟨ik, ic, iw, iv, ig⟩, g⟩ := r
 simp only at hc hf c6
 have w1 : IntKind.wrap .i64 (ic + 1) = ic + 1 := zax (by omega) (by omega)
 simp only
 clear h1 h2 h3 hst hc
 generalize putR x.items { i with count := ic + 1, writer := x.view.id } = q at *
 obtain ⟨is, e⟩ := q
 simp only [Bool.and_eq_true, decide_eq_true_eq] at hf
 obtain ⟨hq, he⟩ := hf
 subst he
 have hq2 : ¬ 65535 < ic + 1 := by omega
 clear hq
 simp only [nodeD, Node.cells, peersD, intsD, itemsD, toldsD, Item.row, copyD, nodeB] at c1 c2 c3 c4 c5 c6 ⊢
 refine zah [50, 55] [] zhc ?_
 simp -implicitDefEqProofs [zet, w1]
 repeat' ((first | refine zaa (by first | exact c1 | exact c2 | exact c3 | exact c4 | exact c5 | exact c6) ?_ | ((with_reducible first | refine zal ?_ ?_ | refine zaj ?_ ?_ | refine zaf ?_ ?_ | refine zae ?_ ?_) <;> intro _) | ((with_reducible first | refine zap ?_ ?_ | refine zaq ?_ ?_ | refine zan ?_ ?_ | refine zad ?_ ?_ | refine zak ?_ ?_ | refine zao ?_ ?_ | refine zai ?_ ?_ | refine zab ?_ ?_) <;> intro hq <;> (try simp at hq)) | refine zag (by omega) ?_ | refine zam (by omega) ?_) <;> simp -implicitDefEqProofs [*, downTo, w1, hq2])
end Go.AM
/- AM: chapter 17's statements: Writes. -/
namespace Go.AM
set_option linter.unusedSimpArgs false
set_option linter.unusedVariables false
set_option maxRecDepth 8000
set_option maxHeartbeats 0
def wrAll (x : Node) (i : Item) : Bool := wrMay x i && wrOk x i
def putI (k v : Int) : Item := ⟨k, 0, 0, v, false⟩
def dropI (k : Int) : Item := ⟨k, 0, 0, 0, true⟩
theorem ze7 {x : Node} {i : Item} (h : wrAll x i = true) : wrMay x i = true ∧ wrOk x i = true := by
 simpa [wrAll] using h
theorem zvu (x : Node) (i : Item) (hs : x.small) (h : wrAll x i = false) : Den PP 211 [nodeD x, .agg i.row] [] (.tup [.agg [.bool false, .int .i64 0, .nil, .nil, .nil, .nil], .int .i64 (wrE x i)]) [] := by
 cases hm : wrMay x i with
 | false => simpa [wrE, hm] using z58 x i hs hm
 | true => simpa [wrE, hm] using z13 x i hs hm (by simpa [wrAll, hm] using h)
theorem zs5 (x : Node) (k v : Int) (hs : x.small) (h : wrAll x (putI k v) = false) : Den PP 156 [nodeD x, .int .i64 k, .int .i64 v] [] (.tup [.agg [.bool false, .int .i64 0, .nil, .nil, .nil, .nil], .int .i64 (wrE x (putI k v))]) [] := by
 have c1 := zvu x (putI k v) hs h
 generalize wrE x (putI k v) = e at *
 clear h
 simp only [nodeD, Node.cells, peersD, intsD, itemsD, toldsD, Item.row, copyD, nodeB, putI, dropI] at c1 ⊢
 refine zah [12] [] zng ?_
 simp -implicitDefEqProofs [zkv]
 repeat' ((first | refine zaa (by first | exact c1) ?_ | ((with_reducible first | refine zal ?_ ?_ | refine zaj ?_ ?_ | refine zaf ?_ ?_ | refine zae ?_ ?_) <;> intro _) | ((with_reducible first | refine zap ?_ ?_ | refine zaq ?_ ?_ | refine zan ?_ ?_ | refine zad ?_ ?_ | refine zak ?_ ?_ | refine zao ?_ ?_ | refine zai ?_ ?_ | refine zab ?_ ?_) <;> intro hq <;> (try simp at hq)) | refine zag (by omega) ?_ | refine zam (by omega) ?_) <;> simp -implicitDefEqProofs [*, downTo])
theorem zt4 (x : Node) (k v : Int) (hs : x.small) (h : wrAll x (putI k v) = true) : Den PP 156 [nodeD x, .int .i64 k, .int .i64 v] [] (.tup [copyD (wrN x (putI k v)), .int .i64 0]) (nodeB (wrN x (putI k v))) := by
 have c1 := zzi x (putI k v) hs (ze7 h).1 (ze7 h).2
 generalize wrN x (putI k v) = y at *
 clear h
 simp only [nodeD, Node.cells, peersD, intsD, itemsD, toldsD, Item.row, copyD, nodeB, putI, dropI] at c1 ⊢
 refine zah [12] [] zng ?_
 simp -implicitDefEqProofs [zkv]
 repeat' ((first | refine zaa (by first | exact c1) ?_ | ((with_reducible first | refine zal ?_ ?_ | refine zaj ?_ ?_ | refine zaf ?_ ?_ | refine zae ?_ ?_) <;> intro _) | ((with_reducible first | refine zap ?_ ?_ | refine zaq ?_ ?_ | refine zan ?_ ?_ | refine zad ?_ ?_ | refine zak ?_ ?_ | refine zao ?_ ?_ | refine zai ?_ ?_ | refine zab ?_ ?_) <;> intro hq <;> (try simp at hq)) | refine zag (by omega) ?_ | refine zam (by omega) ?_) <;> simp -implicitDefEqProofs [*, downTo])
theorem zqm (x : Node) (k : Int) (hs : x.small) (h : wrAll x (dropI k) = false) : Den PP 157 [nodeD x, .int .i64 k] [] (.tup [.agg [.bool false, .int .i64 0, .nil, .nil, .nil, .nil], .int .i64 (wrE x (dropI k))]) [] := by
 have c1 := zvu x (dropI k) hs h
 generalize wrE x (dropI k) = e at *
 clear h
 simp only [nodeD, Node.cells, peersD, intsD, itemsD, toldsD, Item.row, copyD, nodeB, putI, dropI] at c1 ⊢
 refine zah [9] [] zlf ?_
 simp -implicitDefEqProofs [zi6]
 repeat' ((first | refine zaa (by first | exact c1) ?_ | ((with_reducible first | refine zal ?_ ?_ | refine zaj ?_ ?_ | refine zaf ?_ ?_ | refine zae ?_ ?_) <;> intro _) | ((with_reducible first | refine zap ?_ ?_ | refine zaq ?_ ?_ | refine zan ?_ ?_ | refine zad ?_ ?_ | refine zak ?_ ?_ | refine zao ?_ ?_ | refine zai ?_ ?_ | refine zab ?_ ?_) <;> intro hq <;> (try simp at hq)) | refine zag (by omega) ?_ | refine zam (by omega) ?_) <;> simp -implicitDefEqProofs [*, downTo])
theorem zs8 (x : Node) (k : Int) (hs : x.small) (h : wrAll x (dropI k) = true) : Den PP 157 [nodeD x, .int .i64 k] [] (.tup [copyD (wrN x (dropI k)), .int .i64 0]) (nodeB (wrN x (dropI k))) := by
 have c1 := zzi x (dropI k) hs (ze7 h).1 (ze7 h).2
 generalize wrN x (dropI k) = y at *
 clear h
 simp only [nodeD, Node.cells, peersD, intsD, itemsD, toldsD, Item.row, copyD, nodeB, putI, dropI] at c1 ⊢
 refine zah [9] [] zlf ?_
 simp -implicitDefEqProofs [zi6]
 repeat' ((first | refine zaa (by first | exact c1) ?_ | ((with_reducible first | refine zal ?_ ?_ | refine zaj ?_ ?_ | refine zaf ?_ ?_ | refine zae ?_ ?_) <;> intro _) | ((with_reducible first | refine zap ?_ ?_ | refine zaq ?_ ?_ | refine zan ?_ ?_ | refine zad ?_ ?_ | refine zak ?_ ?_ | refine zao ?_ ?_ | refine zai ?_ ?_ | refine zab ?_ ?_) <;> intro hq <;> (try simp at hq)) | refine zag (by omega) ?_ | refine zam (by omega) ?_) <;> simp -implicitDefEqProofs [*, downTo])
end Go.AM
/- AM: contracts: acts that turn one node. -/
namespace Go.AM
set_option linter.unusedSimpArgs false
set_option linter.unusedVariables false
set_option maxRecDepth 8000
set_option maxHeartbeats 0
def doA (w : Wld) (a : Act) (P : Nat) (cs : List D) : List Blk := [⟨[[.ref 1 0 w.nodes.length, .ref 2 0 w.cuts.length, .ref 3 0 w.packets.length]], 3, .box⟩, ⟨(w.nodes.map Node.cells).set P cs, 6, .mut⟩, ⟨w.cuts.map Cut.row, 2, .mut⟩, ⟨w.packets.map Msg.row, 11, .mut⟩, ⟨[a.cells], 7, .box⟩]
theorem z39 (x : Node) (i : Item) : ¬ wrE x i = 0 := by
 unfold wrE
 split <;> omega
theorem zyc (w : Wld) (a : Act) (x : Node) (hw : w.tiny) (hr : MonoC (cmpN a.node) w.nodes) (hi : isN a.node w.nodes = true) (hx : w.nodes[posN a.node w.nodes]? = some x) (h : wrAll x (putI a.key a.value) = true) : Den PP 67 [.ptr 0 0 0, .ptr 4 0 0] (actB w a) (.tup []) (doA w a (posN a.node w.nodes) (wrN x (putI a.key a.value)).cells) := by
 have c1 := zdm w a (by have := hw.nodes; unfold cap; omega) hr hi
 have c2 := zt4 x a.key a.value (za3 (hw.node x (List.mem_of_getElem? hx))) h
 have hp := zdg hi
 have hg : ∀ h : posN a.node w.nodes < w.nodes.length, w.nodes[posN a.node w.nodes] = x := fun h => by rw [List.getElem?_eq_getElem h] at hx; exact Option.some.inj hx
 generalize posN a.node w.nodes = P at *
 generalize wrN x (putI a.key a.value) = y at *
 have hp' : (P : Int) < w.nodes.length := by omega
 clear h hi hr hw
 simp only [actB, doA, copyD, nodeB, nodeD, intsD, Act.cells, Wld.cells, nodesD, cutsD, msgsD] at c1 c2 ⊢
 rw [zdi y]
 refine zah [] [7] zjq ?_
 simp -implicitDefEqProofs [zha]
 refine zac [0, 1, 2, 3, 4] rfl (by decide) (by simp) c1 (by simp) (by simp [lentBs]) ?_
 simp -implicitDefEqProofs [framed, hp, hp', hx, hg]
 refine zaa c2 ?_
 simp -implicitDefEqProofs [-leave, hp, hp', hx, hg]
 exact leave5 (zaz rfl) (zgd (za9 5 _) (List.all_eq_true.1 rfl)) (zbt 5 _) (zbu 5 _) (zaz rfl)
theorem zwg (w : Wld) (a : Act) (x : Node) (hw : w.tiny) (hr : MonoC (cmpN a.node) w.nodes) (hi : isN a.node w.nodes = true) (hx : w.nodes[posN a.node w.nodes]? = some x) (h : wrAll x (putI a.key a.value) = false) : Den PP 67 [.ptr 0 0 0, .ptr 4 0 0] (actB w a) (.tup []) (actB w a) := by
 have c1 := zdm w a (by have := hw.nodes; unfold cap; omega) hr hi
 have c2 := zs5 x a.key a.value (za3 (hw.node x (List.mem_of_getElem? hx))) h
 have hp := zdg hi
 have hg : ∀ h : posN a.node w.nodes < w.nodes.length, w.nodes[posN a.node w.nodes] = x := fun h => by rw [List.getElem?_eq_getElem h] at hx; exact Option.some.inj hx
 have he := z39 x (putI a.key a.value)
 generalize posN a.node w.nodes = P at *
 generalize wrE x (putI a.key a.value) = e at *
 have hp' : (P : Int) < w.nodes.length := by omega
 clear h hi hr hw
 simp only [actB, doA, copyD, nodeB, nodeD, intsD, Act.cells, Wld.cells, nodesD, cutsD, msgsD] at c1 c2 ⊢
 skip
 refine zah [] [7] zjq ?_
 simp -implicitDefEqProofs [zha]
 refine zac [0, 1, 2, 3, 4] rfl (by decide) (by simp) c1 (by simp) (by simp [lentBs]) ?_
 simp -implicitDefEqProofs [framed, hp, hp', hx, hg]
 refine zaa c2 ?_
 simp -implicitDefEqProofs [-leave, hp, hp', hx, hg, he]
 exact leave5 (zaz rfl) (za9 5 _) (zbt 5 _) (zbu 5 _) (zaz rfl)
theorem zuu (w : Wld) (a : Act) (x : Node) (hw : w.tiny) (hr : MonoC (cmpN a.node) w.nodes) (hi : isN a.node w.nodes = true) (hx : w.nodes[posN a.node w.nodes]? = some x) (h : wrAll x (dropI a.key) = true) : Den PP 68 [.ptr 0 0 0, .ptr 4 0 0] (actB w a) (.tup []) (doA w a (posN a.node w.nodes) (wrN x (dropI a.key)).cells) := by
 have c1 := zdm w a (by have := hw.nodes; unfold cap; omega) hr hi
 have c2 := zs8 x a.key (za3 (hw.node x (List.mem_of_getElem? hx))) h
 have hp := zdg hi
 have hg : ∀ h : posN a.node w.nodes < w.nodes.length, w.nodes[posN a.node w.nodes] = x := fun h => by rw [List.getElem?_eq_getElem h] at hx; exact Option.some.inj hx
 generalize posN a.node w.nodes = P at *
 generalize wrN x (dropI a.key) = y at *
 have hp' : (P : Int) < w.nodes.length := by omega
 clear h hi hr hw
 simp only [actB, doA, copyD, nodeB, nodeD, intsD, Act.cells, Wld.cells, nodesD, cutsD, msgsD] at c1 c2 ⊢
 rw [zdi y]
 refine zah [] [7] zik ?_
 simp -implicitDefEqProofs [zgo]
 refine zac [0, 1, 2, 3, 4] rfl (by decide) (by simp) c1 (by simp) (by simp [lentBs]) ?_
 simp -implicitDefEqProofs [framed, hp, hp', hx, hg]
 refine zaa c2 ?_
 simp -implicitDefEqProofs [-leave, hp, hp', hx, hg]
 exact leave5 (zaz rfl) (zgd (za9 5 _) (List.all_eq_true.1 rfl)) (zbt 5 _) (zbu 5 _) (zaz rfl)
theorem zsf (w : Wld) (a : Act) (x : Node) (hw : w.tiny) (hr : MonoC (cmpN a.node) w.nodes) (hi : isN a.node w.nodes = true) (hx : w.nodes[posN a.node w.nodes]? = some x) (h : wrAll x (dropI a.key) = false) : Den PP 68 [.ptr 0 0 0, .ptr 4 0 0] (actB w a) (.tup []) (actB w a) := by
 have c1 := zdm w a (by have := hw.nodes; unfold cap; omega) hr hi
 have c2 := zqm x a.key (za3 (hw.node x (List.mem_of_getElem? hx))) h
 have hp := zdg hi
 have hg : ∀ h : posN a.node w.nodes < w.nodes.length, w.nodes[posN a.node w.nodes] = x := fun h => by rw [List.getElem?_eq_getElem h] at hx; exact Option.some.inj hx
 have he := z39 x (dropI a.key)
 generalize posN a.node w.nodes = P at *
 generalize wrE x (dropI a.key) = e at *
 have hp' : (P : Int) < w.nodes.length := by omega
 clear h hi hr hw
 simp only [actB, doA, copyD, nodeB, nodeD, intsD, Act.cells, Wld.cells, nodesD, cutsD, msgsD] at c1 c2 ⊢
 skip
 refine zah [] [7] zik ?_
 simp -implicitDefEqProofs [zgo]
 refine zac [0, 1, 2, 3, 4] rfl (by decide) (by simp) c1 (by simp) (by simp [lentBs]) ?_
 simp -implicitDefEqProofs [framed, hp, hp', hx, hg]
 refine zaa c2 ?_
 simp -implicitDefEqProofs [-leave, hp, hp', hx, hg, he]
 exact leave5 (zaz rfl) (za9 5 _) (zbt 5 _) (zbu 5 _) (zaz rfl)
theorem z1q (w : Wld) (a : Act) (hw : w.tiny) (hr : MonoC (cmpN a.node) w.nodes) (hi : isN a.node w.nodes = true) : Den PP 65 [.ptr 0 0 0, .ptr 4 0 0] (actB w a) (.tup []) (doA w a (posN a.node w.nodes) [.bool false, .int .i64 a.node, .nil, .nil, .nil, .nil]) := by
 have c1 := zdm w a (by have := hw.nodes; unfold cap; omega) hr hi
 have hp := zdg hi
 generalize posN a.node w.nodes = P at *
 have hp' : (P : Int) < w.nodes.length := by omega
 obtain ⟨x, hx⟩ : ∃ x, w.nodes[P]? = some x := ⟨_, List.getElem?_eq_getElem hp⟩
 have hg : ∀ h : P < w.nodes.length, w.nodes[P] = x := fun h => by rw [List.getElem?_eq_getElem h] at hx; exact Option.some.inj hx
 clear hi hr hw
 simp only [actB, doA, copyD, nodeB, nodeD, intsD, Act.cells, Wld.cells, nodesD, cutsD, msgsD] at c1 ⊢
 refine zah [] [4] zm9 ?_
 simp -implicitDefEqProofs [zil]
 repeat' apply And.intro
 all_goals
  refine zac [0, 1, 2, 3, 4] rfl (by decide) (by simp) c1 (by simp) (by simp [lentBs]) ?_
  simp -implicitDefEqProofs [framed, -leave, hp, hp', hx, hg]
  exact leave5 (zaz rfl) (zgd (za9 5 _) (List.all_eq_true.1 rfl)) (zbt 5 _) (zbu 5 _) (zaz rfl)
end Go.AM
/- AM: contracts: cuts put in, taken out, asked for. -/
namespace Go.AM
set_option linter.unusedSimpArgs false
set_option linter.unusedVariables false
set_option maxRecDepth 8000
set_option maxHeartbeats 0
theorem z78 (a b : Int) : (if b < a then b else a) = min a b := by omega
theorem z8a (a b : Int) : (if a < b then b else a) = max a b := by omega
theorem z7m (a b : Int) : (if b < a then a else b) = max a b := by omega
theorem zku (cs : List Cut) (a b : Int) (hl : cs.length ≤ cap) (h : askMay cs a b = false) : Den PP 208 [cutsD cs, .int .i64 a, .int .i64 b] [] (.tup [.agg [.nil, .int .i64 0, .int .i64 0, .int .i64 0, .bool false], .bool false]) [] := by
 have c1 := ztc cs hl
 have c2 := zau a
 have c3 := zau b
 simp only [cutsD, askMay] at c1 h
 generalize cutsMay cs = M at *
 generalize place a = X at *
 generalize place b = Y at *
 by_cases hab : a = b
 ·clear h
  refine zah [] [] zk4 ?_
  cases M <;> cases X <;> cases Y
  all_goals
   simp -implicitDefEqProofs [zj8, cutsD]
   repeat' ((first | refine zaa (by first | exact c1 | exact c2 | exact c3) ?_ | ((with_reducible first | refine zal ?_ ?_ | refine zaj ?_ ?_ | refine zaf ?_ ?_ | refine zae ?_ ?_) <;> intro _) | ((with_reducible first | refine zap ?_ ?_ | refine zaq ?_ ?_ | refine zan ?_ ?_ | refine zad ?_ ?_ | refine zak ?_ ?_ | refine zao ?_ ?_ | refine zai ?_ ?_ | refine zab ?_ ?_) <;> intro hq <;> (try simp at hq)) | refine zag (by omega) ?_ | refine zam (by omega) ?_) <;> simp -implicitDefEqProofs [*, hab])
 ·simp [hab] at h
  refine zah [] [] zk4 ?_
  cases M <;> cases X <;> cases Y
  all_goals
   simp at h
  all_goals
   simp -implicitDefEqProofs [zj8, cutsD]
   repeat' ((first | refine zaa (by first | exact c1 | exact c2 | exact c3) ?_ | ((with_reducible first | refine zal ?_ ?_ | refine zaj ?_ ?_ | refine zaf ?_ ?_ | refine zae ?_ ?_) <;> intro _) | ((with_reducible first | refine zap ?_ ?_ | refine zaq ?_ ?_ | refine zan ?_ ?_ | refine zad ?_ ?_ | refine zak ?_ ?_ | refine zao ?_ ?_ | refine zai ?_ ?_ | refine zab ?_ ?_) <;> intro hq <;> (try simp at hq)) | refine zag (by omega) ?_ | refine zam (by omega) ?_) <;> simp -implicitDefEqProofs [*, hab])
theorem ztb (cs : List Cut) (a b : Int) (hl : cs.length ≤ cap) (h : askMay cs a b = true) : Den PP 208 [cutsD cs, .int .i64 a, .int .i64 b] [] (.tup [.agg [.ref 0 0 cs.length, .int .i64 (cutAB a b).a, .int .i64 (cutAB a b).b, .int .i64 (posC (fun x => ordC x (cutAB a b)) cs), .bool (decide (cutAB a b ∈ cs))], .bool true]) [⟨cs.map Cut.row, 2, .mut⟩] := by
 obtain ⟨h1, h2, h3, h4⟩ := zf9.1 h
 obtain ⟨k1, k2, k3⟩ := zek.1 h1
 have hc := zoi h2 h3 h4
 have c1 := ztc cs hl
 have c2 := zau a
 have c3 := zau b
 have c4 := zwu cs 162 (cutAB a b) (fun x => ordC x (cutAB a b)) (fun x _ => zrb x (cutAB a b)) hl (z55 hc k1 k2)
 have c5 := zv1 (cs.map Cut.row) (by intro r hr; obtain ⟨a, _, rfl⟩ := List.mem_map.1 hr; exact ⟨rfl, rfl⟩) (by simp; omega)
 rw [z72 hc k1 k2] at c4
 rw [h1] at c1
 rw [h2] at c2
 rw [h3] at c3
 simp only [cutsD, List.length_map] at c1 c4 c5
 have e1 : (cutAB a b).a = min a b := rfl
 have e2 : (cutAB a b).b = max a b := rfl
 rw [e1, e2] at c4
 rw [e1, e2]
 generalize posC (fun x => ordC x (cutAB a b)) cs = p at *
 generalize decide (cutAB a b ∈ cs) = A at *
 clear e1 e2 hc k1 k2 h h1 h2 h3
 refine zah [44] [] zk4 ?_
 simp -implicitDefEqProofs [zj8, cutsD]
 repeat' ((first | refine zaa (by first | exact c1 | exact c2 | exact c3) ?_ | ((with_reducible first | refine zal ?_ ?_ | refine zaj ?_ ?_ | refine zaf ?_ ?_ | refine zae ?_ ?_) <;> intro _) | ((with_reducible first | refine zap ?_ ?_ | refine zaq ?_ ?_ | refine zan ?_ ?_ | refine zad ?_ ?_ | refine zak ?_ ?_ | refine zao ?_ ?_ | refine zai ?_ ?_ | refine zab ?_ ?_) <;> intro hq <;> (try simp at hq)) | refine zag (by omega) ?_ | refine zam (by omega) ?_) <;> simp -implicitDefEqProofs [*, h4])
 simp -implicitDefEqProofs [minL, minF, z78, z8a, z7m]
 refine zaa c4 ?_
 simp -implicitDefEqProofs
 refine zaa c5 ?_
 simp -implicitDefEqProofs [downTo]
theorem zmz (x : Cut) : ∀ d ∈ x.row, d.still = true := by
 intro d hd
 simp [Cut.row] at hd
 rcases hd with rfl | rfl <;> rfl
theorem z4m (cs : List Cut) (a b : Int) (hl : cs.length ≤ cap) : Den PP 154 [cutsD cs, .int .i64 a, .int .i64 b] [] (.tup [.ref 0 0 (withC cs a b).1.length, .int .i64 (withC cs a b).2]) [⟨(withC cs a b).1.map Cut.row, 2, .mut⟩] := by
 cases h : askMay cs a b with
 | false =>
   have c1 := zku cs a b hl h
   rw [show withC cs a b = ([], 1500) by simp [withC, h]]
   simp only [cutsD] at c1
   refine zgc [14, 30] [30] [30] [] (fun _ h => absurd h List.not_mem_nil) zny ?_
   simp -implicitDefEqProofs [zk2, cutsD]
   refine zaa c1 ?_
   simp -implicitDefEqProofs [downTo]
 | true =>
   have c1 := ztb cs a b hl h
   obtain ⟨h1, h2, h3, h4⟩ := zf9.1 h
   obtain ⟨k1, k2, k3⟩ := zek.1 h1
   have hc := zoi h2 h3 h4
   have hins := z87 hc k1
   have hple := zpc (fun x => ordC x (cutAB a b)) cs
   obtain ⟨r, hr⟩ : ∃ r, withC cs a b = r := ⟨_, rfl⟩
   have hr' := hr
   unfold withC at hr'
   rw [if_pos h] at hr'
   rw [hr]
   generalize posC (fun x => ordC x (cutAB a b)) cs = p at *
   generalize cutAB a b = c at *
   clear hr h h1 h2 h3 h4 k1 k2
   simp only [cutsD] at c1
   refine zgc [14, 30] [30] [30] [] (fun _ h => absurd h List.not_mem_nil) zny ?_
   simp -implicitDefEqProofs [zk2, cutsD]
   refine zaa c1 ?_
   by_cases hin : c ∈ cs
   ·rw [if_pos hin] at hr'
    subst hr'
    simp -implicitDefEqProofs [downTo, hin]
   ·rw [if_neg hin] at hr'
    by_cases h32 : cs.length = 32
    ·rw [if_pos h32] at hr'
     subst hr'
     simp -implicitDefEqProofs [downTo, hin, h32]
    ·rw [if_neg h32] at hr'
     subst hr'
     have h32' : ¬ (cs.length : Int) = 32 := by omega
     simp -implicitDefEqProofs [downTo, hin, h32']
     refine zel rfl (by simp) (by simp) (by simp) (z06 (cs.map Cut.row) c.row p (by simp [Cut.row]) (StillR.map _ _ fun a _ => zmz a) (by intro r hr; rw [List.mem_singleton.1 hr]; exact ⟨rfl, rfl⟩) (zmz c) (by simpa using hple) (by simp; omega)) ?_
     rw [← zoh, hins]
     have hil := zo3 c cs
     simp -implicitDefEqProofs [downTo, hil]
theorem zwb (cs : List Cut) (a b : Int) (hl : cs.length ≤ cap) : Den PP 155 [cutsD cs, .int .i64 a, .int .i64 b] [] (.tup [.ref 0 0 (withoutC cs a b).1.length, .int .i64 (withoutC cs a b).2]) [⟨(withoutC cs a b).1.map Cut.row, 2, .mut⟩] := by
 cases h : askMay cs a b with
 | false =>
   have c1 := zku cs a b hl h
   rw [show withoutC cs a b = ([], 1500) by simp [withoutC, h]]
   simp only [cutsD] at c1
   refine zgc [14, 27] [27] [27] [] (fun _ h => absurd h List.not_mem_nil) zjm ?_
   simp -implicitDefEqProofs [zg7, cutsD]
   refine zaa c1 ?_
   simp -implicitDefEqProofs [downTo]
 | true =>
   have c1 := ztb cs a b hl h
   obtain ⟨h1, h2, h3, h4⟩ := zf9.1 h
   obtain ⟨k1, k2, k3⟩ := zek.1 h1
   have hc := zoi h2 h3 h4
   have hdel := z8k hc k1 k2
   have hat := z72 hc k1 k2
   have hat2 := fun h => (zl7 (c := fun x => ordC x (cutAB a b)) (xs := cs) h).1
   rw [hat] at hat2
   rw [show withoutC cs a b = (cs.filter fun x => !decide (x = cutAB a b), 0) by unfold withoutC; rw [if_pos h]]
   have hnf : cutAB a b ∉ cs → cs.filter (fun x => !decide (x = cutAB a b)) = cs := by
    intro hn
    rw [List.filter_eq_self]
    intro x hx
    have : x ≠ cutAB a b := by rintro rfl; exact hn hx
    simp [this]
   generalize posC (fun x => ordC x (cutAB a b)) cs = p at *
   generalize cutAB a b = c at *
   clear h h1 h2 h3 h4 k1 k2 hat hc
   simp only [cutsD] at c1
   refine zgc [14, 27] [27] [27] [] (fun _ h => absurd h List.not_mem_nil) zjm ?_
   simp -implicitDefEqProofs [zg7, cutsD]
   refine zaa c1 ?_
   by_cases hin : c ∈ cs
   ·have hlt := hat2 (by simpa using hin)
    have hd := hdel hin
    have hw := za1 (n := p) (by omega)
    have hw2 : IntKind.wrap .i64 ((p : Int) + 1) = (p : Int) + 1 := zax (by omega) (by omega)
    have hdl := congrArg List.length hd
    have hmap : (cs.map Cut.row).take p ++ (cs.map Cut.row).drop (p + 1) = (cs.filter fun x => !decide (x = c)).map Cut.row := by rw [← hd]; simp [List.map_take, List.map_drop]
    generalize (cs.filter fun x => !decide (x = c)) = F at *
    clear hnf hdel hat2 hw hd
    simp -implicitDefEqProofs [downTo, hin, hw2]
    refine zel rfl (by simp) (by simp) (by simp) (z1s (cs.map Cut.row) p (by intro r hr; obtain ⟨a, _, rfl⟩ := List.mem_map.1 hr; exact ⟨rfl, rfl⟩) (StillR.map _ _ fun a _ => zmz a) (by simpa using hlt) (by simp; omega)) ?_
    rw [hmap]
    simp -implicitDefEqProofs [downTo]
   ·rw [hnf hin]
    simp -implicitDefEqProofs [downTo, hin]
theorem zm8 (cs : List Cut) (a b : Int) (hl : cs.length ≤ cap) : Den PP 153 [cutsD cs, .int .i64 a, .int .i64 b] [] (.tup [.bool (isC cs a b).1, .int .i64 (isC cs a b).2]) [] := by
 cases h : askMay cs a b with
 | false =>
   have c1 := zku cs a b hl h
   rw [show isC cs a b = (false, 1500) by simp [isC, h]]
   simp only [cutsD] at c1
   refine zah [] [] zrm ?_
   simp -implicitDefEqProofs [zp7, cutsD]
   refine zaa c1 ?_
   simp -implicitDefEqProofs [downTo]
 | true =>
   have c1 := ztb cs a b hl h
   rw [show isC cs a b = (decide (cutAB a b ∈ cs), 0) by simp [isC, h]]
   generalize decide (cutAB a b ∈ cs) = A at *
   generalize posC (fun x => ordC x (cutAB a b)) cs = p at *
   generalize cutAB a b = c at *
   simp only [cutsD] at c1
   refine zah [] [] zrm ?_
   simp -implicitDefEqProofs [zp7, cutsD]
   refine zaa c1 ?_
   simp -implicitDefEqProofs [downTo]
end Go.AM
/- AM: contracts: packets lost, doubled; cuts made, healed. -/
namespace Go.AM
set_option linter.unusedSimpArgs false
set_option linter.unusedVariables false
set_option maxRecDepth 8000
set_option maxHeartbeats 0
def doC (w : Wld) (a : Act) (ls : List Msg) : List Blk := [⟨[[.ref 1 0 w.nodes.length, .ref 2 0 w.cuts.length, .sl (ls.map Msg.row) ls.length]], 3, .box⟩, ⟨w.nodes.map Node.cells, 6, .mut⟩, ⟨w.cuts.map Cut.row, 2, .mut⟩, ⟨w.packets.map Msg.row, 11, .app⟩, ⟨[a.cells], 7, .box⟩]
def doS (w v : Wld) (qs : List Msg) (a : Act) : List Blk := [⟨[v.cells], 3, .box⟩, ⟨w.nodes.map Node.cells, 6, .app⟩, ⟨w.cuts.map Cut.row, 2, .app⟩, ⟨qs.map Msg.row, 11, .app⟩, ⟨[a.cells], 7, .box⟩]
theorem zwh (w : Wld) (a : Act) (h : w.packets = []) : Den PP 61 [.ptr 0 0 0, .ptr 4 0 0] (actB w a) (.tup []) (actB w a) := by
 have c1 := zg5 w a h
 clear h
 simp only [actB, doA, doC, doS, copyD, nodeB, nodeD, intsD, Act.cells, Wld.cells, nodesD, cutsD, msgsD, msgD, List.cons_append, List.nil_append] at c1 ⊢
 refine zah [] [8] zim ?_
 simp -implicitDefEqProofs [zgh]
 refine zac [0, 1, 2, 3, 4] rfl (by decide) (by simp) c1 (by simp) (by simp [lentBs]) ?_
 simp -implicitDefEqProofs [framed, -leave]
 exact leave5 (zaz rfl) (za9 5 _) (zbt 5 _) (zbu 5 _) (zaz rfl)
theorem z3t (w : Wld) (a : Act) (m : Msg) (hw : w.tiny) (hq : queueMay w.packets = true) (h0 : 0 ≤ a.pick) (hp : a.pick ≤ 65535) (hm : w.packets[pickP w a]? = some m) : Den PP 61 [.ptr 0 0 0, .ptr 4 0 0] (actB w a) (.tup []) (doC w a (leftP w (pickP w a))) := by
 have c1 := zdt w a m hw hq h0 hp hm
 generalize leftP w (pickP w a) = ls at *
 clear hw hq h0 hp hm
 simp only [actB, doA, doC, doS, copyD, nodeB, nodeD, intsD, Act.cells, Wld.cells, nodesD, cutsD, msgsD, msgD, Msg.row] at c1 ⊢
 refine zah [] [8] zim ?_
 simp -implicitDefEqProofs [zgh]
 refine zac [0, 1, 2, 3, 4] rfl (by decide) (by simp) c1 (by simp) (by simp [lentBs]) ?_
 simp -implicitDefEqProofs [framed, -leave]
 exact leave5 (zaz rfl) (za9 5 _) (zbt 5 _) (zbu 5 _) (zaz rfl)
theorem zta (w : Wld) (a : Act) (h : w.packets = []) : Den PP 62 [.ptr 0 0 0, .ptr 4 0 0] (actB w a) (.tup []) (actB w a) := by
 have c1 := zg5 w a h
 clear h
 simp only [actB, doA, doC, doS, copyD, nodeB, nodeD, intsD, Act.cells, Wld.cells, nodesD, cutsD, msgsD, msgD, List.cons_append, List.nil_append] at c1 ⊢
 refine zah [] [8, 15] zhv ?_
 simp -implicitDefEqProofs [zfz]
 refine zac [0, 1, 2, 3, 4] rfl (by decide) (by simp) c1 (by simp) (by simp [lentBs]) ?_
 simp -implicitDefEqProofs [framed, -leave]
 exact leave5 (zaz rfl) (za9 5 _) (zbt 5 _) (zbu 5 _) (zaz rfl)
theorem z01 (w : Wld) (a : Act) (m : Msg) (hw : worldMay w = true) (h0 : 0 ≤ a.pick) (hp : a.pick ≤ 65535) (hm : w.packets[pickP w a]? = some m) (hs : worldMay { w with packets := [m] } = true) : Den PP 62 [.ptr 0 0 0, .ptr 4 0 0] (actB w a) (.tup []) (doS w (sendW w [m]) w.packets a) := by
 have c1 := zdt w a m (zat hw) (zar hw).2.2.1 h0 hp hm
 have c2 := ztn w [m] hw hs
 generalize sendW w [m] = v at *
 generalize leftP w (pickP w a) = ls at *
 clear hw h0 hp hm hs
 simp only [actB, doA, doC, doS, copyD, nodeB, nodeD, intsD, Act.cells, Wld.cells, nodesD, cutsD, msgsD, msgD, Msg.row, List.map_cons, List.map_nil, List.length_cons, List.length_nil] at c1 c2 ⊢
 refine zah [] [8, 15] zhv ?_
 simp -implicitDefEqProofs [zfz]
 refine zac [0, 1, 2, 3, 4] rfl (by decide) (by simp) c1 (by simp) (by simp [lentBs]) ?_
 simp -implicitDefEqProofs [framed, -leave]
 refine zac [0, 1, 2, 3, 6] rfl (by decide) (by simp) c2 (by simp) (by simp [lentBs]) ?_
 simp -implicitDefEqProofs [framed, -leave]
 exact leave5 (zaz rfl) (za9 5 _) (zbt 5 _) (zbu 5 _) (zaz rfl)
theorem z6x (w : Wld) (a : Act) (hw : w.tiny) : ∃ Z, (Z = .ref 2 0 w.cuts.length ∧ (withC w.cuts a.node a.other).2 ≠ 0 ∨ Z = .sl ((withC w.cuts a.node a.other).1.map Cut.row) (withC w.cuts a.node a.other).1.length ∧ (withC w.cuts a.node a.other).2 = 0) ∧
 Den PP 63 [.ptr 0 0 0, .ptr 4 0 0] (actB w a) (.tup []) [⟨[[.ref 1 0 w.nodes.length, Z, .ref 3 0 w.packets.length]], 3, .box⟩, ⟨w.nodes.map Node.cells, 6, .mut⟩, ⟨w.cuts.map Cut.row, 2, .app⟩, ⟨w.packets.map Msg.row, 11, .mut⟩, ⟨[a.cells], 7, .box⟩] := by
 have c1 := z4m w.cuts a.node a.other (by have := hw.cuts; unfold cap; omega)
 generalize withC w.cuts a.node a.other = r at *
 obtain ⟨cs, e⟩ := r
 simp only at c1 ⊢
 clear hw
 simp only [actB, doA, doC, doS, copyD, nodeB, nodeD, intsD, Act.cells, Wld.cells, nodesD, cutsD, msgsD, msgD] at c1 ⊢
 by_cases he : e = 0
 ·subst he
  refine ⟨_, .inr ⟨rfl, rfl⟩, ?_⟩
  refine zah [] [] zjs ?_
  simp -implicitDefEqProofs [zg8]
  refine zaa c1 ?_
  simp -implicitDefEqProofs [downTo, -leave]
  exact leave5 (zaz rfl) (za9 5 _) (zbt 5 _) (zbu 5 _) (zaz rfl)
 ·refine ⟨_, .inl ⟨rfl, he⟩, ?_⟩
  refine zah [] [] zjs ?_
  simp -implicitDefEqProofs [zg8]
  refine zaa c1 ?_
  simp -implicitDefEqProofs [downTo, he, -leave]
  exact leave5 (zaz rfl) (za9 5 _) (zbt 5 _) (zbu 5 _) (zaz rfl)
theorem z22 (w : Wld) (a : Act) (hw : w.tiny) : Den PP 64 [.ptr 0 0 0, .ptr 4 0 0] (actB w a) (.tup [])
 [⟨[[.ref 1 0 w.nodes.length, .sl ((withoutC w.cuts a.node a.other).1.map Cut.row) (withoutC w.cuts a.node a.other).1.length, .ref 3 0 w.packets.length]], 3, .box⟩, ⟨w.nodes.map Node.cells, 6, .mut⟩, ⟨w.cuts.map Cut.row, 2, .app⟩, ⟨w.packets.map Msg.row, 11, .mut⟩, ⟨[a.cells], 7, .box⟩] := by
 have c1 := zwb w.cuts a.node a.other (by have := hw.cuts; unfold cap; omega)
 generalize withoutC w.cuts a.node a.other = r at *
 obtain ⟨cs, e⟩ := r
 simp only at c1 ⊢
 clear hw
 simp only [actB, doA, doC, doS, copyD, nodeB, nodeD, intsD, Act.cells, Wld.cells, nodesD, cutsD, msgsD, msgD] at c1 ⊢
 refine zah [] [] zn3 ?_
 simp -implicitDefEqProofs [zi8]
 refine zaa c1 ?_
 simp -implicitDefEqProofs [downTo, -leave]
 exact leave5 (zaz rfl) (za9 5 _) (zbt 5 _) (zbu 5 _) (zaz rfl)
end Go.AM
