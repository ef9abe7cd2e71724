/- What the proof of this claim stands on, part 6. -/
import Derived.IntWalk
import Derived.Test.YtehagcggdepajaaGreatAmZ5
/- AM: the rules by which short code is stepped through, for simp; splits. -/
namespace Go.AM
set_option linter.unusedSimpArgs false
set_option linter.unusedVariables false

def ovr (rows : List (List D)) (p : Nat) (ys : List (List D)) : List (List D) := rows.take p ++ ys ++ rows.drop (p + ys.length)
def overB (k : Option Blk) (st : St) (b off len esz : Nat) (ys : List (List D)) : Option St := match k with
 | some k => if k.esz = esz ∧ k.kind = .mut ∧ ys.length ≤ len then some { st with bs := setBlk st.bs b (ovr k.rows off ys) } else none
 | none => none
theorem z57 (st : St) (b off len esz : Nat) (ys : List (List D)) : overD st (.ref b off len) esz ys = overB st.bs[b]? st b off len esz ys := by
 unfold overD overB
 simp only
 cases h : st.bs[b]? <;> simp only [ovr]
theorem zaw {rows : List (List D)} {p : Nat} {ys : List (List D)} (h : p + ys.length ≤ rows.length) : (ovr rows p ys).length = rows.length := by
 unfold ovr
 simp
 omega
theorem zqb {rows : List (List D)} {p : Nat} {ys : List (List D)} (h : p + ys.length ≤ rows.length) (i : Nat) : (ovr rows p ys)[i]? = if i < p then rows[i]? else if i < p + ys.length then ys[i - p]? else rows[i]? := by
 unfold ovr
 have hl1 : (rows.take p).length = p := by simp; omega
 by_cases hm1 : i < p
 ·rw [if_pos hm1, List.append_assoc, List.getElem?_append_left (by omega), List.getElem?_take_of_lt hm1]
 ·rw [if_neg hm1]
  by_cases hm2 : i < p + ys.length
  ·rw [if_pos hm2, List.append_assoc, List.getElem?_append_right (by omega), List.getElem?_append_left (by omega), hl1]
  ·rw [if_neg hm2, List.getElem?_append_right (by simp; omega), List.getElem?_drop]
   simp only [List.length_append, hl1]
   congr 1
   omega

attribute [simp] sFun z2g z3n z29 z5x z41 z1f z4f z02 zzk z2e z2j z31 zyu zt8 z42 z7o zs3 zx0 z2d z68 z7j z6y
 z7b z30 z3k zv4 zt1 z39 z16 z00 z21 zxw z7c z3e z0n zxy z76 callEnd ztf z2n zqk zum barV isOvl isGive isGiveT mxOk zzh zua zxv z0r zue z3d z57 overB zyr zt3 z0s z9p zwc z33
 zt9 z0p zta zmt znz zvo z5i
 pureD opFn St.ev start upd constD constL St.put binD binInt binBool arith resL resD resOne leave D.mapR D.rids ridsL lentRids
 finQ isLend isLendT D.freeze importD D.plain plainL ownT mapRL St.out zrd unD lenD D.shift reach idsL D.ids TD.known TD.agg ld loadD storeD D.cells? D.isCell splice setBlk indexAddrD fieldAddrD fieldD partD indexD
 appendD srcRows trunc sweepF Blk.sweep D.sweep D.freeze0 rowsD fillD Kind.isBox sweepRef sweepPtr replicateRows

def nilX : Option Bool → Option D → Option D
 | some b, _ => some (.bool b)
 | none, d => d
@[simp] theorem qbz (b : Bool) (d : Option D) : nilX (some b) d = some (.bool b) := rfl
@[simp] theorem qb8 (d : Option D) : nilX none d = d := rfl
@[simp] theorem qch (T : Tab) (eqs : List Nat) (op : BinOp) (t n : Nat) (x y : D) : binX T eqs op t x (.tmp n) y = binD T eqs op t x y := rfl
@[simp] theorem qck (T : Tab) (eqs : List Nat) (op : BinOp) (t : Nat) (k : IntKind) (n : Int) (x y : D) : binX T eqs op t x (.const (.int k n)) y = binD T eqs op t x y := rfl
@[simp] theorem qcc (T : Tab) (eqs : List Nat) (op : BinOp) (t : Nat) (b : Bool) (x y : D) : binX T eqs op t x (.const (.bool b)) y = binD T eqs op t x y := rfl
@[simp] theorem qcs (T : Tab) (eqs : List Nat) (op : BinOp) (t n m : Nat) (x y : D) : binX T eqs op t x (.const (.slice none n m)) y = nilX (nilCmp T op t x (.const (.slice none n m))) (binD T eqs op t x y) := by
  unfold binX
  split <;> rename_i h <;> rw [h] <;> rfl
attribute [simp] nilCmp isNilD capT capD

section
variable {c : Cfg} {P : Prop} [Decidable P] {o : SO} {l : List SO} {st : St} {K : St → Prop} {x y : SC} {Q : Ex → St → Prop}
theorem zak (h1 : P → gOps c true o l st K) (h2 : ¬ P → gOps c false o l st K) : gOps c (decide P) o l st K := by
 by_cases h : P
 ·simpa [h] using h1 h
 ·simpa [h] using h2 h
theorem zah (h1 : P → gOps c false o l st K) (h2 : ¬ P → gOps c true o l st K) : gOps c (!decide P) o l st K := by
 by_cases h : P
 ·simpa [h] using h1 h
 ·simpa [h] using h2 h
theorem zal {b : Bool} (h1 : b = true → gOps c false o l st K) (h2 : b = false → gOps c true o l st K) : gOps c (!b) o l st K := by
 cases b
 ·exact h2 rfl
 ·exact h1 rfl
theorem zad (h1 : P → condC c true x y st Q) (h2 : ¬ P → condC c false x y st Q) : condC c (decide P) x y st Q := by
 by_cases h : P
 ·simpa [h] using h1 h
 ·simpa [h] using h2 h
theorem zae (h1 : P → condC c false x y st Q) (h2 : ¬ P → condC c true x y st Q) : condC c (!decide P) x y st Q := by
 by_cases h : P
 ·simpa [h] using h1 h
 ·simpa [h] using h2 h
theorem zaf {b : Bool} (h1 : b = true → condC c false x y st Q) (h2 : b = false → condC c true x y st Q) : condC c (!b) x y st Q := by
 cases b
 ·exact h2 rfl
 ·exact h1 rfl
end

theorem zdq {α : Type} {l rest : List α} {i : Nat} {a : α} (h : l.drop i = a :: rest) : i < l.length ∧ l[i]? = some a ∧ l.drop (i + 1) = rest ∧ l.length = i + 1 + rest.length := by
 have hlt : i < l.length := by
  rcases Nat.lt_or_ge i l.length with h' | h'
  ·exact h'
  ·rw [List.drop_of_length_le h'] at h; cases h
 have h2 := List.drop_eq_getElem_cons hlt
 rw [h] at h2
 have h3 := List.cons.inj h2
 refine ⟨hlt, by simp [hlt, h3.1], h3.2.symm, ?_⟩
 have := congrArg List.length h
 simp at this
 omega
theorem zem {α : Type} {l : List α} {i : Nat} (h : l.drop i = []) (hi : i ≤ l.length) : i = l.length := by
 have := congrArg List.length h
 simp at this
 omega

theorem zaq {n : Int} (h1 : -9223372036854775808 ≤ n) (h2 : n < 9223372036854775808) : IntKind.wrap .i64 n = n := IntWalk.i64_in n ⟨h1, by omega⟩
theorem zav {n : Nat} (h : n ≤ 140737488355328) : IntKind.wrap .i64 ((n : Int) + 1) = ((n + 1 : Nat) : Int) := by
 rw [zaq (by omega) (by omega)]
 rfl
end Go.AM
/- AM: what the given program's parts reckon with, in plain lists and numbers. -/
namespace Go.AM

def cap : Nat := 17592186044416
def cap16 : Nat := 8796093022208
theorem zpv {n : Nat} (h : n ≤ cap16) : n ≤ cap := by unfold cap16 at h; unfold cap; omega

theorem zuk {lo hi : Nat} (h1 : lo ≤ cap) (h2 : hi ≤ cap) : IntKind.i64.wrap ((IntKind.u64.wrap (IntKind.i64.wrap ((lo : Int) + hi))).fdiv (2 ^ min 1 IntKind.u64.bits)) = (((lo + hi) / 2 : Nat) : Int) := by
 unfold cap at h1 h2
 rw [zaq (n := (lo : Int) + hi) (by omega) (by omega), IntWalk.u64_in ((lo : Int) + hi) ⟨by omega, by omega⟩, show (2 : Int) ^ min 1 IntKind.u64.bits = 2 from rfl]
 have : ((lo : Int) + hi).fdiv 2 = ((lo + hi) / 2 : Nat) := by
  rw [Int.fdiv_eq_ediv_of_nonneg _ (by omega)]
  omega
 rw [this, zaq (by omega) (by omega)]

theorem z96 (a b : Int) : ((if a < b then -1 else if b < a then 1 else 0 : Int) < 0) ↔ a < b := by
 split
 ·simp [*]
 ·split <;> simp [*]
theorem z70 (a b : Int) : ((if a < b then -1 else if b < a then 1 else 0 : Int) = 0) ↔ a = b := by
 split
 ·simp; omega
 ·split
  ·simp; omega
  ·simp; omega

def far (a b : Int) : Int := (IntKind.wrap .i64 (IntKind.wrap .i64 (b - a) + 256)).tmod 256
def place (x : Int) : Bool := decide (0 ≤ x) && decide (x < 256)
structure Peer where
 id : Int
 missed : Int
 deriving DecidableEq, Inhabited
def Peer.row (p : Peer) : List D := [.int .i64 p.id, .int .i64 p.missed]
def irow (x : Int) : List D := [.int .i64 x]
@[simp] theorem qa5 (S : Nat → Bool) (x : Int) : (irow x).map (D.sweep S) = irow x := rfl
@[simp] theorem qbi (S : Nat → Bool) (p : Peer) : p.row.map (D.sweep S) = p.row := rfl
@[simp] theorem qbw (fr fp : Nat → Nat → Nat → D) (x : Int) : (irow x).map (D.mapR fr fp) = irow x := rfl
@[simp] theorem qcp (fr fp : Nat → Nat → Nat → D) (p : Peer) : p.row.map (D.mapR fr fp) = p.row := rfl
attribute [simp] Function.comp_def behind frzRef frzPtr Kind.down expRef expPtr
@[simp] theorem z9h (x : Int) : (irow x).length = 1 := rfl
@[simp] theorem qap (p : Peer) : p.row.length = 2 := rfl
def peersD (ps : List Peer) : D := .sl (ps.map Peer.row) ps.length
def intsD (xs : List Int) : D := .sl (xs.map irow) xs.length
@[simp] theorem qaz (fr fp : Nat → Nat → Nat → D) (xs : List Int) : D.mapR fr fp (intsD xs) = intsD xs := rfl
@[simp] theorem z9t (fr fp : Nat → Nat → Nat → D) (ps : List Peer) : D.mapR fr fp (peersD ps) = peersD ps := rfl
structure View where
 id : Int
 peers : List Peer
 passive : List Int
 deriving DecidableEq, Inhabited
def View.cells (v : View) : List D := [.int .i64 v.id, peersD v.peers, intsD v.passive]
def viewD (v : View) : D := .agg v.cells
def View.small (v : View) : Prop := v.peers.length ≤ cap16 ∧ v.passive.length ≤ cap

def peersOk (base : Int) : Int → List Peer → Bool
 | _, [] => true
 | last, p :: ps => place p.id && decide (0 ≤ p.missed) && decide (p.missed < 3) && decide (last < far base p.id) && peersOk base (far base p.id) ps
def peersMay (base : Int) (ps : List Peer) : Bool := place base && decide (ps.length ≤ 16) && peersOk base 0 ps

def cmpI (a b : Int) : Int := if a < b then -1 else if b < a then 1 else 0
theorem zj3 (a b : Int) : cmpI a b < 0 ↔ a < b := z96 a b
theorem zlp (a b : Int) : cmpI a b = 0 ↔ a = b := z70 a b
theorem z7h (a b : Int) : (cmpI a b == 0) = decide (a = b) := by
 rw [Bool.eq_iff_iff, beq_iff_eq, decide_eq_true_iff]
 exact zlp a b

def ups : Option Int → List Int → Bool
 | _, [] => true
 | p, x :: xs => place x && (match p with | none => true | some y => decide (y < x)) && ups (some x) xs
def passiveMay (xs : List Int) : Bool := ups none xs && decide (xs.length ≤ 16)
def incr : List Int → Bool
 | [] => true
 | [_] => true
 | x :: y :: xs => decide (x < y) && incr (y :: xs)

def fIdx (p : Int → Bool) : Nat → List Int → Int
 | _, [] => -1
 | i, x :: xs => if p x then (i : Int) else fIdx p (i + 1) xs
theorem z0a (p : Int → Bool) : ∀ (xs : List Int) (i : Nat), decide (0 ≤ fIdx p i xs) = xs.any p := by
 intro xs
 induction xs with
 | nil => intro i; rfl
 | cons x xs ih =>
   intro i
   simp only [fIdx, List.any_cons]
   by_cases h : p x = true
   ·simp [h]
   ·have h' : p x = false := by simpa using h
    simp [h', ih]

def findAt (base : Int) (ps : List Peer) (id : Int) : Nat := (ps.takeWhile fun p => decide (far base p.id < far base id)).length
def isFar (base id : Int) : Option Peer → Bool
 | some p => decide (far base p.id = far base id)
 | none => false
def peerIs (base : Int) (ps : List Peer) (id : Int) : Bool := isFar base id ps[findAt base ps id]?
def Rowed (base : Int) (ps : List Peer) : Prop := ∀ (i j : Nat) (p q : Peer), i < j → ps[i]? = some p → ps[j]? = some q → far base p.id < far base q.id

theorem zlx {α : Type} (f : α → Bool) : ∀ (l : List α) (i : Nat) (a : α), i < (l.takeWhile f).length → l[i]? = some a → f a = true := by
 intro l
 induction l with
 | nil => intro i a h; simp at h
 | cons x l ih =>
   intro i a h ha
   by_cases hx : f x = true
   ·rw [List.takeWhile_cons_of_pos hx] at h
    cases i with
    | zero => simp at ha; subst ha; exact hx
    | succ i => exact ih i a (by simpa using h) (by simpa using ha)
   ·rw [List.takeWhile_cons_of_neg hx] at h
    simp at h
theorem zmg {α : Type} (f : α → Bool) : ∀ (l : List α) (a : α), l[(l.takeWhile f).length]? = some a → f a = false := by
 intro l
 induction l with
 | nil => intro a h; simp at h
 | cons x l ih =>
   intro a h
   by_cases hx : f x = true
   ·rw [List.takeWhile_cons_of_pos hx] at h
    exact ih a (by simpa using h)
   ·rw [List.takeWhile_cons_of_neg hx] at h
    simp at h
    subst h
    simpa using hx

theorem zwi (base : Int) (ps : List Peer) (id : Int) : findAt base ps id ≤ ps.length := (List.takeWhile_prefix _).length_le
theorem zva {base : Int} {ps : List Peer} {id : Int} (i : Nat) (p : Peer) (h : i < findAt base ps id) (hp : ps[i]? = some p) : far base p.id < far base id := by
 simpa using zlx _ ps i p h hp
theorem zvv {base : Int} {ps : List Peer} {id : Int} (hr : Rowed base ps) (i : Nat) (p : Peer) (h : findAt base ps id ≤ i) (hp : ps[i]? = some p) : far base id ≤ far base p.id := by
 have hlt : findAt base ps id < ps.length := by
  have := (List.getElem?_eq_some_iff.1 hp).1
  omega
 have hq : ps[findAt base ps id]? = some ps[findAt base ps id] := by simp [hlt]
 have h1 := zmg _ ps _ hq
 simp at h1
 rcases Nat.lt_or_ge (findAt base ps id) i with h2 | h2
 ·have := hr _ i _ p h2 hq hp
  omega
 ·have : i = findAt base ps id := by omega
  subst this
  rw [hq] at hp
  cases hp
  exact h1

theorem zya {base : Int} : ∀ (ps : List Peer) (last : Int), peersOk base last ps = true → ∀ (i : Nat) (p : Peer), ps[i]? = some p → last < far base p.id := by
 intro ps
 induction ps with
 | nil => intro last _ i p h; simp at h
 | cons q ps ih =>
   intro last h i p hp
   simp only [peersOk, Bool.and_eq_true, decide_eq_true_eq] at h
   cases i with
   | zero => simp at hp; subst hp; exact h.1.2
   | succ i =>
     have := ih _ h.2 i p (by simpa using hp)
     have := h.1.2
     omega
theorem zsq {base : Int} : ∀ (ps : List Peer) (last : Int), peersOk base last ps = true → Rowed base ps := by
 intro ps
 induction ps with
 | nil => intro last _ i j p q _ h; simp at h
 | cons x ps ih =>
   intro last h i j p q hij hp hq
   simp only [peersOk, Bool.and_eq_true, decide_eq_true_eq] at h
   cases j with
   | zero => omega
   | succ j =>
     cases i with
     | zero =>
       simp at hp
       subst hp
       exact zya ps _ h.2 j q (by simpa using hq)
     | succ i => exact ih _ h.2 i j p q (by omega) (by simpa using hp) (by simpa using hq)
theorem zdf {base : Int} {ps : List Peer} (h : peersMay base ps = true) : Rowed base ps := by
 simp only [peersMay, Bool.and_eq_true] at h
 exact zsq ps 0 h.2

def oddIn (v : View) (x : Int) : Bool := (x == v.id) || peerIs v.id v.peers x
def viewMay (v : View) : Bool := peersMay v.id v.peers && passiveMay v.passive && decide (v.peers.length + v.passive.length ≤ 16) && !(v.passive.any (oddIn v))

def succV (v : View) : Int × Int := if viewMay v then (match v.peers with
 | [] => (v.id, 0)
 | p :: _ => (p.id, 0)) else (0, 900)
def predV (v : View) : Int × Int := if viewMay v then ((v.peers.getLast?).elim (v.id, 0) fun p => (p.id, 0)) else (0, 900)
def pairD (r : Int × Int) : D := .tup [.int .i64 r.1, .int .i64 r.2]
def nearest (key : Int) : Int → List Int → Int
 | m, [] => m
 | m, x :: xs => nearest key (if far key x < far key m then x else m) xs

def rowOwner (ids : List Int) (key : Int) : Int × Int := if place key && decide (ids.length ≤ 64) && ids.all place then (match ids with
 | [] => (0, 200)
 | x :: xs => (nearest key x xs, 0)) else (0, 200)
def ownerV (v : View) (key : Int) : Int × Int := if viewMay v && place key then ((rowOwner (v.peers.map Peer.id ++ [v.id]) key).1, 0) else (0, 900)

def incrAt (xs : List Int) (j : Nat) : Bool := match xs[j - 1]? with
 | some y => incr (y :: xs.drop j)
 | none => true
theorem zsb {xs : List Int} {j : Nat} (h : xs.drop j = []) : incrAt xs j = true := by
 unfold incrAt
 rw [h]
 split <;> rfl
theorem zyg {xs : List Int} {j : Nat} {x y : Int} (hj : 1 ≤ j) (hy : xs[j - 1]? = some y) (hx : xs[j]? = some x) : incrAt xs j = (decide (y < x) && incrAt xs (j + 1)) := by
 have hlt := (List.getElem?_eq_some_iff.1 hx).1
 have hxe := (List.getElem?_eq_some_iff.1 hx).2
 have hd : xs.drop j = x :: xs.drop (j + 1) := by rw [List.drop_eq_getElem_cons hlt, hxe]
 have e : incrAt xs (j + 1) = incr (x :: xs.drop (j + 1)) := by
  unfold incrAt
  rw [Nat.add_sub_cancel, hx]
 rw [e]
 unfold incrAt
 rw [hy, hd]
 rfl
theorem zv3 (xs : List Int) : incrAt xs 1 = incr xs := by
 cases xs with
 | nil => rfl
 | cons x xs => rfl

def refPassiveMay (xs : List Int) : Bool := incr xs && xs.all place && decide (xs.length ≤ 16)
def refPeersOk (base : Int) : Option Peer → List Peer → Bool
 | _, [] => true
 | q, p :: ps => place p.id && decide (p.id ≠ base) && decide (0 ≤ p.missed) && decide (p.missed < 3) && (match q with | none => true | some q => decide (far base q.id < far base p.id)) && refPeersOk base (some p) ps
def refPeersMay (base : Int) (ps : List Peer) : Bool := refPeersOk base none ps && place base && decide (ps.length ≤ 16)
def refOdd (v : View) (x : Int) : Bool := x == v.id || (v.peers.map Peer.id).contains x
def refViewMay (v : View) : Bool := !(v.passive.any (refOdd v)) && refPeersMay v.id v.peers && refPassiveMay v.passive && decide (v.peers.length + v.passive.length ≤ 16)
end Go.AM
