/- What the proof of this claim stands on, part 6. -/
import Derived.IntWalk
import Derived.Test.YtehagcggdepajaaGreatAmZ5
set_option linter.unusedVariables false
set_option linter.unusedSimpArgs false
set_option maxRecDepth 8000
set_option maxHeartbeats 0
/- AM: the rules by which short code is stepped through, for simp; splits. -/
namespace Go.AM

def ovr (rows : List (List D)) (p : Nat) (ys : List (List D)) : List (List D) := rows.take p ++ ys ++ rows.drop (p + ys.length)
def overB (k : Option Blk) (st : St) (b off len esz : Nat) (ys : List (List D)) : Option St := match k with
 | some k => if k.esz = esz ∧ k.kind = .mut ∧ ys.length ≤ len then some { st with bs := zbj st.bs b (ovr k.rows off ys) } else none
 | none => none
theorem qcz (st : St) (b off len esz : Nat) (ys : List (List D)) : zo7 st (.ref b off len) esz ys = overB st.bs[b]? st b off len esz ys := by
 unfold zo7 overB
 simp only
 cases h : st.bs[b]? <;> simp only [ovr]
theorem za6 {rows : List (List D)} {p : Nat} {ys : List (List D)} (h : p + ys.length ≤ rows.length) : (ovr rows p ys).length = rows.length := by
 unfold ovr
 simp
 omega
theorem zv9 {rows : List (List D)} {p : Nat} {ys : List (List D)} (h : p + ys.length ≤ rows.length) (i : Nat) : (ovr rows p ys)[i]? = if i < p then rows[i]? else if i < p + ys.length then ys[i - p]? else rows[i]? := by
 unfold ovr
 have hl1 : (rows.take p).length = p := by simp; omega
 by_cases hm1 : i < p
 ·rw [if_pos hm1, List.append_assoc, List.getElem?_append_left (by omega), List.getElem?_take_of_lt hm1]
 ·rw [if_neg hm1]
  by_cases hm2 : i < p + ys.length
  ·rw [if_pos hm2, List.append_assoc, List.getElem?_append_right (by omega), List.getElem?_append_left (by omega), hl1]
  ·rw [if_neg hm2, List.getElem?_append_right (by simp; omega), List.getElem?_drop]
   simp only [List.length_append, hl1]
   congr 1
   omega

attribute [simp] sFun z7h qco z8c qcg qb7 z7g qcy z9k z5a z9g z98 qb5 z42 z1k qcx qfk zzi z39 z82 qe1 qd9 qea
 qed qao qba z22 z1g qa7 z8e z7j z8u z57 qdw z8s z9u z46 qdf callEnd zyr z7w zwt z1t barV isOvl isGive isGiveT mxOk z4u z0w z3n z9s z2x z8q qcz overB z5k z1h z9b qg6 z1x qav
 z2i z8m zyy zsn ztn z0h qa5
 pureD opFn St.ev start upd zof zmy St.put binD binInt zz9 arith resL resD zpo zax D.mapR D.rids zju zmg
 finQ isLend isLendT D.freeze zh4 D.plain zod ownT zoc St.out zx6 unD lenD D.shift reach idsL D.ids TD.known TD.agg ld loadD zrq D.cells? D.isCell zm0 zbj zlj zlg fieldD partD indexD
 zjn zkj trunc zjl Blk.sweep D.sweep D.freeze0 rowsD fillD Kind.isBox zoz zoy zas

def nilX : Option Bool → Option D → Option D
 | some b, _ => some (.bool b)
 | none, d => d
@[simp] theorem qh8 (b : Bool) (d : Option D) : nilX (some b) d = some (.bool b) := rfl
@[simp] theorem qic (d : Option D) : nilX none d = d := rfl
@[simp] theorem qjl (T : Tab) (eqs : List Nat) (op : BinOp) (t n : Nat) (x y : D) : binX T eqs op t x (.tmp n) y = binD T eqs op t x y := rfl
@[simp] theorem qjo (T : Tab) (eqs : List Nat) (op : BinOp) (t : Nat) (k : IntKind) (n : Int) (x y : D) : binX T eqs op t x (.const (.int k n)) y = binD T eqs op t x y := rfl
@[simp] theorem qjk (T : Tab) (eqs : List Nat) (op : BinOp) (t : Nat) (b : Bool) (x y : D) : binX T eqs op t x (.const (.bool b)) y = binD T eqs op t x y := rfl
@[simp] theorem qjw (T : Tab) (eqs : List Nat) (op : BinOp) (t n m : Nat) (x y : D) : binX T eqs op t x (.const (.slice none n m)) y = nilX (nilCmp T op t x (.const (.slice none n m))) (binD T eqs op t x y) := by
  unfold binX
  split <;> rename_i h <;> rw [h] <;> rfl
attribute [simp] nilCmp isNilD capT capD

section
variable {c : Cfg} {P : Prop} [Decidable P] {o : SO} {l : List SO} {st : St} {K : St → Prop} {x y : SC} {Q : Ex → St → Prop}
theorem zaj (h1 : P → gOps c true o l st K) (h2 : ¬ P → gOps c false o l st K) : gOps c (decide P) o l st K := by
 by_cases h : P
 ·simpa [h] using h1 h
 ·simpa [h] using h2 h
theorem zah (h1 : P → gOps c false o l st K) (h2 : ¬ P → gOps c true o l st K) : gOps c (!decide P) o l st K := by
 by_cases h : P
 ·simpa [h] using h1 h
 ·simpa [h] using h2 h
theorem zal {b : Bool} (h1 : b = true → gOps c false o l st K) (h2 : b = false → gOps c true o l st K) : gOps c (!b) o l st K := by
 cases b
 ·exact h2 rfl
 ·exact h1 rfl
theorem zae (h1 : P → zit c true x y st Q) (h2 : ¬ P → zit c false x y st Q) : zit c (decide P) x y st Q := by
 by_cases h : P
 ·simpa [h] using h1 h
 ·simpa [h] using h2 h
theorem zad (h1 : P → zit c false x y st Q) (h2 : ¬ P → zit c true x y st Q) : zit c (!decide P) x y st Q := by
 by_cases h : P
 ·simpa [h] using h1 h
 ·simpa [h] using h2 h
theorem zaf {b : Bool} (h1 : b = true → zit c false x y st Q) (h2 : b = false → zit c true x y st Q) : zit c (!b) x y st Q := by
 cases b
 ·exact h2 rfl
 ·exact h1 rfl
end

theorem ze1 {α : Type} {l rest : List α} {i : Nat} {a : α} (h : l.drop i = a :: rest) : i < l.length ∧ l[i]? = some a ∧ l.drop (i + 1) = rest ∧ l.length = i + 1 + rest.length := by
 have hlt : i < l.length := by
  rcases Nat.lt_or_ge i l.length with h' | h'
  ·exact h'
  ·rw [List.drop_of_length_le h'] at h; cases h
 have h2 := List.drop_eq_getElem_cons hlt
 rw [h] at h2
 have h3 := List.cons.inj h2
 refine ⟨hlt, by simp [hlt, h3.1], h3.2.symm, ?_⟩
 have := congrArg List.length h
 simp at this
 omega
theorem zgu {α : Type} {l : List α} {i : Nat} (h : l.drop i = []) (hi : i ≤ l.length) : i = l.length := by
 have := congrArg List.length h
 simp at this
 omega

theorem zaw {n : Int} (h1 : -9223372036854775808 ≤ n) (h2 : n < 9223372036854775808) : IntKind.wrap .i64 n = n := IntWalk.i64_in n ⟨h1, by omega⟩
theorem za5 {n : Nat} (h : n ≤ 140737488355328) : IntKind.wrap .i64 ((n : Int) + 1) = ((n + 1 : Nat) : Int) := by
 rw [zaw (by omega) (by omega)]
 rfl
end Go.AM
/- AM: what the given program's parts reckon with, in plain lists and numbers. -/
namespace Go.AM

def cap : Nat := 17592186044416
def zbo : Nat := 8796093022208
theorem zvy {n : Nat} (h : n ≤ zbo) : n ≤ cap := by unfold zbo at h; unfold cap; omega

theorem z21 {lo hi : Nat} (h1 : lo ≤ cap) (h2 : hi ≤ cap) : IntKind.i64.wrap ((IntKind.u64.wrap (IntKind.i64.wrap ((lo : Int) + hi))).fdiv (2 ^ min 1 IntKind.u64.bits)) = (((lo + hi) / 2 : Nat) : Int) := by
 unfold cap at h1 h2
 rw [zaw (n := (lo : Int) + hi) (by omega) (by omega), IntWalk.u64_in ((lo : Int) + hi) ⟨by omega, by omega⟩, show (2 : Int) ^ min 1 IntKind.u64.bits = 2 from rfl]
 have : ((lo : Int) + hi).fdiv 2 = ((lo + hi) / 2 : Nat) := by
  rw [Int.fdiv_eq_ediv_of_nonneg _ (by omega)]
  omega
 rw [this, zaw (by omega) (by omega)]

theorem qgb (a b : Int) : ((if a < b then -1 else if b < a then 1 else 0 : Int) < 0) ↔ a < b := by
 split
 ·simp [*]
 ·split <;> simp [*]
theorem qfe (a b : Int) : ((if a < b then -1 else if b < a then 1 else 0 : Int) = 0) ↔ a = b := by
 split
 ·simp; omega
 ·split
  ·simp; omega
  ·simp; omega

def far (a b : Int) : Int := (IntKind.wrap .i64 (IntKind.wrap .i64 (b - a) + 256)).tmod 256
def place (x : Int) : Bool := decide (0 ≤ x) && decide (x < 256)
structure Peer where
 id : Int
 missed : Int
 deriving DecidableEq, Inhabited
def Peer.row (p : Peer) : List D := [.int .i64 p.id, .int .i64 p.missed]
def irow (x : Int) : List D := [.int .i64 x]
@[simp] theorem qhs (S : Nat → Bool) (x : Int) : (irow x).map (D.sweep S) = irow x := rfl
@[simp] theorem qi3 (S : Nat → Bool) (p : Peer) : p.row.map (D.sweep S) = p.row := rfl
@[simp] theorem qim (fr fp : Nat → Nat → Nat → D) (x : Int) : (irow x).map (D.mapR fr fp) = irow x := rfl
@[simp] theorem qjp (fr fp : Nat → Nat → Nat → D) (p : Peer) : p.row.map (D.mapR fr fp) = p.row := rfl
attribute [simp] Function.comp_def zrr zpp frzPtr Kind.down zik zll
@[simp] theorem qhi (x : Int) : (irow x).length = 1 := rfl
@[simp] theorem qhn (p : Peer) : p.row.length = 2 := rfl
def zat (ps : List Peer) : D := .sl (ps.map Peer.row) ps.length
def zap (xs : List Int) : D := .sl (xs.map irow) xs.length
@[simp] theorem qhv (fr fp : Nat → Nat → Nat → D) (xs : List Int) : D.mapR fr fp (zap xs) = zap xs := rfl
@[simp] theorem qhd (fr fp : Nat → Nat → Nat → D) (ps : List Peer) : D.mapR fr fp (zat ps) = zat ps := rfl
structure View where
 id : Int
 peers : List Peer
 passive : List Int
 deriving DecidableEq, Inhabited
def View.cells (v : View) : List D := [.int .i64 v.id, zat v.peers, zap v.passive]
def zd6 (v : View) : D := .agg v.cells
def View.small (v : View) : Prop := v.peers.length ≤ zbo ∧ v.passive.length ≤ cap

def zev (base : Int) : Int → List Peer → Bool
 | _, [] => true
 | last, p :: ps => place p.id && decide (0 ≤ p.missed) && decide (p.missed < 3) && decide (last < far base p.id) && zev base (far base p.id) ps
def zbn (base : Int) (ps : List Peer) : Bool := place base && decide (ps.length ≤ 16) && zev base 0 ps

def cmpI (a b : Int) : Int := if a < b then -1 else if b < a then 1 else 0
theorem zt1 (a b : Int) : cmpI a b < 0 ↔ a < b := qgb a b
theorem zqv (a b : Int) : cmpI a b = 0 ↔ a = b := qfe a b
theorem qd0 (a b : Int) : (cmpI a b == 0) = decide (a = b) := by
 rw [Bool.eq_iff_iff, beq_iff_eq, decide_eq_true_iff]
 exact zqv a b

def ups : Option Int → List Int → Bool
 | _, [] => true
 | p, x :: xs => place x && (match p with | none => true | some y => decide (y < x)) && ups (some x) xs
def zbr (xs : List Int) : Bool := ups none xs && decide (xs.length ≤ 16)
def incr : List Int → Bool
 | [] => true
 | [_] => true
 | x :: y :: xs => decide (x < y) && incr (y :: xs)

def fIdx (p : Int → Bool) : Nat → List Int → Int
 | _, [] => -1
 | i, x :: xs => if p x then (i : Int) else fIdx p (i + 1) xs
theorem z7d (p : Int → Bool) : ∀ (xs : List Int) (i : Nat), decide (0 ≤ fIdx p i xs) = xs.any p := by
 intro xs
 induction xs with
 | nil => intro i; rfl
 | cons x xs ih =>
   intro i
   simp only [fIdx, List.any_cons]
   by_cases h : p x = true
   ·simp [h]
   ·have h' : p x = false := by simpa using h
    simp [h', ih]

def zeb (base : Int) (ps : List Peer) (id : Int) : Nat := (ps.takeWhile fun p => decide (far base p.id < far base id)).length
def isFar (base id : Int) : Option Peer → Bool
 | some p => decide (far base p.id = far base id)
 | none => false
def zle (base : Int) (ps : List Peer) (id : Int) : Bool := isFar base id ps[zeb base ps id]?
def Rowed (base : Int) (ps : List Peer) : Prop := ∀ (i j : Nat) (p q : Peer), i < j → ps[i]? = some p → ps[j]? = some q → far base p.id < far base q.id

theorem zqi {α : Type} (f : α → Bool) : ∀ (l : List α) (i : Nat) (a : α), i < (l.takeWhile f).length → l[i]? = some a → f a = true := by
 intro l
 induction l with
 | nil => intro i a h; simp at h
 | cons x l ih =>
   intro i a h ha
   by_cases hx : f x = true
   ·rw [List.takeWhile_cons_of_pos hx] at h
    cases i with
    | zero => simp at ha; subst ha; exact hx
    | succ i => exact ih i a (by simpa using h) (by simpa using ha)
   ·rw [List.takeWhile_cons_of_neg hx] at h
    simp at h
theorem zrk {α : Type} (f : α → Bool) : ∀ (l : List α) (a : α), l[(l.takeWhile f).length]? = some a → f a = false := by
 intro l
 induction l with
 | nil => intro a h; simp at h
 | cons x l ih =>
   intro a h
   by_cases hx : f x = true
   ·rw [List.takeWhile_cons_of_pos hx] at h
    exact ih a (by simpa using h)
   ·rw [List.takeWhile_cons_of_neg hx] at h
    simp at h
    subst h
    simpa using hx

theorem z0j (base : Int) (ps : List Peer) (id : Int) : zeb base ps id ≤ ps.length := (List.takeWhile_prefix _).length_le
theorem z17 {base : Int} {ps : List Peer} {id : Int} (i : Nat) (p : Peer) (h : i < zeb base ps id) (hp : ps[i]? = some p) : far base p.id < far base id := by
 simpa using zqi _ ps i p h hp
theorem z2j {base : Int} {ps : List Peer} {id : Int} (hr : Rowed base ps) (i : Nat) (p : Peer) (h : zeb base ps id ≤ i) (hp : ps[i]? = some p) : far base id ≤ far base p.id := by
 have hlt : zeb base ps id < ps.length := by
  have := (List.getElem?_eq_some_iff.1 hp).1
  omega
 have hq : ps[zeb base ps id]? = some ps[zeb base ps id] := by simp [hlt]
 have h1 := zrk _ ps _ hq
 simp at h1
 rcases Nat.lt_or_ge (zeb base ps id) i with h2 | h2
 ·have := hr _ i _ p h2 hq hp
  omega
 ·have : i = zeb base ps id := by omega
  subst this
  rw [hq] at hp
  cases hp
  exact h1

theorem z4x {base : Int} : ∀ (ps : List Peer) (last : Int), zev base last ps = true → ∀ (i : Nat) (p : Peer), ps[i]? = some p → last < far base p.id := by
 intro ps
 induction ps with
 | nil => intro last _ i p h; simp at h
 | cons q ps ih =>
   intro last h i p hp
   simp only [zev, Bool.and_eq_true, decide_eq_true_eq] at h
   cases i with
   | zero => simp at hp; subst hp; exact h.1.2
   | succ i =>
     have := ih _ h.2 i p (by simpa using hp)
     have := h.1.2
     omega
theorem zy7 {base : Int} : ∀ (ps : List Peer) (last : Int), zev base last ps = true → Rowed base ps := by
 intro ps
 induction ps with
 | nil => intro last _ i j p q _ h; simp at h
 | cons x ps ih =>
   intro last h i j p q hij hp hq
   simp only [zev, Bool.and_eq_true, decide_eq_true_eq] at h
   cases j with
   | zero => omega
   | succ j =>
     cases i with
     | zero =>
       simp at hp
       subst hp
       exact z4x ps _ h.2 j q (by simpa using hq)
     | succ i => exact ih _ h.2 i j p q (by omega) (by simpa using hp) (by simpa using hq)
theorem zet {base : Int} {ps : List Peer} (h : zbn base ps = true) : Rowed base ps := by
 simp only [zbn, Bool.and_eq_true] at h
 exact zy7 ps 0 h.2

def oddIn (v : View) (x : Int) : Bool := (x == v.id) || zle v.id v.peers x
def zbd (v : View) : Bool := zbn v.id v.peers && zbr v.passive && decide (v.peers.length + v.passive.length ≤ 16) && !(v.passive.any (oddIn v))

def zn9 (v : View) : Int × Int := if zbd v then (match v.peers with
 | [] => (v.id, 0)
 | p :: _ => (p.id, 0)) else (0, 900)
def zng (r : Int × Int) : D := .tup [.int .i64 r.1, .int .i64 r.2]
def zdv (key : Int) : Int → List Int → Int
 | m, [] => m
 | m, x :: xs => zdv key (if far key x < far key m then x else m) xs

def zfj (ids : List Int) (key : Int) : Int × Int := if place key && decide (ids.length ≤ 64) && ids.all place then (match ids with
 | [] => (0, 200)
 | x :: xs => (zdv key x xs, 0)) else (0, 200)
def zbw (v : View) (key : Int) : Int × Int := if zbd v && place key then ((zfj (v.peers.map Peer.id ++ [v.id]) key).1, 0) else (0, 900)

def zrs (xs : List Int) (j : Nat) : Bool := match xs[j - 1]? with
 | some y => incr (y :: xs.drop j)
 | none => true
theorem zw8 {xs : List Int} {j : Nat} (h : xs.drop j = []) : zrs xs j = true := by
 unfold zrs
 rw [h]
 split <;> rfl
theorem z4y {xs : List Int} {j : Nat} {x y : Int} (hj : 1 ≤ j) (hy : xs[j - 1]? = some y) (hx : xs[j]? = some x) : zrs xs j = (decide (y < x) && zrs xs (j + 1)) := by
 have hlt := (List.getElem?_eq_some_iff.1 hx).1
 have hxe := (List.getElem?_eq_some_iff.1 hx).2
 have hd : xs.drop j = x :: xs.drop (j + 1) := by rw [List.drop_eq_getElem_cons hlt, hxe]
 have e : zrs xs (j + 1) = incr (x :: xs.drop (j + 1)) := by
  unfold zrs
  rw [Nat.add_sub_cancel, hx]
 rw [e]
 unfold zrs
 rw [hy, hd]
 rfl
theorem z1c (xs : List Int) : zrs xs 1 = incr xs := by
 cases xs with
 | nil => rfl
 | cons x xs => rfl

def zd4 (xs : List Int) : Bool := incr xs && xs.all place && decide (xs.length ≤ 16)
def zhe (base : Int) : Option Peer → List Peer → Bool
 | _, [] => true
 | q, p :: ps => place p.id && decide (p.id ≠ base) && decide (0 ≤ p.missed) && decide (p.missed < 3) && (match q with | none => true | some q => decide (far base q.id < far base p.id)) && zhe base (some p) ps
def zf9 (base : Int) (ps : List Peer) : Bool := zhe base none ps && place base && decide (ps.length ≤ 16)
def zwe (v : View) (x : Int) : Bool := x == v.id || (v.peers.map Peer.id).contains x
def zld (v : View) : Bool := !(v.passive.any (zwe v)) && zf9 v.id v.peers && zd4 v.passive && decide (v.peers.length + v.passive.length ≤ 16)
end Go.AM
