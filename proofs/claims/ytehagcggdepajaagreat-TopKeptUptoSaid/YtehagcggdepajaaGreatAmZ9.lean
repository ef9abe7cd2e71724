/- What the proof of this claim stands on, part 9. -/
import Derived.WalkKit
import Derived.ProofKit
import Derived.OpenShut
import Derived.ChangeOld
import Derived.Below
import Derived.SizedLaws
import Derived.Carry
import Derived.JoinedTies
import Derived.Test.YtehagcggdepajaaGreatAmZ8
set_option linter.unusedVariables false
set_option linter.unusedSimpArgs false
set_option maxRecDepth 8000
set_option maxHeartbeats 0
/- AM: a law's row out of its contract. -/
namespace Go.AM
open Go.ChangeShapes Go.WideShapes Go.ChangeAt Go.RowKit

def zda (T : Tab) (n t : Nat) (d : D) : Prop := if (T t).d.agg then ∃ cs, d = .agg cs ∧ Tell T n t cs else Tell T n t [d]
def zo0 (T : Tab) (n : Nat) : List Nat → List D → Prop
 | [], ds => ds = []
 | t :: ts, ds => ∃ d ds', ds = d :: ds' ∧ zda T n t d ∧ zo0 T n ts ds'

section
variable {H : Type} {enc : TypeId × Value → H} {P : Program} {T : Tab} {eqs : List Nat} (hT : TabOk P T eqs) {w : World}

theorem zyj {v : Value} (h : ∀ cs, v ≠ .agg cs) : v.cells.toList = [v] := by
 cases v <;> first | rfl | exact absurd rfl (h _)

include hT in
theorem qd2 {n t : Nat} (hc : zki T n t = true) {v : Value} {d : DataW H} {ps : List MemPlace} (h : DataW.Trod enc P w 0 (fun _ => true) true t v d ps) (hw : (d.weights P t).all (· ≤ reachBytes) = true)
 {base : Nat} (hok : Value.okWide P w .any base t v) : ∃ x : D, Rep w none0 zry v x ∧ zda T n t x := by
 obtain ⟨fuel, h⟩ := h
 obtain ⟨ds, h1, h2, h3, h4⟩ := z8o hT n t hc fuel _ d ps h hw
 have hkn := ziq hc
 obtain ⟨de, hde, hdo⟩ := zg8 hT hkn
 cases ha : (T t).d.agg with
 | true =>
   have : ∃ cs, v = .agg cs := by
    cases hd' : (T t).d <;> rw [hd'] at ha hdo <;> simp [TD.agg] at ha
    ·cases de <;> simp [za0] at hdo
     simp only [Value.okWide, hde] at hok
     obtain ⟨cs, h, _⟩ := hok
     exact ⟨cs, h⟩
    ·cases de <;> simp [za0] at hdo
     obtain ⟨cs, h, _⟩ := okWide_struct hde hok
     exact ⟨cs, h⟩
   obtain ⟨cs, rfl⟩ := this
   refine ⟨.agg ds, .agg cs ds (by simpa [Value.cells] using h2.symm) fun i v d hv hd => .imm _ _ (h3 i v d (by simpa [Value.cells] using hv) hd), ?_⟩
   unfold zda
   rw [if_pos ha]
   exact ⟨ds, rfl, h4⟩
 | false =>
   have hs1 : (T t).size = 1 := by
    cases n with
    | zero => cases hc
    | succ n =>
      unfold zki at hc
      revert hc ha
      cases (T t).d <;> simp [TD.agg] <;> intro h <;> first | exact h | exact fun _ _ => h
   have hv : ∀ cs, v ≠ .agg cs := by
    rintro cs rfl
    cases hd' : (T t).d <;> rw [hd'] at ha hdo <;> simp [TD.agg] at ha <;> cases de <;> simp [za0] at hdo <;> simp [Value.okWide, hde, Cell.okWide, Cell.ok] at hok
    all_goals (rw [hd'] at hkn; cases hkn)
   rw [zyj hv] at h1 h2 h3
   match ds, h2 with
   | [x], _ =>
     refine ⟨x, .imm _ _ (h3 0 v x rfl rfl), ?_⟩
     unfold zda
     rw [if_neg (by rw [ha]; exact Bool.false_ne_true)]
     exact h4

include hT in
theorem qik {n : Nat} : ∀ (ts : List TypeId) (vs : List Value) (ds : List (DataW H)) (ps : List MemPlace), (∀ t ∈ ts, zki T n t = true) → DataW.TrodAll enc P w 0 (fun _ => true) true ts vs ds ps →
 (DataW.weightsEach P ts ds).all (· ≤ reachBytes) = true → ∀ {base : Nat}, (∀ (j : Nat) t v, ts[j]? = some t → vs[j]? = some v → Value.okWide P w .any base t v) →
 ∃ xs : List D, xs.length = vs.length ∧ (∀ (i : Nat) (v : Value) (d : D), vs[i]? = some v → xs[i]? = some d → Rep w none0 zry v d) ∧ zo0 T n ts xs := by
 intro ts
 induction ts with
 | nil =>
   intro vs ds ps _ h _ base _
   obtain ⟨rfl, rfl, rfl⟩ := trodAll_nil h
   exact ⟨[], rfl, by simp, rfl⟩
 | cons t ts ih =>
   intro vs ds ps hc h hw base hok
   obtain ⟨v, vs', d, ds', p, q, rfl, rfl, rfl, h1, h2⟩ := trodAll_cons h
   simp only [DataW.weightsEach, List.all_append, Bool.and_eq_true] at hw
   obtain ⟨x, hx, htx⟩ := qd2 hT (hc t (by simp)) h1 hw.1 (hok 0 t v rfl rfl)
   obtain ⟨xs, g1, g2, g3⟩ := ih vs' ds' q (fun t ht => hc t (by simp [ht])) h2 hw.2 (fun j t v h1 h2 => hok (j + 1) t v (by simpa using h1) (by simpa using h2))
   refine ⟨x :: xs, by simp [g1], ?_, x, xs, rfl, htx, g3⟩
   intro i v' d' hv hd
   cases i with
   | zero => simp at hv hd; subst hv hd; exact hx
   | succ i => exact g2 i v' d' (by simpa using hv) (by simpa using hd)

theorem z9c {ts : List TypeId} (hl : laidOutB P = true) {W W' : World} (bel : Below W.heap.size W W') : ∀ {ts : List TypeId} {vs : List Value} {ds : List (DataW H)} {ps : List MemPlace}, (∀ t ∈ ts, P.readableRec t = true ∧ t < P.types.size) →
 DataW.TrodAll enc P W 0 (fun _ => true) true ts vs ds ps → DataW.TrodAll enc P W' 0 (fun b => decide (b < W.heap.size)) true ts vs ds ps := by
 intro ts
 induction ts with
 | nil =>
   intro vs ds ps _ h
   obtain ⟨rfl, rfl, rfl⟩ := trodAll_nil h
   exact trodAll_mk0
 | cons t ts ih =>
   intro vs ds ps hr h
   obtain ⟨v, vs', d, ds', p, q, rfl, rfl, rfl, h1, h2⟩ := trodAll_cons h
   refine trodAll_cons_mk ?_ (ih (fun t ht => hr t (by simp [ht])) h2)
   obtain ⟨g1, g2⟩ := hr t (by simp)
   refine Below.trod hl g1 g2 h1 bel ?_
   obtain ⟨m, hm⟩ := h1
   exact DataW.trod_lt m _ _ _ hm
end

end Go.AM
/- AM: code run by reckoning: a frame is a tree; a run that comes to an end tells the contract. -/
namespace Go.AM

mutual
def D.beq : D → D → Bool
 | .undef, .undef => true
 | .int k n, .int k' n' => decide (k = k') && decide (n = n')
 | .bool a, .bool b => a == b
 | .nil, .nil => true
 | .zs a, .zs b => a == b
 | .sl r n, .sl r' n' => Nat.beq n n' && beqLL r r'
 | .mem a, .mem b => beqL a b
 | .ref b o l, .ref b' o' l' => Nat.beq b b' && (Nat.beq o o' && Nat.beq l l')
 | .ptr b o l, .ptr b' o' l' => Nat.beq b b' && (Nat.beq o o' && Nat.beq l l')
 | .agg a, .agg b => beqL a b
 | .tup a, .tup b => beqL a b
 | .fn f a c, .fn f' a' c' => Nat.beq f f' && (beqL a a' && beqL c c')
 | _, _ => false
def beqL : List D → List D → Bool
 | [], [] => true
 | a :: us, b :: bs => D.beq a b && beqL us bs
 | _, _ => false
def beqLL : List (List D) → List (List D) → Bool
 | [], [] => true
 | a :: us, b :: bs => beqL a b && beqLL us bs
 | _, _ => false
end
mutual
theorem D.beq_sound : ∀ (a b : D), D.beq a b = true → a = b := by
 intro a b h
 cases a <;> cases b <;> simp only [D.beq, Bool.false_eq_true] at h <;> try rfl
 ·simp only [Bool.and_eq_true, decide_eq_true_eq] at h; rw [h.1, h.2]
 ·rw [eq_of_beq h]
 ·rw [eq_of_beq h]
 ·simp only [Bool.and_eq_true, Nat.beq_eq] at h; rw [h.1, zln _ _ h.2]
 ·rw [zff _ _ h]
 ·simp only [Bool.and_eq_true, Nat.beq_eq] at h; rw [h.1, h.2.1, h.2.2]
 ·simp only [Bool.and_eq_true, Nat.beq_eq] at h; rw [h.1, h.2.1, h.2.2]
 ·rw [zff _ _ h]
 ·rw [zff _ _ h]
 ·simp only [Bool.and_eq_true, Nat.beq_eq] at h; rw [h.1, zff _ _ h.2.1, zff _ _ h.2.2]
theorem zff : ∀ (a b : List D), beqL a b = true → a = b := by
 intro a b h
 cases a <;> cases b <;> simp only [beqL, Bool.false_eq_true] at h
 ·rfl
 ·simp only [Bool.and_eq_true] at h; rw [D.beq_sound _ _ h.1, zff _ _ h.2]
theorem zln : ∀ (a b : List (List D)), beqLL a b = true → a = b := by
 intro a b h
 cases a <;> cases b <;> simp only [beqLL, Bool.false_eq_true] at h
 ·rfl
 ·simp only [Bool.and_eq_true] at h; rw [zff _ _ h.1, zln _ _ h.2]
end
def Blk.beq (a b : Blk) : Bool := beqLL a.rows b.rows && (Nat.beq a.esz b.esz && decide (a.kind = b.kind))
theorem Blk.beq_sound {a b : Blk} (h : a.beq b = true) : a = b := by
 obtain ⟨r, e, k⟩ := a
 obtain ⟨r', e', k'⟩ := b
 simp only [Blk.beq, Bool.and_eq_true, Nat.beq_eq, decide_eq_true_eq] at h
 rw [zln _ _ h.1, h.2.1, h.2.2]
def beqB : List Blk → List Blk → Bool
 | [], [] => true
 | a :: us, b :: bs => a.beq b && beqB us bs
 | _, _ => false
theorem zok : ∀ (a b : List Blk), beqB a b = true → a = b
 | [], [], _ => rfl
 | a :: us, b :: bs, h => by
   simp only [beqB, Bool.and_eq_true] at h
   rw [Blk.beq_sound h.1, zok us bs h.2]
 | [], _ :: _, h => by simp [beqB] at h
 | _ :: _, [], h => by simp [beqB] at h

inductive Tr where
 | leaf
 | node (v : D) (l r : Tr)
 deriving Inhabited
def Tr.get : Tr → Nat → D
 | .leaf, _ => .undef
 | .node v l r, t => cond (Nat.beq t 0) v (cond (Nat.beq (Nat.mod t 2) 1) (l.get (Nat.div t 2)) (r.get (Nat.sub (Nat.div t 2) 1)))
def Tr.set : Tr → Nat → D → Option Tr
 | .leaf, _, _ => none
 | .node v l r, t, d => cond (Nat.beq t 0) (some (.node d l r)) (cond (Nat.beq (Nat.mod t 2) 1)
    (match l.set (Nat.div t 2) d with | some l' => some (.node v l' r) | none => none)
    (match r.set (Nat.sub (Nat.div t 2) 1) d with | some r' => some (.node v l r') | none => none))
def Tr.map (f : D → D) : Tr → Tr
 | .leaf => .leaf
 | .node v l r => .node (f v) (l.map f) (r.map f)
def Tr.mk : Nat → Tr
 | 0 => .leaf
 | n + 1 => .node .undef (Tr.mk n) (Tr.mk n)
def Tr.beq : Tr → Tr → Bool
 | .leaf, .leaf => true
 | .node v l r, .node v' l' r' => v.beq v' && (l.beq l' && r.beq r')
 | _, _ => false
theorem Tr.beq_sound : ∀ (a b : Tr), a.beq b = true → a = b
 | .leaf, .leaf, _ => rfl
 | .node v l r, .node v' l' r', h => by
   simp only [Tr.beq, Bool.and_eq_true] at h
   rw [D.beq_sound _ _ h.1, Tr.beq_sound l l' h.2.1, Tr.beq_sound r r' h.2.2]
 | .leaf, .node _ _ _, h => by simp [Tr.beq] at h
 | .node _ _ _, .leaf, h => by simp [Tr.beq] at h
theorem zpw {a b : Nat} (h : ¬ a = b) : Nat.beq a b = false := by
 cases hb : Nat.beq a b with
 | false => rfl
 | true => exact absurd (Nat.eq_of_beq_eq_true hb) h
theorem ztv {a b : Nat} (h : a = b) : Nat.beq a b = true := by subst h; exact Nat.beq_refl a
theorem Tr.get_set : ∀ (tr : Tr) (t : Nat) (d : D) (tr' : Tr), tr.set t d = some tr' → tr'.get = upd tr.get t d := by
 intro tr
 induction tr with
 | leaf => intro t d tr' h; cases h
 | node v l r ihl ihr =>
   intro t d tr' h
   funext s
   unfold Tr.set at h
   by_cases h0 : t = 0
   ·subst h0
    rw [ztv rfl, cond_true] at h
    cases h
    unfold upd
    by_cases hs : s = 0
    ·subst hs; simp [Tr.get]
    ·have hs' : Nat.beq s 0 = false := zpw hs
     simp [Tr.get, hs, hs']
   ·have h0' : Nat.beq t 0 = false := zpw h0
    rw [h0', cond_false] at h
    by_cases h1 : t % 2 = 1
    ·have h1' : Nat.beq (Nat.mod t 2) 1 = true := ztv h1
     rw [h1', cond_true] at h
     split at h
     ·rename_i l' hl
      cases h
      have := ihl _ _ _ hl
      unfold upd at this ⊢
      by_cases hs : s = 0
      ·subst hs; simp [Tr.get, Ne.symm h0]
      ·have hs' : Nat.beq s 0 = false := zpw hs
       by_cases hs2 : s % 2 = 1
       ·have hs2' : Nat.beq (Nat.mod s 2) 1 = true := ztv hs2
        have e : (Nat.div s 2 = Nat.div t 2) = (s = t) := by
         apply propext
         show (s / 2 = t / 2) ↔ _
         omega
        simp only [Tr.get, hs', hs2', cond_true, cond_false, this, e]
       ·have hs2' : Nat.beq (Nat.mod s 2) 1 = false := zpw hs2
        have : s ≠ t := by intro e; subst e; exact hs2 h1
        simp only [Tr.get, hs', hs2', cond_false, this, if_false]
     ·cases h
    ·have h1' : Nat.beq (Nat.mod t 2) 1 = false := zpw h1
     rw [h1', cond_false] at h
     split at h
     ·rename_i r' hr
      cases h
      have := ihr _ _ _ hr
      unfold upd at this ⊢
      by_cases hs : s = 0
      ·subst hs; simp [Tr.get, Ne.symm h0]
      ·have hs' : Nat.beq s 0 = false := zpw hs
       by_cases hs2 : s % 2 = 1
       ·have hs2' : Nat.beq (Nat.mod s 2) 1 = true := ztv hs2
        have : s ≠ t := by intro e; subst e; exact h1 hs2
        simp only [Tr.get, hs', hs2', cond_true, cond_false, this, if_false]
       ·have hs2' : Nat.beq (Nat.mod s 2) 1 = false := zpw hs2
        have e : (Nat.sub (Nat.div s 2) 1 = Nat.sub (Nat.div t 2) 1) = (s = t) := by
         apply propext
         show (s / 2 - 1 = t / 2 - 1) ↔ _
         omega
        simp only [Tr.get, hs', hs2', cond_false, this, e]
     ·cases h
theorem Tr.get_map {f : D → D} (hf : f .undef = .undef) : ∀ (tr : Tr) (t : Nat), (tr.map f).get t = f (tr.get t) := by
 intro tr
 induction tr with
 | leaf => intro t; exact hf.symm
 | node v l r ihl ihr =>
   intro t
   simp only [Tr.map, Tr.get, ihl, ihr]
   cases Nat.beq t 0 <;> cases Nat.beq (Nat.mod t 2) 1 <;> rfl
theorem Tr.get_mk : ∀ (n t : Nat), (Tr.mk n).get t = .undef := by
 intro n
 induction n with
 | zero => intro t; rfl
 | succ n ih =>
   intro t
   simp only [Tr.mk, Tr.get, ih]
   cases Nat.beq t 0 <;> cases Nat.beq (Nat.mod t 2) 1 <;> rfl

structure E where
 tr : Tr
 bs : List Blk
def E.st (e : E) : St := ⟨e.tr.get, e.bs⟩
def E.ev (e : E) : Operand → D
 | .tmp t => e.tr.get t
 | .const v => zof v
 | .func f => .fn f [] []
 | .global _ => .undef
theorem E.ev_st (e : E) : e.st.ev = e.ev := by funext x; cases x <;> rfl
def zpn {α : Type} (n : Nat) (k : Nat → α) : α := match n with
 | 0 => k 0
 | n + 1 => k (n + 1)
theorem qbo {α : Type} (n : Nat) (k : Nat → α) : zpn n k = k n := by cases n <;> rfl
def forceD {α : Type} (d : D) (k : D → α) : α := match d with
 | .int i n => match n with
   | .ofNat m => zpn m fun m => k (.int i (.ofNat m))
   | .negSucc m => zpn m fun m => k (.int i (.negSucc m))
 | .bool b => match b with
   | true => k (.bool true)
   | false => k (.bool false)
 | .undef => k .undef
 | .nil => k .nil
 | .zs b => k (.zs b)
 | .sl r n => zpn n fun n => k (.sl r n)
 | .mem a => k (.mem a)
 | .ref b o l => zpn b fun b => zpn o fun o => zpn l fun l => k (.ref b o l)
 | .ptr b i j => zpn b fun b => zpn i fun i => zpn j fun j => k (.ptr b i j)
 | .agg a => k (.agg a)
 | .tup a => k (.tup a)
 | .fn f a c => k (.fn f a c)
theorem z0q {α : Type} (d : D) (k : D → α) : forceD d k = k d := by
 cases d <;> simp only [forceD, qbo]
 ·rename_i n; cases n <;> rfl
 ·rename_i b; cases b <;> rfl
def E.put (e : E) (dst : Option Nat) (d : D) : Option E := match dst with
 | none => some e
 | some t => forceD d fun d => match e.tr.set t d with
   | some tr => some ⟨tr, e.bs⟩
   | none => none
theorem E.put_st {e e' : E} {dst : Option Nat} {d : D} (h : e.put dst d = some e') : e'.st = e.st.put dst d := by
 cases dst with
 | none => cases h; rfl
 | some t =>
   simp only [E.put, z0q] at h
   split at h
   ·rename_i tr ht
    cases h
    simp only [E.st, St.put, Tr.get_set _ _ _ _ ht]
   ·cases h
def E.out (e : E) (dst : Option Nat) (o : Out) : Option E := match e.put dst o.d with
 | some e' => some ⟨e'.tr, zar o.down e.bs ++ o.news⟩
 | none => none
theorem E.out_st {e e' : E} {dst : Option Nat} {o : Out} (h : e.out dst o = some e') : e'.st = e.st.out dst o := by
 unfold E.out at h
 split at h
 ·rename_i e1 h1
  cases h
  have := E.put_st h1
  simp only [St.out, ← this]
  rfl
 ·cases h
theorem zux (S : Nat → Bool) : D.sweep S .undef = .undef := rfl

def fitsB (sz : Nat) (ys : List (List D)) : Bool := ys.all fun r => Nat.beq r.length sz && r.all D.isCell
theorem zp4 {sz : Nat} {ys : List (List D)} (h : fitsB sz ys = true) : Fits sz ys := by
 unfold fitsB at h
 rw [List.all_eq_true] at h
 intro r hr
 have := h r hr
 simp only [Bool.and_eq_true, Nat.beq_eq] at this
 exact this

abbrev XC := Nat → List D → List Blk → Option (D × List Blk)
abbrev XG := Nat → List (List D) → Nat → List D → Option (List (List D))

def eAppend (c : Cfg) (e : E) (el : Nat) (base : D) (ys : List (List D)) : Option (D × E) :=
    match base with
    | .nil => if ys.length * (c.T el).bytes ≤ 140737488355328 ∧ ys.length ≤ 9223372036854775807 then
       some (.ref e.bs.length 0 ys.length, ⟨e.tr, e.bs ++ [⟨ys, (c.T el).size, .mut⟩]⟩) else none
    | .ref b off len => match e.bs[b]? with
      | some k =>
        if k.esz = (c.T el).size ∧ k.kind.isBox = false ∧ (len + ys.length) * (c.T el).bytes ≤ 140737488355328 ∧ len + ys.length ≤ 9223372036854775807 then
         (if off + len = k.rows.length ∧ c.n0 ≤ b then
           some (.ref b 0 (len + ys.length), ⟨e.tr.map (D.sweep (· == b)), zbj (e.bs.map (Blk.sweep (· == b))) b (k.rows.drop off ++ ys)⟩)
         else if off + len + ys.length ≤ k.rows.length ∧ k.kind = .mut then
          some (.ref b off (len + ys.length), ⟨e.tr, zbj e.bs b (k.rows.take (off + len) ++ ys ++ k.rows.drop (off + len + ys.length))⟩)
         else if k.rows.length < off + len + ys.length ∧ off + len ≤ k.rows.length ∧ c.full.contains b = true ∧ 0 < k.esz then
          some (.ref e.bs.length 0 (len + ys.length), ⟨e.tr, e.bs ++ [⟨(k.rows.drop off).take len ++ ys, (c.T el).size, .mut⟩]⟩)
         else none)
        else none
      | none => none
    | _ => none
theorem z97 {c : Cfg} {e : E} {el : Nat} {base : D} {ys : List (List D)} {r : D} {e' : E} (h : eAppend c e el base ys = some (r, e')) : zjn c e.st el base ys = some (r, e'.st) := by
 have hm : ∀ b, (fun t => (e.tr.map (D.sweep (· == b))).get t) = zjl (· == b) e.tr.get := fun b => by
  funext t
  rw [Tr.get_map (zux _)]
  rfl
 unfold eAppend at h
 unfold zjn
 cases base <;> simp only at h ⊢ <;> try cases h
 ·split at h
  ·rename_i h1; cases h; rw [if_pos h1]; rfl
  ·cases h
 ·simp only [E.st]
  split at h
  ·rename_i k hk
   rw [hk]
   simp only
   split at h
   ·rename_i h1
    rw [if_pos h1]
    split at h
    ·rename_i h2
     rw [if_pos h2]
     cases h
     simp only [E.st, ← hm]
    ·rename_i h2
     rw [if_neg h2]
     split at h
     ·rename_i h3; rw [if_pos h3]; cases h; rfl
     ·rename_i h3
      rw [if_neg h3]
      split at h
      ·rename_i h4; rw [if_pos h4]; cases h; rfl
      ·cases h
   ·cases h
  ·cases h

def eCall (c : Cfg) (X : XC) (dst : Option Nat) (f : D) (args : List D) (e : E) : Option E :=
 match f with
 | .fn f first caps => match X f ((first ++ args ++ caps).map (D.freeze e.bs)) [] with
   | some (r, nbs) =>
     cond ((nbs.all fun b => !b.kind.isBox) && ((zh4 (ownT c dst) e.bs.length r nbs (reach e.bs (idsL (first ++ args ++ caps)))).down.all fun b => decide (b < e.bs.length)))
      (e.out dst (zh4 (ownT c dst) e.bs.length r nbs (reach e.bs (idsL (first ++ args ++ caps))))) none
   | none => none
 | _ => none
def eLend (X : XC) (dst : Option Nat) (f : D) (args : List D) (e : E) : Option E :=
 match f with
 | .fn f first caps => match X f (first ++ args ++ caps) e.bs with
   | some (r, bs') => E.put ⟨e.tr, bs'⟩ dst r
   | none => none
 | _ => none
def eGive (c : Cfg) (G : XG) (dst : Option Nat) (f : D) (args : List D) (e : E) : Option E :=
 match f, args with
 | .fn f [] [], .ref b 0 len :: rest => match e.bs[b]? with
   | some k => if c.n0 ≤ b ∧ k.kind = .mut ∧ k.rows.length = len ∧ (reach e.bs (idsL rest)).contains b = false then
      (match G f k.rows k.esz (rest.map (D.freeze e.bs)) with
      | some R => E.put ⟨e.tr.map (D.sweep (· == b)), zbj ((zar (reach e.bs (idsL rest)) e.bs).map (Blk.sweep (· == b))) b R⟩ dst (.ref b 0 R.length)
      | none => none) else none
   | none => none
 | _, _ => none
def eBar (c : Cfg) (X : XC) (G : XG) (dst : Option Nat) (f : Operand) (args : Array Operand) (e : E) : Option E :=
 cond (isOvl c f) (cond (ztj e.bs (args.toList.map e.ev)) (e.put dst (.bool false)) none)
  (cond (isGive c args) (eGive c G dst (e.ev f) (args.toList.map e.ev) e) (eLend X dst (e.ev f) (args.toList.map e.ev) e))
def eOver (e : E) (dst : Option Nat) (d : D) (x : Option St) : Option E := match x with
 | some st => E.put ⟨e.tr, st.bs⟩ dst d
 | none => none

def eOther (c : Cfg) (X : XC) (G : XG) (o : SO) (e : E) : Option E :=
 match o.op with
 | .call ⟨.value f, args, _⟩ => cond (isLend c f args) (eBar c X G o.dst f args e) (eCall c X o.dst (e.ev f) (args.toList.map e.ev) e)
 | .call ⟨.builtin .append, args, tys⟩ => match tys.toList, args.toList with
   | [t0, t1], [s, x] => match (c.T t0).d with
     | .slice el => match ziu c.T e.bs el (c.T t1).d (e.ev x) with
       | some ys => cond (fitsB (c.T el).size ys) (match eAppend c e el (e.ev s) ys with
         | some (r, e') => e'.put o.dst r
         | none => none) none
       | none => none
     | _ => none
   | _, _ => none
 | .call ⟨.builtin .copy, args, tys⟩ => match tys.toList, args.toList with
   | [t0, _], [s, x] => match (c.T t0).d, e.ev s with
     | .slice el, .ref b off len => match zkj e.bs (e.ev x) with
       | some ys => cond (ys.all fun r => Nat.beq r.length (c.T el).size) (cond (fitsB (c.T el).size (ys.take len))
          (eOver e o.dst (.int .i64 ((ys.take len).length : Int)) (zo7 e.st (.ref b off len) (c.T el).size (ys.take len))) none) none
       | none => none
     | _, _ => none
   | _, _ => none
 | .call ⟨.builtin .clear, args, tys⟩ => match tys.toList, args.toList with
   | [t0], [s] => match (c.T t0).d, e.ev s with
     | .slice el, .ref b off len => cond (fitsB (c.T el).size (zas len (c.T el).zero))
        (eOver e o.dst (.tup []) (zo7 e.st (.ref b off len) (c.T el).size (zas len (c.T el).zero))) none
     | _, _ => none
   | _, _ => none
 | .call _ => none
 | .store t a x => match zrq c.T e.st t (e.ev a) (e.ev x) with
   | some st => E.put ⟨e.tr, st.bs⟩ o.dst (.tup [])
   | none => none
 | op => match opFn c.T c.eqs e.bs.length e.bs e.ev o.ty op with
   | some out => cond (out.down.all fun b => decide (b < e.bs.length)) (e.out o.dst out) none
   | none => none
def eOp (c : Cfg) (X : XC) (G : XG) (o : SO) (e : E) : Option E :=
 match pureD c e.bs e.ev o.op with
 | some x => e.put o.dst x
 | none => eOther c X G o e

theorem z65 {st st' : St} {d : D} {sz : Nat} {ys : List (List D)} (h : zo7 st d sz ys = some st') : st'.fr = st.fr := by
 unfold zo7 at h
 split at h
 ·split at h
  ·split at h
   ·cases h; rfl
   ·cases h
  ·cases h
 ·cases h
theorem z99 {T : Tab} {st st' : St} {t : Nat} {a x : D} (h : zrq T st t a x = some st') : st'.fr = st.fr := by
 unfold zrq at h
 split at h
 ·split at h
  ·split at h
   ·split at h
    ·split at h
     ·cases h; rfl
     ·split at h
      ·cases h
      ·cases h; rfl
     ·cases h
    ·cases h
   ·cases h
  ·cases h
 ·cases h
theorem z6u {e e' : E} {dst : Option Nat} {d : D} {x : Option St} (hx : ∀ st, x = some st → st.fr = e.st.fr) (h : eOver e dst d x = some e') {K : St → Prop} (hK : K e'.st) : overK dst d x K := by
 unfold eOver at h
 split at h
 ·rename_i st
  have h1 := E.put_st h
  have h2 := hx st rfl
  show K (st.put dst d)
  have : E.st ⟨e.tr, st.bs⟩ = st := by
   obtain ⟨fr, bs⟩ := st
   simp only [E.st] at h2 ⊢
   rw [h2]
  rw [← this, ← h1]
  exact hK
 ·cases h

theorem z2g {c : Cfg} {X : XC} {G : XG} (hX : ∀ f args bs r bs', X f args bs = some (r, bs') → c.C f args bs r bs') (hG : ∀ f rows esz rest R, G f rows esz rest = some R → zgz c.G f rows esz rest R)
 {o : SO} {e e' : E} (h : eOther c X G o e = some e') {K : St → Prop} (hK : K e'.st) : zgh c o.oper e.st K := by
 have hs : e.st.bs = e.bs := rfl
 unfold eOther at h
 unfold zgh
 obtain ⟨dst, op, ty, g⟩ := o
 simp only [SO.oper] at h ⊢
 rw [E.ev_st]
 split at h
 ·rename_i f args tys
  simp only
  cases hl : isLend c f args with
  | false =>
    rw [hl, cond_false] at h
    rw [if_neg (by simp)]
    unfold eCall at h
    unfold callV
    split at h
    ·rename_i fid first caps hf
     rw [hf]
     simp only
     split at h
     ·rename_i r nbs hr
      simp only [Bool.cond_eq_ite] at h
      split at h
      ·rename_i hc
       simp only [Bool.and_eq_true] at hc
       exact ⟨r, nbs, hX _ _ _ _ _ hr, hc.1, hc.2, by rw [hs, ← E.out_st h]; exact hK⟩
      ·cases h
     ·cases h
    ·cases h
  | true =>
    rw [hl, cond_true] at h
    rw [if_pos rfl]
    unfold eBar at h
    unfold barV
    rw [E.ev_st]
    cases ho : isOvl c f with
    | true =>
      rw [ho, cond_true] at h
      rw [if_pos rfl]
      simp only [Bool.cond_eq_ite] at h
      split at h
      ·rename_i ha; exact ⟨ha, by rw [← E.put_st h]; exact hK⟩
      ·cases h
    | false =>
      rw [ho, cond_false] at h
      rw [if_neg (by simp)]
      cases hg : isGive c args with
      | true =>
        rw [hg, cond_true] at h
        rw [if_pos rfl]
        unfold eGive at h
        unfold zmb
        split at h
        ·rename_i fid b len rest hf ha
         rw [hf, ha]
         simp only
         split at h
         ·rename_i k hk
          split at h
          ·rename_i hc
           split at h
           ·rename_i R hR
            refine ⟨k, R, hk, hc.1, hc.2.1, hc.2.2.1, hc.2.2.2, hG _ _ _ _ _ hR, ?_⟩
            have h1 := E.put_st h
            have h2 : E.st ⟨e.tr.map (D.sweep (· == b)), zbj ((zar (reach e.bs (idsL rest)) e.bs).map (Blk.sweep (· == b))) b R⟩ =
             ⟨zjl (· == b) e.st.fr, zbj ((zar (reach e.st.bs (idsL rest)) e.st.bs).map (Blk.sweep (· == b))) b R⟩ := by
             simp only [E.st]
             congr 1
             funext t
             rw [Tr.get_map (zux _)]
             rfl
            rw [← h2, ← h1]
            exact hK
           ·cases h
          ·cases h
         ·cases h
        ·cases h
      | false =>
        rw [hg, cond_false] at h
        rw [if_neg (by simp)]
        unfold eLend at h
        unfold zir
        split at h
        ·rename_i fid first caps hf
         rw [hf]
         simp only
         split at h
         ·rename_i r bs' hr
          refine ⟨r, bs', hX _ _ _ _ _ hr, ?_⟩
          have h1 := E.put_st h
          show K (St.put (E.st ⟨e.tr, bs'⟩) dst r)
          rw [← h1]
          exact hK
         ·cases h
        ·cases h
 ·rename_i args tys
  simp only
  split at h
  ·rename_i t0 t1 s x h1 h2
   rw [h1, h2]
   simp only [appT]
   split at h
   ·rename_i el h3
    rw [h3]
    simp only [appK, hs]
    split at h
    ·rename_i ys hys
     rw [hys]
     simp only [Bool.cond_eq_ite] at h
     split at h
     ·rename_i hf
      split at h
      ·rename_i r e1 hr
       refine ⟨zp4 hf, ?_⟩
       rw [z97 hr]
       show K (e1.st.put dst r)
       rw [← E.put_st h]
       exact hK
      ·cases h
     ·cases h
    ·cases h
   ·cases h
  ·cases h
 ·rename_i args tys
  simp only
  split at h
  ·rename_i t0 t1 s x h1 h2
   rw [h1, h2]
   simp only [copyT]
   split at h
   ·rename_i el b off len h3 h4
    rw [h3, h4]
    simp only [copyK, hs]
    split at h
    ·rename_i ys hys
     rw [hys]
     simp only [Bool.cond_eq_ite] at h
     split at h
     ·rename_i hf
      split at h
      ·rename_i hf2
       refine ⟨fun r hr => ?_, zp4 hf2, z6u (fun st hst => z65 hst) h hK⟩
       rw [List.all_eq_true] at hf
       exact Nat.eq_of_beq_eq_true (hf r hr)
      ·cases h
     ·cases h
    ·cases h
   ·cases h
  ·cases h
 ·rename_i args tys
  simp only
  split at h
  ·rename_i t0 s h1 h2
   rw [h1, h2]
   simp only [clearT]
   split at h
   ·rename_i el b off len h3 h4
    rw [h3, h4]
    simp only [Bool.cond_eq_ite] at h ⊢
    split at h
    ·rename_i hf
     exact ⟨zp4 hf, z6u (fun st hst => z65 hst) h hK⟩
    ·cases h
   ·cases h
  ·cases h
 ·cases h
 ·rename_i t a x
  split at h
  ·rename_i st hst
   have h2 := z99 hst
   simp only [hst]
   show K (st.put dst (.tup []))
   have : E.st ⟨e.tr, st.bs⟩ = st := by
    obtain ⟨fr, bs⟩ := st
    simp only [E.st] at h2 ⊢
    rw [h2]
   rw [← this, ← E.put_st h]
   exact hK
  ·cases h
 ·rename_i g1 g2 g3 g4 g5 g6
  split at h
  ·rename_i out hout
   simp only [Bool.cond_eq_ite] at h
   split at h
   ·rename_i hd
    have : outK e.st dst (opFn c.T c.eqs e.st.bs.length e.st.bs e.ev ty op) K := by
     rw [hs, hout]
     exact ⟨hd, by rw [← E.out_st h]; exact hK⟩
    cases op <;> first | exact this | exact absurd rfl (g5 _) | exact absurd rfl (g6 _ _ _)
   ·cases h
  ·cases h

theorem z0o {c : Cfg} {X : XC} {G : XG} (hX : ∀ f args bs r bs', X f args bs = some (r, bs') → c.C f args bs r bs') (hG : ∀ f rows esz rest R, G f rows esz rest = some R → zgz c.G f rows esz rest R)
 {o : SO} {e e' : E} (h : eOp c X G o e = some e') {K : St → Prop} (hK : K e'.st) : vOp c o.oper e.st K := by
 unfold eOp at h
 unfold vOp
 rw [E.ev_st]
 split at h
 ·rename_i x hx
  have e1 : pureD c e.st.bs e.ev o.oper.op = some x := hx
  rw [e1]
  show K (e.st.put o.dst x)
  rw [← E.put_st h]
  exact hK
 ·rename_i hx
  have e1 : pureD c e.st.bs e.ev o.oper.op = none := hx
  rw [e1]
  exact z2g hX hG h hK

def eOps (c : Cfg) (X : XC) (G : XG) : List SO → E → Option E
 | [], e => some e
 | o :: rest, e => match o.g with
   | none => match eOp c X G o e with
     | some e' => eOps c X G rest e'
     | none => none
   | some (t, want) => match e.tr.get t with
     | .bool b => cond (b == want) (match eOp c X G o e with
       | some e' => eOps c X G rest e'
       | none => none) (match e.put o.dst (.tup []) with
       | some e' => eOps c X G rest e'
       | none => none)
     | .tup [] => match e.put o.dst (.tup []) with
       | some e' => eOps c X G rest e'
       | none => none
     | _ => none

theorem zr2 {c : Cfg} {X : XC} {G : XG} (hX : ∀ f args bs r bs', X f args bs = some (r, bs') → c.C f args bs r bs') (hG : ∀ f rows esz rest R, G f rows esz rest = some R → zgz c.G f rows esz rest R) :
 ∀ (l : List SO) (e e' : E), eOps c X G l e = some e' → ∀ K : St → Prop, K e'.st → sOps c l e.st K := by
 intro l
 induction l with
 | nil => intro e e' h K hK; cases h; exact hK
 | cons o rest ih =>
   intro e e' h K hK
   unfold eOps at h
   unfold sOps
   split at h
   ·rename_i hg
    rw [hg]
    simp only
    split at h
    ·rename_i e1 h1
     exact z0o hX hG h1 (ih _ _ h K hK)
    ·cases h
   ·rename_i t want hg
    rw [hg]
    simp only
    split at h
    ·rename_i b hb
     show match e.tr.get t with | .bool b => _ | .tup [] => _ | _ => False
     rw [hb]
     simp only
     simp only [Bool.cond_eq_ite] at h
     split at h
     ·rename_i hw
      rw [if_pos (eq_of_beq hw)]
      split at h
      ·rename_i e1 h1
       exact z0o hX hG h1 (ih _ _ h K hK)
      ·cases h
     ·rename_i hw
      rw [if_neg (fun he => hw (by rw [he]; simp))]
      split at h
      ·rename_i e1 h1
       rw [← E.put_st h1]
       exact ih _ _ h K hK
      ·cases h
    ·rename_i hb
     show match e.tr.get t with | .bool b => _ | .tup [] => _ | _ => False
     rw [hb]
     simp only
     split at h
     ·rename_i e1 h1
      rw [← E.put_st h1]
      exact ih _ _ h K hK
     ·cases h
    ·cases h

def E.beq (a b : E) : Bool := a.tr.beq b.tr && beqB a.bs b.bs
theorem E.beq_sound {a b : E} (h : a.beq b = true) : a = b := by
 obtain ⟨x, y⟩ := a
 obtain ⟨x', y'⟩ := b
 simp only [E.beq, Bool.and_eq_true] at h
 rw [Tr.beq_sound _ _ h.1, zok _ _ h.2]
def eAlts (c : Cfg) (X : XC) (G : XG) : List (List SO) → E → Option E
 | [], _ => none
 | l :: ls, e => match eOps c X G l e with
   | some e' => cond (ls.all fun l => match eOps c X G l e with
     | some e2 => e2.beq e'
     | none => false) (some e') none
   | none => none
theorem z25 {c : Cfg} {st : St} {K : St → Prop} : ∀ (ls : List (List SO)), (∀ l ∈ ls, sOps c l st K) → sAlts c ls st K
 | [], _ => trivial
 | l :: ls, h => ⟨h l (by simp), z25 ls fun x hx => h x (by simp [hx])⟩
theorem z4l {c : Cfg} {X : XC} {G : XG} (hX : ∀ f args bs r bs', X f args bs = some (r, bs') → c.C f args bs r bs') (hG : ∀ f rows esz rest R, G f rows esz rest = some R → zgz c.G f rows esz rest R)
 {ls : List (List SO)} {e e' : E} (h : eAlts c X G ls e = some e') {K : St → Prop} (hK : K e'.st) : sAlts c ls e.st K := by
 cases ls with
 | nil => cases h
 | cons l ls =>
   simp only [eAlts] at h
   split at h
   ·rename_i e1 h1
    simp only [Bool.cond_eq_ite] at h
    split at h
    ·rename_i ha
     cases h
     rw [List.all_eq_true] at ha
     refine ⟨zr2 hX hG _ _ _ h1 K hK, z25 ls fun x hx => ?_⟩
     have := ha x hx
     split at this
     ·rename_i e2 h2
      have := E.beq_sound this
      subst this
      exact zr2 hX hG _ _ _ h2 K hK
     ·cases this
    ·cases h
   ·cases h

def eLoop (b : E → Option (Ex × E)) : Nat → E → Option (Ex × E)
 | 0, _ => none
 | n + 1, e => match b e with
   | some (.normal, e') => eLoop b n e'
   | r => r
def zo5 (c : Cfg) (X : XC) (G : XG) (lf : Nat) : SC → E → Option (Ex × E)
 | .skip, e => some (.normal, e)
 | .ops l, e => match eOps c X G l e with
   | some e' => some (.normal, e')
   | none => none
 | .alts ls, e => match eAlts c X G ls e with
   | some e' => some (.normal, e')
   | none => none
 | .seq a b, e => match zo5 c X G lf a e with
   | some (.normal, e') => zo5 c X G lf b e'
   | r => r
 | .cond t a b, e => match e.ev t with
   | .bool v => cond v (zo5 c X G lf a e) (zo5 c X G lf b e)
   | _ => none
 | .block id a, e => match zo5 c X G lf a e with
   | some (.exit i, e') => cond (Nat.beq i id) (some (.normal, e')) (some (.exit i, e'))
   | r => r
 | .loop a, e => eLoop (fun e => zo5 c X G lf a e) lf e
 | .exit id, e => some (.exit id, e)
 | .ret, e => some (.ret, e)

theorem zu5 {c : Cfg} {X : XC} {G : XG} (hX : ∀ f args bs r bs', X f args bs = some (r, bs') → c.C f args bs r bs') (hG : ∀ f rows esz rest R, G f rows esz rest = some R → zgz c.G f rows esz rest R) (lf : Nat) :
 ∀ (s : SC) (e e' : E) (ex : Ex), zo5 c X G lf s e = some (ex, e') → ∀ Q : Ex → St → Prop, Q ex e'.st → zcl c s e.st Q := by
 intro s
 induction s with
 | skip => intro e e' ex h Q hQ; cases h; exact hQ
 | ops l =>
   intro e e' ex h Q hQ
   unfold zo5 at h
   split at h
   ·rename_i e1 h1; cases h; exact zr2 hX hG _ _ _ h1 _ hQ
   ·cases h
 | alts ls =>
   intro e e' ex h Q hQ
   unfold zo5 at h
   split at h
   ·rename_i e1 h1; cases h; exact z4l hX hG h1 hQ
   ·cases h
 | seq a b iha ihb =>
   intro e e' ex h Q hQ
   unfold zo5 at h
   unfold zcl
   split at h
   ·rename_i e1 h1
    exact iha _ _ _ h1 _ (ihb _ _ _ h Q hQ)
   ·rename_i hne
    refine iha _ _ _ h _ ?_
    cases ex with
    | normal => exact absurd h (hne e')
    | exit i => exact hQ
    | ret => exact hQ
 | cond t a b iha ihb =>
   intro e e' ex h Q hQ
   unfold zo5 at h
   unfold zcl
   rw [E.ev_st]
   split at h
   ·rename_i v hv
    rw [hv]
    cases v with
    | true => exact iha _ _ _ h Q hQ
    | false => exact ihb _ _ _ h Q hQ
   ·cases h
 | block id a ih =>
   intro e e' ex h Q hQ
   unfold zo5 at h
   unfold zcl
   split at h
   ·rename_i i e1 h1
    refine ih _ _ _ h1 _ ?_
    simp only [Bool.cond_eq_ite] at h
    split at h
    ·rename_i hi
     cases h
     simp only [zdk]
     rw [if_pos (Nat.eq_of_beq_eq_true hi)]
     exact hQ
    ·rename_i hi
     cases h
     simp only [zdk]
     rw [if_neg (fun he => hi (by rw [he]; simp))]
     exact hQ
   ·rename_i hne
    refine ih _ _ _ h _ ?_
    cases ex with
    | normal => exact hQ
    | exit i => exact absurd h (hne i e')
    | ret => exact hQ
 | loop a ih =>
   intro e e' ex h Q hQ
   unfold zo5 at h
   unfold zcl
   have key : ∀ (n : Nat) (e : E), eLoop (fun e => zo5 c X G lf a e) n e = some (ex, e') → zeo e.st.bs.length (fun st K => zcl c a st K) Q n e.st ∨ True := fun _ _ _ => .inr trivial
   have main : ∀ (k n : Nat) (e : E), eLoop (fun e => zo5 c X G lf a e) n e = some (ex, e') → zeo k (fun st K => zcl c a st K) Q n e.st := by
    intro k n
    induction n with
    | zero => intro e h; cases h
    | succ n ihn =>
      intro e h
      unfold eLoop at h
      rw [qcd]
      split at h
      ·rename_i e1 h1
       exact ih _ _ _ h1 _ (.inr (.inr (ihn _ h)))
      ·rename_i hne
       refine ih _ _ _ h _ ?_
       cases ex with
       | normal => exact absurd h (hne e')
       | exit i => exact hQ
       | ret => exact hQ
   exact ⟨lf, main _ lf e h⟩
 | exit id => intro e e' ex h Q hQ; cases h; exact hQ
 | ret => intro e e' ex h Q hQ; cases h; exact hQ

def initTr : Nat → List D → Tr → Option Tr
 | _, [], tr => some tr
 | i, d :: ds, tr => match forceD d (fun d => tr.set i d) with
   | some tr' => initTr (i + 1) ds tr'
   | none => none
theorem z8i : ∀ (ds : List D) (i : Nat) (tr tr' : Tr), initTr i ds tr = some tr' → ∀ t, tr'.get t = if i ≤ t ∧ t < i + ds.length then ds.getD (t - i) .undef else tr.get t := by
 intro ds
 induction ds with
 | nil => intro i tr tr' h t; cases h; simp; intro h1 h2; omega
 | cons d ds ih =>
   intro i tr tr' h t
   unfold initTr at h
   rw [z0q] at h
   split at h
   ·rename_i tr1 h1
    rw [ih _ _ _ h t, Tr.get_set _ _ _ _ h1]
    unfold upd
    by_cases h2 : t = i
    ·subst h2
     rw [if_neg (by omega), if_pos rfl, if_pos (by simp)]
     simp
    ·by_cases h3 : i + 1 ≤ t ∧ t < i + 1 + ds.length
     ·rw [if_pos h3, if_pos (by simp only [List.length_cons]; omega)]
      have : t - i = (t - (i + 1)) + 1 := by omega
      rw [this, List.getD_cons_succ]
     ·rw [if_neg h3, if_neg h2, if_neg (by simp only [List.length_cons]; omega)]
   ·cases h

def eEnd (c : Cfg) (F : SF) (e : E) : Option (D × List Blk) := match resL c.T e.st F.res with
 | some ds => zax c.n0 e.st (zpo ds)
 | none => none
def eFun (c : Cfg) (X : XC) (G : XG) (lf : Nat) (F : SF) (args : List D) (bs : List Blk) : Option (D × List Blk) :=
 match initTr 0 args (Tr.mk 9) with
 | some tr => match zo5 c X G lf F.body ⟨tr, bs⟩ with
   | some (.normal, e) => eEnd c F e
   | some (.ret, e) => eEnd c F e
   | _ => none
 | none => none
theorem zx1 {c : Cfg} {F : SF} {e : E} {r : D} {bs' : List Blk} (h : eEnd c F e = some (r, bs')) : ∃ ds, resL c.T e.st F.res = some ds ∧ zax c.n0 e.st (zpo ds) = some (r, bs') := by
 unfold eEnd at h
 split at h
 ·rename_i ds hds; exact ⟨ds, hds, h⟩
 ·cases h
theorem zyg {c : Cfg} {X : XC} {G : XG} (hX : ∀ f args bs r bs', X f args bs = some (r, bs') → c.C f args bs r bs') (hG : ∀ f rows esz rest R, G f rows esz rest = some R → zgz c.G f rows esz rest R) {lf : Nat}
 {F : SF} {args : List D} {bs : List Blk} {r : D} {bs' : List Blk} (h : eFun c X G lf F args bs = some (r, bs')) : sFun c F args bs r bs' := by
 unfold eFun at h
 split at h
 ·rename_i tr htr
  have hst : E.st ⟨tr, bs⟩ = start args bs := by
   simp only [E.st, start]
   congr 1
   funext t
   rw [z8i _ _ _ _ htr t, Tr.get_mk]
   by_cases ht : t < args.length
   ·rw [if_pos (by omega)]; rfl
   ·rw [if_neg (by omega)]
    simp [List.getD, List.getElem?_eq_none (by omega : args.length ≤ t)]
  unfold sFun
  rw [← hst]
  split at h
  ·rename_i e h1
   exact zu5 hX hG lf _ _ _ _ h1 _ (zx1 h)
  ·rename_i e h1
   exact zu5 hX hG lf _ _ _ _ h1 _ (zx1 h)
  ·cases h
 ·cases h

structure FE where
 own : List Nat
 lend : List Nat
 give : List Nat
 ovl : List Nat
 F : SF
def D.empty : D → Bool
 | .nil => true
 | .sl [] 0 => true
 | _ => false
def bothZ (a b : Option (D × List Blk)) : Option (D × List Blk) := match a, b with
 | some (r, n), some (r', n') => cond (D.beq r' r && beqB n' n) (some (r, n)) none
 | _, _ => none
def runZ (X : List D → Option (D × List Blk)) (args : List D) (bs : List Blk) : Option (D × List Blk) := match args, bs with
 | [x], [] => cond x.empty (bothZ (X [.zs true]) (X [.zs false])) none
 | _, _ => none
def run (mk : FE → Nat → Cfg) (tab : Nat → Option FE) (H : XC) (G : XG) (lf : Nat) : Nat → XC
 | 0, _, _, _ => none
 | n + 1, f, args, bs => match H f args bs with
   | some r => some r
   | none => match tab f with
     | some fe => match eFun (mk fe bs.length) (run mk tab H G lf n) G lf fe.F args bs with
       | some r => some r
       | none => runZ (fun args => eFun (mk fe 0) (run mk tab H G lf n) G lf fe.F args []) args bs
     | none => none
theorem qbj {mk : FE → Nat → Cfg} {tab : Nat → Option FE} {H : XC} {G : XG} {lf : Nat} {C : Con} (hC : ∀ fe n, (mk fe n).C = C) (hG : ∀ fe n f rows esz rest R, G f rows esz rest = some R → zgz (mk fe n).G f rows esz rest R)
 (hH : ∀ f args bs r bs', H f args bs = some (r, bs') → C f args bs r bs')
 (hF : ∀ f fe args bs r bs', tab f = some fe → sFun (mk fe bs.length) fe.F args bs r bs' → C f args bs r bs')
 (hZ : ∀ f x r nbs, x.empty = true → C f [.zs true] [] r nbs → C f [.zs false] [] r nbs → C f [x] [] r nbs) :
 ∀ (n f : Nat) (args : List D) (bs : List Blk) (r : D) (bs' : List Blk), run mk tab H G lf n f args bs = some (r, bs') → C f args bs r bs' := by
 intro n
 induction n with
 | zero => intro f args bs r bs' h; cases h
 | succ n ih =>
   intro f args bs r bs' h
   unfold run at h
   split at h
   ·rename_i x hx; cases h; exact hH _ _ _ _ _ hx
   ·split at h
    ·rename_i fe hfe
     split at h
     ·rename_i x hx
      cases h
      exact hF _ _ _ _ _ _ hfe (zyg (fun f args bs r bs' h => by rw [hC]; exact ih f args bs r bs' h) (hG fe bs.length) hx)
     ·unfold runZ at h
      split at h
      ·rename_i x
       simp only [Bool.cond_eq_ite] at h
       split at h
       ·rename_i hx
        unfold bothZ at h
        split at h
        ·rename_i r1 n1 r2 n2 h1 h2
         simp only [Bool.cond_eq_ite] at h
         split at h
         ·rename_i hb
          cases h
          simp only [Bool.and_eq_true] at hb
          have e1 := D.beq_sound _ _ hb.1
          have e2 := zok _ _ hb.2
          subst e1 e2
          have key : ∀ z, eFun (mk fe 0) (run mk tab H G lf n) G lf fe.F [z] [] = some (r2, n2) → C f [z] [] r2 n2 := fun z hz =>
           hF _ _ _ [] _ _ hfe (zyg (fun f args bs r bs' h => by rw [hC]; exact ih f args bs r bs' h) (hG fe 0) hz)
          exact hZ _ _ _ _ hx (key _ h1) (key _ h2)
         ·cases h
        ·cases h
       ·cases h
      ·cases h
    ·cases h

def known : List (Nat × List D × D × List Blk) → XC
 | [], _, _, _ => none
 | (g, us, r, nbs) :: l, f, args, bs => cond (Nat.beq f g && (bs.isEmpty && beqL us args)) (some (r, nbs)) (known l f args bs)
theorem z4t {C : Con} : ∀ (l : List (Nat × List D × D × List Blk)), (∀ x ∈ l, C x.1 x.2.1 [] x.2.2.1 x.2.2.2) → ∀ f args bs r bs', known l f args bs = some (r, bs') → C f args bs r bs' := by
 intro l
 induction l with
 | nil => intro _ f args bs r bs' h; cases h
 | cons x l ih =>
   obtain ⟨g, us, r0, nbs⟩ := x
   intro hl f args bs r bs' h
   unfold known at h
   simp only [Bool.cond_eq_ite] at h
   split at h
   ·rename_i hc
    simp only [Bool.and_eq_true, Nat.beq_eq, List.isEmpty_iff] at hc
    cases h
    have := hl _ (List.mem_cons_self ..)
    rw [hc.1, hc.2.1, ← zff _ _ hc.2.2]
    exact this
   ·exact ih (fun x hx => hl x (List.mem_cons_of_mem _ hx)) _ _ _ _ _ h
def SFof (P : Program) (f : Nat) (l : List Nat) : Option SF := match P.funcs[f]? with
 | some fn => match fn.body with
   | some body => match slim l body with
     | some s => cond (!(fn.name == "runtime.NumGoroutine") && zfo (bare l) fn.ntmps body) (some ⟨fn.ntmps, fn.results.toList, s⟩) none
     | none => none
   | none => none
 | none => none
theorem zxx {P : Program} {f : Nat} {l : List Nat} {F : SF} (h : SFof P f l = some F) (c : Cfg) (hc : c.lendT = l) : isF P c f F := by
 unfold SFof at h
 split at h
 ·rename_i fn hfn
  split at h
  ·rename_i body hb
   split at h
   ·rename_i s hs
    simp only [Bool.cond_eq_ite] at h
    split at h
    ·rename_i hk
     cases h
     simp only [Bool.and_eq_true, Bool.not_eq_true'] at hk
     exact qjg hfn hk.1 hb hc hk.2 rfl rfl hs
    ·cases h
   ·cases h
  ·cases h
 ·cases h
def slimF (P : Program) (f : Nat) (l : List Nat) : SF := match P.funcs[f]? with
 | some fn => match fn.body with
   | some body => match slim l body with
     | some s => ⟨fn.ntmps, fn.results.toList, s⟩
     | none => ⟨0, [], .skip⟩
   | none => ⟨0, [], .skip⟩
 | none => ⟨0, [], .skip⟩
theorem z4p {P : Program} {f : Nat} {l : List Nat} (h : (SFof P f l).isSome = true) (c : Cfg) (hc : c.lendT = l) : isF P c f (slimF P f l) := by
 rw [Option.isSome_iff_exists] at h
 obtain ⟨F, hF⟩ := h
 have h2 := zxx hF c hc
 suffices hs : F = slimF P f l by rw [← hs]; exact h2
 unfold SFof at hF
 unfold slimF
 split at hF
 ·rename_i fn hfn
  try rw [hfn]
  try simp only
  split at hF
  ·rename_i body hb
   try rw [hb]
   try simp only
   split at hF
   ·rename_i s hs
    try simp only [hs]
    simp only [Bool.cond_eq_ite] at hF
    split at hF
    ·cases hF; rfl
    ·cases hF
   ·cases hF
  ·cases hF
 ·cases hF
structure XR where
 f : Nat
 own : List Nat
 lend : List Nat
 give : List Nat
 ovl : List Nat
def findX : List XR → Nat → Option XR
 | [], _ => none
 | x :: l, f => cond (Nat.beq x.f f) (some x) (findX l f)
theorem qbd : ∀ (l : List XR) (f : Nat) (x : XR), findX l f = some x → x ∈ l ∧ x.f = f := by
 intro l
 induction l with
 | nil => intro f x h; cases h
 | cons y l ih =>
   intro f x h
   unfold findX at h
   simp only [Bool.cond_eq_ite] at h
   split at h
   ·rename_i hf; cases h; exact ⟨List.mem_cons_self .., Nat.eq_of_beq_eq_true hf⟩
   ·obtain ⟨h1, h2⟩ := ih f x h; exact ⟨List.mem_cons_of_mem _ h1, h2⟩
def tabX (P : Program) (l : List XR) (f : Nat) : Option FE := match findX l f with
 | some x => some ⟨x.own, x.lend, x.give, x.ovl, slimF P x.f x.lend⟩
 | none => none
def knownG : List (Nat × List (List D) × Nat × List D × List (List D)) → XG
 | [], _, _, _, _ => none
 | (g, rs, e, us, R) :: l, f, rows, esz, rest => cond (Nat.beq f g && (Nat.beq esz e && (beqLL rs rows && beqL us rest))) (some R) (knownG l f rows esz rest)
theorem z0u {G : Con} : ∀ (l : List (Nat × List (List D) × Nat × List D × List (List D))), (∀ x ∈ l, zgz G x.1 x.2.1 x.2.2.1 x.2.2.2.1 x.2.2.2.2) → ∀ f rows esz rest R, knownG l f rows esz rest = some R → zgz G f rows esz rest R := by
 intro l
 induction l with
 | nil => intro _ f rows esz rest R h; cases h
 | cons x l ih =>
   obtain ⟨g, rs, e, us, R0⟩ := x
   intro hl f rows esz rest R h
   unfold knownG at h
   simp only [Bool.cond_eq_ite] at h
   split at h
   ·rename_i hc
    simp only [Bool.and_eq_true, Nat.beq_eq] at hc
    cases h
    have := hl _ (List.mem_cons_self ..)
    rw [hc.1, hc.2.1, ← zln _ _ hc.2.2.1, ← zff _ _ hc.2.2.2]
    exact this
   ·exact ih (fun x hx => hl x (List.mem_cons_of_mem _ hx)) _ _ _ _ _ h
def chkX (X : XC) (l : List (Nat × List D × D × List Blk)) : Bool := l.all fun x => match X x.1 x.2.1 [] with
 | some (r, nbs) => D.beq r x.2.2.1 && beqB nbs x.2.2.2
 | none => false
theorem z72 {X : XC} {C : Con} {l : List (Nat × List D × D × List Blk)} (h : chkX X l = true) (hX : ∀ f args r nbs, X f args [] = some (r, nbs) → C f args [] r nbs) : ∀ x ∈ l, C x.1 x.2.1 [] x.2.2.1 x.2.2.2 := by
 intro x hx
 unfold chkX at h
 rw [List.all_eq_true] at h
 have := h x hx
 split at this
 ·rename_i r nbs hr
  simp only [Bool.and_eq_true] at this
  rw [← D.beq_sound _ _ this.1, ← zok _ _ this.2]
  exact hX _ _ _ _ hr
 ·cases this
end Go.AM
