/- What the proof of this claim stands on, part 1. -/
import Derived.Below
import Derived.Test.YtehagcggdepajaaGreatAmZ0
set_option linter.unusedVariables false
set_option linter.unusedSimpArgs false
set_option maxRecDepth 8000
set_option maxHeartbeats 0
/- AM: what its data say of a world; the contract of a call; how a datum is carried from world to world. -/
namespace Go.AM
open Go.RowKit (Below)

abbrev Foot := Nat → Nat → Prop

inductive RepI (w : World) (M : Foot) : Value → D → Prop
 | undef (v : Value) : RepI w M v .undef
 | int (k : IntKind) (n : Int) : RepI w M (.int k n) (.int k n)
 | bool (b : Bool) : RepI w M (.bool b) (.bool b)
 | nil (a : Option Addr) : RepI w M (.slice a 0 0) .nil
 | zs (a : Option Addr) (cap : Nat) : RepI w M (.slice a 0 cap) (.zs a.isNone)
 | sl (a : Option Addr) (len cap : Nat) (rows : List (List D)) (esz g off : Nat) (vals : Nat → Nat → Value)
    (h1 : len ≤ rows.length) (h2 : rows.length ≤ cap) (hr : ∀ r ∈ rows, r.length = esz) (ha : rows ≠ [] → a = some ⟨g, off, none⟩)
    (hc : ∀ i j, i < rows.length → j < esz → ¬ M g (off + i * esz + j) ∧ w.cell? ⟨g, off + i * esz + j, none⟩ = some (vals i j))
    (hv : ∀ i j r d, rows[i]? = some r → r[j]? = some d → RepI w M (vals i j) d) : RepI w M (.slice a len cap) (.sl rows len)
 | mem (g off : Nat) (cs : List D) (vals : Nat → Value)
    (hc : ∀ j, j < cs.length → ¬ M g (off + j) ∧ w.cell? ⟨g, off + j, none⟩ = some (vals j))
    (hv : ∀ j d, cs[j]? = some d → RepI w M (vals j) d) : RepI w M (.pointer (some ⟨g, off, none⟩)) (.mem cs)

inductive Loc where
 | absent | virt | at_ (g base n rl esz : Nat)

inductive Rep (w : World) (M : Foot) (ρ : Nat → Loc) : Value → D → Prop
 | imm (v : Value) (d : D) (h : RepI w M v d) : Rep w M ρ v d
 | ref (b off len cap g base n rl esz : Nat) (hρ : ρ b = .at_ g base n rl esz) (h1 : off + len ≤ rl) (h2 : rl ≤ off + cap) (h3 : base + (off + cap) * esz ≤ n) :
    Rep w M ρ (.slice (some ⟨g, base + off * esz, none⟩) len cap) (.ref b off len)
 | refV (b : Nat) (a : Option Addr) (hρ : ρ b = .virt) : Rep w M ρ (.slice a 0 0) (.ref b 0 0)
 | ptr (b i j g base n rl esz : Nat) (hρ : ρ b = .at_ g base n rl esz) : Rep w M ρ (.pointer (some ⟨g, base + i * esz + j, none⟩)) (.ptr b i j)
 | agg (vs : Array Value) (cs : List D) (hs : vs.size = cs.length) (h : ∀ (i : Nat) (v : Value) (d : D), vs[i]? = some v → cs[i]? = some d → Rep w M ρ v d) : Rep w M ρ (.agg vs) (.agg cs)
 | tup (vs : Array Value) (cs : List D) (hs : vs.size = cs.length) (h : ∀ (i : Nat) (v : Value) (d : D), vs[i]? = some v → cs[i]? = some d → Rep w M ρ v d) : Rep w M ρ (.tuple vs) (.tup cs)
 | fn (f : Nat) (va vc : Array Value) (a c : List D) (ha : va.size = a.length) (hc : vc.size = c.length)
    (h1 : ∀ (i : Nat) (v : Value) (d : D), va[i]? = some v → a[i]? = some d → Rep w M ρ v d)
    (h2 : ∀ (i : Nat) (v : Value) (d : D), vc[i]? = some v → c[i]? = some d → Rep w M ρ v d) : Rep w M ρ (.func (.func f) va vc) (.fn f a c)

def Pres (w : World) (M : Foot) (w' : World) (M' : Foot) : Prop :=
 ∀ g o v, ¬ M g o → w.cell? ⟨g, o, none⟩ = some v → ¬ M' g o ∧ w'.cell? ⟨g, o, none⟩ = some v

theorem Pres.refl (w : World) (M : Foot) : Pres w M w M := fun _ _ _ h1 h2 => ⟨h1, h2⟩
theorem Pres.trans {w w1 w2 : World} {M M1 M2 : Foot} (h : Pres w M w1 M1) (h' : Pres w1 M1 w2 M2) : Pres w M w2 M2 :=
 fun g o v h1 h2 => let ⟨a, b⟩ := h g o v h1 h2; h' g o v a b

theorem RepI.move {w w' : World} {M M' : Foot} {v : Value} {d : D} (hp : Pres w M w' M') (h : RepI w M v d) : RepI w' M' v d := by
 induction h with
 | undef v => exact .undef v
 | int k n => exact .int k n
 | bool b => exact .bool b
 | nil a => exact .nil a
 | zs a cap => exact .zs a cap
 | sl a len cap rows esz g off vals h1 h2 hr ha hc _ ih =>
   exact .sl a len cap rows esz g off vals h1 h2 hr ha (fun i j hi hj => hp _ _ _ (hc i j hi hj).1 (hc i j hi hj).2) ih
 | mem g off cs vals hc _ ih => exact .mem g off cs vals (fun j hj => hp _ _ _ (hc j hj).1 (hc j hj).2) ih

theorem zlp (fr fp : Nat → Nat → Nat → D) : ∀ l : List D, zoc fr fp l = l.map (D.mapR fr fp)
 | [] => rfl
 | d :: ds => by simp [zoc, zlp fr fp ds]

theorem RepI.mapR {w : World} {M : Foot} {v : Value} {d : D} (fr fp : Nat → Nat → Nat → D) (h : RepI w M v d) : d.mapR fr fp = d := by
 cases h <;> rfl

theorem Rep.carry {w w' : World} {M M' : Foot} {ρ ρ' : Nat → Loc} {fr fp : Nat → Nat → Nat → D} (hp : Pres w M w' M')
 (hr : ∀ v b o l, Rep w M ρ v (.ref b o l) → Rep w' M' ρ' v (fr b o l)) (hq : ∀ v b i j, Rep w M ρ v (.ptr b i j) → Rep w' M' ρ' v (fp b i j))
 {v : Value} {d : D} (h : Rep w M ρ v d) : Rep w' M' ρ' v (d.mapR fr fp) := by
 have lift : ∀ (vs : Array Value) (cs : List D), (∀ (i : Nat) (v : Value) (d : D), vs[i]? = some v → cs[i]? = some d → Rep w' M' ρ' v (d.mapR fr fp)) →
  ∀ (i : Nat) (v : Value) (d : D), vs[i]? = some v → (cs.map (D.mapR fr fp))[i]? = some d → Rep w' M' ρ' v d := by
  intro vs cs h i v d hv hd
  rw [List.getElem?_map] at hd
  cases hc : cs[i]? with
  | none => simp [hc] at hd
  | some d0 => simp [hc] at hd; subst hd; exact h i v d0 hv hc
 induction h with
 | imm v d h => rw [h.mapR]; exact .imm _ _ (h.move hp)
 | ref b off len cap g base n rl esz hρ h1 h2 h3 => exact hr _ _ _ _ (.ref b off len cap g base n rl esz hρ h1 h2 h3)
 | refV b a hρ => exact hr _ _ _ _ (.refV b a hρ)
 | ptr b i j g base n rl esz hρ => exact hq _ _ _ _ (.ptr b i j g base n rl esz hρ)
 | agg vs cs hs _ ih => simp only [D.mapR, zlp]; exact .agg vs _ (by simpa using hs) (lift _ _ ih)
 | tup vs cs hs _ ih => simp only [D.mapR, zlp]; exact .tup vs _ (by simpa using hs) (lift _ _ ih)
 | fn f va vc a c ha hc _ _ ih1 ih2 => simp only [D.mapR, zlp]; exact .fn f va vc _ _ (by simpa using ha) (by simpa using hc) (lift _ _ ih1) (lift _ _ ih2)

mutual
theorem D.mapR_id : ∀ d : D, d.mapR D.ref D.ptr = d
 | .ref _ _ _ => rfl
 | .ptr _ _ _ => rfl
 | .agg cs => by simp only [D.mapR, zq4 cs]
 | .tup cs => by simp only [D.mapR, zq4 cs]
 | .fn _ a c => by simp only [D.mapR, zq4 a, zq4 c]
 | .undef => rfl
 | .int _ _ => rfl
 | .bool _ => rfl
 | .nil => rfl
 | .zs _ => rfl
 | .sl _ _ => rfl
 | .mem _ => rfl
theorem zq4 : ∀ l : List D, zoc D.ref D.ptr l = l
 | [] => rfl
 | d :: ds => by simp only [zoc, D.mapR_id d, zq4 ds]
end

theorem Rep.move {w w' : World} {M M' : Foot} {ρ ρ' : Nat → Loc} (hp : Pres w M w' M') (hρ : ∀ b, ρ b ≠ .absent → ρ' b = ρ b) {v : Value} {d : D} (h : Rep w M ρ v d) : Rep w' M' ρ' v d := by
 rw [← D.mapR_id d]
 refine h.carry hp ?_ ?_
 ·intro v b o l h
  cases h with
  | imm _ _ h => cases h
  | ref _ _ _ cap g base n rl esz h h1 h2 h3 => exact .ref _ _ _ cap g base n rl esz ((hρ b (by simp [h])).trans h) h1 h2 h3
  | refV _ _ h => exact .refV _ _ ((hρ b (by simp [h])).trans h)
 ·intro v b o l h
  cases h with
  | imm _ _ h => cases h
  | ptr _ _ _ g base n rl esz h => exact .ptr _ _ _ g base n rl esz ((hρ b (by simp [h])).trans h)

theorem Rep.sweep {w w' : World} {M M' : Foot} {ρ ρ' : Nat → Loc} {S : Nat → Bool} (hp : Pres w M w' M') (hρ : ∀ b, S b = false → ρ b ≠ .absent → ρ' b = ρ b) {v : Value} {d : D} (h : Rep w M ρ v d) : Rep w' M' ρ' v (d.sweep S) := by
 refine h.carry hp ?_ ?_
 ·intro v b o l h
  unfold zoz
  split
  ·exact .imm _ _ (.undef _)
  ·rename_i hs
   have hs : S b = false := by simpa using hs
   cases h with
   | imm _ _ h => cases h
   | ref _ _ _ cap g base n rl esz h h1 h2 h3 => exact .ref _ _ _ cap g base n rl esz ((hρ b hs (by simp [h])).trans h) h1 h2 h3
   | refV _ _ h => exact .refV _ _ ((hρ b hs (by simp [h])).trans h)
 ·intro v b o l h
  unfold zoy
  split
  ·exact .imm _ _ (.undef _)
  ·rename_i hs
   have hs : S b = false := by simpa using hs
   cases h with
   | imm _ _ h => cases h
   | ptr _ _ _ g base n rl esz h => exact .ptr _ _ _ g base n rl esz ((hρ b hs (by simp [h])).trans h)

section inv
variable {w : World} {M : Foot} {ρ : Nat → Loc} {v : Value}
theorem Rep.int_inv {k : IntKind} {n : Int} (h : Rep w M ρ v (.int k n)) : v = .int k n := by cases h with | imm _ _ h => cases h; rfl
theorem Rep.bool_inv {b : Bool} (h : Rep w M ρ v (.bool b)) : v = .bool b := by cases h with | imm _ _ h => cases h; rfl
theorem Rep.nil_inv (h : Rep w M ρ v .nil) : ∃ a, v = .slice a 0 0 := by cases h with | imm _ _ h => cases h; exact ⟨_, rfl⟩
theorem Rep.zs_inv {b : Bool} (h : Rep w M ρ v (.zs b)) : ∃ a cap, v = .slice a 0 cap ∧ b = a.isNone := by cases h with | imm _ _ h => cases h; exact ⟨_, _, rfl, rfl⟩
theorem Rep.agg_inv {cs : List D} (h : Rep w M ρ v (.agg cs)) : ∃ vs : Array Value, v = .agg vs ∧ vs.size = cs.length ∧ ∀ (i : Nat) (v : Value) (d : D), vs[i]? = some v → cs[i]? = some d → Rep w M ρ v d := by
 cases h with
 | imm _ _ h => cases h
 | agg vs cs hs h => exact ⟨vs, rfl, hs, h⟩
theorem Rep.tup_inv {cs : List D} (h : Rep w M ρ v (.tup cs)) : ∃ vs : Array Value, v = .tuple vs ∧ vs.size = cs.length ∧ ∀ (i : Nat) (v : Value) (d : D), vs[i]? = some v → cs[i]? = some d → Rep w M ρ v d := by
 cases h with
 | imm _ _ h => cases h
 | tup vs cs hs h => exact ⟨vs, rfl, hs, h⟩
theorem Rep.sl_inv {rows : List (List D)} {len : Nat} (h : Rep w M ρ v (.sl rows len)) : RepI w M v (.sl rows len) := by cases h with | imm _ _ h => exact h
theorem Rep.mem_inv {cs : List D} (h : Rep w M ρ v (.mem cs)) : RepI w M v (.mem cs) := by cases h with | imm _ _ h => exact h
theorem Rep.fn_inv {f : Nat} {a c : List D} (h : Rep w M ρ v (.fn f a c)) : ∃ va vc : Array Value, v = .func (.func f) va vc ∧ va.size = a.length ∧ vc.size = c.length ∧
 (∀ (i : Nat) (v : Value) (d : D), va[i]? = some v → a[i]? = some d → Rep w M ρ v d) ∧ (∀ (i : Nat) (v : Value) (d : D), vc[i]? = some v → c[i]? = some d → Rep w M ρ v d) := by
 cases h with
 | imm _ _ h => cases h
 | fn _ va vc _ _ ha hc h1 h2 => exact ⟨va, vc, rfl, ha, hc, h1, h2⟩
theorem Rep.ref_inv {b off len : Nat} (h : Rep w M ρ v (.ref b off len)) :
 (∃ cap g base n rl esz, v = .slice (some ⟨g, base + off * esz, none⟩) len cap ∧ ρ b = .at_ g base n rl esz ∧ off + len ≤ rl ∧ rl ≤ off + cap ∧ base + (off + cap) * esz ≤ n) ∨
 (∃ a, v = .slice a 0 0 ∧ ρ b = .virt ∧ off = 0 ∧ len = 0) := by
 cases h with
 | imm _ _ h => cases h
 | ref _ _ _ cap g base n rl esz h h1 h2 h3 => exact .inl ⟨cap, g, base, n, rl, esz, rfl, h, h1, h2, h3⟩
 | refV _ a h => exact .inr ⟨a, rfl, h, rfl, rfl⟩
theorem Rep.ptr_inv {b i j : Nat} (h : Rep w M ρ v (.ptr b i j)) : ∃ g base n rl esz, v = .pointer (some ⟨g, base + i * esz + j, none⟩) ∧ ρ b = .at_ g base n rl esz := by
 cases h with
 | imm _ _ h => cases h
 | ptr _ _ _ g base n rl esz h => exact ⟨g, base, n, rl, esz, rfl, h⟩
theorem Rep.undef (v : Value) : Rep w M ρ v .undef := .imm _ _ (.undef v)

theorem Rep.cells {d : D} {cs : List D} (h : Rep w M ρ v d) (hc : d.cells? = some cs) :
 v.cells.size = cs.length ∧ ∀ (i : Nat) (u : Value) (e : D), v.cells[i]? = some u → cs[i]? = some e → Rep w M ρ u e := by
 have one : ∀ {v : Value} {d : D}, Rep w M ρ v d → v.cells = #[v] → d.cells? = some [d] → ∀ {cs}, d.cells? = some cs →
  v.cells.size = cs.length ∧ ∀ (i : Nat) (u : Value) (e : D), v.cells[i]? = some u → cs[i]? = some e → Rep w M ρ u e := by
  intro v d h hv hd cs hcs
  rw [hd] at hcs
  cases hcs
  rw [hv]
  refine ⟨rfl, fun i u e hu he => ?_⟩
  cases i with
  | zero => simp at hu he; subst hu; subst he; exact h
  | succ i => simp at he
 cases h with
 | imm _ _ h =>
   cases h with
   | undef => cases hc
   | int k n => exact one (.imm _ _ (.int k n)) rfl rfl hc
   | bool b => exact one (.imm _ _ (.bool b)) rfl rfl hc
   | nil a => exact one (.imm _ _ (.nil a)) rfl rfl hc
   | zs a cap => exact one (.imm _ _ (.zs a cap)) rfl rfl hc
   | sl a len cap rows esz g off vals h1 h2 hr ha h3 hv => exact one (.imm _ _ (.sl a len cap rows esz g off vals h1 h2 hr ha h3 hv)) rfl rfl hc
   | mem g off cs vals h3 hv => exact one (.imm _ _ (.mem g off cs vals h3 hv)) rfl rfl hc
 | ref b off len cap g base n rl esz hρ h1 h2 h3 => exact one (.ref b off len cap g base n rl esz hρ h1 h2 h3) rfl rfl hc
 | refV b a hρ => exact one (.refV b a hρ) rfl rfl hc
 | ptr b i j g base n rl esz hρ => exact one (.ptr b i j g base n rl esz hρ) rfl rfl hc
 | agg vs cs' hs h => cases hc; exact ⟨hs, h⟩
 | tup vs cs' hs h => cases hc
 | fn f va vc a c ha hc' h1 h2 => exact one (.fn f va vc a c ha hc' h1 h2) rfl rfl hc
end inv

def Mof (M0 : Foot) (ρ : Nat → Loc) (bs : List Blk) : Foot := fun g o =>
 M0 g o ∨ ∃ (i : Nat) (b : Blk) (base n rl esz : Nat), bs[i]? = some b ∧ ρ i = .at_ g base n rl esz ∧ (b.kind = .box ∨ b.kind = .mut ∨ base + rl * esz ≤ o)

structure BlkAt (w : World) (M : Foot) (ρ : Nat → Loc) (b : Blk) (g base n rl esz : Nat) : Prop where
 hrl : rl = b.rows.length
 hesz : esz = b.esz
 hrow : ∀ r ∈ b.rows, r.length = esz
 hfit : base + rl * esz ≤ n
 cells : ∃ (arr : Array Value) (T : TypeId), w.heap[g]? = some (.cells arr T (0, 0)) ∧ n ≤ arr.size ∧
  ∀ (k j : Nat) (r : List D) (d : D), b.rows[k]? = some r → r[j]? = some d → ∃ v, arr[base + k * esz + j]? = some v ∧ (if b.kind.isBox then Rep w M ρ v d else RepI w M v d)

structure Store (M0 : Foot) (ρ : Nat → Loc) (bs : List Blk) (w : World) : Prop where
 at_ : ∀ i b g base n rl esz, bs[i]? = some b → ρ i = .at_ g base n rl esz → BlkAt w (Mof M0 ρ bs) ρ b g base n rl esz
 virt : ∀ i b, bs[i]? = some b → ρ i = .virt → b.rows = [] ∧ b.kind.isBox = false
 out : ∀ i, bs.length ≤ i → ρ i = .absent
 inj : ∀ i j g base n rl esz base' n' rl' esz', ρ i = .at_ g base n rl esz → ρ j = .at_ g base' n' rl' esz' → i = j
 m0 : ∀ i g base n rl esz, ρ i = .at_ g base n rl esz → ∀ o, ¬ M0 g o

theorem Store.lt {M0 : Foot} {ρ : Nat → Loc} {bs : List Blk} {w : World} (h : Store M0 ρ bs w) {i g base n rl esz : Nat} (hi : ρ i = .at_ g base n rl esz) : g < w.heap.size := by
 have hlt : i < bs.length := by
  rcases Nat.lt_or_ge i bs.length with h' | h'
  ·exact h'
  ·have := h.out i h'
   rw [this] at hi
   cases hi
 obtain ⟨arr, T, hh, _⟩ := (h.at_ i bs[i] g base n rl esz (by simp [hlt]) hi).cells
 exact (Array.getElem?_eq_some_iff.1 hh).1

structure Around (w : World) (ρ : Nat → Loc) (m : Nat) (w' : World) (ρ' : Nat → Loc) : Prop where
 size : w.heap.size ≤ w'.heap.size
 os : w'.os = w.os
 tape : w'.tape = w.tape
 output : w'.output = w.output
 keep : ∀ g, g < w.heap.size → (∀ i, i < m → ∀ base n rl esz, ρ i ≠ .at_ g base n rl esz) → w'.heap[g]? = w.heap[g]?
 fresh : ∀ i g base n rl esz, m ≤ i → ρ' i = .at_ g base n rl esz → w.heap.size ≤ g

def zj8 (P : Program) (f : Nat) : Prop := ∃ fn, P.funcs[f]? = some fn ∧ (fn.name == "runtime.NumGoroutine") = false ∧ fn.body.isNone = false

def Den (P : Program) (f : Nat) (args : List D) (bs : List Blk) (r : D) (bs' : List Blk) : Prop :=
 zj8 P f ∧ ∀ (w : World) (M0 : Foot) (ρ : Nat → Loc) (vals : Array Value), (∀ g o, M0 g o → g < w.heap.size) → Store M0 ρ bs w → vals.size = args.length →
  (∀ (i : Nat) (v : Value) (d : D), vals[i]? = some v → args[i]? = some d → Rep w (Mof M0 ρ bs) ρ v d) →
  Calls P f vals w fun e w' => ∃ v ρ', e = .returned v ∧ Rep w' (Mof M0 ρ' bs') ρ' v r ∧ Store M0 ρ' bs' w' ∧
   bs.length ≤ bs'.length ∧ (∀ i, i < bs.length → ρ' i = ρ i) ∧ Pres w (Mof M0 ρ bs) w' (Mof M0 ρ' bs') ∧ Around w ρ bs.length w' ρ'

def FullAt (F : List Nat) (ρ : Nat → Loc) : Prop := ∀ b ∈ F, ∀ g base n rl esz, ρ b = .at_ g base n rl esz → n = base + rl * esz

def DenF (P : Program) (F : List Nat) (f : Nat) (args : List D) (bs : List Blk) (r : D) (bs' : List Blk) : Prop :=
 zj8 P f ∧ ∀ (w : World) (M0 : Foot) (ρ : Nat → Loc) (vals : Array Value), FullAt F ρ → (∀ g o, M0 g o → g < w.heap.size) → Store M0 ρ bs w → vals.size = args.length →
  (∀ (i : Nat) (v : Value) (d : D), vals[i]? = some v → args[i]? = some d → Rep w (Mof M0 ρ bs) ρ v d) →
  Calls P f vals w fun e w' => ∃ v ρ', e = .returned v ∧ Rep w' (Mof M0 ρ' bs') ρ' v r ∧ Store M0 ρ' bs' w' ∧
   bs.length ≤ bs'.length ∧ (∀ i, i < bs.length → ρ' i = ρ i) ∧ Pres w (Mof M0 ρ bs) w' (Mof M0 ρ' bs') ∧ Around w ρ bs.length w' ρ'
theorem DenF.den {P : Program} {f : Nat} {args : List D} {bs : List Blk} {r : D} {bs' : List Blk} (h : DenF P [] f args bs r bs') : Den P f args bs r bs' :=
 ⟨h.1, fun w M0 ρ vals => h.2 w M0 ρ vals fun b hb => by cases hb⟩

def zqa (P : Program) (T : Tab) (f : Nat) : Prop := ∃ fn t e, P.funcs[f]? = some fn ∧ (fn.name == "runtime.NumGoroutine") = false ∧ fn.body.isNone = true ∧ Extern.findNext fn = none ∧
 Extern.find fn = some (Extern.SlicesOverlaps.overlaps fn.params fn.resultTypes) ∧ fn.params[0]? = some t ∧ (T t).d = .slice e ∧ 0 < (T e).size

structure Sound (P : Program) (c : Cfg) (ρ0 : Nat → Loc) : Prop where
 ovl : ∀ f ∈ c.ovl, zqa P c.T f
 den : ∀ f args bs r bs', c.C f args bs r bs' → Den P f args bs r bs'
 given : ∀ f args bs r bs', c.G f args bs r bs' → DenF P [0] f args bs r bs'
 full : FullAt c.full ρ0
 lt : ∀ b ∈ c.full, b < c.n0

end Go.AM
