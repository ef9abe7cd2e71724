/- What the proof of this claim stands on, part 2. -/
import Derived.WalkKit
import Derived.Test.YtehagcggdepajaaGreatAmZ1
set_option linter.unusedVariables false
set_option linter.unusedSimpArgs false
set_option maxRecDepth 8000
set_option maxHeartbeats 0
/- AM: each operation that is no zdg does on the machine what it does on data. -/
namespace Go.AM
open Go.RowKit (Below)

def za0 : TypeDesc → TD → Prop
 | .int k, .int k' => k = k'
 | .bool, .bool => True
 | .slice e, .slice e' => e = e'
 | .array n e, .arr n' e' => n = n' ∧ e = e'
 | .struct fields, .struct fs => fields.toList.map (fun f => (f.offset, f.type)) = fs
 | .pointer _, .ptr => True
 | .func _ _ _, .fn => True
 | _, _ => False

def D.flat : D → Bool
 | .agg _ => false
 | .tup _ => false
 | .fn _ _ _ => false
 | .ref _ _ _ => false
 | .ptr _ _ _ => false
 | _ => true

structure TyOk (P : Program) (t : Nat) (ti : TyI) : Prop where
 info : ∃ i z, P.info? t = some i ∧ i.zero = some z ∧ i.size = ti.size ∧ i.bytes = ti.bytes ∧ zmy z.cells.toList = ti.zero ∧ ti.zero.all D.flat = true ∧ ti.zero.length = ti.size
 desc : ∃ d, P.underlying t = some d ∧ za0 d ti.d

def EqOk (P : Program) (T : Tab) (t : Nat) : Prop := P.eqGuardType P.depth t = false ∧
 ∀ (w : World) (M : Foot) (ρ : Nat → Loc) (xs ys : Array Value) (as bs : List D) (z x : Bool), xs.size = as.length → ys.size = bs.length → as.length = (T t).size →
   (∀ (i : Nat) (v : Value) (d : D), xs[i]? = some v → as[i]? = some d → Rep w M ρ v d) → (∀ (i : Nat) (v : Value) (d : D), ys[i]? = some v → bs[i]? = some d → Rep w M ρ v d) →
   zh3 (T t).zero as = some z → zh3 as bs = some x → (Op.equal t (.agg xs) (.agg ys)).run P w = .ok x w

structure TabOk (P : Program) (T : Tab) (eqs : List Nat) : Prop where
 ty : ∀ t, (T t).d.known = true → TyOk P t (T t)
 kids : ∀ t k, k ∈ (T t).d.kids → (T k).d.known = true
 eqs : ∀ t, t ∈ eqs → EqOk P T t

section
variable {P : Program} {T : Tab} {eqs : List Nat} (hT : TabOk P T eqs) {w : World} {M : Foot} {ρ : Nat → Loc}

include hT in
theorem zg8 {t : Nat} (h : (T t).d.known = true) : ∃ d, P.underlying t = some d ∧ za0 d (T t).d := (hT.ty t h).desc

include hT in
theorem zuo {t : Nat} (h : (T t).d.known = true) : (isAgg t).run P w = .ok (T t).d.agg w := by
 obtain ⟨d, hd, ho⟩ := zg8 hT h
 generalize (T t).d = e at ho
 cases d <;> cases e <;> simp [za0] at ho <;> simp [isAgg, run_underlying hd, TD.agg]

include hT in
theorem zb4 {t : Nat} (h : (T t).d.known = true) : (sizeOf t).run P w = .ok (T t).size w := by
 obtain ⟨i, z, hi, hz, hs, _⟩ := (hT.ty t h).info
 simp [sizeOf, typeInfo, hi, hs]

include hT in
theorem zdb {t e : Nat} (h : (T t).d = .slice e) : P.underlying t = some (.slice e) ∧ (T e).d.known = true := by
 obtain ⟨d, hd, ho⟩ := zg8 hT (t := t) (by rw [h]; rfl)
 rw [h] at ho
 cases d <;> simp [za0] at ho
 subst ho
 exact ⟨hd, hT.kids t _ (by rw [h]; exact List.mem_singleton.2 rfl)⟩

include hT in
theorem z4q {t n e : Nat} (h : (T t).d = .arr n e) : P.underlying t = some (.array n e) ∧ (T e).d.known = true := by
 obtain ⟨d, hd, ho⟩ := zg8 hT (t := t) (by rw [h]; rfl)
 rw [h] at ho
 cases d <;> simp [za0] at ho
 obtain ⟨rfl, rfl⟩ := ho
 exact ⟨hd, hT.kids t _ (by rw [h]; exact List.mem_singleton.2 rfl)⟩

include hT in
theorem zr7 {t : Nat} {fs : List (Nat × Nat)} (h : (T t).d = .struct fs) : ∃ fields : Array Field, P.underlying t = some (.struct fields) ∧ fields.toList.map (fun f => (f.offset, f.type)) = fs ∧ ∀ x ∈ fs, (T x.2).d.known = true := by
 obtain ⟨d, hd, ho⟩ := zg8 hT (t := t) (by rw [h]; rfl)
 rw [h] at ho
 cases d <;> simp [za0] at ho
 exact ⟨_, hd, by simpa using ho, fun x hx => hT.kids t _ (by rw [h]; exact List.mem_map.2 ⟨x, hx, rfl⟩)⟩

theorem Addr.add_plain (g o j : Nat) : (⟨g, o, none⟩ : Addr).add j = ⟨g, o + j, none⟩ := by
 unfold Addr.add
 split
 ·rename_i h; subst h; rfl
 ·rfl

include hT in
theorem z6h {t : Nat} {cs : List D} {d : D} {g o : Nat} (hld : ld T t cs = some d)
 (hc : ∀ (j : Nat) (d : D), cs[j]? = some d → ∃ v, w.cell? ⟨g, o + j, none⟩ = some v ∧ Rep w M ρ v d) :
 ∃ v, (loadVar t ⟨g, o, none⟩).run P w = .ok v w ∧ Rep w M ρ v d := by
 unfold ld at hld
 have hk : (T t).d.known = true := by
  revert hld
  cases (T t).d <;> simp [TD.known]
 have ha := zuo hT (w := w) hk
 have hs := zb4 hT (w := w) hk
 have hld' : (if (T t).d.agg then (if (T t).size ≤ cs.length then some (D.agg (cs.take (T t).size)) else none) else cs[0]?) = some d := by
  revert hld
  cases (T t).d <;> simp
 clear hld
 cases hg : (T t).d.agg with
 | true =>
   rw [hg] at hld'
   simp only [if_true] at hld'
   split at hld'
   ·rename_i hle
    cases hld'
    have hl := run_loadCells (P := P) (w := w) ⟨g, o, none⟩ (T t).size (fun j => (w.cell? ⟨g, o + j, none⟩).getD Go.undef) (fun j hj => by
     rw [Addr.add_plain]
     obtain ⟨v, hv, _⟩ := hc j cs[j] (by simp)
     simp [hv])
    refine ⟨_, by simp [loadVar, ha, hg, hs, hl]; rfl, ?_⟩
    refine .agg _ _ (by simp [List.length_take]; omega) ?_
    intro i v d hv hd
    simp only [List.getElem?_take] at hd
    split at hd
    ·obtain ⟨u, hu, hr⟩ := hc i d hd
     have hlt : i < (T t).size := by assumption
     simp [hlt, hu] at hv
     exact hv ▸ hr
    ·cases hd
   ·cases hld'
 | false =>
   rw [hg] at hld'
   simp only [Bool.false_eq_true, if_false] at hld'
   obtain ⟨v, hv, hr⟩ := hc 0 d hld'
   rw [Nat.add_zero] at hv
   exact ⟨v, by simp [loadVar, ha, hg, hv], hr⟩
end

structure Blk.like (b b' : Blk) : Prop where
 rows : b'.rows = b.rows
 esz : b'.esz = b.esz
 box : b'.kind.isBox = b.kind.isBox
 down : b'.kind = b.kind ∨ b'.kind = b.kind.down
def Ext (bsE bs : List Blk) : Prop := ∀ (i : Nat) (k : Blk), bsE[i]? = some k → ∃ k', bs[i]? = some k' ∧ k.like k'
theorem Blk.like.refl (b : Blk) : b.like b := ⟨rfl, rfl, rfl, .inl rfl⟩
theorem Ext.refl (bs : List Blk) : Ext bs bs := fun _ k h => ⟨k, h, .refl k⟩

theorem BlkAt.move {w w' : World} {M M' : Foot} {ρ ρ' : Nat → Loc} {b : Blk} {g base n rl esz : Nat} (h : BlkAt w M ρ b g base n rl esz) (hh : w'.heap[g]? = w.heap[g]?)
 (hp : Pres w M w' M') (hρ : ∀ b, ρ b ≠ .absent → ρ' b = ρ b) : BlkAt w' M' ρ' b g base n rl esz := by
 obtain ⟨h1, h2, h3, h4, arr, T, hg, hs, hc⟩ := h
 refine ⟨h1, h2, h3, h4, arr, T, hh.trans hg, hs, fun k j r d hr hd => ?_⟩
 obtain ⟨v, hv, hrep⟩ := hc k j r d hr hd
 refine ⟨v, hv, ?_⟩
 split
 ·rename_i hb; rw [if_pos hb] at hrep; exact hrep.move hp hρ
 ·rename_i hb; rw [if_neg hb] at hrep; exact hrep.move hp

structure Grow (M0 : Foot) (w : World) (ρ : Nat → Loc) (w' : World) (ρ' : Nat → Loc) (bs : List Blk) (nb n : Nat) : Prop where
 below : Below w.heap.size w w'
 old : ∀ b, ρ b ≠ .absent → ρ' b = ρ b
 new : ∀ b, ρ b = .absent → ρ' b ≠ .absent → nb ≤ b ∧ b < nb + n ∧ ∀ g base n rl esz, ρ' b = .at_ g base n rl esz → w.heap.size ≤ g
 pres : Pres w (Mof M0 ρ bs) w' (Mof M0 ρ' bs)
 store : Store M0 ρ' bs w'

theorem Grow.refl {M0 : Foot} {w : World} {ρ : Nat → Loc} {bs : List Blk} {nb n : Nat} (h : Store M0 ρ bs w) : Grow M0 w ρ w ρ bs nb n :=
 ⟨Below.refl _ _, fun _ _ => rfl, fun _ h1 h2 => absurd h1 h2, Pres.refl _ _, h⟩

def updL (ρ : Nat → Loc) (b : Nat) (l : Loc) : Nat → Loc := fun i => if i = b then l else ρ i
theorem zbb (ρ : Nat → Loc) (b : Nat) (l : Loc) : updL ρ b l b = l := by simp [updL]
theorem zbt (ρ : Nat → Loc) {b i : Nat} (l : Loc) (h : i ≠ b) : updL ρ b l i = ρ i := by simp [updL, h]
theorem z6k {ρ : Nat → Loc} {b : Nat} {l : Loc} (habs : ρ b = .absent) : ∀ i, ρ i ≠ .absent → updL ρ b l i = ρ i := by
 intro i hi
 refine zbt _ _ ?_
 rintro rfl
 exact hi habs

theorem zma {w : World} {g o : Nat} {v : Value} (h : w.cell? ⟨g, o, none⟩ = some v) : g < w.heap.size := World.block_lt_of_cell? w _ h

theorem Store.born {M0 : Foot} {w w' : World} {ρ : Nat → Loc} {bs : List Blk} {nb : Nat} {blk : Blk} {arr : Array Value} {T : TypeId} {base rl esz : Nat} (hS : Store M0 ρ bs w)
 (hm0 : ∀ g o, M0 g o → g < w.heap.size) (hb : bs[nb]? = some blk) (habs : ρ nb = .absent) (hheap : w'.heap = w.heap.push (.cells arr T (0, 0))) (hos : w'.os = w.os)
 (htape : w'.tape = w.tape) (hout : w'.output = w.output) (h1 : rl = blk.rows.length) (h2 : esz = blk.esz) (h3 : ∀ r ∈ blk.rows, r.length = esz) (h4 : base + rl * esz ≤ arr.size)
 (hc : ∀ (k j : Nat) (r : List D) (d : D), blk.rows[k]? = some r → r[j]? = some d → ∃ v, arr[base + k * esz + j]? = some v ∧
   (if blk.kind.isBox then Rep w (Mof M0 ρ bs) ρ v d else RepI w (Mof M0 ρ bs) v d)) :
 Grow M0 w ρ w' (updL ρ nb (.at_ w.heap.size base arr.size rl esz)) bs nb 1 := by
 have hold : ∀ g, g < w.heap.size → w'.heap[g]? = w.heap[g]? := fun g hg => by rw [hheap, Array.getElem?_push, if_neg (by omega)]
 have hbelow : Below w.heap.size w w' := ⟨hos, htape, hout, by rw [hheap]; simp, hold⟩
 have hnew : w'.heap[w.heap.size]? = some (.cells arr T (0, 0)) := by rw [hheap]; simp
 have hρ := z6k (ρ := ρ) (b := nb) (l := .at_ w.heap.size base arr.size rl esz) habs
 have hlt : ∀ i g base n rl esz, ρ i = .at_ g base n rl esz → g < w.heap.size := fun i g base n rl esz h => hS.lt h
 have hM : ∀ g o, Mof M0 (updL ρ nb (.at_ w.heap.size base arr.size rl esz)) bs g o → Mof M0 ρ bs g o ∨ g = w.heap.size := by
  rintro g o (h | ⟨i, b, base', n', rl', esz', hi, hat, hk⟩)
  ·exact .inl (.inl h)
  ·by_cases hin : i = nb
   ·subst hin
    rw [zbb] at hat
    cases hat
    exact .inr rfl
   ·rw [zbt _ _ hin] at hat
    exact .inl (.inr ⟨i, b, base', n', rl', esz', hi, hat, hk⟩)
 have hpres : Pres w (Mof M0 ρ bs) w' (Mof M0 (updL ρ nb (.at_ w.heap.size base arr.size rl esz)) bs) := by
  intro g o v hn hv
  have hg := zma hv
  refine ⟨fun h => ?_, ?_⟩
  ·rcases hM g o h with h | h
   ·exact hn h
   ·omega
  ·rw [World.cell?_of_block (w := w) (hold g hg)]; exact hv
 refine ⟨hbelow, hρ, ?_, hpres, ?_⟩
 ·intro b hb1 hb2
  by_cases hin : b = nb
  ·subst hin
   refine ⟨Nat.le_refl _, by omega, fun g base' n' rl' esz' h => ?_⟩
   rw [zbb] at h
   cases h
   exact Nat.le_refl _
  ·rw [zbt _ _ hin] at hb2
   exact absurd hb1 hb2
 ·refine ⟨?_, ?_, ?_, ?_, ?_⟩
  ·intro i b g base' n' rl' esz' hi hat
   by_cases hin : i = nb
   ·subst hin
    rw [zbb] at hat
    cases hat
    rw [hb] at hi
    cases hi
    refine ⟨h1, h2, h3, h4, arr, T, hnew, Nat.le_refl _, fun k j r d hr hd => ?_⟩
    obtain ⟨v, hv, hrep⟩ := hc k j r d hr hd
    refine ⟨v, hv, ?_⟩
    split
    ·rename_i hb; rw [if_pos hb] at hrep; exact hrep.move hpres hρ
    ·rename_i hb; rw [if_neg hb] at hrep; exact hrep.move hpres
   ·rw [zbt _ _ hin] at hat
    exact (hS.at_ i b g base' n' rl' esz' hi hat).move (hold g (hlt _ _ _ _ _ _ hat)) hpres hρ
  ·intro i b hi hv
   by_cases hin : i = nb
   ·subst hin; rw [zbb] at hv; cases hv
   ·rw [zbt _ _ hin] at hv; exact hS.virt i b hi hv
  ·intro i hi
   have hin : i ≠ nb := by
    rintro rfl
    rw [List.getElem?_eq_none hi] at hb
    cases hb
   rw [zbt _ _ hin]
   exact hS.out i hi
  ·intro i j g base1 n1 rl1 esz1 base2 n2 rl2 esz2 hi hj
   by_cases hin : i = nb
   ·by_cases hjn : j = nb
    ·rw [hin, hjn]
    ·subst hin
     rw [zbb] at hi
     cases hi
     rw [zbt _ _ hjn] at hj
     have := hlt _ _ _ _ _ _ hj
     omega
   ·rw [zbt _ _ hin] at hi
    by_cases hjn : j = nb
    ·subst hjn
     rw [zbb] at hj
     cases hj
     have := hlt _ _ _ _ _ _ hi
     omega
    ·rw [zbt _ _ hjn] at hj
     exact hS.inj i j g _ _ _ _ _ _ _ _ hi hj
  ·intro i g base1 n1 rl1 esz1 hi o hm
   by_cases hin : i = nb
   ·subst hin
    rw [zbb] at hi
    cases hi
    exact absurd (hm0 _ _ hm) (by omega)
   ·rw [zbt _ _ hin] at hi
    exact hS.m0 i g _ _ _ _ hi o hm

theorem Store.bornV {M0 : Foot} {w : World} {ρ : Nat → Loc} {bs : List Blk} {nb : Nat} {blk : Blk} (hS : Store M0 ρ bs w) (hb : bs[nb]? = some blk) (habs : ρ nb = .absent)
 (h1 : blk.rows = []) (h2 : blk.kind.isBox = false) : Grow M0 w ρ w (updL ρ nb .virt) bs nb 1 := by
 have hρ := z6k (ρ := ρ) (b := nb) (l := .virt) habs
 have hM : ∀ g o, Mof M0 (updL ρ nb .virt) bs g o → Mof M0 ρ bs g o := by
  rintro g o (h | ⟨i, b, base', n', rl', esz', hi, hat, hk⟩)
  ·exact .inl h
  ·by_cases hin : i = nb
   ·subst hin; rw [zbb] at hat; cases hat
   ·rw [zbt _ _ hin] at hat
    exact .inr ⟨i, b, base', n', rl', esz', hi, hat, hk⟩
 have hpres : Pres w (Mof M0 ρ bs) w (Mof M0 (updL ρ nb .virt) bs) := fun g o v hn hv => ⟨fun h => hn (hM g o h), hv⟩
 have hat' : ∀ {i g base n rl esz}, updL ρ nb .virt i = .at_ g base n rl esz → ρ i = .at_ g base n rl esz := by
  intro i g base n rl esz h
  by_cases hin : i = nb
  ·subst hin; rw [zbb] at h; cases h
  ·rwa [zbt _ _ hin] at h
 refine ⟨Below.refl _ _, hρ, ?_, hpres, ?_⟩
 ·intro b hb1 hb2
  by_cases hin : b = nb
  ·subst hin
   refine ⟨Nat.le_refl _, by omega, fun g base' n' rl' esz' h => ?_⟩
   rw [zbb] at h
   cases h
  ·rw [zbt _ _ hin] at hb2
   exact absurd hb1 hb2
 ·refine ⟨?_, ?_, ?_, ?_, ?_⟩
  ·intro i b g base' n' rl' esz' hi hat
   exact (hS.at_ i b g base' n' rl' esz' hi (hat' hat)).move rfl hpres hρ
  ·intro i b hi hv
   by_cases hin : i = nb
   ·subst hin; rw [hb] at hi; cases hi; exact ⟨h1, h2⟩
   ·rw [zbt _ _ hin] at hv; exact hS.virt i b hi hv
  ·intro i hi
   have hin : i ≠ nb := by
    rintro rfl
    rw [List.getElem?_eq_none hi] at hb
    cases hb
   rw [zbt _ _ hin]
   exact hS.out i hi
  ·intro i j g base1 n1 rl1 esz1 base2 n2 rl2 esz2 hi hj
   exact hS.inj i j g _ _ _ _ _ _ _ _ (hat' hi) (hat' hj)
  ·intro i g base1 n1 rl1 esz1 hi
   exact hS.m0 i g _ _ _ _ (hat' hi)

end Go.AM
