/- What the proof of this claim stands on, part 2. -/
import Derived.WalkKit
import Derived.Test.YtinbocdlolkcgaaAmZ1
/- AM: each operation that is no barrier does on the machine what it does on data. -/
namespace Go.AM
open Go.RowKit (Below)

def descOk : TypeDesc → TD → Prop
  | .int k, .int k' => k = k'
  | .bool, .bool => True
  | .slice e, .slice e' => e = e'
  | .array n e, .arr n' e' => n = n' ∧ e = e'
  | .struct fields, .struct fs => fields.toList.map (fun f => (f.offset, f.type)) = fs
  | .pointer _, .ptr => True
  | .func _ _ _, .fn => True
  | _, _ => False

/-- A cell's datum, of no other cells' making. -/
def D.flat : D → Bool
  | .agg _ => false
  | .tup _ => false
  | .fn _ _ _ => false
  | .ref _ _ _ => false
  | .ptr _ _ _ => false
  | _ => true

structure TyOk (P : Program) (t : Nat) (ti : TyI) : Prop where
  info : ∃ i z, P.info? t = some i ∧ i.zero = some z ∧ i.size = ti.size ∧ i.bytes = ti.bytes ∧ constL z.cells.toList = ti.zero ∧ ti.zero.all D.flat = true ∧ ti.zero.length = ti.size
  desc : ∃ d, P.underlying t = some d ∧ descOk d ti.d

/-- What a comparison of two structs comes to. -/
def EqOk (P : Program) (T : Tab) (t : Nat) : Prop := P.eqGuardType P.depth t = false ∧
  ∀ (w : World) (M : Foot) (ρ : Nat → Loc) (xs ys : Array Value) (as bs : List D) (z x : Bool), xs.size = as.length → ys.size = bs.length → as.length = (T t).size →
    (∀ (i : Nat) (v : Value) (d : D), xs[i]? = some v → as[i]? = some d → Rep w M ρ v d) → (∀ (i : Nat) (v : Value) (d : D), ys[i]? = some v → bs[i]? = some d → Rep w M ρ v d) →
    eqCells (T t).zero as = some z → eqCells as bs = some x → (Op.equal t (.agg xs) (.agg ys)).run P w = .ok x w

structure TabOk (P : Program) (T : Tab) (eqs : List Nat) : Prop where
  ty : ∀ t, (T t).d.known = true → TyOk P t (T t)
  kids : ∀ t k, k ∈ (T t).d.kids → (T k).d.known = true
  eqs : ∀ t, t ∈ eqs → EqOk P T t

section
variable {P : Program} {T : Tab} {eqs : List Nat} (hT : TabOk P T eqs) {w : World} {M : Foot} {ρ : Nat → Loc}

theorem agg_known {d : TD} (h : d.agg = true) : d.known = true := by cases d <;> first | rfl | cases h

include hT in
theorem und_run {t : Nat} (h : (T t).d.known = true) : ∃ d, P.underlying t = some d ∧ descOk d (T t).d := (hT.ty t h).desc

include hT in
theorem isAgg_run {t : Nat} (h : (T t).d.known = true) : (isAgg t).run P w = .ok (T t).d.agg w := by
  obtain ⟨d, hd, ho⟩ := und_run hT h
  generalize (T t).d = e at ho
  cases d <;> cases e <;> simp [descOk] at ho <;> simp [isAgg, run_underlying hd, TD.agg]

include hT in
theorem sizeOf_run {t : Nat} (h : (T t).d.known = true) : (sizeOf t).run P w = .ok (T t).size w := by
  obtain ⟨i, z, hi, hz, hs, _⟩ := (hT.ty t h).info
  simp [sizeOf, typeInfo, hi, hs]

include hT in
theorem und_slice {t e : Nat} (h : (T t).d = .slice e) : P.underlying t = some (.slice e) ∧ (T e).d.known = true := by
  obtain ⟨d, hd, ho⟩ := und_run hT (t := t) (by rw [h]; rfl)
  rw [h] at ho
  cases d <;> simp [descOk] at ho
  subst ho
  exact ⟨hd, hT.kids t _ (by rw [h]; exact List.mem_singleton.2 rfl)⟩

include hT in
theorem und_arr {t n e : Nat} (h : (T t).d = .arr n e) : P.underlying t = some (.array n e) ∧ (T e).d.known = true := by
  obtain ⟨d, hd, ho⟩ := und_run hT (t := t) (by rw [h]; rfl)
  rw [h] at ho
  cases d <;> simp [descOk] at ho
  obtain ⟨rfl, rfl⟩ := ho
  exact ⟨hd, hT.kids t _ (by rw [h]; exact List.mem_singleton.2 rfl)⟩

include hT in
theorem und_struct {t : Nat} {fs : List (Nat × Nat)} (h : (T t).d = .struct fs) : ∃ fields : Array Field, P.underlying t = some (.struct fields) ∧ fields.toList.map (fun f => (f.offset, f.type)) = fs ∧ ∀ x ∈ fs, (T x.2).d.known = true := by
  obtain ⟨d, hd, ho⟩ := und_run hT (t := t) (by rw [h]; rfl)
  rw [h] at ho
  cases d <;> simp [descOk] at ho
  exact ⟨_, hd, by simpa using ho, fun x hx => hT.kids t _ (by rw [h]; exact List.mem_map.2 ⟨x, hx, rfl⟩)⟩

theorem Addr.add_plain (g o j : Nat) : (⟨g, o, none⟩ : Addr).add j = ⟨g, o + j, none⟩ := by
  unfold Addr.add
  split
  · rename_i h; subst h; rfl
  · rfl

include hT in
/-- A variable's value, loaded. -/
theorem ld_run {t : Nat} {cs : List D} {d : D} {g o : Nat} (hld : ld T t cs = some d)
    (hc : ∀ (j : Nat) (d : D), cs[j]? = some d → ∃ v, w.cell? ⟨g, o + j, none⟩ = some v ∧ Rep w M ρ v d) :
    ∃ v, (loadVar t ⟨g, o, none⟩).run P w = .ok v w ∧ Rep w M ρ v d := by
  unfold ld at hld
  have hk : (T t).d.known = true := by
    revert hld
    cases (T t).d <;> simp [TD.known]
  have ha := isAgg_run hT (w := w) hk
  have hs := sizeOf_run hT (w := w) hk
  have hld' : (if (T t).d.agg then (if (T t).size ≤ cs.length then some (D.agg (cs.take (T t).size)) else none) else cs[0]?) = some d := by
    revert hld
    cases (T t).d <;> simp
  clear hld
  cases hg : (T t).d.agg with
  | true =>
    rw [hg] at hld'
    simp only [if_true] at hld'
    split at hld'
    · rename_i hle
      cases hld'
      have hl := run_loadCells (P := P) (w := w) ⟨g, o, none⟩ (T t).size (fun j => (w.cell? ⟨g, o + j, none⟩).getD Go.undef) (fun j hj => by
        rw [Addr.add_plain]
        obtain ⟨v, hv, _⟩ := hc j cs[j] (by simp)
        simp [hv])
      refine ⟨_, by simp [loadVar, ha, hg, hs, hl]; rfl, ?_⟩
      refine .agg _ _ (by simp [List.length_take]; omega) ?_
      intro i v d hv hd
      simp only [List.getElem?_take] at hd
      split at hd
      · obtain ⟨u, hu, hr⟩ := hc i d hd
        have hlt : i < (T t).size := by assumption
        simp [hlt, hu] at hv
        exact hv ▸ hr
      · cases hd
    · cases hld'
  | false =>
    rw [hg] at hld'
    simp only [Bool.false_eq_true, if_false] at hld'
    obtain ⟨v, hv, hr⟩ := hc 0 d hld'
    rw [Nat.add_zero] at hv
    exact ⟨v, by simp [loadVar, ha, hg, hv], hr⟩
end

/-! ### Blocks that are kept, blocks that are born -/
structure Blk.like (b b' : Blk) : Prop where
  rows : b'.rows = b.rows
  esz : b'.esz = b.esz
  box : b'.kind.isBox = b.kind.isBox
  down : b'.kind = b.kind ∨ b'.kind = b.kind.down
def Ext (bsE bs : List Blk) : Prop := ∀ (i : Nat) (k : Blk), bsE[i]? = some k → ∃ k', bs[i]? = some k' ∧ k.like k'
theorem Blk.like.refl (b : Blk) : b.like b := ⟨rfl, rfl, rfl, .inl rfl⟩
theorem Ext.refl (bs : List Blk) : Ext bs bs := fun _ k h => ⟨k, h, .refl k⟩

theorem BlkAt.move {w w' : World} {M M' : Foot} {ρ ρ' : Nat → Loc} {b : Blk} {g base n rl esz : Nat} (h : BlkAt w M ρ b g base n rl esz) (hh : w'.heap[g]? = w.heap[g]?)
    (hp : Pres w M w' M') (hρ : ∀ b, ρ b ≠ .absent → ρ' b = ρ b) : BlkAt w' M' ρ' b g base n rl esz := by
  obtain ⟨h1, h2, h3, h4, arr, T, hg, hs, hc⟩ := h
  refine ⟨h1, h2, h3, h4, arr, T, hh.trans hg, hs, fun k j r d hr hd => ?_⟩
  obtain ⟨v, hv, hrep⟩ := hc k j r d hr hd
  refine ⟨v, hv, ?_⟩
  split
  · rename_i hb; rw [if_pos hb] at hrep; exact hrep.move hp hρ
  · rename_i hb; rw [if_neg hb] at hrep; exact hrep.move hp

/-- A step that turns no block that is there: of the blocks from nb on, as many as n, some have come. -/
structure Grow (M0 : Foot) (w : World) (ρ : Nat → Loc) (w' : World) (ρ' : Nat → Loc) (bs : List Blk) (nb n : Nat) : Prop where
  below : Below w.heap.size w w'
  old : ∀ b, ρ b ≠ .absent → ρ' b = ρ b
  new : ∀ b, ρ b = .absent → ρ' b ≠ .absent → nb ≤ b ∧ b < nb + n ∧ ∀ g base n rl esz, ρ' b = .at_ g base n rl esz → w.heap.size ≤ g
  pres : Pres w (Mof M0 ρ bs) w' (Mof M0 ρ' bs)
  store : Store M0 ρ' bs w'

theorem Grow.refl {M0 : Foot} {w : World} {ρ : Nat → Loc} {bs : List Blk} {nb n : Nat} (h : Store M0 ρ bs w) : Grow M0 w ρ w ρ bs nb n :=
  ⟨Below.refl _ _, fun _ _ => rfl, fun _ h1 h2 => absurd h1 h2, Pres.refl _ _, h⟩

def updL (ρ : Nat → Loc) (b : Nat) (l : Loc) : Nat → Loc := fun i => if i = b then l else ρ i
theorem updL_same (ρ : Nat → Loc) (b : Nat) (l : Loc) : updL ρ b l b = l := by simp [updL]
theorem updL_ne (ρ : Nat → Loc) {b i : Nat} (l : Loc) (h : i ≠ b) : updL ρ b l i = ρ i := by simp [updL, h]
theorem updL_old {ρ : Nat → Loc} {b : Nat} {l : Loc} (habs : ρ b = .absent) : ∀ i, ρ i ≠ .absent → updL ρ b l i = ρ i := by
  intro i hi
  refine updL_ne _ _ ?_
  rintro rfl
  exact hi habs

theorem cell_lt {w : World} {g o : Nat} {v : Value} (h : w.cell? ⟨g, o, none⟩ = some v) : g < w.heap.size := World.block_lt_of_cell? w _ h

/-- A block is born. -/
theorem Store.born {M0 : Foot} {w w' : World} {ρ : Nat → Loc} {bs : List Blk} {nb : Nat} {blk : Blk} {arr : Array Value} {T : TypeId} {base rl esz : Nat} (hS : Store M0 ρ bs w)
    (hm0 : ∀ g o, M0 g o → g < w.heap.size) (hb : bs[nb]? = some blk) (habs : ρ nb = .absent) (hheap : w'.heap = w.heap.push (.cells arr T (0, 0))) (hos : w'.os = w.os)
    (htape : w'.tape = w.tape) (hout : w'.output = w.output) (h1 : rl = blk.rows.length) (h2 : esz = blk.esz) (h3 : ∀ r ∈ blk.rows, r.length = esz) (h4 : base + rl * esz ≤ arr.size)
    (hc : ∀ (k j : Nat) (r : List D) (d : D), blk.rows[k]? = some r → r[j]? = some d → ∃ v, arr[base + k * esz + j]? = some v ∧
      (if blk.kind.isBox then Rep w (Mof M0 ρ bs) ρ v d else RepI w (Mof M0 ρ bs) v d)) :
    Grow M0 w ρ w' (updL ρ nb (.at_ w.heap.size base arr.size rl esz)) bs nb 1 := by
  have hold : ∀ g, g < w.heap.size → w'.heap[g]? = w.heap[g]? := fun g hg => by rw [hheap, Array.getElem?_push, if_neg (by omega)]
  have hbelow : Below w.heap.size w w' := ⟨hos, htape, hout, by rw [hheap]; simp, hold⟩
  have hnew : w'.heap[w.heap.size]? = some (.cells arr T (0, 0)) := by rw [hheap]; simp
  have hρ := updL_old (ρ := ρ) (b := nb) (l := .at_ w.heap.size base arr.size rl esz) habs
  have hlt : ∀ i g base n rl esz, ρ i = .at_ g base n rl esz → g < w.heap.size := fun i g base n rl esz h => hS.lt h
  have hM : ∀ g o, Mof M0 (updL ρ nb (.at_ w.heap.size base arr.size rl esz)) bs g o → Mof M0 ρ bs g o ∨ g = w.heap.size := by
    rintro g o (h | ⟨i, b, base', n', rl', esz', hi, hat, hk⟩)
    · exact .inl (.inl h)
    · by_cases hin : i = nb
      · subst hin
        rw [updL_same] at hat
        cases hat
        exact .inr rfl
      · rw [updL_ne _ _ hin] at hat
        exact .inl (.inr ⟨i, b, base', n', rl', esz', hi, hat, hk⟩)
  have hpres : Pres w (Mof M0 ρ bs) w' (Mof M0 (updL ρ nb (.at_ w.heap.size base arr.size rl esz)) bs) := by
    intro g o v hn hv
    have hg := cell_lt hv
    refine ⟨fun h => ?_, ?_⟩
    · rcases hM g o h with h | h
      · exact hn h
      · omega
    · rw [World.cell?_of_block (w := w) (hold g hg)]; exact hv
  refine ⟨hbelow, hρ, ?_, hpres, ?_⟩
  · intro b hb1 hb2
    by_cases hin : b = nb
    · subst hin
      refine ⟨Nat.le_refl _, by omega, fun g base' n' rl' esz' h => ?_⟩
      rw [updL_same] at h
      cases h
      exact Nat.le_refl _
    · rw [updL_ne _ _ hin] at hb2
      exact absurd hb1 hb2
  · refine ⟨?_, ?_, ?_, ?_, ?_⟩
    · intro i b g base' n' rl' esz' hi hat
      by_cases hin : i = nb
      · subst hin
        rw [updL_same] at hat
        cases hat
        rw [hb] at hi
        cases hi
        refine ⟨h1, h2, h3, h4, arr, T, hnew, rfl, fun k j r d hr hd => ?_⟩
        obtain ⟨v, hv, hrep⟩ := hc k j r d hr hd
        refine ⟨v, hv, ?_⟩
        split
        · rename_i hb; rw [if_pos hb] at hrep; exact hrep.move hpres hρ
        · rename_i hb; rw [if_neg hb] at hrep; exact hrep.move hpres
      · rw [updL_ne _ _ hin] at hat
        exact (hS.at_ i b g base' n' rl' esz' hi hat).move (hold g (hlt _ _ _ _ _ _ hat)) hpres hρ
    · intro i b hi hv
      by_cases hin : i = nb
      · subst hin; rw [updL_same] at hv; cases hv
      · rw [updL_ne _ _ hin] at hv; exact hS.virt i b hi hv
    · intro i hi
      have hin : i ≠ nb := by
        rintro rfl
        rw [List.getElem?_eq_none hi] at hb
        cases hb
      rw [updL_ne _ _ hin]
      exact hS.out i hi
    · intro i j g base1 n1 rl1 esz1 base2 n2 rl2 esz2 hi hj
      by_cases hin : i = nb
      · by_cases hjn : j = nb
        · rw [hin, hjn]
        · subst hin
          rw [updL_same] at hi
          cases hi
          rw [updL_ne _ _ hjn] at hj
          have := hlt _ _ _ _ _ _ hj
          omega
      · rw [updL_ne _ _ hin] at hi
        by_cases hjn : j = nb
        · subst hjn
          rw [updL_same] at hj
          cases hj
          have := hlt _ _ _ _ _ _ hi
          omega
        · rw [updL_ne _ _ hjn] at hj
          exact hS.inj i j g _ _ _ _ _ _ _ _ hi hj
    · intro i g base1 n1 rl1 esz1 hi o hm
      by_cases hin : i = nb
      · subst hin
        rw [updL_same] at hi
        cases hi
        exact absurd (hm0 _ _ hm) (by omega)
      · rw [updL_ne _ _ hin] at hi
        exact hS.m0 i g _ _ _ _ hi o hm

/-- An empty block without memory is born. -/
theorem Store.bornV {M0 : Foot} {w : World} {ρ : Nat → Loc} {bs : List Blk} {nb : Nat} {blk : Blk} (hS : Store M0 ρ bs w) (hb : bs[nb]? = some blk) (habs : ρ nb = .absent)
    (h1 : blk.rows = []) (h2 : blk.kind.isBox = false) : Grow M0 w ρ w (updL ρ nb .virt) bs nb 1 := by
  have hρ := updL_old (ρ := ρ) (b := nb) (l := .virt) habs
  have hM : ∀ g o, Mof M0 (updL ρ nb .virt) bs g o → Mof M0 ρ bs g o := by
    rintro g o (h | ⟨i, b, base', n', rl', esz', hi, hat, hk⟩)
    · exact .inl h
    · by_cases hin : i = nb
      · subst hin; rw [updL_same] at hat; cases hat
      · rw [updL_ne _ _ hin] at hat
        exact .inr ⟨i, b, base', n', rl', esz', hi, hat, hk⟩
  have hpres : Pres w (Mof M0 ρ bs) w (Mof M0 (updL ρ nb .virt) bs) := fun g o v hn hv => ⟨fun h => hn (hM g o h), hv⟩
  have hat' : ∀ {i g base n rl esz}, updL ρ nb .virt i = .at_ g base n rl esz → ρ i = .at_ g base n rl esz := by
    intro i g base n rl esz h
    by_cases hin : i = nb
    · subst hin; rw [updL_same] at h; cases h
    · rwa [updL_ne _ _ hin] at h
  refine ⟨Below.refl _ _, hρ, ?_, hpres, ?_⟩
  · intro b hb1 hb2
    by_cases hin : b = nb
    · subst hin
      refine ⟨Nat.le_refl _, by omega, fun g base' n' rl' esz' h => ?_⟩
      rw [updL_same] at h
      cases h
    · rw [updL_ne _ _ hin] at hb2
      exact absurd hb1 hb2
  · refine ⟨?_, ?_, ?_, ?_, ?_⟩
    · intro i b g base' n' rl' esz' hi hat
      exact (hS.at_ i b g base' n' rl' esz' hi (hat' hat)).move rfl hpres hρ
    · intro i b hi hv
      by_cases hin : i = nb
      · subst hin; rw [hb] at hi; cases hi; exact ⟨h1, h2⟩
      · rw [updL_ne _ _ hin] at hv; exact hS.virt i b hi hv
    · intro i hi
      have hin : i ≠ nb := by
        rintro rfl
        rw [List.getElem?_eq_none hi] at hb
        cases hb
      rw [updL_ne _ _ hin]
      exact hS.out i hi
    · intro i j g base1 n1 rl1 esz1 base2 n2 rl2 esz2 hi hj
      exact hS.inj i j g _ _ _ _ _ _ _ _ (hat' hi) (hat' hj)
    · intro i g base1 n1 rl1 esz1 hi
      exact hS.m0 i g _ _ _ _ (hat' hi)

end Go.AM
/- AM: the operations one by one (values and addresses). -/
namespace Go.AM
set_option linter.unusedSimpArgs false
set_option linter.unusedVariables false
open Go.RowKit (Below)

theorem equal_bool {P : Program} {w : World} {t : Nat} (h : P.underlying t = some .bool) (a b : Bool) : (Op.equal t (.bool a) (.bool b)).run P w = .ok (a == b) w := by
  rw [Op.equal, show Op.maxDepth = 9999 + 1 from rfl, Op.equalIn]
  simp only [Sem.run_bind, run_underlying h, Result.andThen_ok]
  rfl

section
variable {P : Program} {T : Tab} {eqs : List Nat} {M0 : Foot} {ρ : Nat → Loc} {bs : List Blk} {w : World}

/-- A cell of an own block, told. -/
theorem Store.cell (hS : Store M0 ρ bs w) {b g base n rl esz : Nat} {k : Blk} {i j : Nat} {r : List D} {d : D} (hat : ρ b = .at_ g base n rl esz) (hb : bs[b]? = some k)
    (hr : k.rows[i]? = some r) (hd : r[j]? = some d) : ∃ v, w.cell? ⟨g, base + i * esz + j, none⟩ = some v ∧ Rep w (Mof M0 ρ bs) ρ v d := by
  obtain ⟨_, _, _, _, arr, Ty, hg, _, hc⟩ := hS.at_ b k g base n rl esz hb hat
  obtain ⟨v, hv, hrep⟩ := hc i j r d hr hd
  refine ⟨v, by simp [World.cell?, hg, hv], ?_⟩
  split at hrep
  · exact hrep
  · exact .imm _ _ hrep

theorem constL_eq : ∀ l : List Value, constL l = l.map constD
  | [] => rfl
  | v :: vs => by simp [constL, constL_eq vs]

theorem const_rep {M : Foot} (v : Value) : Rep w M ρ v (constD v) := by
  have key : ∀ (n : Nat) (v : Value), SizeOf.sizeOf v ≤ n → Rep w M ρ v (constD v) := by
    intro n
    induction n with
    | zero => intro v h; cases v <;> simp at h
    | succ n ih =>
      intro v h
      unfold constD
      split
      · exact .imm _ _ (.int _ _)
      · exact .imm _ _ (.bool _)
      · exact .imm _ _ (.nil _)
      · rename_i cs
        refine .agg _ _ (by simp [constL_eq]) fun i u d hu hd => ?_
        rw [constL_eq, List.getElem?_map] at hd
        have hu' : cs.toList[i]? = some u := by simpa using hu
        rw [hu'] at hd
        cases hd
        refine ih u ?_
        have hm : u ∈ cs := Array.mem_of_getElem? hu
        have h1 := Array.sizeOf_lt_of_mem hm
        simp only [Value.agg.sizeOf_spec] at h
        omega
      · split
        · rename_i vs h0
          have : vs = #[] := Array.eq_empty_of_size_eq_zero h0
          subst this
          exact .tup _ _ rfl fun i u d hu hd => by simp at hu
        · exact .undef _
      · exact .undef _
  exact key _ v (Nat.le_refl _)

theorem const_repI {M : Foot} {v : Value} (h : (constD v).flat = true) : RepI w M v (constD v) := by
  unfold constD at h ⊢
  split
  · exact .int _ _
  · exact .bool _
  · exact .nil _
  · simp [D.flat] at h
  · split
    · rename_i h0; simp [h0, D.flat] at h
    · exact .undef _
  · exact .undef _

theorem isCell_one {M : Foot} {v : Value} {d : D} (h : Rep w M ρ v d) (hd : d.isCell = true) : v.oneCell' = true := by
  cases h with
  | imm _ _ h => cases h <;> first | rfl | cases hd
  | agg => cases hd
  | tup => cases hd
  | _ => rfl

/-! #### Numbers -/
def outV : D → Value
  | .int k n => .int k n
  | .bool b => .bool b
  | _ => Go.undef

theorem binInt_run {op : BinOp} {t : Nat} {k k' : IntKind} {a b : Int} {d : D} {ox oy : Operand} {M : Foot} (h : binInt op k k' a b = some d) :
    (do eqGuard op t ox oy (.int k a) (.int k' b); binOp op t (.int k a) (.int k' b) : Sem Value).run P w = .ok (outV d) w ∧ Rep w M ρ (outV d) d := by
  have hg : (eqGuard op t ox oy (.int k a) (.int k' b)).run P w = .ok () w := by unfold eqGuard; cases op <;> simp
  simp only [Sem.run_bind, hg, Result.andThen_ok]
  clear hg
  cases op <;> simp only [binInt, arith] at h
  case shl =>
    by_cases hb : b < 0
    · simp [hb] at h
    · simp only [hb, if_false, Option.some.injEq] at h
      subst h
      exact ⟨by simp [binOp, Op.shift, hb, outV], .imm _ _ (.int _ _)⟩
  case shr =>
    by_cases hb : b < 0
    · simp [hb] at h
    · simp only [hb, if_false, Option.some.injEq] at h
      subst h
      exact ⟨by simp [binOp, Op.shift, hb, outV], .imm _ _ (.int _ _)⟩
  all_goals
    by_cases hk : k = k'
    · subst hk
      simp only [if_true] at h
      first
        | (simp only [Option.some.injEq] at h
           subst h
           first
             | exact ⟨by simp [binOp, Op.intArith, Op.intBits, Op.intCmp, outV], .imm _ _ (.int _ _)⟩
             | exact ⟨by simp [binOp, Op.intArith, Op.intBits, Op.intCmp, outV], .imm _ _ (.bool _)⟩)
        | (by_cases hb : b = 0
           · simp [hb] at h
           · simp only [hb, if_false, Option.some.injEq] at h
             subst h
             exact ⟨by simp [binOp, Op.intDiv, hb, outV], .imm _ _ (.int _ _)⟩)
        | cases h
    · simp [hk] at h

theorem binBool_run {op : BinOp} {t : Nat} {a b : Bool} {d : D} {ox oy : Operand} {M : Foot} (hT : TabOk P T eqs) (h : binBool op (T t).d a b = some d) :
    (do eqGuard op t ox oy (.bool a) (.bool b); binOp op t (.bool a) (.bool b) : Sem Value).run P w = .ok (outV d) w ∧ Rep w M ρ (outV d) d := by
  have hg : (eqGuard op t ox oy (.bool a) (.bool b)).run P w = .ok () w := by unfold eqGuard; cases op <;> simp
  simp only [Sem.run_bind, hg, Result.andThen_ok]
  clear hg
  unfold binBool at h
  split at h
  · rename_i ht
    obtain ⟨d', hd, ho⟩ := und_run hT (t := t) (by rw [ht]; rfl)
    rw [ht] at ho
    cases d' <;> simp [descOk] at ho
    have he := equal_bool (w := w) hd a b
    cases op <;> simp only [Option.some.injEq] at h <;> try cases h
    · exact ⟨by simp only [binOp, Sem.run_bind, he, Result.andThen_ok]; rfl, .imm _ _ (.bool _)⟩
    · exact ⟨by simp only [binOp, Sem.run_bind, he, Result.andThen_ok]; rfl, .imm _ _ (.bool _)⟩
  · cases h

theorem binAgg_run {op : BinOp} {t : Nat} {as bs : List D} {xs ys : Array Value} {d : D} {ox oy : Operand} {M : Foot} (hT : TabOk P T eqs) (hm : t ∈ eqs) (hxs : xs.size = as.length) (hys : ys.size = bs.length) (hl : as.length = (T t).size)
    (hxr : ∀ (i : Nat) (v : Value) (d : D), xs[i]? = some v → as[i]? = some d → Rep w M ρ v d) (hyr : ∀ (i : Nat) (v : Value) (d : D), ys[i]? = some v → bs[i]? = some d → Rep w M ρ v d)
    (h : binAgg T op t as bs = some d) :
    (do eqGuard op t ox oy (.agg xs) (.agg ys); binOp op t (.agg xs) (.agg ys) : Sem Value).run P w = .ok (outV d) w ∧ Rep w M ρ (outV d) d := by
  obtain ⟨hg0, heq⟩ := hT.eqs t hm
  have hg : (eqGuard op t ox oy (.agg xs) (.agg ys)).run P w = .ok () w := by
    unfold eqGuard
    cases op <;> simp [hg0]
  simp only [Sem.run_bind, hg, Result.andThen_ok]
  clear hg
  unfold binAgg at h
  cases hz : eqCells (T t).zero as with
  | none => simp [hz] at h
  | some z =>
    cases hx' : eqCells as bs with
    | none => simp [hz, hx'] at h
    | some x =>
      have hrun := heq w M ρ xs ys as bs z x hxs hys hl hxr hyr hz hx'
      simp only [hz, hx'] at h
      cases op <;> simp only [Option.some.injEq] at h <;> first
        | (subst h; exact ⟨by simp [binOp, hrun, outV], .imm _ _ (.bool _)⟩)
        | cases h

theorem bin_run {op : BinOp} {t : Nat} {x y d : D} {vx vy : Value} {ox oy : Operand} {M : Foot} (hT : TabOk P T eqs) (hx : Rep w M ρ vx x) (hy : Rep w M ρ vy y) (h : binD T eqs op t x y = some d) :
    (do eqGuard op t ox oy vx vy; binOp op t vx vy : Sem Value).run P w = .ok (outV d) w ∧ Rep w M ρ (outV d) d := by
  unfold binD at h
  split at h
  · have e1 := hx.int_inv
    have e2 := hy.int_inv
    subst e1 e2
    exact binInt_run h
  · have e1 := hx.bool_inv
    have e2 := hy.bool_inv
    subst e1 e2
    exact binBool_run hT h
  · split at h
    · rename_i hc
      obtain ⟨hmem, hl1, hl2⟩ := hc
      obtain ⟨xs, rfl, hxs, hxr⟩ := hx.agg_inv
      obtain ⟨ys, rfl, hys, hyr⟩ := hy.agg_inv
      exact binAgg_run hT (by simpa using hmem) hxs hys hl1 hxr hyr h
    · cases h
  · cases h

theorem un_run {op : UnOp} {x d : D} {vx : Value} {M : Foot} (hx : Rep w M ρ vx x) (h : unD op x = some d) : ∃ v, (Op.unary op vx).run P w = .ok v w ∧ Rep w M ρ v d := by
  unfold unD at h
  split at h
  · rename_i k n
    have e1 := hx.int_inv
    subst e1
    cases op <;> simp only [Option.some.injEq] at h <;> try cases h
    exact ⟨_, by simp [Op.unary, Op.intArith], .imm _ _ (.int _ _)⟩
  · have e1 := hx.bool_inv
    subst e1
    cases op <;> simp only [Option.some.injEq] at h <;> try cases h
    exact ⟨_, by simp [Op.unary], .imm _ _ (.bool _)⟩
  · cases h

theorem conv_run {src dst : Nat} {k k' : IntKind} {n : Int} {vx : Value} {M : Foot} (hT : TabOk P T eqs) (hs : (T src).d.known = true) (hx : Rep w M ρ vx (.int k' n)) (ht : (T dst).d = .int k) :
    (convert src dst vx).run P w = .ok (.int k (k.wrap n)) w := by
  have e1 := hx.int_inv
  subst e1
  obtain ⟨d1, hd1, _⟩ := und_run hT hs
  obtain ⟨d, hd, ho⟩ := und_run hT (t := dst) (by rw [ht]; rfl)
  rw [ht] at ho
  cases d <;> simp [descOk] at ho
  subst ho
  simp [convert, run_underlying hd1, run_underlying hd, Conv.intToInt]

theorem len_run {t : Nat} {e : Nat} {ty : Nat} {x d : D} {vx : Value} {M : Foot} (hT : TabOk P T eqs) (ht : (T t).d = .slice e) (hx : Rep w M ρ vx x) (h : lenD x = some d) :
    ∃ v, (Builtin.len_ #[t] ty #[vx]).run P w = .ok v w ∧ Rep w M ρ v d := by
  obtain ⟨hu, _⟩ := und_slice hT ht
  have key : ∀ a n c, (Builtin.len_ #[t] ty #[Value.slice a n c]).run P w = .ok (.int .i64 (n : Int)) w := fun a n c => by
    simp [Builtin.len_, run_underlying hu, goInt]
  unfold lenD at h
  split at h
  · cases h
    obtain ⟨a, rfl⟩ := hx.nil_inv
    exact ⟨_, key a 0 0, .imm _ _ (.int _ _)⟩
  · cases h
    have hi := hx.sl_inv
    cases hi with
    | sl a len cap rows esz g off vals h1 h2 hr ha hc hv => exact ⟨_, key _ _ _, .imm _ _ (.int _ _)⟩
  · cases h
    rcases hx.ref_inv with ⟨cap, g, base, n, rl, esz, rfl, _⟩ | ⟨a, rfl, _, _, rfl⟩
    · exact ⟨_, key _ _ _, .imm _ _ (.int _ _)⟩
    · exact ⟨_, key _ _ _, .imm _ _ (.int _ _)⟩
  · cases h

theorem minF_run {M : Foot} (f : Int → Int → Int) (op : Value → Value → Sem Value) (hop : ∀ k k' x y w, (op (.int k x) (.int k' y)).run P w = .ok (.int k (f x y)) w) :
    ∀ (ds : List D) (vs : List Value) (k : IntKind) (n : Int) (r : IntKind × Int), vs.length = ds.length → (∀ (i : Nat) (v : Value) (d : D), vs[i]? = some v → ds[i]? = some d → Rep w M ρ v d) →
      minF f k n ds = some r → (vs.foldlM op (.int k n)).run P w = .ok (.int r.1 r.2) w := by
  intro ds
  induction ds with
  | nil => intro vs k n r hl _ h; cases vs with | nil => simp [minF] at h; subst h; simp | cons => simp at hl
  | cons d ds ih =>
    intro vs k n r hl hr h
    cases vs with
    | nil => simp at hl
    | cons v vs =>
      have h0 := hr 0 v d rfl rfl
      cases d <;> simp only [minF] at h <;> try cases h
      rename_i k' m
      have e := h0.int_inv
      subst e
      simp only [List.foldlM_cons, Sem.run_bind, hop, Result.andThen_ok]
      exact ih vs k (f n m) r (by simpa using hl) (fun i v d hv hd => hr (i + 1) v d hv hd) h

theorem min_run {M : Foot} (f : Int → Int → Int) (op : Value → Value → Sem Value) (hop : ∀ k k' x y w, (op (.int k x) (.int k' y)).run P w = .ok (.int k (f x y)) w)
    (ds : List D) (vs : List Value) (r : IntKind × Int) (hl : vs.length = ds.length) (hr : ∀ (i : Nat) (v : Value) (d : D), vs[i]? = some v → ds[i]? = some d → Rep w M ρ v d) (h : minL f ds = some r) :
    ∃ v rest, vs = v :: rest ∧ (rest.foldlM op v).run P w = .ok (.int r.1 r.2) w := by
  cases ds with
  | nil => cases h
  | cons d ds =>
    cases vs with
    | nil => simp at hl
    | cons v vs =>
      have h0 := hr 0 v d rfl rfl
      cases d <;> simp only [minL] at h <;> try cases h
      rename_i k n
      have e := h0.int_inv
      subst e
      exact ⟨_, _, rfl, minF_run f op hop ds vs k n r (by simpa using hl) (fun i v d hv hd => hr (i + 1) v d hv hd) h⟩
end
end Go.AM
/- AM: the operations one by one (memory that is read). -/
namespace Go.AM
set_option linter.unusedSimpArgs false
set_option linter.unusedVariables false
open Go.RowKit (Below)

section
variable {P : Program} {T : Tab} {eqs : List Nat} {M0 : Foot} {ρ : Nat → Loc} {bs bsE : List Blk} {w : World}

theorem RepI.drop {M : Foot} {g off : Nat} {cs : List D} (k : Nat) (h : RepI w M (.pointer (some ⟨g, off, none⟩)) (.mem cs)) : RepI w M (.pointer (some ⟨g, off + k, none⟩)) (.mem (cs.drop k)) := by
  cases h with
  | mem g off cs vals hc hv =>
    refine .mem g (off + k) (cs.drop k) (fun j => vals (k + j)) (fun j hj => ?_) (fun j d hd => ?_)
    · have := hc (k + j) (by simp at hj; omega)
      rwa [← Nat.add_assoc] at this
    · rw [List.getElem?_drop] at hd
      exact hv _ _ hd

theorem RepI.mem_addr {M : Foot} {v : Value} {cs : List D} (h : RepI w M v (.mem cs)) : ∃ g off, v = .pointer (some ⟨g, off, none⟩) := by
  cases h with
  | mem g off cs vals hc hv => exact ⟨g, off, rfl⟩

theorem RepI.mem_cell {M : Foot} {g off : Nat} {cs : List D} (h : RepI w M (.pointer (some ⟨g, off, none⟩)) (.mem cs)) (j : Nat) (d : D) (hd : cs[j]? = some d) :
    ∃ v, w.cell? ⟨g, off + j, none⟩ = some v ∧ RepI w M v d := by
  cases h with
  | mem g off cs vals hc hv =>
    exact ⟨_, (hc j (by rw [List.getElem?_eq_some_iff] at hd; exact hd.1)).2, hv j d hd⟩

theorem fieldAddr_run {s f : Nat} {d d' : D} {v : Value} {M : Foot} (hT : TabOk P T eqs) (hv : Rep w M ρ v d) (h : fieldAddrD T s d f = some d') :
    ∃ v', (Instr.fieldAt s v f).run P w = .ok v' w ∧ Rep w M ρ v' d' := by
  unfold fieldAddrD at h
  split at h
  · rename_i fs hs
    split at h
    · rename_i off ft hf
      split at h
      · cases h
      · rename_i hz
        obtain ⟨fields, hu, hmap, hk⟩ := und_struct hT hs
        have hft : (T ft).d.known = true := hk (off, ft) (List.mem_of_getElem? hf)
        have hf' : ∃ fd, fields[f]? = some fd ∧ fd.offset = off ∧ fd.type = ft := by
          rw [← hmap, List.getElem?_map] at hf
          cases hx : fields.toList[f]? with
          | none => simp [hx] at hf
          | some fd =>
            simp [hx] at hf
            exact ⟨fd, by simpa using hx, hf.1, hf.2⟩
        obtain ⟨fd, hfd, rfl, rfl⟩ := hf'
        have hsz := sizeOf_run (P := P) hT (w := w) hft
        split at h
        · cases h
          obtain ⟨g, o, rfl⟩ := hv.mem_inv.mem_addr
          exact ⟨_, by simp [Instr.fieldAt, run_underlying hu, hfd, Instr.sureAddr, fieldPlace, hsz, hz, Addr.add_plain], .imm _ _ (hv.mem_inv.drop _)⟩
        · cases h
          obtain ⟨g, base, n, rl, esz, rfl, hat⟩ := hv.ptr_inv
          refine ⟨_, by simp [Instr.fieldAt, run_underlying hu, hfd, Instr.sureAddr, fieldPlace, hsz, hz, Addr.add_plain]; rfl, ?_⟩
          rw [Nat.add_assoc]
          exact .ptr _ _ _ g base n rl esz hat
        · cases h
    · cases h
  · cases h

theorem part_run {t off : Nat} {vs : Array Value} {cs : List D} {d : D} {M : Foot} (hT : TabOk P T eqs) (hk : (T t).d.known = true) (hs : vs.size = cs.length)
    (hv : ∀ (i : Nat) (v : Value) (d : D), vs[i]? = some v → cs[i]? = some d → Rep w M ρ v d) (h : partD T t cs off = some d) : ∃ v, (part t vs off).run P w = .ok v w ∧ Rep w M ρ v d := by
  have ha := isAgg_run (P := P) hT (w := w) hk
  have hsz := sizeOf_run (P := P) hT (w := w) hk
  unfold partD at h
  cases hg : (T t).d.agg with
  | true =>
    simp only [hg, if_true] at h
    split at h
    · rename_i hle
      cases h
      refine ⟨_, by simp [part, ha, hg, hsz]; rfl, .agg _ _ (by simp; omega) fun i v d h1 h2 => ?_⟩
      rw [List.getElem?_take] at h2
      split at h2
      · rename_i hlt
        rw [List.getElem?_drop] at h2
        refine hv (off + i) v d ?_ h2
        rw [Array.getElem?_extract] at h1
        split at h1
        · exact h1
        · cases h1
      · cases h2
    · cases h
  | false =>
    simp only [hg, Bool.false_eq_true, if_false] at h
    have hlt : off < vs.size := by rw [hs]; exact (List.getElem?_eq_some_iff.1 h).1
    have hx : vs[off]? = some vs[off] := by simp [hlt]
    exact ⟨vs[off], by simp [part, ha, hg, hx], hv off _ _ hx h⟩

theorem field_run {s f : Nat} {d d' : D} {v : Value} {M : Foot} (hT : TabOk P T eqs) (hv : Rep w M ρ v d) (h : fieldD T s d f = some d') :
    ∃ v', (Instr.field s v f).run P w = .ok v' w ∧ Rep w M ρ v' d' := by
  unfold fieldD at h
  split at h
  · rename_i fs hs
    split at h
    · rename_i off ft hf
      split at h
      · obtain ⟨fields, hu, hmap, hk⟩ := und_struct hT hs
        have hft : (T ft).d.known = true := hk (off, ft) (List.mem_of_getElem? hf)
        have hf' : ∃ fd, fields[f]? = some fd ∧ fd.offset = off ∧ fd.type = ft := by
          rw [← hmap, List.getElem?_map] at hf
          cases hx : fields.toList[f]? with
          | none => simp [hx] at hf
          | some fd =>
            simp [hx] at hf
            exact ⟨fd, by simpa using hx, hf.1, hf.2⟩
        obtain ⟨fd, hfd, rfl, rfl⟩ := hf'
        obtain ⟨vs, rfl, hs, hr⟩ := hv.agg_inv
        obtain ⟨v', hrun, hrep⟩ := part_run hT hft hs hr h
        exact ⟨v', by simp [Instr.field, run_underlying hu, hfd, asAgg, hrun], hrep⟩
      · cases h
    · cases h
  · cases h

theorem index_run {t : Nat} {d d' : D} {v : Value} {k : IntKind} {i : Int} {M : Foot} (hT : TabOk P T eqs) (hv : Rep w M ρ v d) (h : indexD T t d i = some d') :
    ∃ v', (Instr.index t v (.int k i)).run P w = .ok v' w ∧ Rep w M ρ v' d' := by
  unfold indexD at h
  split at h
  · rename_i n e ht
    obtain ⟨hu, hk⟩ := und_arr hT ht
    split at h
    · rename_i hi
      split at h
      · obtain ⟨vs, rfl, hs, hr⟩ := hv.agg_inv
        obtain ⟨v', hrun, hrep⟩ := part_run hT hk hs hr h
        have hsz := sizeOf_run (P := P) hT (w := w) hk
        exact ⟨v', by simp [Instr.index, asIntOf, run_underlying hu, hi, hsz, hrun], hrep⟩
      · cases h
    · cases h
  · cases h

theorem indexAddr_run {t : Nat} {d d' : D} {v : Value} {k : IntKind} {i : Int} (hT : TabOk P T eqs) (hS : Store M0 ρ bs w) (hE : Ext bsE bs) (hv : Rep w (Mof M0 ρ bs) ρ v d) (h : indexAddrD T bsE t d i = some d') :
    ∃ v', (Instr.indexAt t v (.int k i)).run P w = .ok v' w ∧ Rep w (Mof M0 ρ bs) ρ v' d' := by
  unfold indexAddrD at h
  split at h
  · rename_i e ht
    obtain ⟨hu, hk⟩ := und_slice hT ht
    have hsz := sizeOf_run (P := P) hT (w := w) hk
    split at h
    · rename_i rows len
      split at h
      · rename_i hi
        split at h
        · rename_i r hr
          split at h
          · rename_i hl
            cases h
            have hI := hv.sl_inv
            cases hI with
            | sl a _ cap _ esz g off vals h1 h2 hrow ha hc hvv =>
              have hmem : r ∈ rows := List.mem_of_getElem? hr
              have hne : rows ≠ [] := by intro h0; rw [h0] at hmem; cases hmem
              have ha' := ha hne
              subst ha'
              have hesz : esz = (T e).size := by rw [← hl]; exact (hrow r hmem).symm
              subst hesz
              refine ⟨_, by simp [Instr.indexAt, asIntOf, run_underlying hu, hi, hsz, Addr.add_plain]; rfl, .imm _ _ ?_⟩
              have hlt : i.toNat < rows.length := (List.getElem?_eq_some_iff.1 hr).1
              refine .mem g (off + i.toNat * (T e).size) r (fun j => vals i.toNat j) (fun j hj => ?_) (fun j d hd => hvv i.toNat j r d hr hd)
              exact hc i.toNat j hlt (by rw [← hl]; exact hj)
          · cases h
        · cases h
      · cases h
    · rename_i b off len
      split at h
      · rename_i hi
        split at h
        · rename_i kb hb
          split at h
          · rename_i hesz
            cases h
            obtain ⟨kb', hb', hlike⟩ := hE b kb hb
            rcases hv.ref_inv with ⟨cap, g, base, n, rl, esz, rfl, hat, h1, h2, h3⟩ | ⟨a, rfl, _, _, rfl⟩
            · have hA := hS.at_ b kb' g base n rl esz hb' hat
              have hz : esz = (T e).size := by rw [hA.hesz, hlike.esz, hesz]
              subst hz
              refine ⟨_, by simp [Instr.indexAt, asIntOf, run_underlying hu, hi, hsz, Addr.add_plain]; rfl, ?_⟩
              have : base + off * (T e).size + i.toNat * (T e).size = base + (off + i.toNat) * (T e).size + 0 := by rw [Nat.add_mul]; omega
              rw [this]
              exact .ptr _ _ _ g base n rl _ hat
            · omega
          · cases h
        · cases h
      · cases h
    · cases h
  · rename_i n e ht
    obtain ⟨hu, hk⟩ := und_arr hT ht
    have hsz := sizeOf_run (P := P) hT (w := w) hk
    split at h
    · rename_i hi
      split at h
      · cases h
        obtain ⟨g, o, rfl⟩ := hv.mem_inv.mem_addr
        exact ⟨_, by simp [Instr.indexAt, asIntOf, run_underlying hu, hi, hsz, Addr.add_plain, Instr.sureAddr], .imm _ _ (hv.mem_inv.drop _)⟩
      · cases h
        obtain ⟨g, base, n, rl, esz, rfl, hat⟩ := hv.ptr_inv
        refine ⟨_, by simp [Instr.indexAt, asIntOf, run_underlying hu, hi, hsz, Addr.add_plain, Instr.sureAddr]; rfl, ?_⟩
        rw [Nat.add_assoc]
        exact .ptr _ _ _ g base n rl esz hat
      · cases h
    · cases h
  · cases h

theorem Store.row_cells (hS : Store M0 ρ bs w) (hE : Ext bsE bs) {b g base n rl esz i j : Nat} {k : Blk} {r : List D} (hat : ρ b = .at_ g base n rl esz) (hb : bsE[b]? = some k) (hr : k.rows[i]? = some r) :
    ∀ (m : Nat) (d : D), (r.drop j)[m]? = some d → ∃ v, w.cell? ⟨g, base + i * esz + j + m, none⟩ = some v ∧ Rep w (Mof M0 ρ bs) ρ v d := by
  intro m d hd
  obtain ⟨k', hb', hlike⟩ := hE b k hb
  rw [List.getElem?_drop] at hd
  have := hS.cell (i := i) (j := j + m) hat hb' (by rw [hlike.rows]; exact hr) hd
  rwa [← Nat.add_assoc] at this

theorem load_run {t : Nat} {d d' : D} {v : Value} (hT : TabOk P T eqs) (hS : Store M0 ρ bs w) (hE : Ext bsE bs) (hv : Rep w (Mof M0 ρ bs) ρ v d)
    (h : loadD T bsE t d = some d') :
    ∃ v', (Instr.loadAt t v).run P w = .ok v' w ∧ Rep w (Mof M0 ρ bs) ρ v' d' := by
  cases d <;> simp only [loadD] at h <;> try cases h
  · rename_i cs
    obtain ⟨g, o, rfl⟩ := hv.mem_inv.mem_addr
    obtain ⟨v', hrun, hrep⟩ := ld_run hT (w := w) (M := Mof M0 ρ bs) (ρ := ρ) h (fun j d hd => by
      obtain ⟨u, hu, hr⟩ := hv.mem_inv.mem_cell j d hd
      exact ⟨u, hu, .imm _ _ hr⟩)
    exact ⟨v', by simp [Instr.loadAt, Instr.sureAddr, hrun], hrep⟩
  · rename_i b i j
    split at h
    · rename_i k hb
      split at h
      · rename_i r hr
        obtain ⟨g, base, n, rl, esz, rfl, hat⟩ := hv.ptr_inv
        obtain ⟨v', hrun, hrep⟩ := ld_run hT (w := w) (M := Mof M0 ρ bs) (ρ := ρ) h (hS.row_cells hE hat hb hr)
        exact ⟨v', by simp [Instr.loadAt, Instr.sureAddr, hrun], hrep⟩
      · cases h
    · cases h
end
end Go.AM
/- AM: slices of slices; what stays. -/
namespace Go.AM
set_option linter.unusedSimpArgs false
set_option linter.unusedVariables false
open Go.RowKit (Below)

section
variable {P : Program} {T : Tab} {eqs : List Nat} {M0 : Foot} {ρ : Nat → Loc} {bs bsE : List Blk} {w : World}

/-- The rows of a block that is appended to alone, or of a variable that stays, do not turn. -/
theorem Store.stable (hS : Store M0 ρ bs w) {b g base n rl esz o : Nat} {k : Blk} (hb : bs[b]? = some k) (hat : ρ b = .at_ g base n rl esz) (hk : k.kind ≠ .box ∧ k.kind ≠ .mut) (ho : o < base + rl * esz) :
    ¬ Mof M0 ρ bs g o := by
  rintro (h | ⟨i, b', base', n', rl', esz', hi, hat', hk'⟩)
  · exact hS.m0 b g _ _ _ _ hat o h
  · have := hS.inj i b g _ _ _ _ _ _ _ _ hat' hat
    subst this
    rw [hat] at hat'
    cases hat'
    rw [hb] at hi
    cases hi
    rcases hk' with h | h | h
    · exact hk.1 h
    · exact hk.2 h
    · omega

/-- A slice in such a block, as what stays. -/
theorem Store.frz_ref (hS : Store M0 ρ bs w) {M' : Foot} (hp : Pres w (Mof M0 ρ bs) w M') {b off len : Nat} {k : Blk} {v : Value} (hb : bs[b]? = some k)
    (hst : ∀ g base n rl esz, ρ b = .at_ g base n rl esz → ∀ o, o < base + rl * esz → ¬ M' g o) (hbox : k.kind.isBox = false)
    (hv : Rep w (Mof M0 ρ bs) ρ v (.ref b off len)) : RepI w M' v (.sl (k.rows.drop off) len) := by
  rcases hv.ref_inv with ⟨cap, g, base, n, rl, esz, rfl, hat, h1, h2, h3⟩ | ⟨a, rfl, hvirt, rfl, rfl⟩
  · have hA := hS.at_ b k g base n rl esz hb hat
    obtain ⟨arr, Ty, hg, hs, hc⟩ := hA.cells
    have hrl := hA.hrl
    refine .sl _ len cap _ esz g (base + off * esz) (fun i j => (arr[base + (off + i) * esz + j]?).getD Go.undef) (by simp; omega) (by simp; omega) (fun r hr => hA.hrow r (List.mem_of_mem_drop hr)) (fun _ => rfl) ?_ ?_
    · intro i j hi hj
      have hi' : off + i < k.rows.length := by simp at hi; omega
      have hpos : base + off * esz + i * esz + j = base + (off + i) * esz + j := by rw [Nat.add_mul]; omega
      have hbound : base + (off + i) * esz + j < base + rl * esz := by
        have : (off + i + 1) * esz ≤ rl * esz := Nat.mul_le_mul_right _ (by omega)
        rw [Nat.add_mul (off + i) 1 esz] at this
        omega
      rw [hpos]
      refine ⟨hst _ _ _ _ _ hat _ hbound, ?_⟩
      have hrow : k.rows[off + i].length = esz := hA.hrow _ (List.getElem_mem hi')
      obtain ⟨u, hu, _⟩ := hc (off + i) j k.rows[off + i] (k.rows[off + i][j]'(by omega)) (by simp [hi']) (by simp)
      simp [World.cell?, hg, hu]
    · intro i j r d hr hd
      rw [List.getElem?_drop] at hr
      obtain ⟨u, hu, hrep⟩ := hc (off + i) j r d hr hd
      simp only [hu, Option.getD_some]
      rw [if_neg (by simp [hbox])] at hrep
      exact hrep.move hp
  · have := (hS.virt b k hb hvirt).1
    rw [this]
    exact .sl _ 0 0 _ 0 0 0 (fun _ _ => Go.undef) (by simp) (by simp) (by simp) (by simp) (by simp) (by simp)

def OptRep (w : World) (M : Foot) (ρ : Nat → Loc) : Option Value → Option D → Prop
  | none, none => True
  | some v, some d => Rep w M ρ v d
  | _, _ => False

theorem bound_run {M : Foot} {x' : Option Value} {x : Option D} {dflt n : Int} (hx : OptRep w M ρ x' x) (h : boundD dflt x = some n) : (x' = none ∧ n = dflt) ∨ ∃ k, x' = some (.int k n) := by
  cases x' <;> cases x <;> simp only [OptRep] at hx
  · simp [boundD] at h; exact .inl ⟨rfl, h.symm⟩
  · rename_i v d
    cases d <;> simp [boundD] at h
    subst h
    rw [hx.int_inv]
    exact .inr ⟨_, rfl⟩

theorem sliceB2_run {M : Foot} {lo' hi' : Option Value} {lo hi : Option D} {len cap : Nat} {l h : Int} (hlo : OptRep w M ρ lo' lo) (hhi : OptRep w M ρ hi' hi) (h1 : boundD 0 lo = some l) (h2 : boundD len hi = some h)
    (h3 : 0 ≤ l) (h4 : l ≤ h) (h5 : h ≤ cap) : (Instr.sliceBounds true len cap lo' hi' none).run P w = .ok (l.toNat, h.toNat, cap) w := by
  rcases bound_run hlo h1 with ⟨rfl, rfl⟩ | ⟨k, rfl⟩ <;> rcases bound_run hhi h2 with ⟨rfl, rfl⟩ | ⟨k', rfl⟩
  · simp [Instr.sliceBounds]
  · simp [Instr.sliceBounds, run_sliceBound _ k' h cap _ (by omega) h5]
  · simp [Instr.sliceBounds, run_sliceBound _ k l len _ h3 (by omega)]
  · have hh : (h.toNat : Int) = h := by omega
    simp [Instr.sliceBounds, run_sliceBound _ k' h cap _ (by omega) h5, run_sliceBound _ k l h.toNat _ h3 (by omega)]

theorem sliceB3_run {M : Foot} {lo' : Option Value} {lo : Option D} {kh km : IntKind} {len cap : Nat} {l h m : Int} (hlo : OptRep w M ρ lo' lo) (h1 : boundD 0 lo = some l)
    (h3 : 0 ≤ l) (h4 : l ≤ h) (h5 : h ≤ m) (h6 : m ≤ cap) : (Instr.sliceBounds true len cap lo' (some (.int kh h)) (some (.int km m))).run P w = .ok (l.toNat, h.toNat, m.toNat) w := by
  rcases bound_run hlo h1 with ⟨rfl, rfl⟩ | ⟨k, rfl⟩
  · simp [Instr.sliceBounds, run_sliceBound _ km m cap _ (by omega) h6, run_sliceBound _ kh h m.toNat _ (by omega) (by omega)]
  · simp [Instr.sliceBounds, run_sliceBound _ km m cap _ (by omega) h6, run_sliceBound _ kh h m.toNat _ (by omega) (by omega), run_sliceBound _ k l h.toNat _ h3 (by omega)]

/-- What a slice expression makes of a slice whose cells stay. -/
theorem RepI.cut {M : Foot} {a : Option Addr} {len cap l h m : Nat} {rows : List (List D)} {sz : Nat} (hv : RepI w M (.slice a len cap) (.sl rows len)) (hl : l ≤ h) (hh : h ≤ m) (hm : m ≤ cap) (hr : h ≤ rows.length)
    (hall : ∀ r ∈ rows, r.length = sz) : RepI w M (.slice (if m = l then a else a.map (·.add (l * sz))) (h - l) (m - l)) (.sl ((rows.drop l).take (m - l)) (h - l)) := by
  cases hv with
  | sl _ _ _ _ esz g off vals h1 h2 hrow ha hc hvv =>
    refine .sl _ _ _ _ sz g (off + l * sz) (fun i j => vals (l + i) j) (by simp; omega) (by simp; omega) (fun r hx => hall r (List.mem_of_mem_drop (List.mem_of_mem_take hx))) ?_ ?_ ?_
    · intro hne
      have hlt : l < rows.length ∧ l < m := by
        constructor
        · rcases Nat.lt_or_ge l rows.length with h' | h'
          · exact h'
          · rw [List.drop_eq_nil_of_le h'] at hne; simp at hne
        · rcases Nat.lt_or_ge l m with h' | h'
          · exact h'
          · rw [show m - l = 0 by omega] at hne; simp at hne
      rw [if_neg (by omega), ha (by intro h0; rw [h0] at hlt; simp at hlt)]
      simp [Addr.add_plain]
    · intro i j hi hj
      have hi' : l + i < rows.length := by simp at hi; omega
      have hesz : esz = sz := by rw [← hall _ (List.getElem_mem hi'), hrow _ (List.getElem_mem hi')]
      subst hesz
      have := hc (l + i) j hi' hj
      rwa [show off + (l + i) * esz + j = off + l * esz + i * esz + j by rw [Nat.add_mul]; omega] at this
    · intro i j r d hr' hd
      rw [List.getElem?_take] at hr'
      split at hr'
      · rw [List.getElem?_drop] at hr'
        exact hvv (l + i) j r d hr' hd
      · cases hr'

theorem slice_run {t : Nat} {d : D} {v : Value} {lo' hi' mx' : Option Value} {lo hi mx : Option D} {out : Out} (hT : TabOk P T eqs) (hS : Store M0 ρ bs w) (hE : Ext bsE bs)
    (hv : Rep w (Mof M0 ρ bs) ρ v d) (hlo : OptRep w (Mof M0 ρ bs) ρ lo' lo) (hhi : OptRep w (Mof M0 ρ bs) ρ hi' hi) (hmx : OptRep w (Mof M0 ρ bs) ρ mx' mx)
    (h : sliceD T bsE t d lo hi mx = some out) (hdown : ∀ b ∈ out.down, ∀ k, bs[b]? = some k → k.kind ≠ .box ∧ k.kind ≠ .mut) :
    out.news = [] ∧ ∃ v', (Instr.sliceAt t v lo' hi' mx').run P w = .ok v' w ∧ Rep w (Mof M0 ρ bs) ρ v' out.d := by
  unfold sliceD at h
  split at h
  · rename_i e ht
    obtain ⟨hu, hk⟩ := und_slice hT ht
    have hsz := sizeOf_run (P := P) hT (w := w) hk
    cases mx with
    | none =>
      have hmx' : mx' = none := by cases mx' <;> simp [OptRep] at hmx ⊢
      subst hmx'
      simp only at h
      split at h
      · -- nil
        obtain ⟨a, rfl⟩ := hv.nil_inv
        split at h
        · rename_i l hh h1 h2
          split at h
          · rename_i hc
            obtain ⟨rfl, rfl⟩ := hc
            cases h
            have hb := sliceB2_run (P := P) (len := 0) (cap := 0) hlo hhi h1 h2 (by omega) (by omega) (by omega)
            exact ⟨rfl, _, by simp [Instr.sliceAt, Instr.slice, run_underlying hu, hb, hsz], .imm _ _ (.nil a)⟩
          · cases h
        · cases h
      · -- what stays
        rename_i rows len
        have hI := hv.sl_inv
        obtain ⟨a, cap, rfl, hcap⟩ : ∃ a cap, v = .slice a len cap ∧ rows.length ≤ cap := by cases hI with | sl a _ cap _ _ _ _ _ _ h2 => exact ⟨a, cap, rfl, h2⟩
        split at h
        · rename_i l hh h1 h2
          split at h
          · rename_i hc
            obtain ⟨h3, h4, h5⟩ := hc
            split at h
            · rename_i hall
              cases h
              have hb := sliceB2_run (P := P) (len := len) (cap := cap) hlo hhi h1 h2 h3 h4 (by omega)
              refine ⟨rfl, _, by simp [Instr.sliceAt, Instr.slice, run_underlying hu, hb, hsz]; rfl, .imm _ _ ?_⟩
              have hcut := hI.cut (l := l.toNat) (h := hh.toNat) (m := cap) (by omega) (by omega) (by omega) (by omega) hall
              rw [List.take_of_length_le (by simp; omega)] at hcut
              rw [show (hh - l).toNat = hh.toNat - l.toNat by omega]
              exact hcut
            · cases h
          · cases h
        · cases h
      · -- an own block
        rename_i b off len
        split at h
        · rename_i l hh k h1 h2 hb
          split at h
          · rename_i hc
            obtain ⟨h3, h4, h5, h6⟩ := hc
            obtain ⟨k', hb', hlike⟩ := hE b k hb
            rcases hv.ref_inv with ⟨cap, g, base, n, rl, esz, rfl, hat, g1, g2, g3⟩ | ⟨a, rfl, hvirt, rfl, rfl⟩
            · have hA := hS.at_ b k' g base n rl esz hb' hat
              have hz : esz = (T e).size := by rw [hA.hesz, hlike.esz, h6]
              have hrl : rl = k.rows.length := by rw [hA.hrl, hlike.rows]
              have hbr := sliceB2_run (P := P) (len := len) (cap := cap) hlo hhi h1 h2 h3 h4 (by omega)
              split at h
              · rename_i hl0
                subst hl0
                cases h
                refine ⟨rfl, _, by simp [Instr.sliceAt, Instr.slice, run_underlying hu, hbr, hsz, Addr.add]; rfl, ?_⟩
                exact .ref b off hh.toNat cap g base n rl esz hat (by omega) g2 g3
              · rename_i hl0
                split at h
                · rename_i hlt
                  cases h
                  refine ⟨rfl, _, by simp [Instr.sliceAt, Instr.slice, run_underlying hu, hbr, hsz, Addr.add_plain, show cap ≠ l.toNat by omega]; rfl, ?_⟩
                  rw [show (hh - l).toNat = hh.toNat - l.toNat by omega, ← hz, show base + off * esz + l.toNat * esz = base + (off + l.toNat) * esz by rw [Nat.add_mul]; omega]
                  refine .ref b (off + l.toNat) (hh.toNat - l.toNat) (cap - l.toNat) g base n rl esz hat (by omega) (by omega) ?_
                  rw [show off + l.toNat + (cap - l.toNat) = off + cap by omega]
                  exact g3
                · cases h
                  refine ⟨rfl, _, by simp [Instr.sliceAt, Instr.slice, run_underlying hu, hbr, hsz]; rfl, .imm _ _ ?_⟩
                  rw [show hh.toNat - l.toNat = 0 by omega]
                  exact .sl _ 0 _ _ 0 0 0 (fun _ _ => Go.undef) (by simp) (by simp) (by simp) (by simp) (by simp) (by simp)
            · have hrows := (hS.virt b k' hb' hvirt).1
              rw [hlike.rows] at hrows
              rw [hrows] at h5
              simp at h5
              obtain ⟨rfl, rfl⟩ : l = 0 ∧ hh = 0 := by omega
              have hbr := sliceB2_run (P := P) (len := 0) (cap := 0) hlo hhi h1 h2 h3 h4 (by omega)
              simp at h
              cases h
              exact ⟨rfl, _, by simp [Instr.sliceAt, Instr.slice, run_underlying hu, hbr, hsz], .refV b a hvirt⟩
          · cases h
        · cases h
      · cases h
    | some m =>
      cases h1 : boundD 0 lo with
      | none => simp [h1] at h
      | some l =>
       cases hi with
       | none => simp [h1] at h
       | some dh =>
        cases dh <;> simp only [h1] at h <;> try cases h
        rename_i kh hh
        cases m <;> simp only at h <;> try cases h
        rename_i km mm
        obtain ⟨vm, rfl⟩ : ∃ vm, mx' = some vm := by cases mx' <;> simp [OptRep] at hmx ⊢
        obtain ⟨vh, rfl⟩ : ∃ vh, hi' = some vh := by cases hi' <;> simp [OptRep] at hhi ⊢
        have e1 := Rep.int_inv (show Rep w _ ρ vm _ from hmx)
        have e2 := Rep.int_inv (show Rep w _ ρ vh _ from hhi)
        subst e1 e2
        split at h
        · rename_i hc
          obtain ⟨h3, h4, h5⟩ := hc
          -- a slice that stays
          have imm : ∀ (rows : List (List D)) (a : Option Addr) (len cap : Nat), RepI w (Mof M0 ρ bs) (.slice a len cap) (.sl rows len) → rows.length ≤ cap → mm ≤ rows.length → (∀ r ∈ rows, r.length = (T e).size) →
              ∃ v', (Instr.sliceAt t (.slice a len cap) lo' (some (.int kh hh)) (some (.int km mm))).run P w = .ok v' w ∧
                RepI w (Mof M0 ρ bs) v' (.sl ((rows.drop l.toNat).take (mm - l).toNat) (hh - l).toNat) ∧ (mm = l → ∃ a, v' = .slice a 0 0) := by
            intro rows a len cap hI hcap hm hall
            have hb := sliceB3_run (P := P) (len := len) (cap := cap) (kh := kh) (km := km) hlo h1 h3 h4 h5 (by omega)
            refine ⟨_, by simp [Instr.sliceAt, Instr.slice, run_underlying hu, hb, hsz]; rfl, ?_, ?_⟩
            · have hcut := hI.cut (l := l.toNat) (h := hh.toNat) (m := mm.toNat) (by omega) (by omega) (by omega) (by omega) hall
              rw [show (hh - l).toNat = hh.toNat - l.toNat by omega, show (mm - l).toNat = mm.toNat - l.toNat by omega]
              exact hcut
            · intro he
              rw [show hh.toNat - l.toNat = 0 by omega, show mm.toNat - l.toNat = 0 by omega]
              exact ⟨_, rfl⟩
          -- of capacity 0, whatever its cells
          have zero : ∀ (a : Option Addr) (len cap : Nat), mm ≤ cap → mm = l → ∃ v' a', (Instr.sliceAt t (.slice a len cap) lo' (some (.int kh hh)) (some (.int km mm))).run P w = .ok v' w ∧ v' = .slice a' 0 0 := by
            intro a len cap hm he
            have hb := sliceB3_run (P := P) (len := len) (cap := cap) (kh := kh) (km := km) hlo h1 h3 h4 h5 hm
            refine ⟨.slice (if mm.toNat = l.toNat then a else a.map (·.add (l.toNat * (T e).size))) 0 0, _, ?_, rfl⟩
            simp [Instr.sliceAt, Instr.slice, run_underlying hu, hb, hsz]
            omega
          split at h
          · split at h
            · rename_i hm0
              cases h
              obtain ⟨a, rfl⟩ := hv.nil_inv
              obtain ⟨v', a', hrun, rfl⟩ := zero a 0 0 (by omega) (by omega)
              exact ⟨rfl, _, hrun, .imm _ _ (.nil _)⟩
            · cases h
          · rename_i rows len
            have hI := hv.sl_inv
            obtain ⟨a, cap, rfl, hcap⟩ : ∃ a cap, v = .slice a len cap ∧ rows.length ≤ cap := by cases hI with | sl a _ cap _ _ _ _ _ _ h2 => exact ⟨a, cap, rfl, h2⟩
            split at h
            · rename_i hm
              split at h
              · rename_i he
                cases h
                obtain ⟨v', a', hrun, rfl⟩ := zero a len cap (by omega) he
                exact ⟨rfl, _, hrun, .imm _ _ (.nil _)⟩
              · split at h
                · rename_i hall
                  cases h
                  obtain ⟨v', hrun, hrep, _⟩ := imm rows a len cap hI hcap hm hall
                  exact ⟨rfl, _, hrun, .imm _ _ hrep⟩
                · cases h
            · cases h
          · rename_i b off len
            split at h
            · rename_i k hb
              obtain ⟨k', hb', hlike⟩ := hE b k hb
              split at h
              · rename_i hc
                obtain ⟨hm, hes, hbox⟩ := hc
                split at h
                · rename_i he
                  cases h
                  rcases hv.ref_inv with ⟨cap, g, base, n, rl, esz, rfl, hat, g1, g2, g3⟩ | ⟨a, rfl, hvirt, rfl, rfl⟩
                  · have hA := hS.at_ b k' g base n rl esz hb' hat
                    have hrl : rl = k.rows.length := by rw [hA.hrl, hlike.rows]
                    obtain ⟨v', a', hrun, rfl⟩ := zero (some ⟨g, base + off * esz, none⟩) len cap (by omega) he
                    exact ⟨rfl, _, hrun, .imm _ _ (.nil _)⟩
                  · have hrows := (hS.virt b k' hb' hvirt).1
                    rw [hlike.rows] at hrows
                    rw [hrows] at hm
                    simp at hm
                    obtain ⟨v', a', hrun, rfl⟩ := zero a 0 0 (by omega) he
                    exact ⟨rfl, _, hrun, .imm _ _ (.nil _)⟩
                · rename_i he
                  cases h
                  have hkk := hdown b (by simp) k' hb'
                  have hI := hS.frz_ref (Pres.refl _ _) hb' (fun g base n rl esz hat o ho => hS.stable hb' hat hkk ho) (by rw [hlike.box]; exact hbox) hv
                  rw [hlike.rows] at hI
                  have hall : ∀ r ∈ k.rows.drop off, r.length = (T e).size := by
                    intro r hr
                    rcases hv.ref_inv with ⟨cap, g, base, n, rl, esz, rfl, hat, g1, g2, g3⟩ | ⟨a, rfl, hvirt, rfl, rfl⟩
                    · have hA := hS.at_ b k' g base n rl esz hb' hat
                      rw [hA.hrow r (by rw [hlike.rows]; exact List.mem_of_mem_drop hr), hA.hesz, hlike.esz, hes]
                    · have hrows := (hS.virt b k' hb' hvirt).1
                      rw [hlike.rows] at hrows
                      rw [hrows] at hr
                      simp at hr
                  obtain ⟨a, cap, rfl, hcap⟩ : ∃ a cap, v = .slice a len cap ∧ (k.rows.drop off).length ≤ cap := by cases hI with | sl a _ cap _ _ _ _ _ _ h2 => exact ⟨a, cap, rfl, h2⟩
                  obtain ⟨v', hrun, hrep, _⟩ := imm (k.rows.drop off) a len cap hI hcap (by simp; omega) hall
                  rw [List.drop_drop] at hrep
                  exact ⟨rfl, _, hrun, .imm _ _ hrep⟩
              · cases h
            · cases h
          · cases h
        · cases h
  · cases h
end
end Go.AM
/- AM: what is frozen; what is built. -/
namespace Go.AM
set_option linter.unusedSimpArgs false
set_option linter.unusedVariables false
open Go.RowKit (Below)

section
variable {P : Program} {T : Tab} {eqs : List Nat} {M0 : Foot} {ρ : Nat → Loc} {bs bsE : List Blk} {w : World}

/-- The block's told cells don't turn under M'. -/
def Still (ρ : Nat → Loc) (M' : Foot) (b : Nat) : Prop := ∀ g base n rl esz, ρ b = .at_ g base n rl esz → ∀ o, o < base + rl * esz → ¬ M' g o

theorem idsL_mem {cs : List D} {d : D} {b : Nat} (hd : d ∈ cs) (hb : b ∈ d.ids) : b ∈ idsL cs := by
  induction cs with
  | nil => cases hd
  | cons c cs ih =>
    simp only [idsL, List.mem_append]
    cases hd with
    | head => exact .inl hb
    | tail _ h => exact .inr (ih h)

theorem RepI.freeze0 {M : Foot} {v : Value} {d : D} (h : RepI w M v d) (bsE : List Blk) : d.freeze0 bsE = d := by
  cases h <;> rfl

theorem Store.freeze0 (hS : Store M0 ρ bs w) (hE : Ext bsE bs) {M' : Foot} (hp : Pres w (Mof M0 ρ bs) w M') {v : Value} {d : D} (hv : Rep w (Mof M0 ρ bs) ρ v d) (hst : ∀ b ∈ d.ids, Still ρ M' b) :
    RepI w M' v (d.freeze0 bsE) := by
  cases hv with
  | imm _ _ h => rw [h.freeze0]; exact h.move hp
  | ref b off len cap g base n rl esz hρ h1 h2 h3 =>
    simp only [D.freeze0, frzRef]
    split
    · rename_i k hb
      split
      · exact .undef _
      · rename_i hbox
        obtain ⟨k', hb', hlike⟩ := hE b k hb
        have := hS.frz_ref hp hb' (hst b (by simp [D.ids])) (by rw [hlike.box]; simpa using hbox) (.ref b off len cap g base n rl esz hρ h1 h2 h3)
        rwa [hlike.rows] at this
    · exact .undef _
  | refV b a hρ =>
    simp only [D.freeze0, frzRef]
    split
    · rename_i k hb
      split
      · exact .undef _
      · rename_i hbox
        obtain ⟨k', hb', hlike⟩ := hE b k hb
        have := hS.frz_ref hp hb' (hst b (by simp [D.ids])) (by rw [hlike.box]; simpa using hbox) (.refV b a hρ)
        rwa [hlike.rows] at this
    · exact .undef _
  | _ => exact .undef _

def noLoc : Nat → Loc := fun _ => .absent

theorem mem_behind {bs : List Blk} {b i : Nat} {k : Blk} {r : List D} {d : D} {x : Nat} (hb : bs[b]? = some k) (hr : k.rows[i]? = some r) (hd : d ∈ r) (hx : x ∈ d.ids) : x ∈ behind bs b := by
  simp only [behind, hb, List.mem_flatMap]
  exact ⟨r, List.mem_of_getElem? hr, idsL_mem hd hx⟩

theorem mem_reach {bs : List Blk} {ids : List Nat} {b x : Nat} (hb : b ∈ ids) (hx : x = b ∨ x ∈ behind bs b) : x ∈ reach bs ids := by
  simp only [reach, List.mem_append, List.mem_flatMap]
  rcases hx with rfl | hx
  · exact .inl hb
  · exact .inr ⟨b, hb, hx⟩

theorem Store.frzPtr (hS : Store M0 ρ bs w) (hE : Ext bsE bs) {M' : Foot} (hp : Pres w (Mof M0 ρ bs) w M') {v : Value} {b i j : Nat} (hv : Rep w (Mof M0 ρ bs) ρ v (.ptr b i j))
    (hst : ∀ x, x = b ∨ x ∈ behind bsE b → Still ρ M' x) : RepI w M' v (frzPtr bsE b i j) := by
  unfold AM.frzPtr
  split
  · rename_i k hb
    split
    · rename_i r hr
      obtain ⟨g, base, n, rl, esz, rfl, hat⟩ := hv.ptr_inv
      obtain ⟨k', hb', hlike⟩ := hE b k hb
      have hA := hS.at_ b k' g base n rl esz hb' hat
      obtain ⟨arr, Ty, hg, hs, hc⟩ := hA.cells
      have hlen : r.length = esz := hA.hrow r (by rw [hlike.rows]; exact List.mem_of_getElem? hr)
      have hi : i < rl := by rw [hA.hrl, hlike.rows]; exact (List.getElem?_eq_some_iff.1 hr).1
      refine .mem g (base + i * esz + j) _ (fun m => (arr[base + i * esz + j + m]?).getD Go.undef) (fun m hm => ?_) (fun m d hd => ?_)
      · simp only [List.length_map, List.length_drop] at hm
        have hbound : base + i * esz + j + m < base + rl * esz := by
          have h1 : (i + 1) * esz ≤ rl * esz := Nat.mul_le_mul_right _ (by omega)
          rw [Nat.add_mul i 1 esz] at h1
          omega
        refine ⟨hst b (.inl rfl) _ _ _ _ _ hat _ hbound, ?_⟩
        obtain ⟨u, hu, _⟩ := hc i (j + m) r (r[j + m]'(by omega)) (by rw [hlike.rows]; exact hr) (by simp)
        rw [← Nat.add_assoc] at hu
        simp [World.cell?, hg, hu]
      · rw [List.getElem?_map, List.getElem?_drop] at hd
        cases hx : r[j + m]? with
        | none => simp [hx] at hd
        | some d0 =>
          simp [hx] at hd
          subst hd
          obtain ⟨u, hu, hrep⟩ := hc i (j + m) r d0 (by rw [hlike.rows]; exact hr) hx
          rw [← Nat.add_assoc] at hu
          simp only [hu, Option.getD_some]
          refine hS.freeze0 hE hp ?_ (fun x hxx => hst x (.inr (mem_behind hb hr (List.mem_of_getElem? hx) hxx)))
          split at hrep
          · exact hrep
          · exact .imm _ _ hrep
    · exact .undef _
  · exact .undef _

/-- What is handed on, the own blocks told by what they hold. -/
theorem Store.freeze (hS : Store M0 ρ bs w) (hE : Ext bsE bs) {M' : Foot} (hp : Pres w (Mof M0 ρ bs) w M') {v : Value} {d : D} (hv : Rep w (Mof M0 ρ bs) ρ v d)
    (hst : ∀ x ∈ reach bsE d.ids, Still ρ M' x) : Rep w M' noLoc v (d.freeze bsE) := by
  have lift : ∀ (vs : Array Value) (cs : List D), (∀ (i : Nat) (v : Value) (d : D), vs[i]? = some v → cs[i]? = some d → (∀ x ∈ reach bsE d.ids, Still ρ M' x) → Rep w M' noLoc v (d.freeze bsE)) →
      (∀ x ∈ reach bsE (idsL cs), Still ρ M' x) → ∀ (i : Nat) (v : Value) (d : D), vs[i]? = some v → (cs.map (D.freeze bsE))[i]? = some d → Rep w M' noLoc v d := by
    intro vs cs h hst i v d hv hd
    rw [List.getElem?_map] at hd
    cases hc : cs[i]? with
    | none => simp [hc] at hd
    | some d0 =>
      simp [hc] at hd
      subst hd
      refine h i v d0 hv hc fun x hx => hst x ?_
      simp only [reach, List.mem_append, List.mem_flatMap] at hx ⊢
      rcases hx with hx | ⟨b, hb, hx⟩
      · exact .inl (idsL_mem (List.mem_of_getElem? hc) hx)
      · exact .inr ⟨b, idsL_mem (List.mem_of_getElem? hc) hb, hx⟩
  have sub : ∀ {a b : List Nat}, (∀ x, x ∈ a → x ∈ b) → ∀ x, x ∈ reach bsE a → x ∈ reach bsE b := by
    intro a b h x hx
    simp only [reach, List.mem_append, List.mem_flatMap] at hx ⊢
    rcases hx with hx | ⟨y, hy, hx⟩
    · exact .inl (h x hx)
    · exact .inr ⟨y, h y hy, hx⟩
  unfold D.freeze at *
  induction hv with
  | imm v d h => rw [h.mapR]; exact .imm _ _ (h.move hp)
  | ref b off len cap g base n rl esz hρ h1 h2 h3 =>
    have := hS.freeze0 hE hp (.ref b off len cap g base n rl esz hρ h1 h2 h3) (fun x hx => hst x (mem_reach hx (.inl rfl)))
    exact .imm _ _ this
  | refV b a hρ =>
    have := hS.freeze0 hE hp (.refV b a hρ) (fun x hx => hst x (mem_reach hx (.inl rfl)))
    exact .imm _ _ this
  | ptr b i j g base n rl esz hρ =>
    exact .imm _ _ (hS.frzPtr hE hp (.ptr b i j g base n rl esz hρ) (fun x hx => hst x (mem_reach (by simp [D.ids]) hx)))
  | agg vs cs hs _ ih => simp only [D.mapR, mapRL_eq]; exact .agg vs _ (by simpa using hs) (lift _ _ ih hst)
  | tup vs cs hs _ ih => simp only [D.mapR, mapRL_eq]; exact .tup vs _ (by simpa using hs) (lift _ _ ih hst)
  | fn f va vc a c ha hc _ _ ih1 ih2 =>
    simp only [D.mapR, mapRL_eq]
    exact .fn f va vc _ _ (by simpa using ha) (by simpa using hc) (lift _ _ ih1 fun x hx => hst x (sub (fun y hy => by simp [D.ids, hy]) x hx))
      (lift _ _ ih2 fun x hx => hst x (sub (fun y hy => by simp [D.ids, hy]) x hx))

/-! #### What is built -/
theorem fold_get (off : Nat) : ∀ (cs : List Value) (j0 : Nat) (arr : Array Value) (i : Nat), off + j0 + cs.length ≤ arr.size →
    ((cs.zipIdx j0).foldl (fun (a : Array Value) (p : Value × Nat) => a.setIfInBounds (off + p.2) p.1) arr)[i]? =
      if off + j0 ≤ i ∧ i < off + j0 + cs.length then cs[i - (off + j0)]? else arr[i]? := by
  intro cs
  induction cs with
  | nil => intro j0 arr i h; simp only [List.zipIdx_nil, List.foldl_nil]; rw [if_neg (by simp only [List.length_nil]; omega)]
  | cons c cs ih =>
    intro j0 arr i h
    simp only [List.length_cons] at h
    simp only [List.zipIdx_cons, List.foldl_cons]
    rw [ih (j0 + 1) _ i (by simp; omega)]
    by_cases h1 : off + (j0 + 1) ≤ i ∧ i < off + (j0 + 1) + cs.length
    · rw [if_pos h1, if_pos (by simp only [List.length_cons]; omega), show i - (off + j0) = (i - (off + (j0 + 1))) + 1 by omega, List.getElem?_cons_succ]
    · rw [if_neg h1]
      by_cases h2 : i = off + j0
      · subst h2
        rw [if_pos (by simp only [List.length_cons]; omega), Array.getElem?_setIfInBounds_self_of_lt (by omega)]
        simp
      · rw [if_neg (by simp only [List.length_cons]; omega), Array.getElem?_setIfInBounds_ne (by omega)]

theorem fold_size (off : Nat) : ∀ (l : List (Value × Nat)) (arr : Array Value), (l.foldl (fun (a : Array Value) (p : Value × Nat) => a.setIfInBounds (off + p.2) p.1) arr).size = arr.size := by
  intro l
  induction l with
  | nil => intro arr; rfl
  | cons p l ih => intro arr; simp only [List.foldl_cons]; rw [ih]; simp

theorem zip_fold (off : Nat) (vs arr : Array Value) : vs.zipIdx.foldl (fun cs (x : Value × Nat) => match x with | (c, j) => cs.setIfInBounds (off + j) c) arr =
    (vs.toList.zipIdx 0).foldl (fun (a : Array Value) (p : Value × Nat) => a.setIfInBounds (off + p.2) p.1) arr := by
  rw [← Array.foldl_toList]
  congr 1
  simp

theorem splice_get {cs new : List D} {off : Nat} (h : off + new.length ≤ cs.length) (i : Nat) : (splice cs off new)[i]? = if off ≤ i ∧ i < off + new.length then new[i - off]? else cs[i]? := by
  unfold splice
  by_cases h1 : i < off
  · rw [if_neg (by omega), List.append_assoc, List.getElem?_append_left (by simp; omega), List.getElem?_take_of_lt h1]
  · by_cases h2 : i < off + new.length
    · rw [if_pos ⟨by omega, h2⟩, List.append_assoc, List.getElem?_append_right (by simp; omega), List.getElem?_append_left (by simp; omega)]
      congr 1
      simp; omega
    · rw [if_neg (by omega), List.getElem?_append_right (by simp; omega), List.getElem?_drop]
      congr 1
      simp; omega

theorem splice_length {cs new : List D} {off : Nat} (h : off + new.length ≤ cs.length) : (splice cs off new).length = cs.length := by
  simp [splice]; omega

theorem fill_rep {M : Foot} {place : Nat → Option (Nat × Nat)} : ∀ (parts : List (Nat × Value)) (parts' : List (Nat × D)) (arr : Array Value) (cs cs' : List D),
    parts.length = parts'.length → (∀ (i : Nat) (p : Nat × Value) (p' : Nat × D), parts[i]? = some p → parts'[i]? = some p' → p.1 = p'.1 ∧ Rep w M ρ p.2 p'.2) →
    arr.size = cs.length → (∀ (i : Nat) (v : Value) (d : D), arr[i]? = some v → cs[i]? = some d → Rep w M ρ v d) → fillD place cs parts' = some cs' →
    ∃ arr', Instr.fill place arr parts = some arr' ∧ arr'.size = cs'.length ∧ ∀ (i : Nat) (v : Value) (d : D), arr'[i]? = some v → cs'[i]? = some d → Rep w M ρ v d := by
  intro parts
  induction parts with
  | nil =>
    intro parts' arr cs cs' hl _ hs hr h
    cases parts' with
    | nil => simp only [fillD, Option.some.injEq] at h; subst h; exact ⟨arr, rfl, hs, hr⟩
    | cons => simp at hl
  | cons p parts ih =>
    intro parts' arr cs cs' hl hp hs hr h
    cases parts' with
    | nil => simp at hl
    | cons p' parts' =>
      obtain ⟨i, v⟩ := p
      obtain ⟨i', d⟩ := p'
      have h0 := hp 0 (i, v) (i', d) rfl rfl
      have h01 : i = i' := h0.1
      subst h01
      have hrep : Rep w M ρ v d := h0.2
      clear h0
      simp only [fillD] at h
      split at h
      · rename_i off size new hpl hcells
        split at h
        · rename_i hc
          obtain ⟨hc1, hc2⟩ := hc
          obtain ⟨hvs, hvr⟩ := hrep.cells hcells
          have hfit : off + new.length ≤ cs.length := by omega
          have step := ih parts' (v.cells.zipIdx.foldl (fun cs (x : Value × Nat) => match x with | (c, j) => cs.setIfInBounds (off + j) c) arr) (splice cs off new) cs' (by simpa using hl)
            (fun k p p' h1 h2 => hp (k + 1) p p' h1 h2) (by rw [zip_fold, fold_size, splice_length hfit]; exact hs) (by
              intro k u e hu he
              rw [zip_fold, fold_get off _ 0 arr k (by simp; omega)] at hu
              rw [splice_get hfit] at he
              simp only [Nat.add_zero, Array.length_toList, hvs] at hu
              split at hu
              · rename_i hk
                rw [if_pos hk] at he
                exact hvr (k - off) u e (by simpa using hu) he
              · rename_i hk
                rw [if_neg hk] at he
                exact hr k u e hu he) h
          obtain ⟨arr', hfill, hsz, hrr⟩ := step
          refine ⟨arr', ?_, hsz, hrr⟩
          simp only [Instr.fill, hpl]
          rw [if_neg (by simp; omega)]
          exact hfill
        · cases h
      · cases h
end
end Go.AM
/- AM: an operation that is no barrier and no call. -/
namespace Go.AM
set_option linter.unusedSimpArgs false
set_option linter.unusedVariables false
open Go.RowKit (Below)

section
variable {P : Program} {T : Tab} {eqs : List Nat} {M0 : Foot} {ρ : Nat → Loc} {bs bsE : List Blk} {w : World}

theorem zero_rep {ti : TyI} {z : Value} {M : Foot} (hz : constL z.cells.toList = ti.zero) (hf : ti.zero.all D.flat = true) :
    z.cells.size = ti.zero.length ∧ ∀ (j : Nat) (v : Value) (d : D), z.cells[j]? = some v → ti.zero[j]? = some d → RepI w M v d := by
  rw [constL_eq] at hz
  refine ⟨by rw [← hz]; simp, fun j v d hv hd => ?_⟩
  have hfd : d.flat = true := by
    rw [List.all_eq_true] at hf
    exact hf d (List.mem_of_getElem? hd)
  rw [← hz, List.getElem?_map] at hd
  have : z.cells.toList[j]? = some v := by simpa using hv
  rw [this] at hd
  simp at hd
  subst hd
  exact const_repI hfd

theorem zeroValue_run {t : Nat} (hT : TabOk P T eqs) (hk : (T t).d.known = true) : ∃ z i, P.info? t = some i ∧ i.zero = some z ∧ i.bytes = (T t).bytes ∧ (∀ w, (zeroValue t).run P w = .ok z w) ∧ constL z.cells.toList = (T t).zero ∧ (T t).zero.all D.flat = true ∧ (T t).zero.length = (T t).size ∧ i.size = (T t).size := by
  obtain ⟨i, z, hi, hz, hs, hb, hc, hf, hl⟩ := (hT.ty t hk).info
  exact ⟨z, i, hi, hz, hb, fun w => by simp [zeroValue, typeInfo, hi, hz], hc, hf, hl, hs⟩

def NewAt (M0 : Foot) (ρ : Nat → Loc) (bs : List Blk) (nb : Nat) (news : List Blk) : Prop := ∀ (k : Nat) (b : Blk), news[k]? = some b → ∃ b', bs[nb + k]? = some b' ∧ b.like b' ∧ ρ (nb + k) = .absent

/-- A new variable. -/
theorem box_born (hS : Store M0 ρ bs w) (hm0 : ∀ g o, M0 g o → g < w.heap.size) {nb : Nat} {cs : List D} {k : Kind} (hk : k.isBox = true) (hn : NewAt M0 ρ bs nb [⟨[cs], cs.length, k⟩]) {cells : Array Value} {t : TypeId} (hs : cells.size = cs.length)
    (hr : ∀ (i : Nat) (v : Value) (d : D), cells[i]? = some v → cs[i]? = some d → Rep w (Mof M0 ρ bs) ρ v d) :
    ∃ ρ', Rep (w.alloc (.cells cells t)) (Mof M0 ρ' bs) ρ' (.pointer (some ⟨w.heap.size, 0, none⟩)) (.ptr nb 0 0) ∧ Grow M0 w ρ (w.alloc (.cells cells t)) ρ' bs nb 1 := by
  obtain ⟨b', hb', hlike, habs⟩ := hn 0 _ rfl
  rw [Nat.add_zero] at hb' habs
  have hg := hS.born (w' := w.alloc (.cells cells t)) (arr := cells) (T := t) (base := 0) (rl := 1) (esz := cs.length) hm0 hb' habs rfl rfl rfl rfl (by rw [hlike.rows]; rfl) (by rw [hlike.esz])
    (by rw [hlike.rows]; simp) (by omega) (by
      intro i j r d hi hj
      rw [hlike.rows] at hi
      cases i with
      | succ i => simp at hi
      | zero =>
        simp at hi
        subst hi
        have hlt : j < cells.size := by rw [hs]; exact (List.getElem?_eq_some_iff.1 hj).1
        refine ⟨cells[j], by simp [hlt], ?_⟩
        rw [if_pos (by rw [hlike.box]; exact hk)]
        exact hr j _ d (by simp [hlt]) hj)
  refine ⟨_, ?_, hg⟩
  have := Rep.ptr (w := w.alloc (.cells cells t)) (M := Mof M0 (updL ρ nb (.at_ w.heap.size 0 cells.size 1 cs.length)) bs) nb 0 0 w.heap.size 0 cells.size 1 cs.length (updL_same ρ nb _)
  simpa using this

/-- A new array. -/
theorem arr_born (hS : Store M0 ρ bs w) (hm0 : ∀ g o, M0 g o → g < w.heap.size) {nb : Nat} {rows : List (List D)} {esz : Nat} {k : Kind} (hk : k.isBox = false) (hn : NewAt M0 ρ bs nb [⟨rows, esz, k⟩]) (hrow : ∀ r ∈ rows, r.length = esz)
    {w' : World} {arr : Array Value} {t : TypeId} (hheap : w'.heap = w.heap.push (.cells arr t (0, 0))) (hos : w'.os = w.os) (htape : w'.tape = w.tape) (hout : w'.output = w.output) (hfit : rows.length * esz ≤ arr.size)
    (hr : ∀ (i j : Nat) (r : List D) (d : D), rows[i]? = some r → r[j]? = some d → ∃ v, arr[i * esz + j]? = some v ∧ RepI w (Mof M0 ρ bs) v d) {cap : Nat} (h1 : rows.length ≤ cap) (h2 : cap * esz ≤ arr.size) (len : Nat) (hlen : len ≤ rows.length) :
    ∃ ρ', Rep w' (Mof M0 ρ' bs) ρ' (.slice (some ⟨w.heap.size, 0, none⟩) len cap) (.ref nb 0 len) ∧ Grow M0 w ρ w' ρ' bs nb 1 := by
  obtain ⟨b', hb', hlike, habs⟩ := hn 0 _ rfl
  rw [Nat.add_zero] at hb' habs
  have hg := hS.born (w' := w') (arr := arr) (T := t) (base := 0) (rl := rows.length) (esz := esz) hm0 hb' habs hheap hos htape hout (by rw [hlike.rows]) (by rw [hlike.esz])
    (by rw [hlike.rows]; exact hrow) (by omega) (by
      intro i j r d hi hj
      rw [hlike.rows] at hi
      obtain ⟨v, hv, hrep⟩ := hr i j r d hi hj
      refine ⟨v, by rw [Nat.zero_add]; exact hv, ?_⟩
      rw [if_neg (by rw [hlike.box]; simp [hk])]
      exact hrep)
  refine ⟨_, ?_, hg⟩
  have := Rep.ref (w := w') (M := Mof M0 (updL ρ nb (.at_ w.heap.size 0 arr.size rows.length esz)) bs) nb 0 len cap w.heap.size 0 arr.size rows.length esz (updL_same ρ nb _) (by omega) (by omega) (by simpa using h2)
  simpa using this

theorem D.cells_ids {d e : D} {new : List D} {x : Nat} (h : d.cells? = some new) (he : e ∈ new) (hx : x ∈ e.ids) : x ∈ d.ids := by
  cases d with
  | agg cs => cases h; exact idsL_mem he hx
  | undef => cases h
  | tup => cases h
  | _ => cases h; rw [List.mem_singleton.1 he] at hx; exact hx

def placeRow (esz : Nat) (i : Nat) : Option (Nat × Nat) := some (i * esz, esz)

/-- A slice's literal: rows. -/
theorem rows_rep {M' : Foot} (hS : Store M0 ρ bs w) (hE : Ext bsE bs) (hp : Pres w (Mof M0 ρ bs) w M') {esz : Nat} : ∀ (parts : List (Nat × Value)) (parts' : List (Nat × D)) (arr : Array Value) (rows rows' : List (List D)),
    parts.length = parts'.length → (∀ (i : Nat) (p : Nat × Value) (p' : Nat × D), parts[i]? = some p → parts'[i]? = some p' → p.1 = p'.1 ∧ Rep w (Mof M0 ρ bs) ρ p.2 p'.2 ∧ ∀ x ∈ p'.2.ids, Still ρ M' x) →
    arr.size = rows.length * esz → (∀ r ∈ rows, r.length = esz) → (∀ (i j : Nat) (r : List D) (d : D), rows[i]? = some r → r[j]? = some d → ∃ v, arr[i * esz + j]? = some v ∧ RepI w M' v d) → rowsD esz bsE rows parts' = some rows' →
    ∃ arr', Instr.fill (placeRow esz) arr parts = some arr' ∧ arr'.size = rows'.length * esz ∧ rows'.length = rows.length ∧ (∀ r ∈ rows', r.length = esz) ∧
      ∀ (i j : Nat) (r : List D) (d : D), rows'[i]? = some r → r[j]? = some d → ∃ v, arr'[i * esz + j]? = some v ∧ RepI w M' v d := by
  intro parts
  induction parts with
  | nil =>
    intro parts' arr rows rows' hl _ hs hrow hr h
    cases parts' with
    | nil => simp only [rowsD, Option.some.injEq] at h; subst h; exact ⟨arr, rfl, hs, rfl, hrow, hr⟩
    | cons => simp at hl
  | cons p parts ih =>
    intro parts' arr rows rows' hl hpr hs hrow hr h
    cases parts' with
    | nil => simp at hl
    | cons p' parts' =>
      obtain ⟨i, v⟩ := p
      obtain ⟨i', d⟩ := p'
      have h0 := hpr 0 (i, v) (i', d) rfl rfl
      have h01 : i = i' := h0.1
      subst h01
      have hrep : Rep w (Mof M0 ρ bs) ρ v d := h0.2.1
      have hids : ∀ x ∈ d.ids, Still ρ M' x := h0.2.2
      clear h0
      simp only [rowsD] at h
      split at h
      · rename_i new hcells
        split at h
        · rename_i hc
          obtain ⟨hc1, hc2⟩ := hc
          obtain ⟨hvs, hvr⟩ := hrep.cells hcells
          have hsub : ∀ e ∈ new, ∀ x ∈ e.ids, x ∈ d.ids := fun e he x hx => D.cells_ids hcells he hx
          have hbound : i * esz + esz ≤ arr.size := by
            have : (i + 1) * esz ≤ rows.length * esz := Nat.mul_le_mul_right _ (by omega)
            rw [Nat.add_mul] at this
            omega
          have step := ih parts' (v.cells.zipIdx.foldl (fun cs (x : Value × Nat) => match x with | (c, j) => cs.setIfInBounds (i * esz + j) c) arr) (rows.set i (new.map (D.freeze0 bsE))) rows' (by simpa using hl)
            (fun k p p' h1 h2 => hpr (k + 1) p p' h1 h2) (by rw [zip_fold, fold_size]; simpa using hs) (by
              intro r hr'
              rcases List.mem_or_eq_of_mem_set hr' with h' | h'
              · exact hrow r h'
              · rw [h']; simpa using hc1) (by
              intro k j r e hk hj
              rw [zip_fold, fold_get _ _ 0 arr _ (by simp; omega)]
              simp only [Nat.add_zero, Array.length_toList, hvs, hc1]
              by_cases hki : k = i
              · subst hki
                rw [List.getElem?_set_self (by omega)] at hk
                cases hk
                have hj' : j < esz := by have := (List.getElem?_eq_some_iff.1 hj).1; simp at this; omega
                rw [if_pos ⟨by omega, by omega⟩, show k * esz + j - k * esz = j by omega]
                rw [List.getElem?_map] at hj
                cases hx : new[j]? with
                | none => simp [hx] at hj
                | some e0 =>
                  simp [hx] at hj
                  subst hj
                  have hlt : j < v.cells.size := by omega
                  refine ⟨v.cells[j], by simp [hlt], ?_⟩
                  exact hS.freeze0 hE hp (hvr j _ e0 (by simp [hlt]) hx) (fun x hxx => hids x (hsub e0 (List.mem_of_getElem? hx) x hxx))
              · rw [List.getElem?_set_ne (by omega)] at hk
                have hj' : j < esz := by have := (List.getElem?_eq_some_iff.1 hj).1; rw [hrow r (List.mem_of_getElem? hk)] at this; exact this
                rw [if_neg (by
                  intro ⟨ha, hb⟩
                  rcases Nat.lt_or_gt_of_ne hki with h' | h'
                  · have : (k + 1) * esz ≤ i * esz := Nat.mul_le_mul_right _ (by omega)
                    rw [Nat.add_mul] at this
                    omega
                  · have : (i + 1) * esz ≤ k * esz := Nat.mul_le_mul_right _ (by omega)
                    rw [Nat.add_mul] at this
                    omega)]
                exact hr k j r e hk hj) h
          obtain ⟨arr', hfill, hsz, hl', hrow', hrr⟩ := step
          refine ⟨arr', ?_, hsz, by rw [hl']; simp, hrow', hrr⟩
          simp only [Instr.fill, placeRow]
          rw [if_neg (by simp; omega)]
          exact hfill
        · cases h
      · cases h

theorem replicate_rep {M : Foot} {ti : TyI} {z : Value} {n : Nat} (hz : constL z.cells.toList = ti.zero) (hf : ti.zero.all D.flat = true) (arr : Array Value)
    (harr : ∀ i j, i < n → j < ti.zero.length → arr[i * ti.zero.length + j]? = z.cells[j]?) :
    ∀ (i j : Nat) (r : List D) (d : D), (replicateRows n ti.zero)[i]? = some r → r[j]? = some d → ∃ v, arr[i * ti.zero.length + j]? = some v ∧ RepI w M v d := by
  intro i j r d hi hj
  obtain ⟨hs, hr⟩ := zero_rep (w := w) (M := M) hz hf
  have hlt : i < n := by have := (List.getElem?_eq_some_iff.1 hi).1; simpa [replicateRows] using this
  have hr0 : r = ti.zero := by
    have := (List.getElem?_eq_some_iff.1 hi).2
    simp [replicateRows] at this
    exact this.symm
  subst hr0
  have hjl := (List.getElem?_eq_some_iff.1 hj).1
  have hlt' : j < z.cells.size := by omega
  exact ⟨z.cells[j], by rw [harr i j hlt hjl]; simp [hlt'], hr j _ d (by simp [hlt']) hj⟩

end
end Go.AM
/- AM: an operation that is no barrier and no call does what opFn says. -/
namespace Go.AM
set_option linter.unusedSimpArgs false
set_option linter.unusedVariables false
open Go.RowKit (Below)

section
variable {P : Program} {T : Tab} {eqs : List Nat} {M0 : Foot} {ρ : Nat → Loc} {bs bsE : List Blk} {w : World}

theorem opt_rep {M : Foot} {ev' : Operand → Value} {ev : Operand → D} {x : Option Operand} (h : ∀ y, x = some y → Rep w M ρ (ev' y) (ev y)) : OptRep w M ρ (x.map ev') (x.map ev) := by
  cases x with
  | none => trivial
  | some y => exact h y rfl

theorem args_rep {M : Foot} {ev' : Operand → Value} {ev : Operand → D} {xs : Array Operand} (h : ∀ y ∈ xs, Rep w M ρ (ev' y) (ev y)) :
    ∀ (i : Nat) (v : Value) (d : D), (xs.map ev')[i]? = some v → (xs.toList.map ev)[i]? = some d → Rep w M ρ v d := by
  intro i v d hv hd
  rw [Array.getElem?_map] at hv
  rw [List.getElem?_map] at hd
  cases hx : xs[i]? with
  | none => simp [hx] at hv
  | some y =>
    have hx' : xs.toList[i]? = some y := by simpa using hx
    simp [hx] at hv
    simp [hx'] at hd
    subst hv hd
    exact h y (Array.mem_of_getElem? hx)

theorem parts_rep {M : Foot} {ev' : Operand → Value} {ev : Operand → D} {ps : Array (Nat × Operand)} (h : ∀ y ∈ (ps.toList.map (·.2)), Rep w M ρ (ev' y) (ev y)) :
    ∀ (i : Nat) (p : Nat × Value) (p' : Nat × D), (ps.map fun (x : Nat × Operand) => match x with | (i, x) => (i, ev' x)).toList[i]? = some p → (ps.toList.map fun p => (p.1, ev p.2))[i]? = some p' → p.1 = p'.1 ∧ Rep w M ρ p.2 p'.2 ∧ ∃ q ∈ ps.toList, p'.2 = ev q.2 := by
  intro i p p' hp hp'
  rw [Array.toList_map, List.getElem?_map] at hp
  rw [List.getElem?_map] at hp'
  cases hx : ps.toList[i]? with
  | none => simp [hx] at hp
  | some y =>
    obtain ⟨n, y⟩ := y
    simp [hx] at hp hp'
    subst hp hp'
    exact ⟨rfl, h y (List.mem_map.2 ⟨(n, y), List.mem_of_getElem? hx, rfl⟩), (n, y), List.mem_of_getElem? hx, rfl⟩

theorem build_run {t : Nat} {ev' : Operand → Value} {ev : Operand → D} {ps : Array (Nat × Operand)} {cs' : List D} {M : Foot} (hT : TabOk P T eqs) (hk : (T t).d.known = true) (h : ∀ y ∈ (ps.toList.map (·.2)), Rep w M ρ (ev' y) (ev y))
    (hb : (match (T t).d with
      | .struct fs => fillD (fun (i : Nat) => (fs[i]?).map fun (f : Nat × Nat) => (f.1, (T f.2).size)) (T t).zero (ps.toList.map fun p => (p.1, ev p.2))
      | .arr _ e => fillD (fun i => some (i * (T e).size, (T e).size)) (T t).zero (ps.toList.map fun p => (p.1, ev p.2))
      | _ => none) = some cs') :
    ∃ v, (Instr.build t (ps.map fun (i, x) => (i, ev' x))).run P w = .ok v w ∧ Rep w M ρ v (.agg cs') := by
  obtain ⟨z, i, hi, hz, _, hzr, hzc, hzf, hzl, _⟩ := zeroValue_run hT hk
  obtain ⟨hzs, hzrep⟩ := zero_rep (w := w) (M := M) hzc hzf
  split at hb
  · rename_i fs hd
    obtain ⟨fields, hu, hmap, hkids⟩ := und_struct hT hd
    have hplaces : (fields.mapM fun f => (do pure (f.offset, ← sizeOf f.type) : Sem (Nat × Nat))).run P w = .ok (fields.map fun f => (f.offset, (T f.type).size)) w := by
      have key : ∀ (l : List Field), (∀ f ∈ l, (T f.type).d.known = true) → (l.mapM fun f => (do pure (f.offset, ← sizeOf f.type) : Sem (Nat × Nat))).run P w = .ok (l.map fun f => (f.offset, (T f.type).size)) w := by
        intro l
        induction l with
        | nil => intro _; simp
        | cons f l ih =>
          intro hl
          have h1 := sizeOf_run (P := P) hT (w := w) (hl f (by simp))
          have h2 := ih fun g hg => hl g (List.mem_cons_of_mem _ hg)
          simp only [bind_pure_comp] at h2
          simp [List.mapM_cons, h1, h2]
      rw [Array.mapM_eq_mapM_toList]
      have := key fields.toList fun f hf => hkids (f.offset, f.type) (by rw [← hmap]; exact List.mem_map.2 ⟨f, hf, rfl⟩)
      simp only [Sem.run_map, this, Result.andThen_ok]
      congr 1
      apply Array.ext'
      simp
    obtain ⟨arr', hfill, hs', hr'⟩ := fill_rep (M := M) (place := fun (i : Nat) => (fs[i]?).map fun (f : Nat × Nat) => (f.1, (T f.2).size)) (ps.map fun (i, x) => (i, ev' x)).toList _ z.cells (T t).zero cs' (by simp) (fun i p p' h1 h2 => by
      have := parts_rep h i p p' h1 h2; exact ⟨this.1, this.2.1⟩) hzs (fun i v d h1 h2 => .imm _ _ (hzrep i v d h1 h2)) hb
    refine ⟨.agg arr', ?_, .agg _ _ hs' hr'⟩
    have hpl : (fun i => (fields.map fun f => (f.offset, (T f.type).size))[i]?) = fun (i : Nat) => (fs[i]?).map fun (f : Nat × Nat) => (f.1, (T f.2).size) := by
      funext i
      rw [← hmap]
      simp [Function.comp_def]
    simp only [Instr.build, Sem.run_bind, hzr, Result.andThen_ok, run_underlying hu, hplaces, hpl]
    simp only [hfill]
    rfl
  · rename_i n e hd
    obtain ⟨hu, hke⟩ := und_arr hT hd
    have hsz := sizeOf_run (P := P) hT (w := w) hke
    obtain ⟨arr', hfill, hs', hr'⟩ := fill_rep (M := M) (place := fun i => some (i * (T e).size, (T e).size)) (ps.map fun (i, x) => (i, ev' x)).toList _ z.cells (T t).zero cs' (by simp) (fun i p p' h1 h2 => by
      have := parts_rep h i p p' h1 h2; exact ⟨this.1, this.2.1⟩) hzs (fun i v d h1 h2 => .imm _ _ (hzrep i v d h1 h2)) hb
    refine ⟨.agg arr', ?_, .agg _ _ hs' hr'⟩
    simp only [Instr.build, Sem.run_bind, hzr, Result.andThen_ok, run_underlying hu, hsz]
    simp only [hfill]
    rfl
  · cases hb

theorem mod_row {i j n : Nat} (h : j < n) : (i * n + j) % n = j := by
  rw [Nat.mul_comm, Nat.mul_add_mod]
  exact Nat.mod_eq_of_lt h

theorem lt_row {i j n m : Nat} (hi : i < m) (hj : j < n) : i * n + j < m * n := by
  have : (i + 1) * n ≤ m * n := Nat.mul_le_mul_right _ (by omega)
  rw [Nat.add_mul] at this
  omega

/-- A row of zeros. -/
theorem zeros_get {z : Array Value} {n m : Nat} (hz : z.size = n) (arr : Array Value) (harr : arr = (Array.range (m * n)).map (fun i => z[i % z.size]!)) : ∀ i j, i < m → j < n → arr[i * n + j]? = z[j]? := by
  intro i j hi hj
  subst harr
  have hlt := lt_row hi hj
  simp only [Array.getElem?_map, Array.getElem?_range, hlt]
  simp [hz, mod_row hj, hj]

theorem buildSlice_run {t e len : Nat} {ev' : Operand → Value} {ev : Operand → D} {ps : Array (Nat × Operand)} {rows : List (List D)} {nb : Nat} (hT : TabOk P T eqs) (hS : Store M0 ρ bs w) (hm0 : ∀ g o, M0 g o → g < w.heap.size) (hE : Ext bsE bs)
    (hd : (T t).d = .slice e) (h : ∀ y ∈ (ps.toList.map (·.2)), Rep w (Mof M0 ρ bs) ρ (ev' y) (ev y)) (hlen : len * (T e).size ≤ 65536)
    (hb : rowsD (T e).size bsE (replicateRows len (T e).zero) (ps.toList.map fun p => (p.1, ev p.2)) = some rows) (hn : NewAt M0 ρ bs nb [⟨rows, (T e).size, .mut⟩])
    (hdown : ∀ b ∈ ps.toList.flatMap (fun p => (ev p.2).ids), Still ρ (Mof M0 ρ bs) b) :
    ∃ v w' ρ', (Instr.buildSlice t len (ps.map fun (i, x) => (i, ev' x))).run P w = .ok v w' ∧ Rep w' (Mof M0 ρ' bs) ρ' v (.ref nb 0 len) ∧ Grow M0 w ρ w' ρ' bs nb 1 := by
  obtain ⟨hu, hk⟩ := und_slice hT hd
  have hsz := sizeOf_run (P := P) hT (w := w) hk
  obtain ⟨z, i, hi, hz, _, hzr, hzc, hzf, hzl, _⟩ := zeroValue_run hT hk
  obtain ⟨hzs, hzrep⟩ := zero_rep (w := w) (M := Mof M0 ρ bs) hzc hzf
  generalize harr : (Array.range (len * (T e).size)).map (fun i => z.cells[i % z.cells.size]!) = arr0
  have hget := zeros_get (z := z.cells) (n := (T e).size) (m := len) (by rw [hzs, hzl]) arr0 harr.symm
  obtain ⟨arr', hfill, hs', hl', hrow', hr'⟩ := rows_rep (M' := Mof M0 ρ bs) hS hE (Pres.refl _ _) (esz := (T e).size) (ps.map fun (i, x) => (i, ev' x)).toList _ arr0 (replicateRows len (T e).zero) rows (by simp)
    (fun i p p' h1 h2 => by
      obtain ⟨a, b, q, hq, hqe⟩ := parts_rep h i p p' h1 h2
      exact ⟨a, b, fun x hx => hdown x (List.mem_flatMap.2 ⟨q, hq, by rw [← hqe]; exact hx⟩)⟩)
    (by subst harr; simp [replicateRows]) (by intro r hr; simp [replicateRows] at hr; rw [hr.2, hzl]) (by
      have := replicate_rep (w := w) (M := Mof M0 ρ bs) (n := len) hzc hzf arr0 (fun i j hi hj => by rw [hzl] at hj ⊢; exact hget i j hi hj)
      rwa [hzl] at this) hb
  have hlr : rows.length = len := by rw [hl']; simp [replicateRows]
  have hfill0 : Instr.fill (fun i => some (i * (T e).size, (T e).size)) ((Array.range (len * (T e).size)).map (fun i => (if len * (T e).size = 0 then (#[] : Array Value) else z.cells)[i % (if len * (T e).size = 0 then (#[] : Array Value) else z.cells).size]!)) (ps.map fun (i, x) => (i, ev' x)).toList = some arr' := by
    by_cases h0 : len * (T e).size = 0
    · have ha0 : arr0 = #[] := by rw [← harr, h0]; simp
      rw [ha0] at hfill
      have e0 : ∀ f : Nat → Value, (Array.range 0).map f = #[] := fun f => by simp
      simp only [h0, if_true, e0]
      exact hfill
    · rw [if_neg h0, harr]
      exact hfill
  obtain ⟨ρ', hrep, hg⟩ := arr_born (w' := w.alloc (.cells arr' e)) (arr := arr') (t := e) (cap := len) hS hm0 rfl hn hrow' rfl rfl rfl rfl (by rw [hs']; exact Nat.le_refl _) hr' (by omega) (by rw [hs', hlr]; exact Nat.le_refl _) len (by omega)
  refine ⟨_, _, ρ', ?_, hrep, hg⟩
  have h24 : ¬ len * (T e).size > 2 ^ 24 := by omega
  simp only [Instr.buildSlice, Sem.run_bind, run_underlying hu, Result.andThen_ok, hsz]
  rw [if_neg h24]
  by_cases h0 : len * (T e).size = 0
  · simp only [h0, if_true] at hfill0 ⊢
    simp only [Sem.run_bind, Sem.run_pure, Result.andThen_ok, hfill0]
    simp [newRow]
  · simp only [h0, if_false] at hfill0 ⊢
    simp only [Sem.run_bind, hzr, Sem.run_pure, Result.andThen_ok, hfill0]
    simp [newRow]
end
end Go.AM
/- AM: an operation that is no barrier and no call, in all. -/
namespace Go.AM
set_option linter.unusedSimpArgs false
set_option linter.unusedVariables false
open Go.RowKit (Below)

section
variable {P : Program} {T : Tab} {eqs : List Nat} {M0 : Foot} {ρ : Nat → Loc} {bs bsE : List Blk} {w : World}

theorem makeSlice_run {t e : Nat} {k k' : IntKind} {n m : Int} {nb : Nat} (hT : TabOk P T eqs) (hS : Store M0 ρ bs w) (hm0 : ∀ g o, M0 g o → g < w.heap.size)
    (hd : (T t).d = .slice e) (h1 : 0 ≤ n) (h2 : n ≤ m) (h3 : m * (T e).bytes ≤ 140737488355328) (h4 : m ≤ 9223372036854775807) (hn : NewAt M0 ρ bs nb [⟨replicateRows m.toNat (T e).zero, (T e).size, .mut⟩]) :
    ∃ v w' ρ', (Instr.makeSlice t (.int k n) (.int k' m)).run P w = .ok v w' ∧ Rep w' (Mof M0 ρ' bs) ρ' v (.ref nb 0 n.toNat) ∧ Grow M0 w ρ w' ρ' bs nb 1 := by
  obtain ⟨hu, hk⟩ := und_slice hT hd
  have hsz := sizeOf_run (P := P) hT (w := w) hk
  obtain ⟨z, i, hi, hz, hib, hzr, hzc, hzf, hzl, his⟩ := zeroValue_run hT hk
  obtain ⟨hzs, hzrep⟩ := zero_rep (w := w) (M := Mof M0 ρ bs) hzc hzf
  have hwn : IntKind.i64.wrap n = n := IntWalk.i64_in n ⟨by omega, by omega⟩
  have hwm : IntKind.i64.wrap m = m := IntWalk.i64_in m ⟨by omega, by omega⟩
  generalize harr : (Array.range (m.toNat * (T e).size)).map (fun i => z.cells[i % z.cells.size]!) = arr0
  have hget := zeros_get (z := z.cells) (n := (T e).size) (m := m.toNat) (by rw [hzs, hzl]) arr0 harr.symm
  have hrep := replicate_rep (w := w) (M := Mof M0 ρ bs) (n := m.toNat) hzc hzf arr0 (fun i j hi hj => by rw [hzl] at hj ⊢; exact hget i j hi hj)
  rw [hzl] at hrep
  have hl : (replicateRows m.toNat (T e).zero).length = m.toNat := by simp [replicateRows]
  have hs0 : arr0.size = m.toNat * (T e).size := by rw [← harr]; simp
  obtain ⟨ρ', hrep', hg⟩ := arr_born (w' := w.alloc (.cells arr0 e)) (arr := arr0) (t := e) (cap := m.toNat) hS hm0 rfl hn (by intro r hr; simp [replicateRows] at hr; rw [hr.2, hzl]) rfl rfl rfl rfl
    (by rw [hl, hs0]; exact Nat.le_refl _) hrep (by omega) (by rw [hs0]; exact Nat.le_refl _) n.toNat (by omega)
  refine ⟨_, _, ρ', ?_, hrep', hg⟩
  have hb : ¬ ((T e).bytes * m > 2 ^ 48) := by rw [Int.mul_comm]; omega
  have harr' : ∀ zz : Array Value, (m.toNat * (T e).size = 0 ∨ zz = z.cells) → (Array.range (m.toNat * (T e).size)).map (fun i => zz[i % zz.size]!) = arr0 := by
    intro zz hh
    rcases hh with hh | hh
    · rw [← harr, hh]; simp
    · rw [hh, harr]
  unfold Instr.makeSlice
  simp only [Sem.run_bind, run_underlying hu, Result.andThen_ok, asInt, asIntOf, Sem.run_pure, typeInfo, run_program, hi, hwn, hwm, hib, hsz]
  have hc : ((decide (m < 0) || decide ((T e).bytes * m > 2 ^ 48) || decide (n < 0) || decide (n > m)) = false) := by
    simp; omega
  rw [if_neg (by rw [hc]; simp)]
  simp only [Sem.run_bind, run_askRoom, Result.andThen_ok, hsz]
  by_cases h0 : m.toNat * (T e).size = 0
  · rw [if_pos h0]
    simp only [Sem.run_bind, Sem.run_pure, Result.andThen_ok]
    rw [harr' _ (.inl h0)]
    simp [newRow]
  · rw [if_neg h0]
    simp only [Sem.run_bind, hzr, Sem.run_pure, Result.andThen_ok]
    rw [harr' _ (.inr rfl)]
    simp [newRow]

theorem quiet {o : Oper} {ev' : Operand → Value} {d : D} {v : Value} {nb : Nat} {news : List Blk} (hS : Store M0 ρ bs w) (hrun : (execOp ev' o).run P w = .ok (.value v) w) (hrep : Rep w (Mof M0 ρ bs) ρ v d) :
    ∃ v w' ρ', (execOp ev' o).run P w = .ok (.value v) w' ∧ Rep w' (Mof M0 ρ' bs) ρ' v d ∧ Grow M0 w ρ w' ρ' bs nb news.length :=
  ⟨v, w, ρ, hrun, hrep, .refl hS⟩

theorem map_some {α β : Type} {f : α → β} {x : Option α} {y : β} (h : x.map f = some y) : ∃ a, x = some a ∧ f a = y := by
  cases x with
  | none => cases h
  | some a => exact ⟨a, rfl, by simpa using h⟩

theorem opFn_sound {ev' : Operand → Value} {ev : Operand → D} {o : Oper} {out : Out} {nb : Nat} (hT : TabOk P T eqs) (hS : Store M0 ρ bs w) (hm0 : ∀ g o, M0 g o → g < w.heap.size) (hE : Ext bsE bs)
    (hcv : ∀ v, ev' (.const v) = v) (hops : ∀ x ∈ o.op.operands, Rep w (Mof M0 ρ bs) ρ (ev' x) (ev x)) (h : opFn T eqs nb bsE ev o.type o.op = some out) (hn : NewAt M0 ρ bs nb out.news)
    (hdown : ∀ b ∈ out.down, ∀ k, bs[b]? = some k → k.kind ≠ .box ∧ k.kind ≠ .mut) :
    ∃ v w' ρ', (execOp ev' o).run P w = .ok (.value v) w' ∧ Rep w' (Mof M0 ρ' bs) ρ' v out.d ∧ Grow M0 w ρ w' ρ' bs nb out.news.length := by
  have hstill : ∀ b ∈ out.down, Still ρ (Mof M0 ρ bs) b := by
    intro b hb g base n rl esz hat o ho
    have hlt : b < bs.length := by
      rcases Nat.lt_or_ge b bs.length with h' | h'
      · exact h'
      · have := hS.out b h'
        rw [this] at hat
        cases hat
    exact hS.stable (by simp [hlt]) hat (hdown b hb bs[b] (by simp [hlt])) ho
  obtain ⟨dst, op, ty, pos, after, guard⟩ := o
  cases op <;> simp only [opFn, Op.operands] at h hops <;> try (cases h; done)
  case move x => cases h; exact quiet hS (by simp [execOp]) (hops x (by simp))
  case assign x =>
    have plain : out = { d := ev x } → ∃ v w' ρ', (execOp ev' ⟨dst, .assign x, ty, pos, after, guard⟩).run P w = .ok (.value v) w' ∧ Rep w' (Mof M0 ρ' bs) ρ' v out.d ∧ Grow M0 w ρ w' ρ' bs nb out.news.length := by
      rintro rfl
      exact quiet hS (by simp [execOp]) (hops x (by simp))
    split at h
    · split at h
      · rename_i e ht
        cases h
        obtain ⟨b', hb', hlike, habs⟩ := hn 0 _ rfl
        rw [Nat.add_zero] at hb' habs
        have hg := hS.bornV hb' habs hlike.rows hlike.box
        refine ⟨.slice none 0 0, w, _, by simp [execOp, hcv], .refV nb none (updL_same ρ nb _), hg⟩
      · exact plain (Option.some.inj h).symm
    · exact plain (Option.some.inj h).symm
  case pick c a b =>
    split at h
    · rename_i x hx
      cases h
      have hc := hops c (by simp)
      rw [hx] at hc
      have := hc.bool_inv
      cases x
      · exact quiet hS (by simp [execOp, this, asBool]) (hops b (by simp))
      · exact quiet hS (by simp [execOp, this, asBool]) (hops a (by simp))
    · cases h
  case alloc e =>
    split at h
    · rename_i hk
      cases h
      obtain ⟨z, i, hi, hz, _, hzr, hzc, hzf, hzl, _⟩ := zeroValue_run hT hk
      obtain ⟨hzs, hzrep⟩ := zero_rep (w := w) (M := Mof M0 ρ bs) hzc hzf
      obtain ⟨ρ', hrep, hg⟩ := box_born hS hm0 (k := .box) rfl hn (cells := z.cells) (t := e) hzs (fun i v d h1 h2 => .imm _ _ (hzrep i v d h1 h2))
      exact ⟨_, _, ρ', by simp [execOp, Instr.alloc, hzr, newVar, newRow], hrep, hg⟩
    · cases h
  case box e x =>
    split at h
    · rename_i cs hc
      cases h
      obtain ⟨hs, hr⟩ := (hops x (by simp)).cells hc
      obtain ⟨ρ', hrep, hg⟩ := box_born hS hm0 (k := .box) rfl hn (cells := (ev' x).cells) (t := e) hs hr
      exact ⟨_, _, ρ', by simp [execOp, Instr.box, newVar, newRow], hrep, hg⟩
    · cases h
  case build t ps =>
    have hops' : ∀ y ∈ ps.toList.map (·.2), Rep w (Mof M0 ρ bs) ρ (ev' y) (ev y) := fun y hy => hops y (by simpa using hy)
    have hcs : ∃ cs', (match (T t).d with
        | .struct fs => fillD (fun (i : Nat) => (fs[i]?).map fun (f : Nat × Nat) => (f.1, (T f.2).size)) (T t).zero (ps.toList.map fun p => (p.1, ev p.2))
        | .arr _ e => fillD (fun i => some (i * (T e).size, (T e).size)) (T t).zero (ps.toList.map fun p => (p.1, ev p.2))
        | _ => none) = some cs' ∧ out = { d := .agg cs' } ∧ (T t).d.known = true := by
      cases hd : (T t).d <;> simp only [hd] at h ⊢ <;> try (cases h; done)
      · obtain ⟨cs', h1, rfl⟩ := map_some h
        exact ⟨cs', h1, rfl, rfl⟩
      · obtain ⟨cs', h1, rfl⟩ := map_some h
        exact ⟨cs', h1, rfl, rfl⟩
    obtain ⟨cs', hcs', rfl, hk⟩ := hcs
    obtain ⟨v, hrun, hrep⟩ := build_run hT hk hops' hcs'
    exact quiet hS (by simp only [execOp, Sem.run_bind, hrun, Result.andThen_ok]; rfl) hrep
  case buildSlice t len ps =>
    have hops' : ∀ y ∈ ps.toList.map (·.2), Rep w (Mof M0 ρ bs) ρ (ev' y) (ev y) := fun y hy => hops y (by simpa using hy)
    split at h
    · rename_i e hd
      split at h
      · rename_i hc
        obtain ⟨rows, hrows, rfl⟩ := map_some h
        obtain ⟨v, w', ρ', hrun, hrep, hg⟩ := buildSlice_run hT hS hm0 hE hd hops' hc.1 hrows hn (fun b hb => hstill b (mem_reach hb (.inl rfl)))
        exact ⟨v, w', ρ', by simp only [execOp, Sem.run_bind, hrun, Result.andThen_ok]; rfl, hrep, hg⟩
      · cases h
    · cases h
  case load t a =>
    obtain ⟨d, hd, rfl⟩ := map_some h
    obtain ⟨v, hrun, hrep⟩ := load_run hT hS hE (hops a (by simp)) hd
    exact quiet hS (by simp [execOp, hrun]) hrep
  case nilCheck x =>
    have hx := hops x (by simp)
    split at h
    · rename_i cs he
      cases h
      rw [he] at hx
      obtain ⟨g, off, hv⟩ := hx.mem_inv.mem_addr
      exact quiet hS (v := ev' x) (by simp [execOp, hv]) hx
    · rename_i b i j he
      cases h
      rw [he] at hx
      obtain ⟨g, base, n, rl, esz, hv, _⟩ := hx.ptr_inv
      exact quiet hS (v := ev' x) (by simp [execOp, hv]) hx
    · rename_i f a c he
      cases h
      rw [he] at hx
      obtain ⟨va, vc, hv, _⟩ := hx.fn_inv
      exact quiet hS (v := ev' x) (by simp [execOp, hv]) hx
    · cases h
  case binOp op t x y yt =>
    obtain ⟨d, hd, rfl⟩ := map_some h
    obtain ⟨hrun, hrep⟩ := bin_run (P := P) (ox := x) (oy := y) hT (hops x (by simp)) (hops y (by simp)) hd
    exact quiet hS (by simp only [execOp]; rw [Sem.run_bind, hrun]; rfl) hrep
  case unOp op t x =>
    obtain ⟨d, hd, rfl⟩ := map_some h
    obtain ⟨v, hrun, hrep⟩ := un_run (P := P) (hops x (by simp)) hd
    exact quiet hS (by simp [execOp, hrun]) hrep
  case convert src t x =>
    split at h
    · rename_i k k' n hk ht hx
      cases h
      have hr := hops x (by simp)
      rw [hx] at hr
      exact quiet hS (by simp [execOp, conv_run hT hk hr ht]) (.imm _ _ (.int _ _))
    · cases h
  case makeFunc fn first caps =>
    cases fn <;> simp only at h <;> try (cases h; done)
    rename_i f
    cases h
    refine quiet hS (v := .func (.func f) (first.map ev') (caps.map ev')) (by simp [execOp, Instr.makeFunc]) ?_
    exact .fn f _ _ _ _ (by simp) (by simp) (args_rep fun y hy => hops y (by simp [hy])) (args_rep fun y hy => hops y (by simp [hy]))
  case makeSlice t l c =>
    split at h
    · rename_i e k n k' m hd hl hc
      split at h
      · rename_i hcond
        cases h
        obtain ⟨h1, h2, h3, h4, h5⟩ := hcond
        have hrl := hops l (by simp)
        have hrc := hops c (by simp)
        rw [hl] at hrl
        rw [hc] at hrc
        obtain ⟨v, w', ρ', hrun, hrep, hg⟩ := makeSlice_run (k := k) (k' := k') hT hS hm0 hd h1 h2 h3 h4 hn
        exact ⟨v, w', ρ', by simp [execOp, hrl.int_inv, hrc.int_inv, hrun], hrep, hg⟩
      · cases h
    · cases h
  case slice t x lo hi mx =>
    obtain ⟨hnews, v, hrun, hrep⟩ := slice_run hT hS hE (hops x (by simp)) (opt_rep fun y hy => hops y (by simp [hy])) (opt_rep fun y hy => hops y (by simp [hy])) (opt_rep fun y hy => hops y (by simp [hy])) h hdown
    exact quiet hS (by simp [execOp, hrun]) hrep
  case fieldAddr s x f =>
    obtain ⟨d, hd, rfl⟩ := map_some h
    obtain ⟨v, hrun, hrep⟩ := fieldAddr_run (P := P) hT (hops x (by simp)) hd
    exact quiet hS (by simp [execOp, hrun]) hrep
  case field s x f =>
    obtain ⟨d, hd, rfl⟩ := map_some h
    obtain ⟨v, hrun, hrep⟩ := field_run (P := P) hT (hops x (by simp)) hd
    exact quiet hS (by simp [execOp, hrun]) hrep
  case indexAddr t x i =>
    split at h
    · rename_i k n hi
      obtain ⟨d, hd, rfl⟩ := map_some h
      have hri := hops i (by simp)
      rw [hi] at hri
      obtain ⟨v, hrun, hrep⟩ := indexAddr_run (P := P) (k := k) hT hS hE (hops x (by simp)) hd
      exact quiet hS (by simp [execOp, hri.int_inv, hrun]) hrep
    · cases h
  case index t x i =>
    split at h
    · rename_i k n hi
      obtain ⟨d, hd, rfl⟩ := map_some h
      have hri := hops i (by simp)
      rw [hi] at hri
      obtain ⟨v, hrun, hrep⟩ := index_run (P := P) (k := k) hT (hops x (by simp)) hd
      exact quiet hS (by simp [execOp, hri.int_inv, hrun]) hrep
    · cases h
  case extract x n =>
    split at h
    · rename_i vs hx
      obtain ⟨d, hd, rfl⟩ := map_some h
      have hr := hops x (by simp)
      rw [hx] at hr
      obtain ⟨us, hu, hs, hrr⟩ := hr.tup_inv
      have hlt : n < us.size := by rw [hs]; exact (List.getElem?_eq_some_iff.1 hd).1
      have hg : us[n]? = some us[n] := by simp [hlt]
      exact quiet hS (by simp [execOp, Instr.extract, hu, hg]) (hrr n _ d hg hd)
    · cases h
  case call c =>
    obtain ⟨callee, args, argTypes⟩ := c
    simp only [Call.operands] at hops
    cases callee <;> simp only at h <;> try (cases h; done)
    rename_i b
    have hargs : ∀ y ∈ args, Rep w (Mof M0 ρ bs) ρ (ev' y) (ev y) := fun y hy => hops y (by simp [hy])
    cases b <;> simp only at h <;> try (cases h; done)
    case len =>
      split at h
      · rename_i x t hx ht
        split at h
        · rename_i e hd
          obtain ⟨d, hdd, rfl⟩ := map_some h
          have ha : args = #[x] := Array.toList_inj.1 (by simpa using hx)
          have hat : argTypes = #[t] := Array.toList_inj.1 (by simpa using ht)
          subst ha hat
          obtain ⟨v, hrun, hrep⟩ := len_run (P := P) (ty := ty) hT hd (hargs x (by simp)) hdd
          exact quiet hS (by simp [execOp, resolve, invoke, builtin, hrun]) hrep
        · cases h
      · cases h
    case min =>
      obtain ⟨r, hr, rfl⟩ := map_some h
      obtain ⟨v, rest, hv, hrun⟩ := min_run (P := P) (w := w) (M := Mof M0 ρ bs) (ρ := ρ) _ Builtin.min2 (fun k k' x y w => by simp [Builtin.min2]) _ (args.map ev').toList r (by simp) (fun i v d h1 h2 => args_rep hargs i v d (by simpa using h1) h2) hr
      have hv' : args.toList.map ev' = v :: rest := by simpa using hv
      refine quiet hS (v := .int r.1 r.2) ?_ (.imm _ _ (.int _ _))
      simp [execOp, resolve, invoke, builtin, Builtin.min_, hv', hrun]
    case max =>
      obtain ⟨r, hr, rfl⟩ := map_some h
      obtain ⟨v, rest, hv, hrun⟩ := min_run (P := P) (w := w) (M := Mof M0 ρ bs) (ρ := ρ) _ Builtin.max2 (fun k k' x y w => by simp [Builtin.max2]) _ (args.map ev').toList r (by simp) (fun i v d h1 h2 => args_rep hargs i v d (by simpa using h1) h2) hr
      have hv' : args.toList.map ev' = v :: rest := by simpa using hv
      refine quiet hS (v := .int r.1 r.2) ?_ (.imm _ _ (.int _ _))
      simp [execOp, resolve, invoke, builtin, Builtin.max_, hv', hrun]
end
end Go.AM
/- AM: a call that is lent nothing; whatever is no barrier. -/
namespace Go.AM
set_option linter.unusedSimpArgs false
set_option linter.unusedVariables false
open Go.RowKit (Below)

section
variable {P : Program} {T : Tab} {eqs : List Nat} {M0 : Foot} {ρ : Nat → Loc} {bs bsE : List Blk} {w : World}

theorem downTo_get (ids : List Nat) (bs : List Blk) (i : Nat) : (downTo ids bs)[i]? = (bs[i]?).map fun b => if ids.contains i then { b with kind := b.kind.down } else b := by
  simp only [downTo, List.getElem?_mapIdx]

theorem Kind.down_isBox (k : Kind) : k.down.isBox = k.isBox := by cases k <;> rfl
theorem Kind.down_box (k : Kind) : k.down ≠ .box ∧ k.down ≠ .mut := by cases k <;> exact ⟨by simp [Kind.down], by simp [Kind.down]⟩
theorem Kind.down_id {k : Kind} (h : k ≠ .box ∧ k ≠ .mut) : k.down = k := by cases k <;> first | rfl | exact absurd rfl h.1 | exact absurd rfl h.2

theorem downTo_like {ids : List Nat} {bs : List Blk} {i : Nat} {b' : Blk} (h : (downTo ids bs)[i]? = some b') : ∃ b, bs[i]? = some b ∧ b.like b' := by
  rw [downTo_get] at h
  cases hb : bs[i]? with
  | none => simp [hb] at h
  | some b =>
    simp only [hb, Option.map_some, Option.some.injEq] at h
    refine ⟨b, rfl, ?_⟩
    split at h
    · subst h; exact ⟨rfl, rfl, Kind.down_isBox _, .inr rfl⟩
    · subst h; exact .refl b

theorem downTo_ext (ids : List Nat) (bs : List Blk) : Ext bs (downTo ids bs) := by
  intro i k h
  have := downTo_get ids bs i
  rw [h] at this
  obtain ⟨b, hb, hl⟩ := downTo_like this
  rw [h] at hb
  cases hb
  exact ⟨_, this, hl⟩

theorem Ext.trans {a b c : List Blk} (h : Ext a b) (h' : Ext b c) : Ext a c := by
  intro i k hk
  obtain ⟨k1, h1, l1⟩ := h i k hk
  obtain ⟨k2, h2, l2⟩ := h' i k1 h1
  refine ⟨k2, h2, l2.rows.trans l1.rows, l2.esz.trans l1.esz, l2.box.trans l1.box, ?_⟩
  have dd : ∀ k : Kind, k.down.down = k.down := by intro k; cases k <;> rfl
  rcases l1.down with e1 | e1 <;> rcases l2.down with e2 | e2 <;> rw [e2, e1]
  · exact .inl rfl
  · exact .inr rfl
  · exact .inr rfl
  · exact .inr (dd _)

theorem downTo_kind {ids : List Nat} {bs : List Blk} {i : Nat} {b' : Blk} (h : (downTo ids bs)[i]? = some b') (hi : i ∈ ids) : b'.kind ≠ .box ∧ b'.kind ≠ .mut := by
  rw [downTo_get] at h
  cases hb : bs[i]? with
  | none => simp [hb] at h
  | some b =>
    have hc : ids.contains i = true := by simpa using hi
    simp only [hb, Option.map_some, Option.some.injEq, hc, if_true] at h
    subst h
    exact Kind.down_box _

theorem downTo_id {ids : List Nat} {bs : List Blk} (h : ∀ b ∈ ids, ∀ k, bs[b]? = some k → k.kind ≠ .box ∧ k.kind ≠ .mut) : downTo ids bs = bs := by
  apply List.ext_getElem?
  intro i
  rw [downTo_get]
  cases hb : bs[i]? with
  | none => rfl
  | some b =>
    simp only [Option.map_some, Option.some.injEq]
    split
    · rename_i hc
      rw [Kind.down_id (h i (by simpa using hc) b hb)]
    · rfl

/-- What may turn, of blocks that are told lower. -/
theorem Mof_like {bs bs' : List Blk} (h : ∀ (i : Nat) (b' : Blk), bs'[i]? = some b' → ∃ b : Blk, bs[i]? = some b ∧ b.like b') {g o : Nat} (hm : Mof M0 ρ bs' g o) : Mof M0 ρ bs g o := by
  rcases hm with hm | ⟨i, b', base, n, rl, esz, hi, hat, hk⟩
  · exact .inl hm
  · obtain ⟨b, hb, hl⟩ := h i b' hi
    refine .inr ⟨i, b, base, n, rl, esz, hb, hat, ?_⟩
    rcases hk with hk | hk | hk
    · rcases hl.down with e | e
      · exact .inl (e ▸ hk)
      · exact absurd (e ▸ hk) (Kind.down_box _).1
    · rcases hl.down with e | e
      · exact .inr (.inl (e ▸ hk))
      · exact absurd (e ▸ hk) (Kind.down_box _).2
    · exact .inr (.inr hk)

theorem Pres.sub {w : World} {M M' : Foot} (h : ∀ g o, M' g o → M g o) : Pres w M w M' := fun g o v hn hv => ⟨fun hm => hn (h g o hm), hv⟩

theorem BlkAt.like {M M' : Foot} {b b' : Blk} {g base n rl esz : Nat} (h : BlkAt w M ρ b g base n rl esz) (hl : b.like b') (hp : Pres w M w M') : BlkAt w M' ρ b' g base n rl esz := by
  obtain ⟨h1, h2, h3, h4, arr, Ty, hg, hs, hc⟩ := h.move (ρ' := ρ) rfl hp fun _ _ => rfl
  exact ⟨by rw [hl.rows]; exact h1, by rw [hl.esz]; exact h2, by rw [hl.rows]; exact h3, h4, arr, Ty, hg, hs, by rw [hl.rows, hl.box]; exact hc⟩

theorem Store.down (hS : Store M0 ρ bs w) (ids : List Nat) : Store M0 ρ (downTo ids bs) w := by
  have hsub : ∀ g o, Mof M0 ρ (downTo ids bs) g o → Mof M0 ρ bs g o := fun g o => Mof_like fun i b' h => downTo_like h
  refine ⟨?_, ?_, ?_, hS.inj, hS.m0⟩
  · intro i b' g base n rl esz hi hat
    obtain ⟨b, hb, hl⟩ := downTo_like hi
    exact (hS.at_ i b g base n rl esz hb hat).like hl (Pres.sub hsub)
  · intro i b' hi hv
    obtain ⟨b, hb, hl⟩ := downTo_like hi
    obtain ⟨h1, h2⟩ := hS.virt i b hb hv
    exact ⟨hl.rows.trans h1, hl.box.trans h2⟩
  · intro i hi
    exact hS.out i (by simpa [downTo] using hi)

theorem Mof_nil (M : Foot) (ρ : Nat → Loc) : Mof M ρ [] = M := by
  funext g o
  apply propext
  constructor
  · rintro (h | ⟨i, b, _, _, _, _, hi, _⟩)
    · exact h
    · simp at hi
  · exact .inl

theorem Store.empty (M : Foot) (w : World) : Store M noLoc [] w :=
  ⟨fun i b _ _ _ _ _ h => (by simp at h), fun i b h => (by simp at h), fun _ _ => rfl, fun i j g _ _ _ _ _ _ _ _ h => (by cases h), fun i g _ _ _ _ h => (by cases h)⟩

mutual
theorem plain_rep {w : World} {M : Foot} {ρ : Nat → Loc} {w' : World} {M' : Foot} {ρ' : Nat → Loc} : ∀ (d : D) (v : Value), d.plain = true → Rep w M ρ v d → Rep w' M' ρ' v d
  | .undef, v, _, _ => .imm _ _ (.undef v)
  | .int k n, v, _, h => by rw [h.int_inv]; exact .imm _ _ (.int k n)
  | .bool b, v, _, h => by rw [h.bool_inv]; exact .imm _ _ (.bool b)
  | .nil, v, _, h => by obtain ⟨a, rfl⟩ := h.nil_inv; exact .imm _ _ (.nil a)
  | .sl _ _, v, hp, _ => by simp [D.plain] at hp
  | .mem _, v, hp, _ => by simp [D.plain] at hp
  | .ref _ _ _, v, hp, _ => by simp [D.plain] at hp
  | .ptr _ _ _, v, hp, _ => by simp [D.plain] at hp
  | .agg cs, v, hp, h => by
    obtain ⟨vs, rfl, hs, hr⟩ := h.agg_inv
    exact .agg vs cs hs fun i v d h1 h2 => plainL_rep cs (by simpa [D.plain] using hp) i v d h2 (hr i v d h1 h2)
  | .tup cs, v, hp, h => by
    obtain ⟨vs, rfl, hs, hr⟩ := h.tup_inv
    exact .tup vs cs hs fun i v d h1 h2 => plainL_rep cs (by simpa [D.plain] using hp) i v d h2 (hr i v d h1 h2)
  | .fn f a c, v, hp, h => by
    obtain ⟨va, vc, rfl, ha, hc, h1, h2⟩ := h.fn_inv
    simp only [D.plain, Bool.and_eq_true] at hp
    exact .fn f va vc a c ha hc (fun i v d e1 e2 => plainL_rep a hp.1 i v d e2 (h1 i v d e1 e2)) (fun i v d e1 e2 => plainL_rep c hp.2 i v d e2 (h2 i v d e1 e2))
theorem plainL_rep {w : World} {M : Foot} {ρ : Nat → Loc} {w' : World} {M' : Foot} {ρ' : Nat → Loc} : ∀ (cs : List D), plainL cs = true → ∀ (i : Nat) (v : Value) (d : D), cs[i]? = some d → Rep w M ρ v d → Rep w' M' ρ' v d
  | [], _, i, v, d, h, _ => by simp at h
  | c :: cs, hp, 0, v, d, h, hr => by
    simp only [List.getElem?_cons_zero, Option.some.injEq] at h
    subst h
    simp only [plainL, Bool.and_eq_true] at hp
    exact plain_rep c v hp.1 hr
  | c :: cs, hp, i + 1, v, d, h, hr => by
    simp only [plainL, Bool.and_eq_true] at hp
    exact plainL_rep cs hp.2 i v d (by simpa using h) hr
end

theorem append_rep {M : Foot} {xs ys : Array Value} {as cs : List D} (hl : xs.size = as.length) (h1 : ∀ (i : Nat) (v : Value) (d : D), xs[i]? = some v → as[i]? = some d → Rep w M ρ v d)
    (h2 : ∀ (i : Nat) (v : Value) (d : D), ys[i]? = some v → cs[i]? = some d → Rep w M ρ v d) : ∀ (i : Nat) (v : Value) (d : D), (xs ++ ys)[i]? = some v → (as ++ cs)[i]? = some d → Rep w M ρ v d := by
  intro i v d hv hd
  by_cases hi : i < xs.size
  · rw [Array.getElem?_append_left hi] at hv
    rw [List.getElem?_append_left (by omega)] at hd
    exact h1 i v d hv hd
  · rw [Array.getElem?_append_right (by omega)] at hv
    rw [List.getElem?_append_right (by omega), ← hl] at hd
    exact h2 _ v d hv hd

theorem Around.below {w w' : World} {ρ ρ' : Nat → Loc} (h : Around w ρ 0 w' ρ') : Below w.heap.size w w' := ⟨h.os, h.tape, h.output, h.size, fun k hk => h.keep k hk fun i hi => by omega⟩

theorem below_pres {w w' : World} (h : Below w.heap.size w w') (M : Foot) : Pres w M w' M := fun g o v hn hv => ⟨hn, by rw [World.cell?_of_block (w := w) (h.block g (cell_lt hv))]; exact hv⟩

theorem Store.below (hS : Store M0 ρ bs w) {w' : World} (h : Below w.heap.size w w') : Store M0 ρ bs w' :=
  ⟨fun i b g base n rl esz hi hat => (hS.at_ i b g base n rl esz hi hat).move (h.block g (hS.lt hat)) (below_pres h _) fun _ _ => rfl, hS.virt, hS.out, hS.inj, hS.m0⟩

theorem grow_below (hS : Store M0 ρ bs w) {w' : World} (h : Below w.heap.size w w') (nb n : Nat) : Grow M0 w ρ w' ρ bs nb n :=
  ⟨h, fun _ _ => rfl, fun _ h1 h2 => absurd h1 h2, below_pres h _, hS.below h⟩

theorem idsL_append (a b : List D) : idsL (a ++ b) = idsL a ++ idsL b := by
  induction a with
  | nil => rfl
  | cons d ds ih => simp [idsL, ih]

/-- The blocks of a call's own come into the caller's. -/
theorem Store.taken {w' : World} {ρ'' : Nat → Loc} {nbs : List Blk} {nb : Nat} (hS : Store M0 ρ bs w) (hm0 : ∀ g o, M0 g o → g < w.heap.size) (hb : Below w.heap.size w w')
    (hS2 : Store (Mof M0 ρ bs) ρ'' nbs w') (hfresh : ∀ i g base n rl esz, ρ'' i = .at_ g base n rl esz → w.heap.size ≤ g) (hbox : ∀ b ∈ nbs, b.kind.isBox = false) (hn : NewAt M0 ρ bs nb nbs)
    {v : Value} {r : D} (hr : Rep w' (Mof (Mof M0 ρ bs) ρ'' nbs) ρ'' v r) :
    ∃ ρ', Rep w' (Mof M0 ρ' bs) ρ' v (r.shift nb) ∧ Grow M0 w ρ w' ρ' bs nb nbs.length := by
  let ρ' : Nat → Loc := fun i => if nb ≤ i ∧ i < nb + nbs.length then ρ'' (i - nb) else ρ i
  have hnew : ∀ k, k < nbs.length → ρ' (nb + k) = ρ'' k := fun k hk => by
    show (if nb ≤ nb + k ∧ nb + k < nb + nbs.length then _ else _) = _
    rw [if_pos ⟨by omega, by omega⟩, show nb + k - nb = k by omega]
  have hout : ∀ i, ¬ (nb ≤ i ∧ i < nb + nbs.length) → ρ' i = ρ i := fun i hi => by
    show (if nb ≤ i ∧ i < nb + nbs.length then _ else _) = _
    rw [if_neg hi]
  have habs : ∀ i, nb ≤ i ∧ i < nb + nbs.length → ρ i = .absent := by
    intro i hi
    have hk : nbs[i - nb]? = some nbs[i - nb] := by simp
    obtain ⟨_, _, _, ha⟩ := hn (i - nb) _ hk
    rwa [show nb + (i - nb) = i by omega] at ha
  have hold : ∀ i, ρ i ≠ .absent → ρ' i = ρ i := fun i hi => hout i fun h => hi (habs i h)
  have hlt2 : ∀ k, ρ'' k ≠ .absent → k < nbs.length := by
    intro k hk
    rcases Nat.lt_or_ge k nbs.length with h | h
    · exact h
    · exact absurd (hS2.out k h) hk
  have hM : ∀ g o, Mof M0 ρ' bs g o → Mof (Mof M0 ρ bs) ρ'' nbs g o := by
    rintro g o (h | ⟨i, b', base, n, rl, esz, hi, hat, hk⟩)
    · exact .inl (.inl h)
    · by_cases hin : nb ≤ i ∧ i < nb + nbs.length
      · have hkk : nbs[i - nb]? = some nbs[i - nb] := by simp
        obtain ⟨b1, hb1, hl, _⟩ := hn (i - nb) _ hkk
        rw [show nb + (i - nb) = i by omega, hi] at hb1
        cases hb1
        have hat2 := hnew (i - nb) (by omega)
        rw [show nb + (i - nb) = i by omega, hat] at hat2
        refine .inr ⟨i - nb, _, base, n, rl, esz, hkk, hat2.symm, ?_⟩
        rcases hk with hk | hk | hk
        · rcases hl.down with e | e
          · exact .inl (e ▸ hk)
          · exact absurd (e ▸ hk) (Kind.down_box _).1
        · rcases hl.down with e | e
          · exact .inr (.inl (e ▸ hk))
          · exact absurd (e ▸ hk) (Kind.down_box _).2
        · exact .inr (.inr hk)
      · rw [hout i hin] at hat
        exact .inl (.inr ⟨i, b', base, n, rl, esz, hi, hat, hk⟩)
  have hMlt : ∀ g o, Mof M0 ρ bs g o → g < w.heap.size := by
    rintro g o (h | ⟨i, b', base, n, rl, esz, hi, hat, hk⟩)
    · exact hm0 g o h
    · exact hS.lt hat
  have hpres : Pres w (Mof M0 ρ bs) w' (Mof M0 ρ' bs) := by
    intro g o v hn' hv
    have hg := cell_lt hv
    refine ⟨fun hm => ?_, (below_pres hb (Mof M0 ρ bs) g o v hn' hv).2⟩
    rcases hM g o hm with h | ⟨i, b', base, n, rl, esz, hi, hat, hk⟩
    · exact hn' h
    · have := hfresh i g _ _ _ _ hat
      omega
  refine ⟨ρ', ?_, hb, hold, ?_, hpres, ?_⟩
  · refine hr.carry (Pres.sub hM) ?_ ?_
    · intro v b o l h
      rcases h.ref_inv with ⟨cap, g, base, n, rl, esz, rfl, hat, h1, h2, h3⟩ | ⟨a, rfl, hv, rfl, rfl⟩
      · exact .ref _ _ _ cap g base n rl esz ((hnew b (hlt2 b (by simp [hat]))).trans hat) h1 h2 h3
      · exact .refV _ a ((hnew b (hlt2 b (by simp [hv]))).trans hv)
    · intro v b i j h
      obtain ⟨g, base, n, rl, esz, rfl, hat⟩ := h.ptr_inv
      exact .ptr _ _ _ g base n rl esz ((hnew b (hlt2 b (by simp [hat]))).trans hat)
  · intro b h1 h2
    by_cases hin : nb ≤ b ∧ b < nb + nbs.length
    · refine ⟨hin.1, hin.2, fun g base n rl esz hat => ?_⟩
      have h3 := hnew (b - nb) (by omega)
      rw [show nb + (b - nb) = b by omega, hat] at h3
      exact hfresh _ _ _ _ _ _ h3.symm
    · rw [hout b hin] at h2
      exact absurd h1 h2
  · refine ⟨?_, ?_, ?_, ?_, ?_⟩
    · intro i b' g base n rl esz hi hat
      by_cases hin : nb ≤ i ∧ i < nb + nbs.length
      · have hkk : nbs[i - nb]? = some nbs[i - nb] := by simp
        obtain ⟨b1, hb1, hl, _⟩ := hn (i - nb) _ hkk
        rw [show nb + (i - nb) = i by omega, hi] at hb1
        cases hb1
        have hat2 := hnew (i - nb) (by omega)
        rw [show nb + (i - nb) = i by omega, hat] at hat2
        have hA := (hS2.at_ (i - nb) _ g base n rl esz hkk hat2.symm).like hl (Pres.sub hM)
        have hbx : b'.kind.isBox = false := by rw [hl.box]; exact hbox _ (List.mem_of_getElem? hkk)
        obtain ⟨h1, h2, h3, h4, arr, Ty, hg, hs, hc⟩ := hA
        refine ⟨h1, h2, h3, h4, arr, Ty, hg, hs, fun k j r d hr hd => ?_⟩
        obtain ⟨v, hv, hrep⟩ := hc k j r d hr hd
        refine ⟨v, hv, ?_⟩
        rw [hbx] at hrep ⊢
        exact hrep
      · rw [hout i hin] at hat
        exact (hS.at_ i b' g base n rl esz hi hat).move (hb.block g (hS.lt hat)) hpres hold
    · intro i b' hi hv
      by_cases hin : nb ≤ i ∧ i < nb + nbs.length
      · have hkk : nbs[i - nb]? = some nbs[i - nb] := by simp
        obtain ⟨b1, hb1, hl, _⟩ := hn (i - nb) _ hkk
        rw [show nb + (i - nb) = i by omega, hi] at hb1
        cases hb1
        have h3 := hnew (i - nb) (by omega)
        rw [show nb + (i - nb) = i by omega, hv] at h3
        obtain ⟨e1, e2⟩ := hS2.virt _ _ hkk h3.symm
        exact ⟨hl.rows.trans e1, hl.box.trans e2⟩
      · rw [hout i hin] at hv
        exact hS.virt i b' hi hv
    · intro i hi
      have hin : ¬ (nb ≤ i ∧ i < nb + nbs.length) := by
        intro hin
        have hkk : nbs[i - nb]? = some nbs[i - nb] := by simp
        obtain ⟨b1, hb1, _⟩ := hn (i - nb) _ hkk
        rw [show nb + (i - nb) = i by omega, List.getElem?_eq_none hi] at hb1
        cases hb1
      rw [hout i hin]
      exact hS.out i hi
    · intro i j g base1 n1 rl1 esz1 base2 n2 rl2 esz2 hi hj
      by_cases hin : nb ≤ i ∧ i < nb + nbs.length
      · have h3 := hnew (i - nb) (by omega)
        rw [show nb + (i - nb) = i by omega, hi] at h3
        by_cases hjn : nb ≤ j ∧ j < nb + nbs.length
        · have h4 := hnew (j - nb) (by omega)
          rw [show nb + (j - nb) = j by omega, hj] at h4
          have := hS2.inj _ _ g _ _ _ _ _ _ _ _ h3.symm h4.symm
          omega
        · rw [hout j hjn] at hj
          have := hfresh _ _ _ _ _ _ h3.symm
          have := hS.lt hj
          omega
      · rw [hout i hin] at hi
        by_cases hjn : nb ≤ j ∧ j < nb + nbs.length
        · have h4 := hnew (j - nb) (by omega)
          rw [show nb + (j - nb) = j by omega, hj] at h4
          have := hfresh _ _ _ _ _ _ h4.symm
          have := hS.lt hi
          omega
        · rw [hout j hjn] at hj
          exact hS.inj i j g _ _ _ _ _ _ _ _ hi hj
    · intro i g base n rl esz hi o hm
      by_cases hin : nb ≤ i ∧ i < nb + nbs.length
      · have h3 := hnew (i - nb) (by omega)
        rw [show nb + (i - nb) = i by omega, hi] at h3
        have := hfresh _ _ _ _ _ _ h3.symm
        have := hm0 g o hm
        omega
      · rw [hout i hin] at hi
        exact hS.m0 i g _ _ _ _ hi o hm
end
end Go.AM
/- AM: a call that is lent nothing does what callOut says; whatever is no barrier. -/
namespace Go.AM
set_option linter.unusedSimpArgs false
set_option linter.unusedVariables false
open Go.RowKit (Below)

section
variable {P : Program} {T : Tab} {eqs : List Nat} {M0 : Foot} {ρ : Nat → Loc} {bs bsE : List Blk} {w : World}

theorem call_enters {f : Nat} {ev' : Operand → Value} {fo : Operand} {args : Array Operand} {argTypes : Array TypeId} {ty : TypeId} {va vc : Array Value} (hc : Callable P f) (hf : ev' fo = .func (.func f) va vc) :
    (do let d ← resolve ev' { callee := .value fo, args := args, argTypes := argTypes } ty; invoke d.target d.args : Sem Next).run P w = .ok (.enter f (va ++ args.map ev' ++ vc)) w := by
  obtain ⟨fn, h1, h2, h3⟩ := hc
  have h2' : ¬ fn.name = "runtime.NumGoroutine" := by simpa using h2
  have h3' : fn.body ≠ none := by
    intro h
    simp [h] at h3
  simp [resolve, hf, Deferred.ofValue, invoke, callFunc, h1, h2', h3']

theorem freeze_list (hS : Store M0 ρ bs w) (hE : Ext bsE bs) {M' : Foot} (hp : Pres w (Mof M0 ρ bs) w M') {vs : Array Value} {ds : List D} (hst : ∀ x ∈ reach bsE (idsL ds), Still ρ M' x)
    (h : ∀ (i : Nat) (v : Value) (d : D), vs[i]? = some v → ds[i]? = some d → Rep w (Mof M0 ρ bs) ρ v d) :
    ∀ (i : Nat) (v : Value) (d : D), vs[i]? = some v → (ds.map (D.freeze bsE))[i]? = some d → Rep w M' noLoc v d := by
  intro i v d hv hd
  rw [List.getElem?_map] at hd
  cases hc : ds[i]? with
  | none => simp [hc] at hd
  | some d0 =>
    simp [hc] at hd
    subst hd
    refine hS.freeze hE hp (h i v d0 hv hc) fun x hx => hst x ?_
    simp only [reach, List.mem_append, List.mem_flatMap] at hx ⊢
    rcases hx with hx | ⟨b, hb, hx⟩
    · exact .inl (idsL_mem (List.mem_of_getElem? hc) hx)
    · exact .inr ⟨b, idsL_mem (List.mem_of_getElem? hc) hb, hx⟩

theorem Store.still (hS : Store M0 ρ bs w) {b : Nat} (h : ∀ k, bs[b]? = some k → k.kind ≠ .box ∧ k.kind ≠ .mut) : Still ρ (Mof M0 ρ bs) b := by
  intro g base n rl esz hat o ho
  have hlt : b < bs.length := by
    rcases Nat.lt_or_ge b bs.length with h' | h'
    · exact h'
    · have := hS.out b h'
      rw [this] at hat
      cases hat
  exact hS.stable (by simp [hlt]) hat (h bs[b] (by simp [hlt])) ho

theorem Mof_lt (hS : Store M0 ρ bs w) (hm0 : ∀ g o, M0 g o → g < w.heap.size) : ∀ g o, Mof M0 ρ bs g o → g < w.heap.size := by
  rintro g o (h | ⟨i, b', base, n, rl, esz, hi, hat, hk⟩)
  · exact hm0 g o h
  · exact hS.lt hat

mutual
theorem plain_mapR : ∀ (d : D), d.plain = true → ∀ fr fp, d.mapR fr fp = d
  | .undef, _, _, _ => rfl
  | .int _ _, _, _, _ => rfl
  | .bool _, _, _, _ => rfl
  | .nil, _, _, _ => rfl
  | .sl _ _, hp, _, _ => rfl
  | .mem _, hp, _, _ => rfl
  | .ref _ _ _, hp, _, _ => by simp [D.plain] at hp
  | .ptr _ _ _, hp, _, _ => by simp [D.plain] at hp
  | .agg cs, hp, fr, fp => by simp only [D.mapR, plainL_mapR cs (by simpa [D.plain] using hp) fr fp]
  | .tup cs, hp, fr, fp => by simp only [D.mapR, plainL_mapR cs (by simpa [D.plain] using hp) fr fp]
  | .fn _ a c, hp, fr, fp => by
    simp only [D.plain, Bool.and_eq_true] at hp
    simp only [D.mapR, plainL_mapR a hp.1 fr fp, plainL_mapR c hp.2 fr fp]
theorem plainL_mapR : ∀ (cs : List D), plainL cs = true → ∀ fr fp, mapRL fr fp cs = cs
  | [], _, _, _ => rfl
  | c :: cs, hp, fr, fp => by
    simp only [plainL, Bool.and_eq_true] at hp
    simp only [mapRL, plain_mapR c hp.1 fr fp, plainL_mapR cs hp.2 fr fp]
end

theorem call_sound {C : Con} {own : Bool} {nb : Nat} {fd : D} {ads : List D} {out : Out} {vf : Value} {avs : Array Value} (hC : ∀ f args bs r bs', C f args bs r bs' → Den P f args bs r bs') (c : Cfg) (hc : c.C = C)
    (hS : Store M0 ρ bs w) (hm0 : ∀ g o, M0 g o → g < w.heap.size) (hE : Ext bsE bs) (hf : Rep w (Mof M0 ρ bs) ρ vf fd) (hal : avs.size = ads.length)
    (ha : ∀ (i : Nat) (v : Value) (d : D), avs[i]? = some v → ads[i]? = some d → Rep w (Mof M0 ρ bs) ρ v d) (hout : callOut c own nb bsE fd ads out) (hn : NewAt M0 ρ bs nb out.news)
    (hdown : ∀ b ∈ out.down, ∀ k, bs[b]? = some k → k.kind ≠ .box ∧ k.kind ≠ .mut) :
    ∃ f va vc, vf = .func (.func f) va vc ∧ Callable P f ∧ Calls P f (va ++ avs ++ vc) w fun e w' => ∃ v ρ', e = .returned v ∧ Rep w' (Mof M0 ρ' bs) ρ' v out.d ∧ Grow M0 w ρ w' ρ' bs nb out.news.length := by
  unfold callOut at hout
  split at hout
  · rename_i f first caps
    obtain ⟨r, nbs, hcon, hbox, rfl⟩ := hout
    rw [hc] at hcon
    obtain ⟨hcall, hden⟩ := hC _ _ _ _ _ hcon
    obtain ⟨va, vc, rfl, hsa, hsc, hra, hrc⟩ := hf.fn_inv
    refine ⟨f, va, vc, rfl, hcall, ?_⟩
    have hall : ∀ (i : Nat) (v : Value) (d : D), (va ++ avs ++ vc)[i]? = some v → (first ++ ads ++ caps)[i]? = some d → Rep w (Mof M0 ρ bs) ρ v d :=
      append_rep (by simp [hsa, hal]) (append_rep hsa hra ha) hrc
    -- the blocks that the call sees are told lower while it runs
    let ids := reach bsE (idsL (first ++ ads ++ caps))
    have hS1 := hS.down ids
    have hE1 : Ext bsE (downTo ids bs) := hE.trans (downTo_ext ids bs)
    have hM1 : ∀ g o, Mof M0 ρ (downTo ids bs) g o → Mof M0 ρ bs g o := fun g o => Mof_like fun i b' h => downTo_like h
    have hst : ∀ x ∈ ids, Still ρ (Mof M0 ρ (downTo ids bs)) x := fun x hx => hS1.still fun k hk => downTo_kind hk hx
    have hall1 : ∀ (i : Nat) (v : Value) (d : D), (va ++ avs ++ vc)[i]? = some v → (first ++ ads ++ caps)[i]? = some d → Rep w (Mof M0 ρ (downTo ids bs)) ρ v d :=
      fun i v d h1 h2 => (hall i v d h1 h2).move (Pres.sub hM1) fun _ _ => rfl
    have hargs := freeze_list hS1 hE1 (Pres.refl _ _) hst hall1
    have hlt1 := Mof_lt hS1 hm0
    refine (hden w (Mof M0 ρ (downTo ids bs)) noLoc (va ++ avs ++ vc) hlt1 (.empty _ _) (by simp [hsa, hal, hsc]) (by rw [Mof_nil]; exact hargs)).mono ?_
    rintro e w' ⟨v, ρ'', rfl, hr, hS2, _, _, hp2, har⟩
    have hbel := har.below
    by_cases hpl : (r.plain && nbs.isEmpty) = true
    · -- nothing is kept
      simp only [Bool.and_eq_true] at hpl
      have hnil : nbs = [] := by simpa using hpl.2
      subst hnil
      refine ⟨v, ρ, rfl, ?_, grow_below hS hbel _ _⟩
      have hkeep : ∀ fr fp, r.mapR fr fp = r := fun fr fp => plain_mapR r hpl.1 fr fp
      have hd : (importD own nb r [] ids).d = r := by
        simp only [importD, D.shift, D.freeze, hkeep, ite_self]
      rw [hd]
      exact plain_rep r v hpl.1 hr
    · -- what it saw stays as it is
      have hdn : importD own nb r nbs ids = { d := if own then r.shift nb else r.freeze nbs, news := if own then nbs else [], down := ids } := by
        simp only [importD]
        rw [if_neg hpl]
      rw [hdn] at hn hdown ⊢
      have hid : downTo ids bs = bs := downTo_id hdown
      rw [hid] at hr hS2 hp2
      have hfresh : ∀ i g base n rl esz, ρ'' i = .at_ g base n rl esz → w.heap.size ≤ g := fun i g base n rl esz h => har.fresh i g base n rl esz (Nat.zero_le _) h
      have hbox' : ∀ b ∈ nbs, b.kind.isBox = false := by
        intro b hb
        rw [List.all_eq_true] at hbox
        simpa using hbox b hb
      cases own with
      | true =>
        simp only [if_true] at hn ⊢
        obtain ⟨ρ', h1, h2⟩ := hS.taken hm0 hbel hS2 hfresh hbox' hn hr
        exact ⟨v, ρ', rfl, h1, h2⟩
      | false =>
        simp only [Bool.false_eq_true, if_false] at hn ⊢
        refine ⟨v, ρ, rfl, ?_, grow_below hS hbel _ _⟩
        have hlt := Mof_lt hS hm0
        have h1 : Rep w' (Mof M0 ρ bs) noLoc v (r.freeze nbs) := hS2.freeze (Ext.refl _) (M' := Mof M0 ρ bs) (Pres.sub fun g o h => .inl h) hr (by
          intro x hx g base n rl esz hat o ho hm
          have := hfresh x g _ _ _ _ hat
          have := hlt g o hm
          omega)
        exact h1.move (Pres.refl _ _) fun b hb => absurd rfl hb
  · cases hout

/-- Whatever is no barrier. -/
theorem out_sound {c : Cfg} {a : Act} {o : Oper} {nb : Nat} {ev : Operand → D} {out : Out} {Q : Exit → Act → World → Prop} (hC : ∀ f args bs r bs', c.C f args bs r bs' → Den P f args bs r bs') (hT : TabOk P c.T c.eqs)
    (hS : Store M0 ρ bs w) (hm0 : ∀ g o, M0 g o → g < w.heap.size) (hE : Ext bsE bs) (hops : ∀ x ∈ o.op.operands, Rep w (Mof M0 ρ bs) ρ (a.eval x) (ev x)) (h : outOp c nb bsE ev o out)
    (hn : NewAt M0 ρ bs nb out.news) (hdown : ∀ b ∈ out.down, ∀ k, bs[b]? = some k → k.kind ≠ .box ∧ k.kind ≠ .mut) (K : Act → World → Prop)
    (hK : ∀ v w' ρ', Rep w' (Mof M0 ρ' bs) ρ' v out.d → Grow M0 w ρ w' ρ' bs nb out.news.length → K (a.put o.dst v) w') : o.wp P a w K Q := by
  have plain : opFn c.T c.eqs nb bsE ev o.type o.op = some out → o.wp P a w K Q := by
    intro h
    obtain ⟨v, w', ρ', hrun, hrep, hg⟩ := opFn_sound hT hS hm0 hE (ev' := a.eval) (fun _ => rfl) hops h hn hdown
    unfold Oper.wp
    rw [hrun]
    exact hK v w' ρ' hrep hg
  unfold outOp at h
  split at h
  · rename_i f args tys hop
    rw [hop] at hops
    simp only [Op.operands, Call.operands] at hops
    obtain ⟨fid, va, vc, hvf, hcall, hcalls⟩ := call_sound hC c rfl hS hm0 hE (hops f (by simp)) (avs := args.map a.eval) (by simp) (args_rep fun y hy => hops y (by simp [hy])) h hn hdown
    unfold Oper.wp
    have he : (execOp a.eval o).run P w = .ok (.enter fid (va ++ args.map a.eval ++ vc)) w := by
      obtain ⟨dst, op, ty, pos, after, guard⟩ := o
      simp only at hop
      subst hop
      simp only [execOp]
      exact call_enters hcall hvf
    rw [he]
    refine Calls.mono hcalls ?_
    rintro e w' ⟨v, ρ', rfl, hrep, hg⟩
    exact hK v w' ρ' hrep hg
  · exact plain h
end
end Go.AM
/- AM: blocks that are written, appended to. -/
namespace Go.AM
set_option linter.unusedSimpArgs false
set_option linter.unusedVariables false
open Go.RowKit (Below)

section
variable {P : Program} {T : Tab} {eqs : List Nat} {M0 : Foot} {ρ : Nat → Loc} {bs : List Blk} {w : World}

theorem setBlk_get (bs : List Blk) (b i : Nat) (rows : List (List D)) : (setBlk bs b rows)[i]? = (bs[i]?).map fun k => if i = b then { k with rows := rows } else k := by
  simp only [setBlk, List.getElem?_modify]
  cases bs[i]? with
  | none => rfl
  | some k =>
    by_cases h : b = i
    · subst h; simp
    · simp [h, Ne.symm h]

theorem setBlk_len (bs : List Blk) (b : Nat) (rows : List (List D)) : (setBlk bs b rows).length = bs.length := by simp [setBlk]

/-- The rows of a slice, out of memory. -/
theorem src_cells {M : Foot} {d : D} {v : Value} {ys : List (List D)} {esz : Nat} (hS : Store M0 ρ bs w) (hv : Rep w (Mof M0 ρ bs) ρ v d) (h : srcRows bs d = some ys) (hf : ∀ r ∈ ys, r.length = esz) :
    ∃ (a : Option Addr) (cap : Nat) (vals : List Value), v = .slice a ys.length cap ∧ vals.length = ys.length * esz ∧ (∀ ad, a = some ad → ∀ (j : Nat) (u : Value), vals[j]? = some u → w.cell? (ad.add j) = some u) ∧
      (a = none → ys = []) ∧ ∀ (i j : Nat) (r : List D) (e : D), ys[i]? = some r → r[j]? = some e → ∃ u, vals[i * esz + j]? = some u ∧ RepI w (Mof M0 ρ bs) u e := by
  -- cells known one by one
  have mk : ∀ (a : Option Addr) (cap g off : Nat), v = .slice a ys.length cap → (ys ≠ [] → a = some ⟨g, off, none⟩) →
      (∀ i j r e, ys[i]? = some r → r[j]? = some e → ∃ u, w.cell? ⟨g, off + i * esz + j, none⟩ = some u ∧ RepI w (Mof M0 ρ bs) u e) →
      ∃ (a : Option Addr) (cap : Nat) (vals : List Value), v = .slice a ys.length cap ∧ vals.length = ys.length * esz ∧ (∀ ad, a = some ad → ∀ (j : Nat) (u : Value), vals[j]? = some u → w.cell? (ad.add j) = some u) ∧
        (a = none → ys = []) ∧ ∀ (i j : Nat) (r : List D) (e : D), ys[i]? = some r → r[j]? = some e → ∃ u, vals[i * esz + j]? = some u ∧ RepI w (Mof M0 ρ bs) u e := by
    intro a cap g off hv ha hc
    have hcell : ∀ m, m < ys.length * esz → ∃ u, w.cell? ⟨g, off + m, none⟩ = some u := by
      intro m hm
      have he : 0 < esz := by
        rcases Nat.eq_zero_or_pos esz with h0 | h0
        · rw [h0] at hm; simp at hm
        · exact h0
      have hi : m / esz < ys.length := by rw [Nat.div_lt_iff_lt_mul he]; exact hm
      have hj : m % esz < esz := Nat.mod_lt _ he
      have hr := hf _ (List.getElem_mem hi)
      obtain ⟨u, hu, _⟩ := hc (m / esz) (m % esz) ys[m / esz] (ys[m / esz][m % esz]'(by omega)) (by simp) (by simp)
      have : off + m / esz * esz + m % esz = off + m := by have := Nat.div_add_mod m esz; rw [Nat.mul_comm] at this; omega
      rw [this] at hu
      exact ⟨u, hu⟩
    refine ⟨a, cap, (List.range (ys.length * esz)).map fun m => (w.cell? ⟨g, off + m, none⟩).getD Go.undef, hv, by simp, ?_, ?_, ?_⟩
    · intro ad had j u hu
      rw [List.getElem?_map] at hu
      by_cases hj : j < ys.length * esz
      · have hne : ys ≠ [] := by rintro h0; rw [h0] at hj; simp at hj
        rw [ha hne] at had
        cases had
        rw [Addr.add_plain]
        obtain ⟨u', hu'⟩ := hcell j hj
        simp [hj, hu'] at hu
        rw [hu', hu]
      · simp [hj] at hu
    · intro h0
      apply Classical.byContradiction
      intro hne
      rw [ha hne] at h0
      cases h0
    · intro i j r e hi hj
      obtain ⟨u, hu, hr⟩ := hc i j r e hi hj
      have hlt : i * esz + j < ys.length * esz := by
        refine lt_row (List.getElem?_eq_some_iff.1 hi).1 ?_
        rw [← hf r (List.mem_of_getElem? hi)]
        exact (List.getElem?_eq_some_iff.1 hj).1
      refine ⟨u, ?_, hr⟩
      rw [Nat.add_assoc] at hu
      simp [hlt, hu]
  unfold srcRows at h
  split at h
  · cases h
    obtain ⟨a, rfl⟩ := hv.nil_inv
    exact mk a 0 0 0 rfl (fun h => absurd rfl h) (fun i j r e hi => by simp at hi)
  · rename_i rows len
    cases h
    have hI := hv.sl_inv
    cases hI with
    | sl a _ cap _ esz' g off vals h1 h2 hrow ha hc hvv =>
      have hlen : (rows.take len).length = len := by simp; omega
      refine mk a cap g off (by rw [hlen]) (fun hne => ha (by rintro h0; rw [h0] at hne; simp at hne)) ?_
      intro i j r e hi hj
      have hi' : rows[i]? = some r := by
        rw [List.getElem?_take] at hi
        split at hi
        · exact hi
        · cases hi
      have hesz : esz' = esz := by rw [← hrow r (List.mem_of_getElem? hi'), hf r (List.mem_of_getElem? hi)]
      subst hesz
      have hjl : j < esz' := by rw [← hrow r (List.mem_of_getElem? hi')]; exact (List.getElem?_eq_some_iff.1 hj).1
      exact ⟨_, (hc i j (List.getElem?_eq_some_iff.1 hi').1 hjl).2, hvv i j r e hi' hj⟩
  · rename_i b o l
    split at h
    · rename_i k hb
      split at h
      · cases h
      · rename_i hbox
        cases h
        rcases hv.ref_inv with ⟨cap, g, base, n, rl, esz', rfl, hat, h1, h2, h3⟩ | ⟨a, rfl, hvirt, rfl, rfl⟩
        · have hA := hS.at_ b k g base n rl esz' hb hat
          have hlen : ((k.rows.drop o).take l).length = l := by have := hA.hrl; simp; omega
          refine mk (some ⟨g, base + o * esz', none⟩) cap g (base + o * esz') (by rw [hlen]) (fun _ => rfl) ?_
          intro i j r e hi hj
          have hi' : k.rows[o + i]? = some r := by
            rw [List.getElem?_take] at hi
            split at hi
            · rw [List.getElem?_drop] at hi; exact hi
            · cases hi
          have hesz : esz' = esz := by rw [← hA.hrow r (List.mem_of_getElem? hi'), hf r (List.mem_of_getElem? hi)]
          subst hesz
          obtain ⟨arr, Ty, hg, hs, hc⟩ := hA.cells
          obtain ⟨u, hu, hr⟩ := hc (o + i) j r e hi' hj
          rw [if_neg hbox] at hr
          have hpos : base + o * esz' + i * esz' + j = base + (o + i) * esz' + j := by rw [Nat.add_mul]; omega
          exact ⟨u, by rw [hpos]; simp [World.cell?, hg, hu], hr⟩
        · have hrows := (hS.virt b k hb hvirt).1
          refine mk a 0 0 0 (by rw [hrows]; rfl) (fun hne => absurd (by rw [hrows]; rfl) hne) (fun i j r e hi => by rw [hrows] at hi; simp at hi)
    · cases h
  · cases h

/-- A variable, an array that is written: its rows turn, as many as they were. -/
theorem Store.write (hS : Store M0 ρ bs w) {b g base n rl esz : Nat} {k : Blk} {arr arr' : Array Value} {Ty : TypeId} {rows : List (List D)} (hb : bs[b]? = some k) (hat : ρ b = .at_ g base n rl esz) (hk : k.kind = .box ∨ k.kind = .mut)
    (hh : w.heap[g]? = some (.cells arr Ty (0, 0))) (hs : arr'.size = arr.size) (hl : rows.length = k.rows.length) (hrow : ∀ r ∈ rows, r.length = esz)
    (hc : ∀ (i j : Nat) (r : List D) (d : D), rows[i]? = some r → r[j]? = some d → ∃ v, arr'[base + i * esz + j]? = some v ∧ (if k.kind.isBox then Rep w (Mof M0 ρ bs) ρ v d else RepI w (Mof M0 ρ bs) v d)) :
    Store M0 ρ (setBlk bs b rows) (w.setRow g arr') ∧ Pres w (Mof M0 ρ bs) (w.setRow g arr') (Mof M0 ρ (setBlk bs b rows)) := by
  have hM : ∀ x o, Mof M0 ρ (setBlk bs b rows) x o → Mof M0 ρ bs x o := by
    rintro x o (h | ⟨i, b', base', n', rl', esz', hi, hat', hk'⟩)
    · exact .inl h
    · rw [setBlk_get] at hi
      cases hbi : bs[i]? with
      | none => simp [hbi] at hi
      | some kk =>
        simp only [hbi, Option.map_some, Option.some.injEq] at hi
        refine .inr ⟨i, kk, base', n', rl', esz', hbi, hat', ?_⟩
        split at hi <;> (subst hi; exact hk')
  have hin : ∀ o, Mof M0 ρ bs g o := fun o => .inr ⟨b, k, base, n, rl, esz, hb, hat, hk.imp id .inl⟩
  have hpres : Pres w (Mof M0 ρ bs) (w.setRow g arr') (Mof M0 ρ (setBlk bs b rows)) := by
    intro x o v hn hv
    have hx : x ≠ g := by rintro rfl; exact hn (hin o)
    exact ⟨fun h => hn (hM x o h), by rw [cell_setRow_other w g arr' ⟨x, o, none⟩ hx]; exact hv⟩
  refine ⟨⟨?_, ?_, ?_, hS.inj, hS.m0⟩, hpres⟩
  · intro i b' x base' n' rl' esz' hi hat'
    rw [setBlk_get] at hi
    cases hbi : bs[i]? with
    | none => simp [hbi] at hi
    | some kk =>
      simp only [hbi, Option.map_some, Option.some.injEq] at hi
      by_cases hib : i = b
      · subst hib
        rw [if_pos rfl] at hi
        subst hi
        rw [hb] at hbi
        cases hbi
        rw [hat] at hat'
        cases hat'
        have hA := hS.at_ i k g base n rl esz hb hat
        obtain ⟨arr0, Ty0, hg0, hs0, _⟩ := hA.cells
        rw [hh] at hg0
        cases hg0
        refine ⟨by rw [hA.hrl]; exact hl.symm, hA.hesz, hrow, hA.hfit, arr', Ty, setRow_heap w g arr arr' Ty _ hh, hs.trans hs0, fun i' j r d hr hd => ?_⟩
        obtain ⟨v, hv, hrep⟩ := hc i' j r d hr hd
        refine ⟨v, hv, ?_⟩
        show if k.kind.isBox = true then _ else _
        split
        · rename_i hx; rw [if_pos hx] at hrep; exact hrep.move hpres fun _ _ => rfl
        · rename_i hx; rw [if_neg hx] at hrep; exact hrep.move hpres
      · rw [if_neg hib] at hi
        subst hi
        have hne : x ≠ g := by
          rintro rfl
          exact hib (hS.inj i b x _ _ _ _ _ _ _ _ hat' hat)
        exact (hS.at_ i kk x base' n' rl' esz' hbi hat').move (setRow_other w g x arr' hne) hpres fun _ _ => rfl
  · intro i b' hi hv
    rw [setBlk_get] at hi
    cases hbi : bs[i]? with
    | none => simp [hbi] at hi
    | some kk =>
      simp only [hbi, Option.map_some, Option.some.injEq] at hi
      have hib : i ≠ b := by rintro rfl; rw [hat] at hv; cases hv
      rw [if_neg hib] at hi
      subst hi
      exact hS.virt i kk hbi hv
  · intro i hi
    exact hS.out i (by rw [setBlk_len] at hi; exact hi)
end
end Go.AM
/- AM: append on the machine. -/
namespace Go.AM
set_option linter.unusedSimpArgs false
set_option linter.unusedVariables false
open Go.RowKit (Below)

section
variable {P : Program} {T : Tab} {eqs : List Nat} {M0 : Foot} {ρ : Nat → Loc} {bs : List Blk} {w : World}

/-- The appended cells, read. -/
theorem firstCells_run {size n : Nat} {a : Option Addr} {cap : Nat} {vals : List Value} (hl : vals.length = n * size) (hc : ∀ ad, a = some ad → ∀ (j : Nat) (u : Value), vals[j]? = some u → w.cell? (ad.add j) = some u) (h0 : a = none → vals = []) :
    (Builtin.firstCells size n (.slice a n cap)).run P w = .ok vals.toArray w := by
  cases a with
  | none => simp [Builtin.firstCells, h0 rfl]
  | some ad => exact run_firstCells_some w size n ad n cap vals hl (hc ad rfl)

theorem append_in_run {t0 t1 ty e e' len cap n cap' : Nat} {a a' : Option Addr} {vals : List Value} (hT : TabOk P T eqs) (h0 : (T t0).d = .slice e) (h1 : (T t1).d = .slice e') (hl : vals.length = n * (T e).size)
    (hc : ∀ ad, a' = some ad → ∀ (j : Nat) (u : Value), vals[j]? = some u → w.cell? (ad.add j) = some u) (hn0 : a' = none → n = 0) (hfit : len + n ≤ cap) {w' : World}
    (hst : (match a with | some ad => storeCells (ad.add (len * (T e).size)) vals | none => (pure () : Sem Unit)).run P w = .ok () w') :
    (Builtin.append_ #[t0, t1] ty #[.slice a len cap, .slice a' n cap']).run P w = .ok (.slice a (len + n) cap) w' := by
  obtain ⟨hu0, hk⟩ := und_slice hT h0
  obtain ⟨hu1, _⟩ := und_slice hT h1
  have hsz := sizeOf_run (P := P) hT (w := w) hk
  have hf := firstCells_run (P := P) (w := w) (cap := cap') hl hc (fun h => by have := hn0 h; subst this; simp at hl; exact hl)
  cases a with
  | none =>
    simp only [Sem.run_pure, Result.ok.injEq, true_and] at hst
    subst hst
    simp [Builtin.append_, run_underlying hu0, run_underlying hu1, hsz, Builtin.lenOf, hfit, hf]
  | some ad =>
    simp only at hst
    simp [Builtin.append_, run_underlying hu0, run_underlying hu1, hsz, Builtin.lenOf, hfit, hf, hst]

theorem append_grow_run {t0 t1 ty e e' len cap n cap' : Nat} {a a' : Option Addr} {olds vals : List Value} (hT : TabOk P T eqs) (h0 : (T t0).d = .slice e) (h1 : (T t1).d = .slice e') (hl : vals.length = n * (T e).size)
    (hc : ∀ ad, a' = some ad → ∀ (j : Nat) (u : Value), vals[j]? = some u → w.cell? (ad.add j) = some u) (hn0 : a' = none → n = 0)
    (hlo : olds.length = len * (T e).size) (hco : ∀ ad, a = some ad → ∀ (j : Nat) (u : Value), olds[j]? = some u → w.cell? (ad.add j) = some u) (hlo0 : a = none → len = 0)
    (hg : cap < len + n) (hb : (len + n) * (T e).bytes ≤ 140737488355328) (h63 : len + n ≤ 9223372036854775807) :
    ∃ (cap2 : Nat) (z : Value), len + n ≤ cap2 ∧ constL z.cells.toList = (T e).zero ∧ z.cells.size = (T e).size ∧
      (Builtin.append_ #[t0, t1] ty #[.slice a len cap, .slice a' n cap']).run P w = .ok (.slice (some ⟨w.heap.size, 0, none⟩) (len + n) cap2)
        (w.drew.alloc (.cells (olds.toArray ++ vals.toArray ++ Builtin.zeroCells z.cells (cap2 - (len + n))) e)) := by
  obtain ⟨hu0, hk⟩ := und_slice hT h0
  obtain ⟨hu1, _⟩ := und_slice hT h1
  have hsz := sizeOf_run (P := P) hT (w := w) hk
  obtain ⟨z, i, hi, hz, hib, hzr, hzc, hzf, hzl, his⟩ := zeroValue_run hT hk
  obtain ⟨hzs, _⟩ := zero_rep (w := w) (M := fun _ _ => False) hzc hzf
  have hf := firstCells_run (P := P) (w := w.drew) (cap := cap') hl (fun ad h j u hu => by simpa using hc ad h j u hu) (fun h => by have := hn0 h; subst this; simp at hl; exact hl)
  have hfo := firstCells_run (P := P) (w := w.drew) (n := len) (cap := cap) hlo (fun ad h j u hu => by simpa using hco ad h j u hu) (fun h => by have := hlo0 h; subst this; simp at hlo; exact hlo)
  refine ⟨grownCap w (len + n) cap e, z, grownCap_ge w _ _ e, hzc, by rw [hzs, hzl], ?_⟩
  have hn : ¬ (len + n ≤ cap) := by omega
  have h63' : ¬ (9223372036854775807 < ((len : Int) + (n : Int))) := by omega
  have hfit : Builtin.nextslicecap (len + n) cap * i.bytes ≤ 281474976710656 := growslice_fits hg (by rw [hib]; exact hb)
  have h48' : ¬ (281474976710656 < Builtin.nextslicecap (len + n) cap * i.bytes) := by omega
  have his' : i.size = (T e).size := his
  simp [Builtin.append_, run_underlying hu0, run_underlying hu1, sizeOf, typeInfo, zeroValue, hi, hz, his', Builtin.lenOf, hn, h63', h48', Question.forced, hf, hfo, newRow, grownCap]
  congr 2
  apply Array.ext'
  simp [List.append_assoc]

/-- What a step that turns own blocks came to. -/
structure Turn (M0 : Foot) (n0 : Nat) (w : World) (ρ : Nat → Loc) (bs : List Blk) (w' : World) (ρ' : Nat → Loc) (bs' : List Blk) (S : Nat → Bool) : Prop where
  store : Store M0 ρ' bs' w'
  pres : Pres w (Mof M0 ρ bs) w' (Mof M0 ρ' bs')
  keep : ∀ b, S b = false → ρ b ≠ .absent → ρ' b = ρ b
  size : w.heap.size ≤ w'.heap.size
  os : w'.os = w.os
  tape : w'.tape = w.tape
  output : w'.output = w.output
  heap : ∀ g, g < w.heap.size → (∀ i base n rl esz, ρ i ≠ .at_ g base n rl esz) → w'.heap[g]? = w.heap[g]?
  fresh : ∀ i g base n rl esz, ρ' i = .at_ g base n rl esz → (∃ base n rl esz, ρ i = .at_ g base n rl esz) ∨ w.heap.size ≤ g
  lent : ∀ i, i < n0 → ρ' i = ρ i
  len : bs.length ≤ bs'.length

theorem Blk.sweep_like (S : Nat → Bool) (k : Blk) : (k.sweep S).rows.length = k.rows.length ∧ (k.sweep S).esz = k.esz ∧ (k.sweep S).kind = k.kind := ⟨by simp [Blk.sweep], rfl, rfl⟩

/-- The rows of a block turn, and where it lies; what named it is forgotten. -/
theorem Store.turn {n0 : Nat} (hS : Store M0 ρ bs w) {b : Nat} {k : Blk} (hb : bs[b]? = some k) (hbox : k.kind.isBox = false) {w' : World} {g' base' n' rl' esz' : Nat} {rows' : List (List D)}
    (hn0 : n0 ≤ b) (hsize : w.heap.size ≤ w'.heap.size) (hos : w'.os = w.os) (htape : w'.tape = w.tape) (houtp : w'.output = w.output)
    (hw : ∀ g, g < w.heap.size → (∀ base n rl esz, ρ b ≠ .at_ g base n rl esz) → w'.heap[g]? = w.heap[g]?)
    (hg' : (∃ base n rl esz, ρ b = .at_ g' base n rl esz) ∨ w.heap.size ≤ g') (hm0 : ∀ g o, M0 g o → g < w.heap.size)
    (hp : Pres w (Mof M0 ρ bs) w' (Mof M0 (updL ρ b (.at_ g' base' n' rl' esz')) (setBlk (bs.map (Blk.sweep (· == b))) b rows')))
    (hnew : BlkAt w' (Mof M0 (updL ρ b (.at_ g' base' n' rl' esz')) (setBlk (bs.map (Blk.sweep (· == b))) b rows')) (updL ρ b (.at_ g' base' n' rl' esz')) { k with rows := rows' } g' base' n' rl' esz') :
    Turn M0 n0 w ρ bs w' (updL ρ b (.at_ g' base' n' rl' esz')) (setBlk (bs.map (Blk.sweep (· == b))) b rows') (· == b) := by
  have hget : ∀ i, (setBlk (bs.map (Blk.sweep (· == b))) b rows')[i]? = (bs[i]?).map fun k => if i = b then { k.sweep (· == b) with rows := rows' } else k.sweep (· == b) := by
    intro i
    rw [setBlk_get, List.getElem?_map]
    cases bs[i]? <;> rfl
  have hbe : ({ k.sweep (· == b) with rows := rows' } : Blk) = { k with rows := rows' } := rfl
  have hother : ∀ i g base n rl esz, i ≠ b → ρ i = .at_ g base n rl esz → w'.heap[g]? = w.heap[g]? := by
    intro i g base n rl esz hne hat
    exact hw g (hS.lt hat) fun base' n' rl' esz' hat' => hne (hS.inj i b g _ _ _ _ _ _ _ _ hat hat')
  refine ⟨⟨?_, ?_, ?_, ?_, ?_⟩, hp, ?_, hsize, hos, htape, houtp, ?_, ?_, ?_, by rw [setBlk_len]; simp⟩
  · intro i b' g base n rl esz hi hat
    rw [hget] at hi
    cases hbi : bs[i]? with
    | none => simp [hbi] at hi
    | some kk =>
      simp only [hbi, Option.map_some, Option.some.injEq] at hi
      by_cases hib : i = b
      · subst hib
        rw [if_pos rfl] at hi
        rw [hb] at hbi
        cases hbi
        rw [hbe] at hi
        subst hi
        rw [updL_same] at hat
        cases hat
        exact hnew
      · rw [if_neg hib] at hi
        subst hi
        rw [updL_ne _ _ hib] at hat
        obtain ⟨h1, h2, h3, h4, arr, Ty, hg, hs, hc⟩ := hS.at_ i kk g base n rl esz hbi hat
        refine ⟨by simp [Blk.sweep, h1], h2, ?_, h4, arr, Ty, (hother i g _ _ _ _ hib hat).trans hg, hs, fun k' j r d hr hd => ?_⟩
        · intro r hr
          simp only [Blk.sweep, List.mem_map] at hr
          obtain ⟨r0, hr0, rfl⟩ := hr
          simpa using h3 r0 hr0
        · simp only [Blk.sweep, List.getElem?_map] at hr
          cases hx : kk.rows[k']? with
          | none => simp [hx] at hr
          | some r0 =>
            simp [hx] at hr
            subst hr
            rw [List.getElem?_map] at hd
            cases hy : r0[j]? with
            | none => simp [hy] at hd
            | some d0 =>
              simp [hy] at hd
              subst hd
              obtain ⟨v, hv, hrep⟩ := hc k' j r0 d0 hx hy
              refine ⟨v, hv, ?_⟩
              show if kk.kind.isBox = true then _ else _
              split
              · rename_i hbx
                rw [if_pos hbx] at hrep
                exact hrep.sweep hp fun x hx hne => updL_ne _ _ (by simpa using hx)
              · rename_i hbx
                rw [if_neg hbx] at hrep
                have : d0.sweep (· == b) = d0 := hrep.mapR _ _
                rw [this]
                exact hrep.move hp
  · intro i b' hi hv
    rw [hget] at hi
    cases hbi : bs[i]? with
    | none => simp [hbi] at hi
    | some kk =>
      simp only [hbi, Option.map_some, Option.some.injEq] at hi
      by_cases hib : i = b
      · subst hib; rw [updL_same] at hv; cases hv
      · rw [if_neg hib] at hi
        subst hi
        rw [updL_ne _ _ hib] at hv
        obtain ⟨e1, e2⟩ := hS.virt i kk hbi hv
        exact ⟨by simp [Blk.sweep, e1], e2⟩
  · intro i hi
    rw [setBlk_len, List.length_map] at hi
    have hib : i ≠ b := by
      rintro rfl
      rw [List.getElem?_eq_none hi] at hb
      cases hb
    rw [updL_ne _ _ hib]
    exact hS.out i hi
  · have cross : ∀ i g base1 n1 rl1 esz1 base2 n2 rl2 esz2, i ≠ b → ρ i = .at_ g base1 n1 rl1 esz1 → Loc.at_ g' base' n' rl' esz' = .at_ g base2 n2 rl2 esz2 → False := by
      intro i g base1 n1 rl1 esz1 base2 n2 rl2 esz2 hne hat he
      cases he
      rcases hg' with ⟨base, n, rl, esz, h⟩ | h
      · exact hne (hS.inj i b g' _ _ _ _ _ _ _ _ hat h)
      · have := hS.lt hat
        omega
    intro i j g base1 n1 rl1 esz1 base2 n2 rl2 esz2 hi hj
    by_cases hib : i = b
    · by_cases hjb : j = b
      · rw [hib, hjb]
      · subst hib
        rw [updL_same] at hi
        rw [updL_ne _ _ hjb] at hj
        exact (cross j g _ _ _ _ _ _ _ _ hjb hj hi).elim
    · rw [updL_ne _ _ hib] at hi
      by_cases hjb : j = b
      · subst hjb
        rw [updL_same] at hj
        exact (cross i g _ _ _ _ _ _ _ _ hib hi hj).elim
      · rw [updL_ne _ _ hjb] at hj
        exact hS.inj i j g _ _ _ _ _ _ _ _ hi hj
  · intro i g base n rl esz hi o hm
    by_cases hib : i = b
    · subst hib
      rw [updL_same] at hi
      cases hi
      rcases hg' with ⟨base, n, rl, esz, h⟩ | h
      · exact hS.m0 i _ _ _ _ _ h o hm
      · have := hm0 _ _ hm
        omega
    · rw [updL_ne _ _ hib] at hi
      exact hS.m0 i g _ _ _ _ hi o hm
  · intro x hx hne
    exact updL_ne _ _ (by simpa using hx)
  · intro g hg hno
    exact hw g hg fun base n rl esz => hno b base n rl esz
  · intro i g base n rl esz hi
    by_cases hib : i = b
    · subst hib
      rw [updL_same] at hi
      cases hi
      exact hg'
    · rw [updL_ne _ _ hib] at hi
      exact .inl ⟨_, _, _, _, hi⟩
  · intro i hi
    exact updL_ne _ _ (by omega)
end
end Go.AM
/- AM: append does what appendD says. -/
namespace Go.AM
set_option linter.unusedSimpArgs false
set_option linter.unusedVariables false
open Go.RowKit (Below)

section
variable {P : Program} {T : Tab} {eqs : List Nat} {M0 : Foot} {ρ : Nat → Loc} {bs : List Blk} {w : World}

theorem Turn.of_grow {n0 nb n : Nat} {w' : World} {ρ' : Nat → Loc} {bs' : List Blk} (hS : Store M0 ρ bs w) (hg : Grow M0 w ρ w' ρ' bs' nb n) (hn : n0 ≤ nb) (hM : ∀ g o, Mof M0 ρ bs' g o → Mof M0 ρ bs g o) (hl : bs.length ≤ bs'.length) :
    Turn M0 n0 w ρ bs w' ρ' bs' (fun _ => false) := by
  refine ⟨hg.store, (Pres.sub hM).trans hg.pres, fun b _ h => hg.old b h, hg.below.size, hg.below.os, hg.below.tape, hg.below.output, fun g h _ => hg.below.block g h, ?_, ?_, hl⟩
  · intro i g base n rl esz hi
    by_cases hab : ρ i = .absent
    · exact .inr ((hg.new i hab (by rw [hi]; simp)).2.2 g _ _ _ _ hi)
    · rw [hg.old i hab] at hi
      exact .inl ⟨_, _, _, _, hi⟩
  · intro i hi
    by_cases hab : ρ i = .absent
    · by_cases hab' : ρ' i = .absent
      · rw [hab, hab']
      · have := (hg.new i hab hab').1
        omega
    · exact hg.old i hab

/-- The store with blocks told lower and blocks to come. -/
theorem Store.more (hS : Store M0 ρ bs w) (ids : List Nat) (news : List Blk) : Store M0 ρ (downTo ids bs ++ news) w ∧ (∀ g o, Mof M0 ρ (downTo ids bs ++ news) g o → Mof M0 ρ bs g o) ∧ NewAt M0 ρ (downTo ids bs ++ news) bs.length news := by
  have hlen : (downTo ids bs).length = bs.length := by simp [downTo]
  have hS1 := hS.down ids
  have hM : ∀ g o, Mof M0 ρ (downTo ids bs ++ news) g o → Mof M0 ρ (downTo ids bs) g o := by
    rintro g o (h | ⟨i, b', base, n, rl, esz, hi, hat, hk⟩)
    · exact .inl h
    · have hlt : i < (downTo ids bs).length := by
        rcases Nat.lt_or_ge i (downTo ids bs).length with h | h
        · exact h
        · have := hS1.out i h
          rw [this] at hat
          cases hat
      rw [List.getElem?_append_left hlt] at hi
      exact .inr ⟨i, b', base, n, rl, esz, hi, hat, hk⟩
  refine ⟨⟨?_, ?_, ?_, hS.inj, hS.m0⟩, fun g o h => Mof_like (fun i b' h => downTo_like h) (hM g o h), ?_⟩
  · intro i b' g base n rl esz hi hat
    have hlt : i < (downTo ids bs).length := by
      rcases Nat.lt_or_ge i (downTo ids bs).length with h | h
      · exact h
      · have := hS1.out i h
        rw [this] at hat
        cases hat
    rw [List.getElem?_append_left hlt] at hi
    exact (hS1.at_ i b' g base n rl esz hi hat).like (.refl _) (Pres.sub hM)
  · intro i b' hi hv
    have hlt : i < (downTo ids bs).length := by
      rcases Nat.lt_or_ge i (downTo ids bs).length with h | h
      · exact h
      · have := hS1.out i h
        rw [this] at hv
        cases hv
    rw [List.getElem?_append_left hlt] at hi
    exact hS1.virt i b' hi hv
  · intro i hi
    exact hS1.out i (by simp at hi; omega)
  · intro k b hk
    refine ⟨b, ?_, .refl b, ?_⟩
    · rw [List.getElem?_append_right (by omega), hlen, show bs.length + k - bs.length = k by omega]
      exact hk
    · exact hS1.out _ (by omega)

theorem rows_app {rows ys : List (List D)} {esz : Nat} {arr : Array Value} {M : Foot} {olds vals : List Value} {rest : Array Value} (harr : arr = olds.toArray ++ vals.toArray ++ rest) (hlo : olds.length = rows.length * esz) (hl : vals.length = ys.length * esz)
    (hrow : ∀ r ∈ rows, r.length = esz) (hys : ∀ r ∈ ys, r.length = esz)
    (h1 : ∀ (i j : Nat) (r : List D) (d : D), rows[i]? = some r → r[j]? = some d → ∃ v, olds[i * esz + j]? = some v ∧ RepI w M v d)
    (h2 : ∀ (i j : Nat) (r : List D) (d : D), ys[i]? = some r → r[j]? = some d → ∃ v, vals[i * esz + j]? = some v ∧ RepI w M v d) :
    ∀ (i j : Nat) (r : List D) (d : D), (rows ++ ys)[i]? = some r → r[j]? = some d → ∃ v, arr[i * esz + j]? = some v ∧ RepI w M v d := by
  intro i j r d hi hj
  subst harr
  by_cases hlt : i < rows.length
  · rw [List.getElem?_append_left hlt] at hi
    obtain ⟨v, hv, hr⟩ := h1 i j r d hi hj
    have hlt' := (List.getElem?_eq_some_iff.1 hv).1
    refine ⟨v, ?_, hr⟩
    rw [Array.getElem?_append_left (by simp; omega), Array.getElem?_append_left (by simpa using hlt')]
    simpa using hv
  · rw [List.getElem?_append_right (by omega)] at hi
    obtain ⟨v, hv, hr⟩ := h2 _ j r d hi hj
    have hlt' := (List.getElem?_eq_some_iff.1 hv).1
    have hpos : i * esz + j = olds.length + ((i - rows.length) * esz + j) := by
      rw [hlo, ← Nat.add_assoc, ← Nat.add_mul, show rows.length + (i - rows.length) = i by omega]
    refine ⟨v, ?_, hr⟩
    rw [Array.getElem?_append_left (by simp; omega), Array.getElem?_append_right (by simp; omega)]
    simp only [List.size_toArray, List.getElem?_toArray]
    rw [hpos, show olds.length + ((i - rows.length) * esz + j) - olds.length = (i - rows.length) * esz + j by omega]
    exact hv

theorem append_sound {c : Cfg} {fr : Nat → D} {st' : St} {t0 t1 ty e e' : Nat} {vs vx : Value} {base xd r : D} {ys : List (List D)} (hT : TabOk P c.T c.eqs) (h0 : (c.T t0).d = .slice e) (h1 : (c.T t1).d = .slice e')
    (hS : Store M0 ρ bs w) (hm0 : ∀ g o, M0 g o → g < w.heap.size) (hn0 : c.n0 ≤ bs.length) (hvs : Rep w (Mof M0 ρ bs) ρ vs base) (hvx : Rep w (Mof M0 ρ bs) ρ vx xd) (hsrc : srcRows bs xd = some ys) (hfits : Fits (c.T e).size ys)
    (h : appendD c ⟨fr, bs⟩ e base ys = some (r, st')) :
    ∃ v w' ρ' S, (Builtin.append_ #[t0, t1] ty #[vs, vx]).run P w = .ok v w' ∧ Rep w' (Mof M0 ρ' st'.bs) ρ' v r ∧ Turn M0 c.n0 w ρ bs w' ρ' st'.bs S ∧ st'.fr = sweepF S fr := by
  have hys : ∀ r ∈ ys, r.length = (c.T e).size := fun r hr => (hfits r hr).1
  obtain ⟨a', cap', vals, rfl, hl, hc, hno, hcells⟩ := src_cells (M := Mof M0 ρ bs) hS hvx hsrc hys
  have hno' : a' = none → ys.length = 0 := fun h => by rw [hno h]; rfl
  have hone : ∀ v ∈ vals, v.oneCell' = true := by
    intro v hv
    obtain ⟨m, hm⟩ := List.getElem?_of_mem hv
    have hmlt : m < ys.length * (c.T e).size := by rw [← hl]; exact (List.getElem?_eq_some_iff.1 hm).1
    have he : 0 < (c.T e).size := by
      rcases Nat.eq_zero_or_pos (c.T e).size with h0 | h0
      · rw [h0] at hmlt; simp at hmlt
      · exact h0
    have hi : m / (c.T e).size < ys.length := by rw [Nat.div_lt_iff_lt_mul he]; exact hmlt
    have hj : m % (c.T e).size < (c.T e).size := Nat.mod_lt _ he
    have hr := hfits _ (List.getElem_mem hi)
    obtain ⟨u, hu, hrep⟩ := hcells (m / (c.T e).size) (m % (c.T e).size) ys[m / (c.T e).size] (ys[m / (c.T e).size][m % (c.T e).size]'(by omega)) (by simp) (by simp)
    have hpos : m / (c.T e).size * (c.T e).size + m % (c.T e).size = m := by have := Nat.div_add_mod m (c.T e).size; rw [Nat.mul_comm] at this; omega
    rw [hpos, hm] at hu
    cases hu
    exact isCell_one (ρ := ρ) (.imm _ _ hrep) (by have := hr.2; rw [List.all_eq_true] at this; exact this _ (List.getElem_mem _))
  have hsweep0 : ∀ f : Nat → D, sweepF (fun _ => false) f = f := by
    intro f
    funext t
    show (f t).mapR (sweepRef fun _ => false) (sweepPtr fun _ => false) = f t
    exact D.mapR_id _
  -- a new array
  have grow : ∀ (rows : List (List D)) (olds : List Value) (a : Option Addr) (len cap : Nat), (∀ r ∈ rows, r.length = (c.T e).size) → olds.length = len * (c.T e).size → rows.length = len →
      (∀ ad, a = some ad → ∀ (j : Nat) (u : Value), olds[j]? = some u → w.cell? (ad.add j) = some u) → (a = none → len = 0) →
      (∀ (i j : Nat) (r : List D) (d : D), rows[i]? = some r → r[j]? = some d → ∃ v, olds[i * (c.T e).size + j]? = some v ∧ RepI w (Mof M0 ρ bs) v d) → cap < len + ys.length →
      (len + ys.length) * (c.T e).bytes ≤ 140737488355328 → len + ys.length ≤ 9223372036854775807 →
      ∃ (w' : World) (arr : Array Value) (Ty : TypeId) (cap2 : Nat), (Builtin.append_ #[t0, t1] ty #[.slice a len cap, .slice a' ys.length cap']).run P w = .ok (.slice (some ⟨w.heap.size, 0, none⟩) (len + ys.length) cap2) w' ∧
        w'.heap = w.heap.push (.cells arr Ty (0, 0)) ∧ w'.os = w.os ∧ w'.tape = w.tape ∧ w'.output = w.output ∧ (rows ++ ys).length ≤ cap2 ∧ cap2 * (c.T e).size ≤ arr.size ∧
        ∀ (i j : Nat) (r : List D) (d : D), (rows ++ ys)[i]? = some r → r[j]? = some d → ∃ v, arr[i * (c.T e).size + j]? = some v ∧ RepI w (Mof M0 ρ bs) v d := by
    intro rows olds a len cap hrow hlo hrl hco hlo0 hold hg hb h63
    obtain ⟨cap2, z, hcap2, hzc, hzs, hrun⟩ := append_grow_run (P := P) (w := w) (ty := ty) (cap' := cap') hT h0 h1 hl hc hno' hlo hco hlo0 hg hb h63
    refine ⟨_, _, _, cap2, hrun, rfl, rfl, rfl, rfl, by simp; omega, ?_, ?_⟩
    · simp only [Array.size_append, List.size_toArray, hlo, hl, size_zeroCells, hzs]
      rw [← Nat.add_mul, ← Nat.add_mul, show len + ys.length + (cap2 - (len + ys.length)) = cap2 by omega]
      exact Nat.le_refl _
    · exact rows_app rfl (by rw [hlo, hrl]) hl hrow hys hold hcells
  unfold appendD at h
  split at h
  · -- nil
    split at h
    · rename_i hb
      cases h
      obtain ⟨a, rfl⟩ := hvs.nil_inv
      obtain ⟨hS1, hM1, hN1⟩ := hS.more [] [⟨ys, (c.T e).size, .mut⟩]
      have hd0 : downTo [] bs = bs := downTo_id fun b hb => by simp at hb
      rw [hd0] at hS1 hM1 hN1
      by_cases hy : ys = []
      · subst hy
        have hrun := append_in_run (P := P) (w := w) (ty := ty) (cap' := cap') (len := 0) (cap := 0) (a := a) hT h0 h1 hl hc hno' (by simp) (w' := w) (by
          have : vals = [] := by simpa using hl
          subst this
          cases a <;> rfl)
        have hg := hS1.bornV (nb := bs.length) (blk := ⟨[], (c.T e).size, .mut⟩) (by simp) (hS.out _ (Nat.le_refl _)) rfl rfl
        exact ⟨_, w, _, fun _ => false, hrun, .refV _ a (updL_same ρ _ _), .of_grow hS hg hn0 hM1 (by simp), (hsweep0 fr).symm⟩
      · have hpos : 0 < ys.length := List.length_pos_iff.2 hy
        obtain ⟨w', arr, Ty, cap2, hrun, hheap, hos, htape, hout, hcap, hfit, hc'⟩ := grow [] [] a 0 0 (by simp) (by simp) rfl (by simp) (by simp) (by simp) (by omega) (by simpa using hb.1) (by simpa using hb.2)
        obtain ⟨ρ', hrep, hg⟩ := arr_born hS1 hm0 rfl hN1 hys hheap hos htape hout (by
            have h1 : ys.length * (c.T e).size ≤ cap2 * (c.T e).size := Nat.mul_le_mul_right _ (by simpa using hcap)
            omega) (fun i j r d hi hj => by
            obtain ⟨v, hv, hr⟩ := hc' i j r d (by simpa using hi) hj
            exact ⟨v, hv, hr.move (Pres.sub hM1)⟩) (by simpa using hcap) hfit ys.length (Nat.le_refl _)
        simp only [Nat.zero_add] at hrun
        exact ⟨_, w', ρ', fun _ => false, hrun, hrep, .of_grow hS hg hn0 hM1 (by simp), (hsweep0 fr).symm⟩
    · cases h
  · rename_i b off len
    split at h
    · rename_i k hb
      split at h
      · rename_i hcond
        obtain ⟨hesz, hbox, hbytes, h63⟩ := hcond
        split at h
        · -- at its end
          rename_i hfront
          obtain ⟨hend, hbn⟩ := hfront
          cases h
          rcases hvs.ref_inv with ⟨cap, g, bas, n, rl, esz, rfl, hat, g1, g2, g3⟩ | ⟨a, rfl, hvirt, rfl, rfl⟩
          · have hA := hS.at_ b k g bas n rl esz hb hat
            have hez : esz = (c.T e).size := by rw [hA.hesz, hesz]
            obtain ⟨arr, Ty, hh, hs, hcl⟩ := hA.cells
            have hrl := hA.hrl
            have hfit := hA.hfit
            have hsplit : (off + len) * esz = off * esz + len * esz := Nat.add_mul _ _ _
            have hlo : ∀ m, m < len * esz → ∃ u, arr[bas + off * esz + m]? = some u := by
              intro m hm
              have : bas + off * esz + m < arr.size := by
                have : rl * esz = off * esz + len * esz := by rw [← hsplit, hrl, ← hend]
                omega
              exact ⟨arr[bas + off * esz + m], by simp [this]⟩
            let olds := (List.range (len * esz)).map fun m => (arr[bas + off * esz + m]?).getD Go.undef
            have holdget : ∀ m u, olds[m]? = some u → arr[bas + off * esz + m]? = some u := by
              intro m u hu
              by_cases hm : m < len * esz
              · obtain ⟨u', hu'⟩ := hlo m hm
                simp [olds, hm, hu'] at hu
                rw [hu', hu]
              · simp [olds, hm] at hu
            have hrows' : ∀ (i j : Nat) (r : List D) (d : D), (k.rows.drop off)[i]? = some r → r[j]? = some d → ∃ v, arr[bas + off * esz + (i * esz + j)]? = some v ∧ RepI w (Mof M0 ρ bs) v d := by
              intro i j r d hi hj
              rw [List.getElem?_drop] at hi
              obtain ⟨v, hv, hrep⟩ := hcl (off + i) j r d hi hj
              rw [if_neg (by simp [hbox])] at hrep
              exact ⟨v, by rw [show bas + off * esz + (i * esz + j) = bas + (off + i) * esz + j by rw [Nat.add_mul]; omega]; exact hv, hrep⟩
            have hdl : (k.rows.drop off).length = len := by simp; omega
            have hrowd : ∀ r ∈ k.rows.drop off, r.length = esz := fun r hr => hA.hrow r (List.mem_of_mem_drop hr)
            by_cases hin : len + ys.length ≤ cap
            · -- in place
              let arr' : Array Value := (arr.toList.take (bas + off * esz + len * esz) ++ vals ++ arr.toList.drop (bas + off * esz + len * esz + vals.length)).toArray
              have hroom : bas + off * esz + len * esz + vals.length ≤ arr.size := by
                have h1 : (off + (len + ys.length)) * esz ≤ (off + cap) * esz := Nat.mul_le_mul_right _ (by omega)
                rw [Nat.add_mul, Nat.add_mul len] at h1
                rw [hl, ← hez]
                omega
              have hst := run_storeCells_at P g (bas + off * esz + len * esz) Ty vals 0 arr w hh (by simpa using hroom) hone
              simp only [Nat.add_zero] at hst
              have hrun := append_in_run (P := P) (w := w) (ty := ty) (cap' := cap') (len := len) (cap := cap) (a := some ⟨g, bas + off * esz, none⟩) hT h0 h1 hl hc hno' hin (w' := w.setRow g arr') (by
                simp only [Addr.add_plain, ← hez]
                exact hst)
              have harr' : ∀ m, arr'[m]? = if m < bas + off * esz + len * esz then arr[m]? else if m < bas + off * esz + len * esz + vals.length then vals[m - (bas + off * esz + len * esz)]? else arr[m]? := by
                intro m
                have hl1 : (arr.toList.take (bas + off * esz + len * esz)).length = bas + off * esz + len * esz := by simp; omega
                simp only [arr', List.getElem?_toArray]
                by_cases hm1 : m < bas + off * esz + len * esz
                · rw [if_pos hm1, List.append_assoc, List.getElem?_append_left (by omega), List.getElem?_take_of_lt hm1]; simp
                · rw [if_neg hm1]
                  by_cases hm2 : m < bas + off * esz + len * esz + vals.length
                  · rw [if_pos hm2, List.append_assoc, List.getElem?_append_right (by omega), List.getElem?_append_left (by omega), hl1]
                  · rw [if_neg hm2, List.getElem?_append_right (by simp; omega), List.getElem?_drop]
                    simp only [List.length_append, hl1, Array.getElem?_toList]
                    congr 1
                    omega
              have hsz' : arr'.size = arr.size := by simp [arr']; omega
              let rows' := k.rows.drop off ++ ys
              let ρ' := updL ρ b (.at_ g (bas + off * esz) n (len + ys.length) esz)
              let bs' := setBlk (bs.map (Blk.sweep (· == b))) b rows'
              have hget : ∀ i, bs'[i]? = (bs[i]?).map fun kk => if i = b then { kk.sweep (· == b) with rows := rows' } else kk.sweep (· == b) := by
                intro i
                show (setBlk _ b rows')[i]? = _
                rw [setBlk_get, List.getElem?_map]
                cases bs[i]? <;> rfl
              have hMsub : ∀ x o, Mof M0 ρ' bs' x o → Mof M0 ρ bs x o := by
                rintro x o (hm | ⟨i, b', base', n', rl', esz', hi, hat', hk'⟩)
                · exact .inl hm
                · rw [hget] at hi
                  cases hbi : bs[i]? with
                  | none => simp [hbi] at hi
                  | some kk =>
                    simp only [hbi, Option.map_some, Option.some.injEq] at hi
                    by_cases hib : i = b
                    · subst hib
                      rw [if_pos rfl] at hi
                      rw [hb] at hbi
                      cases hbi
                      have hat'' : Loc.at_ g (bas + off * esz) n (len + ys.length) esz = .at_ x base' n' rl' esz' := by rw [← hat']; exact (updL_same ρ i _).symm
                      cases hat''
                      refine .inr ⟨i, k, bas, n, rl, esz, hb, hat, ?_⟩
                      subst hi
                      rcases hk' with hk' | hk' | hk'
                      · exact .inl hk'
                      · exact .inr (.inl hk')
                      · refine .inr (.inr ?_)
                        have h2 : rl * esz ≤ off * esz + (len + ys.length) * esz := by
                          rw [hrl, ← hend, ← Nat.add_mul]
                          exact Nat.mul_le_mul_right _ (by omega)
                        omega
                    · rw [if_neg hib] at hi
                      subst hi
                      have hat'' : ρ i = .at_ x base' n' rl' esz' := by rw [← hat']; exact (updL_ne ρ _ hib).symm
                      exact .inr ⟨i, kk, base', n', rl', esz', hbi, hat'', hk'⟩
              have hspare : ∀ m, bas + off * esz + len * esz ≤ m → Mof M0 ρ bs g m := by
                intro m hm
                refine .inr ⟨b, k, bas, n, rl, esz, hb, hat, .inr (.inr ?_)⟩
                rw [hrl, ← hend, hsplit]
                omega
              have hpres : Pres w (Mof M0 ρ bs) (w.setRow g arr') (Mof M0 ρ' bs') := by
                intro x o v hn hv
                refine ⟨fun h => hn (hMsub x o h), ?_⟩
                by_cases hx : x = g
                · subst hx
                  rw [cell_setRow_same w x o arr arr' Ty (0, 0) hh, harr']
                  have ho : o < bas + off * esz + len * esz := by
                    rcases Nat.lt_or_ge o (bas + off * esz + len * esz) with h | h
                    · exact h
                    · exact absurd (hspare o h) hn
                  rw [if_pos ho]
                  simpa [World.cell?, hh] using hv
                · rw [cell_setRow_other w g arr' ⟨x, o, .none⟩ hx]; exact hv
              have hturn := hS.turn (n0 := c.n0) (w' := w.setRow g arr') (g' := g) (base' := bas + off * esz) (n' := n) (rl' := len + ys.length) (esz' := esz) (rows' := rows') hb hbox hbn (by simp) rfl rfl rfl
                (fun x hx hno => setRow_other w g x arr' (fun he => by subst he; exact hno _ _ _ _ hat)) (.inl ⟨_, _, _, _, hat⟩) hm0 hpres (by
                  refine ⟨by show _ = rows'.length; simp [rows']; omega, hA.hesz, ?_, ?_, arr', Ty, setRow_heap w g arr arr' Ty _ hh, hsz'.trans hs, ?_⟩
                  · intro r hr
                    rcases List.mem_append.1 hr with h | h
                    · exact hrowd r h
                    · rw [hys r h, hez]
                  · rw [Nat.add_mul, hez, ← hl, ← hez]
                    omega
                  · intro i j r d hi hj
                    show ∃ v, _ ∧ if k.kind.isBox = true then _ else _
                    simp only [hbox, Bool.false_eq_true, if_false]
                    by_cases hlt : i < len
                    · rw [List.getElem?_append_left (by omega)] at hi
                      obtain ⟨v, hv, hr⟩ := hrows' i j r d hi hj
                      have hjlt : j < esz := by rw [← hrowd r (List.mem_of_getElem? hi)]; exact (List.getElem?_eq_some_iff.1 hj).1
                      have := lt_row hlt hjlt
                      refine ⟨v, ?_, hr.move hpres⟩
                      rw [harr', if_pos (by omega)]
                      rw [← Nat.add_assoc] at hv
                      exact hv
                    · rw [List.getElem?_append_right (by omega), hdl] at hi
                      obtain ⟨v, hv, hr⟩ := hcells (i - len) j r d hi hj
                      have hlt' := (List.getElem?_eq_some_iff.1 hv).1
                      have hpos : i * esz = len * esz + (i - len) * esz := by rw [← Nat.add_mul, show len + (i - len) = i by omega]
                      rw [← hez] at hv hlt'
                      refine ⟨v, ?_, hr.move hpres⟩
                      rw [harr', if_neg (by omega), if_pos (by omega), show bas + off * esz + i * esz + j - (bas + off * esz + len * esz) = (i - len) * esz + j by omega]
                      exact hv)
              refine ⟨_, _, _, _, hrun, ?_, hturn, rfl⟩
              have hrr := Rep.ref (w := w.setRow g arr') (M := Mof M0 ρ' bs') (ρ := ρ') b 0 (len + ys.length) cap g (bas + off * esz) n (len + ys.length) esz (updL_same ρ b _) (by omega) (by omega) (by
                rw [Nat.add_mul] at g3
                simp only [Nat.zero_add]
                omega)
              simpa using hrr
            · -- it moves
              obtain ⟨w', arr2, Ty2, cap2, hrun, hheap, hos, htape, hout, hcap, hfit2, hc'⟩ := grow (k.rows.drop off) olds (some ⟨g, bas + off * esz, none⟩) len cap (by rw [← hez]; exact hrowd) (by simp [olds, hez]) hdl (by
                  intro ad had j u hu
                  cases had
                  rw [Addr.add_plain]
                  simp [World.cell?, hh, holdget j u hu]) (fun h => by cases h) (by
                  rw [← hez]
                  intro i j r d hi hj
                  obtain ⟨v, hv, hr⟩ := hrows' i j r d hi hj
                  have hi' : i < len := by rw [← hdl]; exact (List.getElem?_eq_some_iff.1 hi).1
                  have hj' : j < esz := by rw [← hrowd r (List.mem_of_getElem? hi)]; exact (List.getElem?_eq_some_iff.1 hj).1
                  have := lt_row hi' hj'
                  exact ⟨v, by simp [olds, this, hv], hr⟩) (by omega) hbytes h63
              have hold : ∀ x, x < w.heap.size → w'.heap[x]? = w.heap[x]? := fun x hx => by rw [hheap, Array.getElem?_push, if_neg (by omega)]
              let rows' := k.rows.drop off ++ ys
              let ρ' := updL ρ b (.at_ w.heap.size 0 arr2.size (len + ys.length) esz)
              let bs' := setBlk (bs.map (Blk.sweep (· == b))) b rows'
              have hget : ∀ i, bs'[i]? = (bs[i]?).map fun kk => if i = b then { kk.sweep (· == b) with rows := rows' } else kk.sweep (· == b) := by
                intro i
                show (setBlk _ b rows')[i]? = _
                rw [setBlk_get, List.getElem?_map]
                cases bs[i]? <;> rfl
              have hMsub : ∀ x o, Mof M0 ρ' bs' x o → Mof M0 ρ bs x o ∨ x = w.heap.size := by
                rintro x o (hm | ⟨i, b', base', n', rl', esz', hi, hat', hk'⟩)
                · exact .inl (.inl hm)
                · rw [hget] at hi
                  cases hbi : bs[i]? with
                  | none => simp [hbi] at hi
                  | some kk =>
                    simp only [hbi, Option.map_some, Option.some.injEq] at hi
                    by_cases hib : i = b
                    · subst hib
                      have hat'' : Loc.at_ w.heap.size 0 arr2.size (len + ys.length) esz = .at_ x base' n' rl' esz' := by rw [← hat']; exact (updL_same ρ i _).symm
                      cases hat''
                      exact .inr rfl
                    · rw [if_neg hib] at hi
                      subst hi
                      have hat'' : ρ i = .at_ x base' n' rl' esz' := by rw [← hat']; exact (updL_ne ρ _ hib).symm
                      exact .inl (.inr ⟨i, kk, base', n', rl', esz', hbi, hat'', hk'⟩)
              have hpres : Pres w (Mof M0 ρ bs) w' (Mof M0 ρ' bs') := by
                intro x o v hn hv
                have hx := cell_lt hv
                refine ⟨fun h => ?_, by rw [World.cell?_of_block (w := w) (hold x hx)]; exact hv⟩
                rcases hMsub x o h with h | h
                · exact hn h
                · omega
              have hrl2 : (k.rows.drop off ++ ys).length = len + ys.length := by simp; omega
              have hturn := hS.turn (n0 := c.n0) (w' := w') (g' := w.heap.size) (base' := 0) (n' := arr2.size) (rl' := len + ys.length) (esz' := esz) (rows' := rows') hb hbox hbn (by rw [hheap]; simp) hos htape hout
                (fun x hx _ => hold x hx) (.inr (Nat.le_refl _)) hm0 hpres (by
                  refine ⟨hrl2.symm, hA.hesz, ?_, ?_, arr2, Ty2, by rw [hheap]; simp, rfl, ?_⟩
                  · intro r hr
                    rcases List.mem_append.1 hr with h | h
                    · exact hrowd r h
                    · rw [hys r h, hez]
                  · rw [hrl2] at hcap
                    have h1 : (len + ys.length) * esz ≤ cap2 * esz := Nat.mul_le_mul_right _ hcap
                    rw [← hez] at hfit2
                    omega
                  · intro i j r d hi hj
                    show ∃ v, _ ∧ if k.kind.isBox = true then _ else _
                    simp only [hbox, Bool.false_eq_true, if_false]
                    obtain ⟨v, hv, hr⟩ := hc' i j r d hi hj
                    exact ⟨v, by rw [Nat.zero_add, hez]; exact hv, hr.move hpres⟩)
              refine ⟨_, _, _, _, hrun, ?_, hturn, rfl⟩
              have hrr := Rep.ref (w := w') (M := Mof M0 ρ' bs') (ρ := ρ') b 0 (len + ys.length) cap2 w.heap.size 0 arr2.size (len + ys.length) esz (updL_same ρ b _) (by omega) (by rw [hrl2] at hcap; omega) (by rw [← hez] at hfit2; simpa using hfit2)
              simpa using hrr
          · -- it had no memory
            obtain ⟨hrows, _⟩ := hS.virt b k hb hvirt
            have hdrop : k.rows.drop 0 = [] := by rw [hrows]; rfl
            rw [hdrop, List.nil_append]
            by_cases hy : ys = []
            · subst hy
              have hrun := append_in_run (P := P) (w := w) (ty := ty) (cap' := cap') (len := 0) (cap := 0) (a := a) hT h0 h1 hl hc hno' (by simp) (w' := w) (by
                have : vals = [] := by simpa using hl
                subst this
                cases a <;> rfl)
              -- nothing turned, but what named it is forgotten
              have hget : ∀ i, (setBlk (bs.map (Blk.sweep (· == b))) b [])[i]? = (bs[i]?).map fun kk => if i = b then { kk.sweep (· == b) with rows := [] } else kk.sweep (· == b) := by
                intro i
                rw [setBlk_get, List.getElem?_map]
                cases bs[i]? <;> rfl
              have hM : ∀ x o, Mof M0 ρ (setBlk (bs.map (Blk.sweep (· == b))) b []) x o → Mof M0 ρ bs x o := by
                rintro x o (hm | ⟨i, b', base', n', rl', esz', hi, hat', hk'⟩)
                · exact .inl hm
                · rw [hget] at hi
                  cases hbi : bs[i]? with
                  | none => simp [hbi] at hi
                  | some kk =>
                    simp only [hbi, Option.map_some, Option.some.injEq] at hi
                    refine .inr ⟨i, kk, base', n', rl', esz', hbi, hat', ?_⟩
                    split at hi <;> (subst hi; exact hk')
              have hp := Pres.sub (w := w) hM
              refine ⟨_, w, ρ, (· == b), hrun, .refV _ a hvirt, ⟨⟨?_, ?_, ?_, hS.inj, hS.m0⟩, hp, fun _ _ _ => rfl, Nat.le_refl _, rfl, rfl, rfl, fun _ _ _ => rfl, fun i g base n rl esz h => .inl ⟨_, _, _, _, h⟩, fun _ _ => rfl, by rw [setBlk_len]; simp⟩, rfl⟩
              · intro i b' g base n rl esz hi hat
                rw [hget] at hi
                cases hbi : bs[i]? with
                | none => simp [hbi] at hi
                | some kk =>
                  simp only [hbi, Option.map_some, Option.some.injEq] at hi
                  have hib : i ≠ b := by rintro rfl; rw [hvirt] at hat; cases hat
                  rw [if_neg hib] at hi
                  subst hi
                  obtain ⟨q1, q2, q3, q4, arr, Ty, hg, hs, hcc⟩ := hS.at_ i kk g base n rl esz hbi hat
                  refine ⟨by simp [Blk.sweep, q1], q2, ?_, q4, arr, Ty, hg, hs, fun k' j r d hr hd => ?_⟩
                  · intro r hr
                    simp only [Blk.sweep, List.mem_map] at hr
                    obtain ⟨r0, hr0, rfl⟩ := hr
                    simpa using q3 r0 hr0
                  · simp only [Blk.sweep, List.getElem?_map] at hr
                    cases hx : kk.rows[k']? with
                    | none => simp [hx] at hr
                    | some r0 =>
                      simp [hx] at hr
                      subst hr
                      rw [List.getElem?_map] at hd
                      cases hyy : r0[j]? with
                      | none => simp [hyy] at hd
                      | some d0 =>
                        simp [hyy] at hd
                        subst hd
                        obtain ⟨v, hv, hrep⟩ := hcc k' j r0 d0 hx hyy
                        refine ⟨v, hv, ?_⟩
                        show if kk.kind.isBox = true then _ else _
                        split
                        · rename_i hbx
                          rw [if_pos hbx] at hrep
                          exact hrep.sweep hp fun _ _ _ => rfl
                        · rename_i hbx
                          rw [if_neg hbx] at hrep
                          have : d0.sweep (· == b) = d0 := hrep.mapR _ _
                          rw [this]
                          exact hrep.move hp
              · intro i b' hi hv
                rw [hget] at hi
                cases hbi : bs[i]? with
                | none => simp [hbi] at hi
                | some kk =>
                  simp only [hbi, Option.map_some, Option.some.injEq] at hi
                  obtain ⟨e1, e2⟩ := hS.virt i kk hbi hv
                  split at hi
                  · subst hi; exact ⟨rfl, e2⟩
                  · subst hi; exact ⟨by simp [Blk.sweep, e1], e2⟩
              · intro i hi
                rw [setBlk_len, List.length_map] at hi
                exact hS.out i hi
            · have hpos : 0 < ys.length := List.length_pos_iff.2 hy
              obtain ⟨w', arr2, Ty2, cap2, hrun, hheap, hos, htape, hout, hcap, hfit2, hc'⟩ := grow [] [] a 0 0 (by simp) (by simp) rfl (by simp) (by simp) (by simp) (by omega) (by simpa using hbytes) (by simpa using h63)
              have hold : ∀ x, x < w.heap.size → w'.heap[x]? = w.heap[x]? := fun x hx => by rw [hheap, Array.getElem?_push, if_neg (by omega)]
              let ρ' := updL ρ b (.at_ w.heap.size 0 arr2.size ys.length (c.T e).size)
              let bs' := setBlk (bs.map (Blk.sweep (· == b))) b ys
              have hget : ∀ i, bs'[i]? = (bs[i]?).map fun kk => if i = b then { kk.sweep (· == b) with rows := ys } else kk.sweep (· == b) := by
                intro i
                show (setBlk _ b ys)[i]? = _
                rw [setBlk_get, List.getElem?_map]
                cases bs[i]? <;> rfl
              have hMsub : ∀ x o, Mof M0 ρ' bs' x o → Mof M0 ρ bs x o ∨ x = w.heap.size := by
                rintro x o (hm | ⟨i, b', base', n', rl', esz', hi, hat', hk'⟩)
                · exact .inl (.inl hm)
                · rw [hget] at hi
                  cases hbi : bs[i]? with
                  | none => simp [hbi] at hi
                  | some kk =>
                    simp only [hbi, Option.map_some, Option.some.injEq] at hi
                    by_cases hib : i = b
                    · subst hib
                      have hat'' : Loc.at_ w.heap.size 0 arr2.size ys.length (c.T e).size = .at_ x base' n' rl' esz' := by rw [← hat']; exact (updL_same ρ i _).symm
                      cases hat''
                      exact .inr rfl
                    · rw [if_neg hib] at hi
                      subst hi
                      have hat'' : ρ i = .at_ x base' n' rl' esz' := by rw [← hat']; exact (updL_ne ρ _ hib).symm
                      exact .inl (.inr ⟨i, kk, base', n', rl', esz', hbi, hat'', hk'⟩)
              have hpres : Pres w (Mof M0 ρ bs) w' (Mof M0 ρ' bs') := by
                intro x o v hn hv
                have hx := cell_lt hv
                refine ⟨fun h => ?_, by rw [World.cell?_of_block (w := w) (hold x hx)]; exact hv⟩
                rcases hMsub x o h with h | h
                · exact hn h
                · omega
              have hturn := hS.turn (n0 := c.n0) (w' := w') (g' := w.heap.size) (base' := 0) (n' := arr2.size) (rl' := ys.length) (esz' := (c.T e).size) (rows' := ys) hb hbox hbn (by rw [hheap]; simp) hos htape hout
                (fun x hx _ => hold x hx) (.inr (Nat.le_refl _)) hm0 hpres (by
                  refine ⟨rfl, hesz.symm, hys, ?_, arr2, Ty2, by rw [hheap]; simp, rfl, ?_⟩
                  · have h1 : ys.length * (c.T e).size ≤ cap2 * (c.T e).size := Nat.mul_le_mul_right _ (by simpa using hcap)
                    omega
                  · intro i j r d hi hj
                    show ∃ v, _ ∧ if k.kind.isBox = true then _ else _
                    simp only [hbox, Bool.false_eq_true, if_false]
                    obtain ⟨v, hv, hr⟩ := hc' i j r d (by simpa using hi) hj
                    exact ⟨v, by rw [Nat.zero_add]; exact hv, hr.move hpres⟩)
              refine ⟨_, _, _, _, hrun, ?_, hturn, rfl⟩
              have hrr := Rep.ref (w := w') (M := Mof M0 ρ' bs') (ρ := ρ') b 0 ys.length cap2 w.heap.size 0 arr2.size ys.length (c.T e).size (updL_same ρ b _) (by omega) (by simpa using hcap) (by simpa using hfit2)
              simpa using hrr
        · split at h
          · -- over what is there
            rename_i hover
            obtain ⟨hov, hmut⟩ := hover
            cases h
            rcases hvs.ref_inv with ⟨cap, g, bas, n, rl, esz, rfl, hat, g1, g2, g3⟩ | ⟨a, rfl, hvirt, rfl, rfl⟩
            · have hA := hS.at_ b k g bas n rl esz hb hat
              have hez : esz = (c.T e).size := by rw [hA.hesz, hesz]
              obtain ⟨arr, Ty, hh, hs, hcl⟩ := hA.cells
              have hrl := hA.hrl
              have hfit := hA.hfit
              have hroom : bas + (off + len) * esz + vals.length ≤ arr.size := by
                have h1 : (off + len + ys.length) * esz ≤ rl * esz := Nat.mul_le_mul_right _ (by omega)
                rw [Nat.add_mul] at h1
                rw [hl, ← hez]
                omega
              have hst := run_storeCells_at P g (bas + (off + len) * esz) Ty vals 0 arr w hh (by simpa using hroom) hone
              simp only [Nat.add_zero] at hst
              let arr' : Array Value := (arr.toList.take (bas + (off + len) * esz) ++ vals ++ arr.toList.drop (bas + (off + len) * esz + vals.length)).toArray
              have hrun := append_in_run (P := P) (w := w) (ty := ty) (cap' := cap') (len := len) (cap := cap) (a := some ⟨g, bas + off * esz, none⟩) hT h0 h1 hl hc hno' (by omega) (w' := w.setRow g arr') (by
                simp only [Addr.add_plain, ← hez]
                rw [Nat.add_assoc bas, ← Nat.add_mul]
                exact hst)
              have harr' : ∀ m, arr'[m]? = if m < bas + (off + len) * esz then arr[m]? else if m < bas + (off + len) * esz + vals.length then vals[m - (bas + (off + len) * esz)]? else arr[m]? := by
                intro m
                have hl1 : (arr.toList.take (bas + (off + len) * esz)).length = bas + (off + len) * esz := by simp; omega
                simp only [arr', List.getElem?_toArray]
                by_cases hm1 : m < bas + (off + len) * esz
                · rw [if_pos hm1, List.append_assoc, List.getElem?_append_left (by omega), List.getElem?_take_of_lt hm1]; simp
                · rw [if_neg hm1]
                  by_cases hm2 : m < bas + (off + len) * esz + vals.length
                  · rw [if_pos hm2, List.append_assoc, List.getElem?_append_right (by omega), List.getElem?_append_left (by omega), hl1]
                  · rw [if_neg hm2, List.getElem?_append_right (by simp; omega), List.getElem?_drop]
                    simp only [List.length_append, hl1, Array.getElem?_toList]
                    congr 1
                    omega
              have hsz' : arr'.size = arr.size := by simp [arr']; omega
              let rows' := k.rows.take (off + len) ++ ys ++ k.rows.drop (off + len + ys.length)
              have hrow' : ∀ i, rows'[i]? = if i < off + len then k.rows[i]? else if i < off + len + ys.length then ys[i - (off + len)]? else k.rows[i]? := by
                intro i
                have hl1 : (k.rows.take (off + len)).length = off + len := by simp; omega
                simp only [rows']
                by_cases hm1 : i < off + len
                · rw [if_pos hm1, List.append_assoc, List.getElem?_append_left (by omega), List.getElem?_take_of_lt hm1]
                · rw [if_neg hm1]
                  by_cases hm2 : i < off + len + ys.length
                  · rw [if_pos hm2, List.append_assoc, List.getElem?_append_right (by omega), List.getElem?_append_left (by omega), hl1]
                  · rw [if_neg hm2, List.getElem?_append_right (by simp; omega), List.getElem?_drop]
                    simp only [List.length_append, hl1]
                    congr 1
                    omega
              obtain ⟨hS', hp⟩ := hS.write (rows := rows') (arr' := arr') hb hat (.inr hmut) hh hsz' (by simp [rows']; omega) (by
                intro r hr
                simp only [rows', List.mem_append] at hr
                rcases hr with (h | h) | h
                · exact hA.hrow r (List.mem_of_mem_take h)
                · rw [hys r h, hez]
                · exact hA.hrow r (List.mem_of_mem_drop h)) (by
                intro i j r d hi hj
                rw [hrow'] at hi
                simp only [hbox, Bool.false_eq_true, if_false]
                have hjlt : j < esz := by
                  have : r.length = esz := by
                    split at hi
                    · exact hA.hrow r (List.mem_of_getElem? hi)
                    · split at hi
                      · rw [hys r (List.mem_of_getElem? hi), hez]
                      · exact hA.hrow r (List.mem_of_getElem? hi)
                  rw [← this]
                  exact (List.getElem?_eq_some_iff.1 hj).1
                have hmid : vals.length = ys.length * esz := by rw [hl, hez]
                split at hi
                · rename_i hlt
                  obtain ⟨v, hv, hrep⟩ := hcl i j r d hi hj
                  rw [if_neg (by simp [hbox])] at hrep
                  have := lt_row hlt hjlt
                  exact ⟨v, by rw [harr', if_pos (by omega)]; exact hv, hrep⟩
                · rename_i hnlt
                  split at hi
                  · rename_i hlt2
                    obtain ⟨v, hv, hrep⟩ := hcells (i - (off + len)) j r d hi hj
                    have hlt' := (List.getElem?_eq_some_iff.1 hv).1
                    have hpos : i * esz = (off + len) * esz + (i - (off + len)) * esz := by rw [← Nat.add_mul, show off + len + (i - (off + len)) = i by omega]
                    rw [← hez] at hv hlt'
                    exact ⟨v, by rw [harr', if_neg (by omega), if_pos (by omega), show bas + i * esz + j - (bas + (off + len) * esz) = (i - (off + len)) * esz + j by omega]; exact hv, hrep⟩
                  · rename_i hnlt2
                    obtain ⟨v, hv, hrep⟩ := hcl i j r d hi hj
                    rw [if_neg (by simp [hbox])] at hrep
                    have h1 : (off + len + ys.length) * esz ≤ i * esz := Nat.mul_le_mul_right _ (by omega)
                    rw [Nat.add_mul] at h1
                    exact ⟨v, by rw [harr', if_neg (by omega), if_neg (by omega)]; exact hv, hrep⟩)
              refine ⟨_, _, ρ, fun _ => false, hrun, .ref b off (len + ys.length) cap g bas n rl esz hat (by omega) g2 g3, ⟨hS', hp, fun _ _ _ => rfl, by simp, rfl, rfl, rfl, ?_, fun i x base n rl esz h => .inl ⟨_, _, _, _, h⟩, fun _ _ => rfl, by rw [setBlk_len]; exact Nat.le_refl _⟩, (hsweep0 fr).symm⟩
              intro x hx hno
              exact setRow_other w g x arr' (fun he => by subst he; exact hno _ _ _ _ _ hat)
            · rename_i hnf
              obtain ⟨hrows, _⟩ := hS.virt b k hb hvirt
              rw [hrows] at hov
              simp at hov
              subst hov
              have hrun := append_in_run (P := P) (w := w) (ty := ty) (cap' := cap') (len := 0) (cap := 0) (a := a) hT h0 h1 hl hc hno' (by simp) (w' := w) (by
                have : vals = [] := by simpa using hl
                subst this
                cases a <;> rfl)
              have hid : setBlk bs b (k.rows.take (0 + 0) ++ [] ++ k.rows.drop (0 + 0 + ([] : List (List D)).length)) = bs := by
                apply List.ext_getElem?
                intro i
                rw [setBlk_get]
                cases hbi : bs[i]? with
                | none => rfl
                | some kk =>
                  simp only [Option.map_some, Option.some.injEq]
                  split
                  · rename_i hib
                    subst hib
                    rw [hb] at hbi
                    cases hbi
                    simp
                  · rfl
              refine ⟨_, w, ρ, fun _ => false, hrun, .refV b a hvirt, ?_, (hsweep0 fr).symm⟩
              simp only
              rw [hid]
              exact ⟨hS, Pres.refl _ _, fun _ _ _ => rfl, Nat.le_refl _, rfl, rfl, rfl, fun _ _ _ => rfl, fun i g base n rl esz h => .inl ⟨_, _, _, _, h⟩, fun _ _ => rfl, Nat.le_refl _⟩
          · cases h
      · cases h
    · cases h
  · cases h
end
end Go.AM
/- AM: the abstract state beside the machine's; one operation. -/
namespace Go.AM
set_option linter.unusedSimpArgs false
set_option linter.unusedVariables false
open Go.RowKit (Below)

/-- The abstract state tells of the machine's. M0, w0, ρ0, bs0: what was there when the call began. -/
structure Sim (n0 : Nat) (M0 : Foot) (w0 : World) (ρ0 : Nat → Loc) (bs0 : List Blk) (ρ : Nat → Loc) (st : St) (a : Act) (w : World) : Prop where
  fr : ∀ t, Rep w (Mof M0 ρ st.bs) ρ (a.tmps.getD t Go.undef) (st.fr t)
  store : Store M0 ρ st.bs w
  n0 : n0 = bs0.length
  len : bs0.length ≤ st.bs.length
  lent : ∀ i, i < bs0.length → ρ i = ρ0 i
  pres : Pres w0 (Mof M0 ρ0 bs0) w (Mof M0 ρ st.bs)
  around : Around w0 ρ0 bs0.length w ρ
  defers : a.defers = []
  m0 : ∀ g o, M0 g o → g < w0.heap.size

section
variable {P : Program} {n0 : Nat} {M0 : Foot} {w0 : World} {ρ0 : Nat → Loc} {bs0 : List Blk} {ρ : Nat → Loc} {st : St} {a : Act} {w : World}

theorem Sim.ev (h : Sim n0 M0 w0 ρ0 bs0 ρ st a w) (x : Operand) : Rep w (Mof M0 ρ st.bs) ρ (a.eval x) (st.ev x) := by
  cases x with
  | tmp t => exact h.fr t
  | const v => exact const_rep v
  | global g => exact .imm _ _ (.undef _)
  | func f => exact .fn f #[] #[] [] [] rfl rfl (fun i v d h => by simp at h) (fun i v d h => by simp at h)

theorem Sim.m0lt (h : Sim n0 M0 w0 ρ0 bs0 ρ st a w) : ∀ g o, M0 g o → g < w.heap.size := fun g o hm => Nat.lt_of_lt_of_le (h.m0 g o hm) h.around.size

/-- A temporary is set. -/
theorem put_fr {M : Foot} {fr : Nat → D} (h : ∀ t, Rep w M ρ (a.tmps.getD t Go.undef) (fr t)) {dst : Option Nat} {v : Value} {d : D} (hd : ∀ t, dst = some t → t < a.tmps.size) (hv : Rep w M ρ v d) :
    ∀ t, Rep w M ρ ((a.put dst v).tmps.getD t Go.undef) ((St.put ⟨fr, []⟩ dst d).fr t) := by
  intro t
  cases dst with
  | none => exact h t
  | some s =>
    have hlt := hd s rfl
    by_cases hts : t = s
    · subst hts
      have e1 : (a.put (some t) v).tmps.getD t Go.undef = v := by simp [Act.put, hlt]
      rw [e1]
      simpa [St.put, upd] using hv
    · have e1 : (a.put (some s) v).tmps.getD t Go.undef = a.tmps.getD t Go.undef := by
        simp only [Act.put, Array.getD_eq_getD_getElem?]
        rw [Array.getElem?_setIfInBounds_ne (Ne.symm hts)]
      rw [e1]
      simpa [St.put, upd, hts] using h t

theorem put_size (a : Act) (dst : Option Nat) (v : Value) : (a.put dst v).tmps.size = a.tmps.size := by cases dst <;> simp [Act.put]
theorem put_defers (a : Act) (dst : Option Nat) (v : Value) : (a.put dst v).defers = a.defers := by cases dst <;> rfl

/-- A step that turned own blocks, and set a temporary. -/
theorem Sim.turn (h : Sim n0 M0 w0 ρ0 bs0 ρ st a w) {w' : World} {ρ' : Nat → Loc} {bs' : List Blk} {S : Nat → Bool} (ht : Turn M0 n0 w ρ st.bs w' ρ' bs' S) {dst : Option Nat} {v : Value} {d : D}
    (hd : ∀ t, dst = some t → t < a.tmps.size) (hv : Rep w' (Mof M0 ρ' bs') ρ' v d) :
    Sim n0 M0 w0 ρ0 bs0 ρ' ((St.mk (sweepF S st.fr) bs').put dst d) (a.put dst v) w' := by
  have hbs : ((St.mk (sweepF S st.fr) bs').put dst d).bs = bs' := by cases dst <;> rfl
  have hfr : ((St.mk (sweepF S st.fr) bs').put dst d).fr = ((St.mk (sweepF S st.fr) []).put dst d).fr := by cases dst <;> rfl
  refine ⟨?_, by rw [hbs]; exact ht.store, h.n0, by rw [hbs]; exact Nat.le_trans h.len ht.len, fun i hi => (ht.lent i (by rw [h.n0]; exact hi)).trans (h.lent i hi), by rw [hbs]; exact h.pres.trans ht.pres, ?_, by rw [put_defers]; exact h.defers, h.m0⟩
  · rw [hbs, hfr]
    exact put_fr (fun t => (h.fr t).sweep ht.pres fun b hb hne => ht.keep b hb hne) hd hv
  · refine ⟨Nat.le_trans h.around.size ht.size, ht.os.trans h.around.os, ht.tape.trans h.around.tape, ht.output.trans h.around.output, ?_, ?_⟩
    · intro g hg hno
      have hown : ∀ i base n rl esz, ρ i ≠ .at_ g base n rl esz := by
        intro i base n rl esz hat
        rcases Nat.lt_or_ge i bs0.length with hi | hi
        · exact hno i hi base n rl esz (by rw [← h.lent i hi]; exact hat)
        · have := h.around.fresh i g _ _ _ _ hi hat
          omega
      rw [ht.heap g (Nat.lt_of_lt_of_le hg h.around.size) hown]
      exact h.around.keep g hg hno
    · intro i g base n rl esz hi hat
      rcases ht.fresh i g _ _ _ _ hat with ⟨base', n', rl', esz', h'⟩ | h'
      · exact h.around.fresh i g _ _ _ _ hi h'
      · exact Nat.le_trans h.around.size h'

theorem sweep_none (f : Nat → D) : sweepF (fun _ => false) f = f := by
  funext t
  show (f t).mapR (sweepRef fun _ => false) (sweepPtr fun _ => false) = f t
  exact D.mapR_id _

/-- The states that a Q tells of. -/
def QSim (n0 : Nat) (M0 : Foot) (w0 : World) (ρ0 : Nat → Loc) (bs0 : List Blk) (m : Nat) (Q : Ex → St → Prop) : Exit → Act → World → Prop
  | .normal, a, w => ∃ ρ st, Q .normal st ∧ Sim n0 M0 w0 ρ0 bs0 ρ st a w ∧ a.tmps.size = m
  | .exit id, a, w => ∃ ρ st, Q (.exit id) st ∧ Sim n0 M0 w0 ρ0 bs0 ρ st a w ∧ a.tmps.size = m
  | .ret, a, w => ∃ ρ st, Q .ret st ∧ Sim n0 M0 w0 ρ0 bs0 ρ st a w ∧ a.tmps.size = m
  | _, _, _ => False

/-- After an operation. -/
def KSim (n0 : Nat) (M0 : Foot) (w0 : World) (ρ0 : Nat → Loc) (bs0 : List Blk) (m : Nat) (K : St → Prop) (a : Act) (w : World) : Prop := ∃ ρ st, K st ∧ Sim n0 M0 w0 ρ0 bs0 ρ st a w ∧ a.tmps.size = m

theorem store_sound {T : Tab} {eqs : List Nat} {bs : List Blk} {fr : Nat → D} {st' : St} {t : Nat} {va vx : Value} {ad xd : D} (hT : TabOk P T eqs) (hS : Store M0 ρ bs w) (hva : Rep w (Mof M0 ρ bs) ρ va ad) (hvx : Rep w (Mof M0 ρ bs) ρ vx xd)
    (h : storeD T ⟨fr, bs⟩ t ad xd = some st') : ∃ w', (Instr.storeAt t va vx).run P w = .ok () w' ∧ Turn M0 n0 w ρ bs w' ρ st'.bs (fun _ => false) ∧ st'.fr = fr := by
  unfold storeD at h
  split at h
  · rename_i b i j cs hcells
    obtain ⟨hvs, hvr⟩ := hvx.cells hcells
    split at h
    · rename_i k hb
      split at h
      · rename_i r hr
        split at h
        · rename_i hc
          obtain ⟨hk, hl, hfit, hall⟩ := hc
          obtain ⟨g, base, n, rl, esz, rfl, hat⟩ := hva.ptr_inv
          have hA := hS.at_ b k g base n rl esz hb hat
          obtain ⟨arr, Ty, hh, hs, hcl⟩ := hA.cells
          have hrlen : r.length = esz := hA.hrow r (List.mem_of_getElem? hr)
          have hi : i < k.rows.length := (List.getElem?_eq_some_iff.1 hr).1
          have hroom : base + i * esz + j + vx.cells.size ≤ arr.size := by
            have h1 : (i + 1) * esz ≤ rl * esz := Nat.mul_le_mul_right _ (by rw [hA.hrl]; omega)
            rw [Nat.add_mul] at h1
            have := hA.hfit
            omega
          have hone : ∀ v ∈ vx.cells.toList, v.oneCell' = true := by
            intro v hv
            obtain ⟨m, hm⟩ := List.getElem?_of_mem hv
            have hm' : vx.cells[m]? = some v := by simpa using hm
            have hmlt : m < cs.length := by rw [← hvs]; exact (Array.getElem?_eq_some_iff.1 hm').1
            rw [List.all_eq_true] at hall
            exact isCell_one (hvr m v cs[m] hm' (by simp [hmlt])) (hall _ (List.getElem_mem hmlt))
          have hst := run_storeCells_at P g (base + i * esz + j) Ty vx.cells.toList 0 arr w hh (by simpa using hroom) hone
          simp only [Nat.add_zero, Array.length_toList] at hst
          let arr' : Array Value := (arr.toList.take (base + i * esz + j) ++ vx.cells.toList ++ arr.toList.drop (base + i * esz + j + vx.cells.size)).toArray
          have hsz := sizeOf_run (P := P) hT (w := w) hk
          have hrun : (Instr.storeAt t (.pointer (some ⟨g, base + i * esz + j, none⟩)) vx).run P w = .ok () (w.setRow g arr') := by
            have hne : ¬ (vx.cells.size ≠ (T t).size) := by omega
            simp only [Instr.storeAt, Instr.sureAddr, Sem.run_bind, Sem.run_pure, Result.andThen_ok, storeVar, hsz]
            rw [if_neg hne]
            exact hst
          have hsz' : arr'.size = arr.size := by simp [arr']; omega
          have harr' : ∀ m, arr'[m]? = if m < base + i * esz + j then arr[m]? else if m < base + i * esz + j + cs.length then vx.cells[m - (base + i * esz + j)]? else arr[m]? := by
            intro m
            have hl1 : (arr.toList.take (base + i * esz + j)).length = base + i * esz + j := by simp; omega
            simp only [arr', List.getElem?_toArray]
            by_cases hm1 : m < base + i * esz + j
            · rw [if_pos hm1, List.append_assoc, List.getElem?_append_left (by omega), List.getElem?_take_of_lt hm1]; simp
            · rw [if_neg hm1]
              by_cases hm2 : m < base + i * esz + j + cs.length
              · rw [if_pos hm2, List.append_assoc, List.getElem?_append_right (by omega), List.getElem?_append_left (by simp; omega), hl1]; simp
              · rw [if_neg hm2, List.getElem?_append_right (by simp; omega), List.getElem?_drop]
                simp only [List.length_append, hl1, Array.getElem?_toList, Array.length_toList]
                congr 1
                omega
          -- the rows with the new cells
          have hwr : ∀ (new : List D) (bx : Bool), new.length = cs.length → k.kind = .box ∨ k.kind = .mut →
              (∀ (m : Nat) (v : Value) (e : D), vx.cells[m]? = some v → new[m]? = some e → if k.kind.isBox then Rep w (Mof M0 ρ bs) ρ v e else RepI w (Mof M0 ρ bs) v e) →
              Store M0 ρ (setBlk bs b (k.rows.set i (splice r j new))) (w.setRow g arr') ∧ Pres w (Mof M0 ρ bs) (w.setRow g arr') (Mof M0 ρ (setBlk bs b (k.rows.set i (splice r j new)))) := by
            intro new _ hnl hkind hnew
            refine hS.write hb hat hkind hh hsz' (by simp) ?_ ?_
            · intro r' hr'
              rcases List.mem_or_eq_of_mem_set hr' with h' | h'
              · exact hA.hrow r' h'
              · rw [h', splice_length (by omega), hrlen]
            · intro i' j' r' d hi' hj'
              by_cases hii : i' = i
              · subst hii
                rw [List.getElem?_set_self hi] at hi'
                cases hi'
                rw [splice_get (by omega)] at hj'
                split at hj'
                · rename_i hjr
                  have hmlt : j' - j < vx.cells.size := by omega
                  have hcell : vx.cells[j' - j]? = some vx.cells[j' - j] := by simp [hmlt]
                  refine ⟨vx.cells[j' - j], ?_, hnew _ _ _ hcell hj'⟩
                  rw [harr', if_neg (by omega), if_pos (by omega), show base + i' * esz + j' - (base + i' * esz + j) = j' - j by omega]
                  exact hcell
                · rename_i hjr
                  obtain ⟨v, hv, hrep⟩ := hcl i' j' r d hr hj'
                  refine ⟨v, ?_, hrep⟩
                  rw [harr']
                  by_cases hlt : j' < j
                  · rw [if_pos (by omega)]; exact hv
                  · rw [if_neg (by omega), if_neg (by omega)]; exact hv
              · rw [List.getElem?_set_ne (Ne.symm hii)] at hi'
                obtain ⟨v, hv, hrep⟩ := hcl i' j' r' d hi' hj'
                refine ⟨v, ?_, hrep⟩
                have hj'lt : j' < esz := by rw [← hA.hrow r' (List.mem_of_getElem? hi')]; exact (List.getElem?_eq_some_iff.1 hj').1
                rw [harr']
                rcases Nat.lt_or_gt_of_ne hii with h' | h'
                · have h1 : (i' + 1) * esz ≤ i * esz := Nat.mul_le_mul_right _ (by omega)
                  rw [Nat.add_mul] at h1
                  rw [if_pos (by omega)]; exact hv
                · have h1 : (i + 1) * esz ≤ i' * esz := Nat.mul_le_mul_right _ (by omega)
                  rw [Nat.add_mul] at h1
                  rw [if_neg (by omega), if_neg (by omega)]; exact hv
          have heap' : ∀ x, x < w.heap.size → (∀ i base n rl esz, ρ i ≠ .at_ x base n rl esz) → (w.setRow g arr').heap[x]? = w.heap[x]? := by
            intro x _ hno
            refine setRow_other w g x arr' ?_
            rintro rfl
            exact hno b _ _ _ _ hat
          split at h
          · rename_i hkind
            cases h
            obtain ⟨h1, h2⟩ := hwr cs true rfl (.inl hkind) (fun m v e hv he => by rw [if_pos (by rw [hkind]; rfl)]; exact hvr m v e hv he)
            exact ⟨_, hrun, ⟨h1, h2, fun _ _ _ => rfl, by simp, rfl, rfl, rfl, heap', fun i g base n rl esz h => .inl ⟨_, _, _, _, h⟩, fun _ _ => rfl, by rw [setBlk_len]; exact Nat.le_refl _⟩, rfl⟩
          · rename_i hkind
            split at h
            · cases h
            · rename_i hnot
              cases h
              -- the blocks that are seen through the stored cells stay as they are from now on
              have hS1 := hS.down (reach bs xd.ids)
              have hM1 : ∀ x o, Mof M0 ρ (downTo (reach bs xd.ids) bs) x o → Mof M0 ρ bs x o := fun x o => Mof_like fun i b' h => downTo_like h
              have hbd : (downTo (reach bs xd.ids) bs)[b]? = some k := by
                rw [downTo_get, hb]
                simp only [Option.map_some]
                rw [if_neg hnot]
              have hid : ∀ (rows : List (List D)), downTo (reach bs xd.ids) (setBlk bs b rows) = setBlk (downTo (reach bs xd.ids) bs) b rows := by
                intro rows
                apply List.ext_getElem?
                intro x
                rw [downTo_get, setBlk_get, setBlk_get, downTo_get]
                cases bs[x]? with
                | none => rfl
                | some kk =>
                  simp only [Option.map_some, Option.some.injEq]
                  by_cases hxb : x = b
                  · simp only [hxb, if_true]
                    split <;> rfl
                  · simp only [hxb, if_false]
              simp only
              rw [hid]
              have hstill : ∀ x ∈ reach bs xd.ids, Still ρ (Mof M0 ρ (downTo (reach bs xd.ids) bs)) x := fun x hx => hS1.still fun kk hkk => downTo_kind hkk hx
              have hA1 := hS1.at_ b k g base n rl esz hbd hat
              obtain ⟨arr1, Ty1, hh1, hs1, hcl1⟩ := hA1.cells
              rw [hh] at hh1
              cases hh1
              obtain ⟨h1, h2⟩ := hS1.write (arr' := arr') (rows := k.rows.set i (splice r j (cs.map (D.freeze0 bs)))) hbd hat (.inr hkind) hh hsz' (by simp) (by
                intro r' hr'
                rcases List.mem_or_eq_of_mem_set hr' with h' | h'
                · exact hA.hrow r' h'
                · rw [h', splice_length (by simp; omega), hrlen]) (by
                intro i' j' r' d hi' hj'
                have hbx : k.kind.isBox = false := by rw [hkind]; rfl
                simp only [hbx, Bool.false_eq_true, if_false]
                have old : ∀ {r'' : List D}, k.rows[i']? = some r'' → r''[j']? = some d → ∃ v, arr[base + i' * esz + j']? = some v ∧ RepI w (Mof M0 ρ (downTo (reach bs xd.ids) bs)) v d := by
                  intro r'' h1 h2
                  obtain ⟨v, hv, hrep⟩ := hcl1 i' j' r'' d h1 h2
                  rw [if_neg (by rw [hkind]; simp [Kind.isBox])] at hrep
                  exact ⟨v, hv, hrep⟩
                by_cases hii : i' = i
                · subst hii
                  rw [List.getElem?_set_self hi] at hi'
                  cases hi'
                  rw [splice_get (by simp; omega)] at hj'
                  simp only [List.length_map] at hj'
                  split at hj'
                  · rename_i hjr
                    have hmlt : j' - j < vx.cells.size := by omega
                    have hcell : vx.cells[j' - j]? = some vx.cells[j' - j] := by simp [hmlt]
                    rw [List.getElem?_map] at hj'
                    cases hx : cs[j' - j]? with
                    | none => simp [hx] at hj'
                    | some e0 =>
                      simp [hx] at hj'
                      subst hj'
                      refine ⟨vx.cells[j' - j], ?_, hS.freeze0 (Ext.refl _) (Pres.sub hM1) (hvr _ _ e0 hcell hx) fun x hxx => hstill x (mem_reach (D.cells_ids hcells (List.mem_of_getElem? hx) hxx) (.inl rfl))⟩
                      rw [harr', if_neg (by omega), if_pos (by omega), show base + i' * esz + j' - (base + i' * esz + j) = j' - j by omega]
                      exact hcell
                  · rename_i hjr
                    obtain ⟨v, hv, hrep⟩ := old hr hj'
                    refine ⟨v, ?_, hrep⟩
                    rw [harr']
                    by_cases hlt : j' < j
                    · rw [if_pos (by omega)]; exact hv
                    · rw [if_neg (by omega), if_neg (by omega)]; exact hv
                · rw [List.getElem?_set_ne (Ne.symm hii)] at hi'
                  obtain ⟨v, hv, hrep⟩ := old hi' hj'
                  refine ⟨v, ?_, hrep⟩
                  have hj'lt : j' < esz := by rw [← hA.hrow r' (List.mem_of_getElem? hi')]; exact (List.getElem?_eq_some_iff.1 hj').1
                  rw [harr']
                  rcases Nat.lt_or_gt_of_ne hii with h' | h'
                  · have h1 : (i' + 1) * esz ≤ i * esz := Nat.mul_le_mul_right _ (by omega)
                    rw [Nat.add_mul] at h1
                    rw [if_pos (by omega)]; exact hv
                  · have h1 : (i + 1) * esz ≤ i' * esz := Nat.mul_le_mul_right _ (by omega)
                    rw [Nat.add_mul] at h1
                    rw [if_neg (by omega), if_neg (by omega)]; exact hv)
              exact ⟨_, hrun, ⟨h1, (Pres.sub hM1).trans h2, fun _ _ _ => rfl, by simp, rfl, rfl, rfl, heap', fun i g base n rl esz h => .inl ⟨_, _, _, _, h⟩, fun _ _ => rfl, by rw [setBlk_len]; simp [downTo]⟩, trivial⟩
          · cases h
        · cases h
      · cases h
    · cases h
  · cases h
end
end Go.AM
/- AM: one operation, regions in the order of the text, code, functions. -/
namespace Go.AM
set_option linter.unusedSimpArgs false
set_option linter.unusedVariables false
open Go.RowKit (Below)

section
variable {P : Program} {c : Cfg} {M0 : Foot} {w0 : World} {ρ0 : Nat → Loc} {bs0 : List Blk}

theorem wp_value {o : Oper} {a : Act} {w w' : World} {v : Value} {K : Act → World → Prop} {Q : Exit → Act → World → Prop} (h : (execOp a.eval o).run P w = .ok (.value v) w') (hK : K (a.put o.dst v) w') : o.wp P a w K Q := by
  unfold Oper.wp
  rw [h]
  exact hK

theorem op_sound (hC : ∀ f args bs r bs', c.C f args bs r bs' → Den P f args bs r bs') (hT : TabOk P c.T c.eqs) {ρ : Nat → Loc} {st : St} {a : Act} {w : World} {o : Oper} {K : St → Prop} {Q : Exit → Act → World → Prop}
    (hs : Sim c.n0 M0 w0 ρ0 bs0 ρ st a w) (hd : ∀ t, o.dst = some t → t < a.tmps.size) (h : xOp c o st K) : o.wp P a w (KSim c.n0 M0 w0 ρ0 bs0 a.tmps.size K) Q := by
  unfold xOp at h
  split at h
  · -- a barrier
    obtain ⟨dst, op, ty, pos, after, guard⟩ := o
    unfold xBar at h
    split at h
    · rename_i t ad x hop
      simp only at hop
      subst hop
      obtain ⟨st', hst, hK⟩ := h
      obtain ⟨fr, bs⟩ := st
      obtain ⟨w', hrun, ht, hfr⟩ := store_sound (n0 := c.n0) hT hs.store (hs.ev ad) (hs.ev x) hst
      obtain ⟨fr', bs'⟩ := st'
      simp only at hfr
      subst hfr
      unfold Oper.wp
      have hr : (execOp a.eval ⟨dst, .store t ad x, ty, pos, after, guard⟩).run P w = .ok .skip w' := by simp [execOp, hrun]
      rw [hr]
      have := hs.turn ht hd (v := Go.undef) (d := .tup []) (.tup #[] [] rfl fun i v d h => by simp at h)
      rw [sweep_none] at this
      exact ⟨_, _, hK, this, put_size _ _ _⟩
    · rename_i f args tys hop
      simp only at hop
      subst hop
      unfold lendCall at h
      split at h
      · rename_i fid first caps hf
        obtain ⟨r, bs', hcon, hK⟩ := h
        obtain ⟨hcall, hden⟩ := hC _ _ _ _ _ hcon
        have hev := hs.ev f
        rw [hf] at hev
        obtain ⟨va, vc, hvf, hsa, hsc, hra, hrc⟩ := hev.fn_inv
        have hall : ∀ (i : Nat) (v : Value) (d : D), (va ++ args.map a.eval ++ vc)[i]? = some v → (first ++ args.toList.map st.ev ++ caps)[i]? = some d → Rep w (Mof M0 ρ st.bs) ρ v d :=
          append_rep (by simp [hsa]) (append_rep hsa hra (args_rep fun y _ => hs.ev y)) hrc
        unfold Oper.wp
        have he : (execOp a.eval ⟨dst, .call ⟨.value f, args, tys⟩, ty, pos, after, guard⟩).run P w = .ok (.enter fid (va ++ args.map a.eval ++ vc)) w := by
          simp only [execOp]
          exact call_enters hcall hvf
        rw [he]
        refine Calls.mono (hden w M0 ρ (va ++ args.map a.eval ++ vc) hs.m0lt hs.store (by simp [hsa, hsc]) hall) ?_
        rintro e w' ⟨v, ρ', rfl, hr, hS', hlen, hlent, hp, har⟩
        have ht : Turn M0 c.n0 w ρ st.bs w' ρ' bs' (fun _ => false) := by
          refine ⟨hS', hp, ?_, har.size, har.os, har.tape, har.output, fun g hg hno => har.keep g hg fun i _ => hno i, ?_, fun i hi => ?_, hlen⟩
          · intro b _ hne
            have hlt : b < st.bs.length := by
              rcases Nat.lt_or_ge b st.bs.length with h | h
              · exact h
              · exact absurd (hs.store.out b h) hne
            exact hlent b hlt
          · intro i g base n rl esz hi
            rcases Nat.lt_or_ge i st.bs.length with h | h
            · rw [hlent i h] at hi
              exact .inl ⟨_, _, _, _, hi⟩
            · exact .inr (har.fresh i g _ _ _ _ h hi)
          · have := hs.len
            rw [← hs.n0] at this
            exact hlent i (by omega)
        have := hs.turn ht hd hr
        rw [sweep_none] at this
        exact ⟨_, _, hK, this, put_size _ _ _⟩
      · cases h
    · rename_i args tys hop
      simp only at hop
      subst hop
      split at h
      · rename_i t0 t1 sx xx htys hargs
        split at h
        · rename_i e e' h0 h1
          obtain ⟨ys, r, st', hsrc, hfits, happ, hK⟩ := h
          obtain ⟨fr, bs⟩ := st
          obtain ⟨v, w', ρ', S, hrun, hrep, ht, hfr⟩ := append_sound (P := P) (ty := ty) (c := c) (fr := fr) hT h0 h1 hs.store hs.m0lt (by have := hs.len; rw [← hs.n0] at this; exact this) (hs.ev sx) (hs.ev xx) hsrc hfits happ
          have ha : args = #[sx, xx] := Array.toList_inj.1 (by simpa using hargs)
          have hat : tys = #[t0, t1] := Array.toList_inj.1 (by simpa using htys)
          subst ha hat
          refine wp_value (v := v) (w' := w') (by simp [execOp, resolve, invoke, builtin, hrun]) ?_
          obtain ⟨fr', bs'⟩ := st'
          simp only at hfr
          subst hfr
          exact ⟨_, _, hK, hs.turn ht hd hrep, put_size _ _ _⟩
        · cases h
      · cases h
    · cases h
  · obtain ⟨out, hout, hdn, hK⟩ := h
    obtain ⟨hS1, hM1, hN1⟩ := hs.store.more out.down out.news
    have hlen : (downTo out.down st.bs).length = st.bs.length := by simp [downTo]
    have hE : Ext st.bs (downTo out.down st.bs ++ out.news) := by
      intro i k hk
      obtain ⟨k', h1, h2⟩ := downTo_ext out.down st.bs i k hk
      exact ⟨k', by rw [List.getElem?_append_left (by rw [hlen]; exact (List.getElem?_eq_some_iff.1 hk).1)]; exact h1, h2⟩
    refine out_sound (bs := downTo out.down st.bs ++ out.news) hC hT hS1 hs.m0lt hE (fun x _ => (hs.ev x).move (Pres.sub hM1) fun _ _ => rfl) hout hN1 ?_ _ ?_
    · intro b hb k hk
      rw [List.all_eq_true] at hdn
      have hlt : b < st.bs.length := by simpa using hdn b hb
      rw [List.getElem?_append_left (by omega)] at hk
      exact downTo_kind hk hb
    · intro v w' ρ' hrep hg
      have ht : Turn M0 c.n0 w ρ st.bs w' ρ' (downTo out.down st.bs ++ out.news) (fun _ => false) := .of_grow hs.store hg (by have := hs.len; rw [← hs.n0] at this; exact this) hM1 (by simp [hlen])
      have := hs.turn ht hd hrep
      rw [sweep_none] at this
      have he : (St.mk st.fr (downTo out.down st.bs ++ out.news)).put o.dst out.d = st.out o.dst out := by
        unfold St.out
        cases o.dst <;> rfl
      rw [he] at this
      exact ⟨_, _, hK, this, put_size _ _ _⟩

/-- A temporary that was passed over. -/
theorem Sim.skip {ρ : Nat → Loc} {st : St} {a : Act} {w : World} (hs : Sim c.n0 M0 w0 ρ0 bs0 ρ st a w) {dst : Option Nat} (hd : ∀ t, dst = some t → t < a.tmps.size) :
    Sim c.n0 M0 w0 ρ0 bs0 ρ (st.put dst (.tup [])) (a.put dst Go.undef) w := by
  have ht : Turn M0 c.n0 w ρ st.bs w ρ st.bs (fun _ => false) := ⟨hs.store, Pres.refl _ _, fun _ _ _ => rfl, Nat.le_refl _, rfl, rfl, rfl, fun _ _ _ => rfl, fun i g base n rl esz h => .inl ⟨_, _, _, _, h⟩, fun _ _ => rfl, Nat.le_refl _⟩
  have := hs.turn ht hd (v := Go.undef) (d := .tup []) (.tup #[] [] rfl fun i v d h => by simp at h)
  rwa [sweep_none] at this

theorem want_sound {ρ : Nat → Loc} {st : St} {a : Act} {w : World} (hs : Sim c.n0 M0 w0 ρ0 bs0 ρ st a w) {ops : Array Oper} {o : Oper} {b : Bool} (h : wantD ops st o = some b) : Region.wanted o (yielded ops a.tmps) = b := by
  cases hg : o.guard with
  | none => simp only [wantD, hg] at h; cases h; simp [Region.wanted, hg]
  | some p =>
    obtain ⟨j, want⟩ := p
    simp only [wantD, hg] at h
    simp only [Region.wanted, hg]
    unfold yielded
    split at h
    · rename_i t ht
      rw [ht]
      simp only [Option.bind_some]
      have hr := hs.fr t
      split at h
      · rename_i x hx
        cases h
        rw [hx] at hr
        have := hr.bool_inv
        rw [Array.getD_eq_getD_getElem?] at this
        cases hq : a.tmps[t]? with
        | none => rw [hq] at this; cases this
        | some u =>
          rw [hq] at this
          simp only [Option.getD_some] at this
          subst this
          cases x <;> cases want <;> rfl
      · rename_i hx
        cases h
        rw [hx] at hr
        obtain ⟨vs, hv, _⟩ := hr.tup_inv
        rw [Array.getD_eq_getD_getElem?] at hv
        cases hq : a.tmps[t]? with
        | none => rfl
        | some u =>
          rw [hq] at hv
          simp only [Option.getD_some] at hv
          subst hv
          rfl
      · cases h
    · rename_i ht
      cases h
      rw [ht]
      rfl

theorem ops_sound (hC : ∀ f args bs r bs', c.C f args bs r bs' → Den P f args bs r bs') (hT : TabOk P c.T c.eqs) {ops : Array Oper} {Q : Exit → Act → World → Prop} {m : Nat} {K : St → Prop}
    (hQ : ∀ a w, KSim c.n0 M0 w0 ρ0 bs0 m K a w → Q .normal a w) : ∀ (l : List Oper) (ρ : Nat → Loc) (st : St) (a : Act) (w : World), (∀ o ∈ l, ∀ t, o.dst = some t → t < m) → a.tmps.size = m →
      Sim c.n0 M0 w0 ρ0 bs0 ρ st a w → xOps c ops l st K → wpList P ops Q l a w := by
  intro l
  induction l with
  | nil => intro ρ st a w _ hm hs h; exact hQ a w ⟨ρ, st, h, hs, hm⟩
  | cons o l ih =>
    intro ρ st a w hd hm hs h
    unfold xOps at h
    have hd0 : ∀ t, o.dst = some t → t < a.tmps.size := fun t ht => by rw [hm]; exact hd o (by simp) t ht
    unfold wpList
    split at h
    · rename_i hw
      rw [if_pos (want_sound hs hw)]
      left
      refine Oper.wp_mono ?_ (op_sound hC hT hs hd0 h)
      rintro a' w' ⟨ρ', st', hK, hs', hm'⟩
      exact ih ρ' st' a' w' (fun o' ho' => hd o' (by simp [ho'])) (hm'.trans hm) hs' hK
    · rename_i hw
      rw [if_neg (by rw [want_sound hs hw]; simp)]
      exact ih ρ _ _ w (fun o' ho' => hd o' (by simp [ho'])) (by rw [put_size]; exact hm) (hs.skip hd0) h
    · cases h
end
end Go.AM
/- AM: a region that draws its order. -/
namespace Go.AM
set_option linter.unusedSimpArgs false
set_option linter.unusedVariables false
open Go.RowKit (Below)

/-- The operations that wait for others, in bits. -/
def ancGo : List Oper → Array Nat → Array Nat
  | [], acc => acc
  | o :: os, acc => ancGo os (acc.push (o.after.toList.foldl (fun s e => if Region.binds .any e then s ||| (2 ^ e.on ||| acc.getD e.on 0) else s) 0))
def anc (ops : Array Oper) : Array Nat := ancGo ops.toList #[]

def ordered (A : Array Nat) (i j : Nat) : Bool := (A.getD (max i j) 0).testBit (min i j)

/-- It looks at temporaries alone, and always comes: it may come before or behind what turns blocks. -/
def floater (o : Oper) : Bool := o.guard.isNone && match o.op with
  | .move _ => true
  | .extract _ _ => true
  | _ => false

def edge (o : Oper) (j : Nat) : Bool := o.after.any fun e => Region.binds .any e && e.on == j

def pairOk (c : Cfg) (ops : Array Oper) (A : Array Nat) (i j : Nat) (x y : Oper) : Bool :=
  i == j || ((match x.dst with
    | some d => (!(y.looksAt ops).contains d || ordered A i j) && y.dst != some d
    | none => true) && (!barrier c x.op || ordered A i j || (decide (j < i) && floater y && y.after.all fun e => !Region.binds .any e || ordered A i e.on)) &&
    (!floater x || edge x j || edge y i || x.apart ops y))

/-- In whatever order they come, it is as in the text's. -/
def drawOk (c : Cfg) (ops : Array Oper) : Bool :=
  (ops.toList.zipIdx.all fun x => x.1.after.all fun e => !Region.binds .any e || decide (e.on < x.2)) &&
  (ops.toList.zipIdx.all fun x => ops.toList.zipIdx.all fun y => pairOk c ops (anc ops) x.2 y.2 x.1 y.1) && Region.noSelect ops

inductive Reach (ops : Array Oper) : Nat → Nat → Prop where
  | one {i : Nat} {o : Oper} {e : Edge} (ho : ops[i]? = some o) (he : e ∈ o.after) (hb : Region.binds .any e = true) : Reach ops i e.on
  | more {i j : Nat} {o : Oper} {e : Edge} (ho : ops[i]? = some o) (he : e ∈ o.after) (hb : Region.binds .any e = true) (h : Reach ops e.on j) : Reach ops i j

def Closed (ops : Array Oper) (L : Array Bool) : Prop := ∀ (i : Nat) (o : Oper) (e : Edge), L.getD i false = true → ops[i]? = some o → e ∈ o.after → Region.binds .any e = true → L.getD e.on false = true

theorem Closed.reach {ops : Array Oper} {L : Array Bool} (h : Closed ops L) {i j : Nat} (hr : Reach ops i j) (hi : L.getD i false = true) : L.getD j false = true := by
  induction hr with
  | one ho he hb => exact h _ _ _ hi ho he hb
  | more ho he hb _ ih => exact ih (h _ _ _ hi ho he hb)

theorem foldl_bits {acc : Array Nat} {j : Nat} : ∀ (es : List Edge) (s : Nat), (es.foldl (fun s e => if Region.binds .any e then s ||| (2 ^ e.on ||| acc.getD e.on 0) else s) s).testBit j = true →
    s.testBit j = true ∨ ∃ e ∈ es, Region.binds .any e = true ∧ (e.on = j ∨ (acc.getD e.on 0).testBit j = true) := by
  intro es
  induction es with
  | nil => intro s h; exact .inl h
  | cons e es ih =>
    intro s h
    simp only [List.foldl_cons] at h
    rcases ih _ h with h1 | ⟨e', he', hb, hx⟩
    · split at h1
      · rename_i hb
        rw [Nat.testBit_or, Nat.testBit_or, Bool.or_eq_true, Bool.or_eq_true] at h1
        rcases h1 with h1 | h1 | h1
        · exact .inl h1
        · rw [Nat.testBit_two_pow] at h1
          exact .inr ⟨e, by simp, hb, .inl (by simpa using h1)⟩
        · exact .inr ⟨e, by simp, hb, .inr h1⟩
      · exact .inl h1
    · exact .inr ⟨e', by simp [he'], hb, hx⟩

theorem ancGo_sound {ops : Array Oper} : ∀ (l : List Oper) (acc : Array Nat), (∀ k, l[k]? = ops[acc.size + k]?) → (∀ i j, (acc.getD i 0).testBit j = true → Reach ops i j) →
    ∀ i j, ((ancGo l acc).getD i 0).testBit j = true → Reach ops i j := by
  intro l
  induction l with
  | nil => intro acc _ h i j hx; exact h i j hx
  | cons o l ih =>
    intro acc hl h i j hx
    have h0 : ops[acc.size]? = some o := by have := hl 0; simpa using this.symm
    refine ih _ ?_ ?_ i j hx
    · intro k
      have := hl (k + 1)
      simp only [List.getElem?_cons_succ] at this
      rw [this, Array.size_push]
      congr 1
      omega
    · intro i j hb
      rw [Array.getD_eq_getD_getElem?, Array.getElem?_push] at hb
      split at hb
      · rename_i hi
        subst hi
        simp only [Option.getD_some] at hb
        rcases foldl_bits _ _ hb with h1 | ⟨e, he, hbi, h1 | h1⟩
        · simp at h1
        · subst h1; exact .one h0 (by simpa using he) hbi
        · exact .more h0 (by simpa using he) hbi (h _ _ h1)
      · rw [← Array.getD_eq_getD_getElem?] at hb
        exact h i j hb

theorem ordered_reach {ops : Array Oper} {i j : Nat} (h : ordered (anc ops) i j = true) : Reach ops (max i j) (min i j) :=
  ancGo_sound ops.toList #[] (fun k => by simp) (fun i j h => by simp at h) _ _ h

structure DrawOk (c : Cfg) (ops : Array Oper) : Prop where
  fwd : ∀ (i : Nat) (o : Oper) (e : Edge), ops[i]? = some o → e ∈ o.after → Region.binds .any e = true → e.on < i
  look : ∀ (i j : Nat) (x y : Oper) (d : Nat), ops[i]? = some x → ops[j]? = some y → i ≠ j → x.dst = some d → d ∈ y.looksAt ops → Reach ops (max i j) (min i j)
  uniq : ∀ (i j : Nat) (x y : Oper) (d : Nat), ops[i]? = some x → ops[j]? = some y → x.dst = some d → y.dst = some d → i = j
  bar : ∀ (i j : Nat) (x y : Oper), ops[i]? = some x → ops[j]? = some y → i ≠ j → barrier c x.op = true → Reach ops (max i j) (min i j) ∨
    (j < i ∧ floater y = true ∧ ∀ e ∈ y.after, Region.binds .any e = true → Reach ops i e.on)
  free : ∀ (i j : Nat) (x y : Oper), ops[i]? = some x → ops[j]? = some y → j ≠ i → floater x = true → edge x j = true ∨ edge y i = true ∨ x.apart ops y = true
  sel : Region.noSelect ops = true

theorem drawOk_spec {c : Cfg} {ops : Array Oper} (h : drawOk c ops = true) : DrawOk c ops := by
  unfold drawOk at h
  rw [Bool.and_eq_true, Bool.and_eq_true, List.all_eq_true, List.all_eq_true] at h
  obtain ⟨⟨h1, h2⟩, h3⟩ := h
  have mem : ∀ {i : Nat} {o : Oper}, ops[i]? = some o → (o, i) ∈ ops.toList.zipIdx := by
    intro i o ho
    rw [List.mem_zipIdx_iff_getElem?]
    simpa using ho
  have fwd : ∀ (i : Nat) (o : Oper) (e : Edge), ops[i]? = some o → e ∈ o.after → Region.binds .any e = true → e.on < i := by
    intro i o e ho he hb
    have := h1 _ (mem ho)
    rw [Array.all_eq_true'] at this
    have := this e he
    rw [hb] at this
    simpa using this
  have pair : ∀ {i j : Nat} {x y : Oper}, ops[i]? = some x → ops[j]? = some y → i ≠ j → ((match x.dst with
    | some d => (!(y.looksAt ops).contains d || ordered (anc ops) i j) && y.dst != some d
    | none => true) = true) ∧ (barrier c x.op = true → ordered (anc ops) i j = true ∨ (j < i ∧ floater y = true ∧ ∀ e ∈ y.after, Region.binds .any e = true → ordered (anc ops) i e.on = true)) ∧
      (floater x = true → edge x j = true ∨ edge y i = true ∨ x.apart ops y = true) := by
    intro i j x y hx hy hne
    have := h2 _ (mem hx)
    rw [List.all_eq_true] at this
    have := this _ (mem hy)
    unfold pairOk at this
    have hij : (i == j) = false := by simpa using hne
    simp only [hij, Bool.false_or, Bool.and_eq_true] at this
    obtain ⟨⟨g1, g2⟩, g3⟩ := this
    refine ⟨g1, fun hb => ?_, fun hf => ?_⟩
    · rw [hb] at g2
      simp only [Bool.not_true, Bool.false_or, Bool.or_eq_true, Bool.and_eq_true, decide_eq_true_eq] at g2
      rcases g2 with g2 | ⟨⟨g2, g4⟩, g5⟩
      · exact .inl g2
      · rw [Array.all_eq_true'] at g5
        refine .inr ⟨g2, g4, fun e he hbi => ?_⟩
        have := g5 e he
        rw [hbi] at this
        simpa using this
    · rw [hf] at g3
      simp only [Bool.not_true, Bool.false_or, Bool.or_eq_true] at g3
      rcases g3 with (g3 | g3) | g3
      · exact .inl g3
      · exact .inr (.inl g3)
      · exact .inr (.inr g3)
  refine ⟨fwd, ?_, ?_, ?_, ?_, h3⟩
  · intro i j x y d hx hy hne hd hl
    have := (pair hx hy hne).1
    rw [hd] at this
    have hc : (y.looksAt ops).contains d = true := by simpa using hl
    simp only [hc, Bool.not_true, Bool.false_or, Bool.and_eq_true] at this
    exact ordered_reach this.1
  · intro i j x y d hx hy hd hd'
    apply Classical.byContradiction
    intro hne
    have := (pair hx hy hne).1
    rw [hd] at this
    simp only [Bool.and_eq_true] at this
    have := this.2
    rw [hd'] at this
    simp at this
  · intro i j x y hx hy hne hb
    rcases (pair hx hy hne).2.1 hb with h | ⟨hlt, hf, h⟩
    · exact .inl (ordered_reach h)
    · refine .inr ⟨hlt, hf, fun e he hbi => ?_⟩
      have := fwd j y e hy he hbi
      have h' := ordered_reach (h e he hbi)
      rwa [Nat.max_eq_left (by omega), Nat.min_eq_right (by omega)] at h'
  · intro i j x y hx hy hne hf
    exact (pair hx hy (Ne.symm hne)).2.2 hf

/-! ### A stretch without barriers, in the text's order -/
/-- What operation number i came to. -/
def DstOf (ops : Array Oper) (i : Nat) : Option Nat := (ops[i]?).bind (·.dst)

structure StepAt (c : Cfg) (ops : Array Oper) (s s' : St) (o : Oper) (out : Option Out) : Prop where
  free : barrier c o.op = false
  want : wantD ops s o = some out.isSome
  run : ∀ x, out = some x → outOp c s.bs.length s.bs s.ev o x ∧ (∀ b ∈ x.down, b < s.bs.length) ∧ s' = s.out o.dst x
  skip : out = none → s' = s.put o.dst (.tup [])

structure Trace (c : Cfg) (ops : Array Oper) (p q : Nat) (sts : Nat → St) (outs : Nat → Option Out) : Prop where
  le : p ≤ q
  size : q ≤ ops.size
  step : ∀ i, p ≤ i → i < q → ∃ o, ops[i]? = some o ∧ StepAt c ops (sts i) (sts (i + 1)) o (outs i)

/-- The run falls into a stretch without barriers, and what follows. -/
theorem trace_of {c : Cfg} {ops : Array Oper} {K : St → Prop} : ∀ (n p : Nat) (st : St), ops.size - p = n → p ≤ ops.size → xOps c ops (ops.toList.drop p) st K →
    ∃ q sts outs, Trace c ops p q sts outs ∧ sts p = st ∧ xOps c ops (ops.toList.drop q) (sts q) K ∧ (q = ops.size ∨ ∃ o, ops[q]? = some o ∧ barrier c o.op = true) := by
  intro n
  induction n with
  | zero =>
    intro p st hn hp h
    exact ⟨p, fun _ => st, fun _ => none, ⟨Nat.le_refl _, hp, fun i h1 h2 => by omega⟩, rfl, h, .inl (by omega)⟩
  | succ n ih =>
    intro p st hn hp h
    have hlt : p < ops.size := by omega
    have ho : ops[p]? = some ops[p] := by simp [hlt]
    by_cases hb : barrier c ops[p].op = true
    · exact ⟨p, fun _ => st, fun _ => none, ⟨Nat.le_refl _, hp, fun i h1 h2 => by omega⟩, rfl, h, .inr ⟨_, ho, hb⟩⟩
    · have hd : ops.toList.drop p = ops[p] :: ops.toList.drop (p + 1) := by
        rw [List.drop_eq_getElem_cons (by simpa using hlt)]
        simp
      have h' := h
      rw [hd] at h'
      unfold xOps at h'
      have hbf : barrier c ops[p].op = false := by simpa using hb
      -- put one step ahead of a stretch
      have glue : ∀ (s' : St) (out : Option Out), StepAt c ops st s' ops[p] out → xOps c ops (ops.toList.drop (p + 1)) s' K →
          ∃ q sts outs, Trace c ops p q sts outs ∧ sts p = st ∧ xOps c ops (ops.toList.drop q) (sts q) K ∧ (q = ops.size ∨ ∃ o, ops[q]? = some o ∧ barrier c o.op = true) := by
        intro s' out hstep hx
        obtain ⟨q, sts, outs, htr, hs, hrest, hend⟩ := ih (p + 1) s' (by omega) (by omega) hx
        refine ⟨q, fun i => if i = p then st else sts i, fun i => if i = p then out else outs i, ⟨by have := htr.le; omega, htr.size, ?_⟩, by simp, ?_, hend⟩
        · intro i h1 h2
          by_cases hi : i = p
          · subst hi
            refine ⟨_, ho, ?_⟩
            simp only [if_true]
            rw [if_neg (by omega), hs]
            exact hstep
          · obtain ⟨o, ho', hst⟩ := htr.step i (by omega) h2
            refine ⟨o, ho', ?_⟩
            rw [if_neg hi, if_neg (by omega), if_neg hi]
            exact hst
        · have := htr.le
          have hqp : q ≠ p := by omega
          simp only [hqp, if_false]
          exact hrest
      split at h'
      · rename_i hw
        unfold xOp at h'
        rw [if_neg hb] at h'
        obtain ⟨out, hout, hdn, hx⟩ := h'
        rw [List.all_eq_true] at hdn
        exact glue _ (some out) ⟨hbf, hw, fun x hx => (by cases hx; exact ⟨hout, fun b hb => by simpa using hdn b hb, rfl⟩), fun h => (by cases h)⟩ hx
      · rename_i hw
        exact glue _ none ⟨hbf, hw, fun x hx => (by cases hx), fun _ => rfl⟩ h'
      · cases h'

section
variable {c : Cfg} {ops : Array Oper} {p q : Nat} {sts : Nat → St} {outs : Nat → Option Out}

def dval (outs : Nat → Option Out) (i : Nat) : D := match outs i with
  | some x => x.d
  | none => .tup []

/-- The temporaries where the operations of S have come. -/
noncomputable def frOf (ops : Array Oper) (outs : Nat → Option Out) (base : Nat → D) (S : Nat → Prop) (t : Nat) : D :=
  open Classical in if h : ∃ j, S j ∧ DstOf ops j = some t then dval outs (Classical.choose h) else base t

theorem frOf_in (hu : DrawOk c ops) {base : Nat → D} {S : Nat → Prop} {t j : Nat} (hj : S j) (hd : DstOf ops j = some t) : frOf ops outs base S t = dval outs j := by
  have h : ∃ j, S j ∧ DstOf ops j = some t := ⟨j, hj, hd⟩
  unfold frOf
  rw [dif_pos h]
  have h2 := (Classical.choose_spec h).2
  have : Classical.choose h = j := by
    have g : ∀ {k}, DstOf ops k = some t → ∃ o, ops[k]? = some o ∧ o.dst = some t := by
      intro k hk
      unfold DstOf at hk
      cases ho : ops[k]? with
      | none => simp [ho] at hk
      | some o => rw [ho] at hk; exact ⟨o, rfl, by simpa using hk⟩
    obtain ⟨o1, a1, b1⟩ := g h2
    obtain ⟨o2, a2, b2⟩ := g hd
    exact hu.uniq _ _ _ _ _ a1 a2 b1 b2
  rw [this]

theorem frOf_out {base : Nat → D} {S : Nat → Prop} {t : Nat} (h : ∀ j, S j → DstOf ops j ≠ some t) : frOf ops outs base S t = base t := by
  unfold frOf
  rw [dif_neg]
  rintro ⟨j, hj, hd⟩
  exact h j hj hd

theorem frOf_congr (hu : DrawOk c ops) {base : Nat → D} {S S' : Nat → Prop} {t : Nat} (h : ∀ j, DstOf ops j = some t → (S j ↔ S' j)) : frOf ops outs base S t = frOf ops outs base S' t := by
  by_cases hx : ∃ j, S j ∧ DstOf ops j = some t
  · obtain ⟨j, hj, hd⟩ := hx
    rw [frOf_in hu hj hd, frOf_in hu ((h j hd).1 hj) hd]
  · rw [frOf_out (fun j hj hd => hx ⟨j, hj, hd⟩), frOf_out (fun j hj hd => hx ⟨j, (h j hd).2 hj, hd⟩)]

theorem Trace.fr (hu : DrawOk c ops) (ht : Trace c ops p q sts outs) : ∀ i, p ≤ i → i ≤ q → (sts i).fr = frOf ops outs (sts p).fr (fun j => p ≤ j ∧ j < i) := by
  intro i
  induction i with
  | zero =>
    intro h1 _
    have : p = 0 := by omega
    subst this
    funext t
    rw [frOf_out (fun j hj => by omega)]
  | succ i ih =>
    intro h1 h2
    by_cases hp : p = i + 1
    · subst hp
      funext t
      rw [frOf_out (fun j hj => by omega)]
    · obtain ⟨o, ho, hst⟩ := ht.step i (by omega) (by omega)
      have ih' := ih (by omega) (by omega)
      have hdst : DstOf ops i = o.dst := by simp [DstOf, ho]
      have hput : (sts (i + 1)).fr = ((sts i).put o.dst (dval outs i)).fr := by
        unfold dval
        cases hx : outs i with
        | none => rw [hst.skip hx]
        | some x => rw [(hst.run x hx).2.2]; rfl
      funext t
      rw [hput]
      cases hd : o.dst with
      | none =>
        show (sts i).fr t = _
        rw [ih']
        refine frOf_congr hu fun j hj => ⟨fun h => ⟨h.1, by omega⟩, fun h => ⟨h.1, ?_⟩⟩
        rcases Nat.lt_or_ge j i with h' | h'
        · exact h'
        · have : j = i := by omega
          subst this
          rw [hdst, hd] at hj
          cases hj
      | some s =>
        by_cases hts : t = s
        · subst hts
          rw [frOf_in hu (j := i) ⟨by omega, by omega⟩ (by rw [hdst, hd])]
          simp [St.put, upd]
        · have : ((sts i).put (some s) (dval outs i)).fr t = (sts i).fr t := by simp [St.put, upd, hts]
          rw [this, ih']
          refine frOf_congr hu fun j hj => ⟨fun h => ⟨h.1, by omega⟩, fun h => ⟨h.1, ?_⟩⟩
          rcases Nat.lt_or_ge j i with h' | h'
          · exact h'
          · have : j = i := by omega
            subst this
            rw [hdst, hd] at hj
            cases hj
            exact absurd rfl hts

/-- The blocks at the stretch's end, told by those at a step. -/
theorem Trace.ext (ht : Trace c ops p q sts outs) : ∀ (n i : Nat), i + n ≤ q → p ≤ i → (sts i).bs.length ≤ (sts (i + n)).bs.length ∧ Ext (sts i).bs (sts (i + n)).bs ∧
    (∀ (b : Nat) (k k' : Blk), (sts i).bs[b]? = some k → (sts (i + n)).bs[b]? = some k' → (k.kind ≠ .box ∧ k.kind ≠ .mut) → k'.kind ≠ .box ∧ k'.kind ≠ .mut) := by
  intro n
  induction n with
  | zero => intro i _ _; exact ⟨Nat.le_refl _, .refl _, fun b k k' h1 h2 h => by rw [Nat.add_zero] at h2; rw [h1] at h2; cases h2; exact h⟩
  | succ n ih =>
    intro i h1 h2
    obtain ⟨l1, e1, k1⟩ := ih i (by omega) h2
    obtain ⟨o, ho, hst⟩ := ht.step (i + n) (by omega) (by omega)
    have one : (sts (i + n)).bs.length ≤ (sts (i + n + 1)).bs.length ∧ Ext (sts (i + n)).bs (sts (i + n + 1)).bs ∧ (∀ (b : Nat) (k k' : Blk), (sts (i + n)).bs[b]? = some k → (sts (i + n + 1)).bs[b]? = some k' → (k.kind ≠ .box ∧ k.kind ≠ .mut) → k'.kind ≠ .box ∧ k'.kind ≠ .mut) := by
      cases hx : outs (i + n) with
      | none =>
        have : (sts (i + n + 1)).bs = (sts (i + n)).bs := by rw [hst.skip hx]; cases o.dst <;> rfl
        rw [this]
        exact ⟨Nat.le_refl _, .refl _, fun b k k' h1 h2 h => by rw [h1] at h2; cases h2; exact h⟩
      | some x =>
        have : (sts (i + n + 1)).bs = downTo x.down (sts (i + n)).bs ++ x.news := by rw [(hst.run x hx).2.2]; rfl
        rw [this]
        have hlen : (downTo x.down (sts (i + n)).bs).length = (sts (i + n)).bs.length := by simp [downTo]
        refine ⟨by simp [hlen], ?_, ?_⟩
        · intro b k hk
          obtain ⟨k', h1, h2⟩ := downTo_ext x.down _ b k hk
          exact ⟨k', by rw [List.getElem?_append_left (by rw [hlen]; exact (List.getElem?_eq_some_iff.1 hk).1)]; exact h1, h2⟩
        · intro b k k' h1 h2 h
          rw [List.getElem?_append_left (by rw [hlen]; exact (List.getElem?_eq_some_iff.1 h1).1), downTo_get, h1] at h2
          simp only [Option.map_some, Option.some.injEq] at h2
          subst h2
          split
          · exact Kind.down_box _
          · exact h
    obtain ⟨l2, e2, k2⟩ := one
    refine ⟨Nat.le_trans l1 l2, e1.trans e2, ?_⟩
    intro b k k' h3 h4 h
    obtain ⟨km, hm, _⟩ := e1 b k h3
    exact k2 b km k' hm h4 (k1 b k km h3 hm h)

theorem Trace.new (ht : Trace c ops p q sts outs) {i : Nat} (h1 : p ≤ i) (h2 : i < q) {x : Out} (hx : outs i = some x) :
    (∀ (k : Nat) (b : Blk), x.news[k]? = some b → ∃ b', (sts q).bs[(sts i).bs.length + k]? = some b' ∧ b.like b') ∧ (sts i).bs.length + x.news.length ≤ (sts (i + 1)).bs.length ∧
    (∀ b ∈ x.down, ∀ k : Blk, (sts q).bs[b]? = some k → k.kind ≠ .box ∧ k.kind ≠ .mut) ∧ Ext (sts i).bs (sts q).bs := by
  obtain ⟨o, ho, hst⟩ := ht.step i h1 h2
  have hbs : (sts (i + 1)).bs = downTo x.down (sts i).bs ++ x.news := by rw [(hst.run x hx).2.2]; rfl
  have hlen : (downTo x.down (sts i).bs).length = (sts i).bs.length := by simp [downTo]
  obtain ⟨l, e, kk⟩ := ht.ext (q - (i + 1)) (i + 1) (by omega) (by omega)
  rw [show i + 1 + (q - (i + 1)) = q by omega] at l e kk
  obtain ⟨_, e0, _⟩ := ht.ext (q - i) i (by omega) h1
  rw [show i + (q - i) = q by omega] at e0
  refine ⟨?_, by rw [hbs]; simp [hlen], ?_, e0⟩
  · intro k b hb
    have : (sts (i + 1)).bs[(sts i).bs.length + k]? = some b := by
      rw [hbs, List.getElem?_append_right (by omega), hlen, show (sts i).bs.length + k - (sts i).bs.length = k by omega]
      exact hb
    obtain ⟨b', h3, h4⟩ := e _ _ this
    exact ⟨b', h3, h4⟩
  · intro b hb k hk
    have hlt := (hst.run x hx).2.1 b hb
    have h3 : (sts (i + 1)).bs[b]? = some { (sts i).bs[b] with kind := ((sts i).bs[b]).kind.down } := by
      rw [hbs, List.getElem?_append_left (by omega), downTo_get]
      have hc : x.down.contains b = true := by simpa using hb
      simp [hlt, hc]
      intro h
      exact absurd hb h
    exact kk b _ k h3 hk (Kind.down_box _)
end
end Go.AM
/- AM: a region that draws its order: whatever the order, it comes to what the text's order comes to. -/
namespace Go.AM
set_option linter.unusedSimpArgs false
set_option linter.unusedVariables false
open Go.RowKit (Below)

section
variable {P : Program} {c : Cfg} {M0 : Foot} {w0 : World} {ρ0 : Nat → Loc} {bs0 : List Blk} {ops : Array Oper}

theorem Store.ext {ρ : Nat → Loc} {bs bs' : List Blk} {w : World} (hS : Store M0 ρ bs w) (hE : Ext bs bs') (hl : bs.length ≤ bs'.length) : Store M0 ρ bs' w ∧ ∀ g o, Mof M0 ρ bs' g o → Mof M0 ρ bs g o := by
  have back : ∀ i b', bs'[i]? = some b' → ρ i ≠ .absent → ∃ b : Blk, bs[i]? = some b ∧ b.like b' := by
    intro i b' hi hne
    have hlt : i < bs.length := by
      rcases Nat.lt_or_ge i bs.length with h | h
      · exact h
      · exact absurd (hS.out i h) hne
    have hb : bs[i]? = some bs[i] := by simp [hlt]
    obtain ⟨k', h1, h2⟩ := hE i _ hb
    rw [hi] at h1
    cases h1
    exact ⟨_, hb, h2⟩
  have hM : ∀ g o, Mof M0 ρ bs' g o → Mof M0 ρ bs g o := by
    rintro g o (h | ⟨i, b', base, n, rl, esz, hi, hat, hk⟩)
    · exact .inl h
    · obtain ⟨b, hb, hl⟩ := back i b' hi (by simp [hat])
      refine .inr ⟨i, b, base, n, rl, esz, hb, hat, ?_⟩
      rcases hk with hk | hk | hk
      · rcases hl.down with e | e
        · exact .inl (e ▸ hk)
        · exact absurd (e ▸ hk) (Kind.down_box _).1
      · rcases hl.down with e | e
        · exact .inr (.inl (e ▸ hk))
        · exact absurd (e ▸ hk) (Kind.down_box _).2
      · exact .inr (.inr hk)
  refine ⟨⟨?_, ?_, ?_, hS.inj, hS.m0⟩, hM⟩
  · intro i b' g base n rl esz hi hat
    obtain ⟨b, hb, hl⟩ := back i b' hi (by simp [hat])
    exact (hS.at_ i b g base n rl esz hb hat).like hl (Pres.sub hM)
  · intro i b' hi hv
    obtain ⟨b, hb, hl⟩ := back i b' hi (by simp [hv])
    obtain ⟨e1, e2⟩ := hS.virt i b hb hv
    exact ⟨hl.rows.trans e1, hl.box.trans e2⟩
  · intro i hi
    exact hS.out i (by omega)

theorem Sim.ext {n0 : Nat} {ρ : Nat → Loc} {fr : Nat → D} {bs bs' : List Blk} {a : Act} {w : World} (hs : Sim n0 M0 w0 ρ0 bs0 ρ ⟨fr, bs⟩ a w) (hE : Ext bs bs') (hl : bs.length ≤ bs'.length) : Sim n0 M0 w0 ρ0 bs0 ρ ⟨fr, bs'⟩ a w := by
  obtain ⟨h1, hM⟩ := hs.store.ext hE hl
  exact ⟨fun t => (hs.fr t).move (Pres.sub hM) fun _ _ => rfl, h1, hs.n0, Nat.le_trans hs.len hl, hs.lent, hs.pres.trans (Pres.sub hM), hs.around, hs.defers, hs.m0⟩

def unl (L : Array Bool) : Nat := L.toList.countP (fun b => !b)

theorem unl_set {L : Array Bool} {i : Nat} (hi : i < L.size) (hf : L.getD i true = false) : unl (L.setIfInBounds i true) + 1 = unl L := by
  have hlt : i < L.toList.length := by simpa using hi
  have hv : L.toList[i] = false := by
    rw [Array.getD_eq_getD_getElem?] at hf
    simp [hi] at hf
    simpa using hf
  have hpos : 0 < L.toList.countP (fun b => !b) := by
    rw [List.countP_pos_iff]
    exact ⟨L.toList[i], List.getElem_mem hlt, by rw [hv]; rfl⟩
  unfold unl
  rw [Array.toList_setIfInBounds, List.countP_set hlt]
  simp only [hv, Bool.not_false, if_true, Bool.not_true, Bool.false_eq_true, if_false]
  omega

theorem getD_set (L : Array Bool) (i j : Nat) (hi : i < L.size) (d : Bool) : (L.setIfInBounds i true).getD j d = if j = i then true else L.getD j d := by
  rw [Array.getD_eq_getD_getElem?, Array.getD_eq_getD_getElem?, Array.getElem?_setIfInBounds]
  by_cases h : i = j
  · subst h; simp [hi]
  · simp [h, Ne.symm h]

theorem look_same (hu : DrawOk c ops) {p q : Nat} {sts : Nat → St} {outs : Nat → Option Out} {L : Array Bool} (htr : Trace c ops p q sts outs) {i : Nat} (hi : i ∈ Region.ready .any ops L)
    (hun : ∀ {i : Nat}, i ∈ Region.ready .any ops L → i < ops.size ∧ L.getD i false = false) (hreach : ∀ {i j : Nat}, i ∈ Region.ready .any ops L → Reach ops i j → L.getD j false = true) (hcl : Closed ops L)
    (hpi : p ≤ i) (hiq : i < q) {o : Oper} (ho : ops[i]? = some o) :
    ∀ t, t ∈ o.looksAt ops → frOf ops outs (sts p).fr (fun j => p ≤ j ∧ j < q ∧ L.getD j false = true) t = (sts i).fr t := by
  obtain ⟨hilt, hif⟩ := hun hi
  intro t ht
  rw [htr.fr hu i hpi (by omega)]
  refine frOf_congr hu fun j hj => ?_
  have gj : ∃ oj, ops[j]? = some oj ∧ oj.dst = some t := by
    unfold DstOf at hj
    cases hoj : ops[j]? with
    | none => simp [hoj] at hj
    | some oj => rw [hoj] at hj; exact ⟨oj, rfl, by simpa using hj⟩
  obtain ⟨oj, hoj, hdj⟩ := gj
  by_cases hji : j = i
  · subst hji
    exact ⟨fun h => (by rw [hif] at h; exact absurd h.2.2 (by simp)), fun h => by omega⟩
  · have hr := hu.look j i oj o t hoj ho hji hdj ht
    rcases Nat.lt_or_ge j i with hlt | hge
    · rw [Nat.max_eq_right (by omega), Nat.min_eq_left (by omega)] at hr
      have hl := hreach hi hr
      exact ⟨fun h => ⟨h.1, hlt⟩, fun h => ⟨h.1, by omega, hl⟩⟩
    · rw [Nat.max_eq_left (by omega), Nat.min_eq_right (by omega)] at hr
      refine ⟨fun h => ?_, fun h => by omega⟩
      have := hcl.reach hr h.2.2
      rw [hif] at this
      cases this

theorem put_frOf (hu : DrawOk c ops) {p q : Nat} {outs : Nat → Option Out} {L : Array Bool} {fr : Nat → D} {bs : List Blk} {i : Nat} (hpi : p ≤ i) (hiq : i < q) (hLlen : i < L.size) {o : Oper} (hdsti : DstOf ops i = o.dst)
    {d : D} (hdv : dval outs i = d) : (St.put ⟨frOf ops outs fr (fun j => p ≤ j ∧ j < q ∧ L.getD j false = true), bs⟩ o.dst d) =
      ⟨frOf ops outs fr (fun j => p ≤ j ∧ j < q ∧ (L.setIfInBounds i true).getD j false = true), bs⟩ := by
  have same : ∀ t, o.dst ≠ some t → frOf ops outs fr (fun j => p ≤ j ∧ j < q ∧ L.getD j false = true) t = frOf ops outs fr (fun j => p ≤ j ∧ j < q ∧ (L.setIfInBounds i true).getD j false = true) t := by
    intro t hne
    refine frOf_congr hu fun j hj => ?_
    have hji : j ≠ i := by rintro rfl; rw [hdsti] at hj; exact hne hj
    rw [getD_set L i j hLlen, if_neg hji]
  cases hd : o.dst with
  | none =>
    simp only [St.put]
    congr 1
    funext t
    exact same t (by rw [hd]; simp)
  | some s =>
    simp only [St.put]
    congr 1
    funext t
    unfold upd
    by_cases hts : t = s
    · subst hts
      rw [if_pos rfl, frOf_in hu (j := i) ⟨hpi, hiq, by rw [getD_set L i i hLlen, if_pos rfl]⟩ (by rw [hdsti, hd]), hdv]
    · rw [if_neg hts]
      exact same t (by rw [hd]; simpa using Ne.symm hts)

theorem draw_any (hC : ∀ f args bs r bs', c.C f args bs r bs' → Den P f args bs r bs') (hT : TabOk P c.T c.eqs) (hu : DrawOk c ops) {Q : Exit → Act → World → Prop} {m : Nat} {K : St → Prop}
    (hQ : ∀ a w, KSim c.n0 M0 w0 ρ0 bs0 m K a w → Q .normal a w) (hdst : ∀ (i : Nat) (o : Oper) (t : Nat), ops[i]? = some o → o.dst = some t → t < m) (hpan : ∀ ch a w, ¬ Q (.panic ch) a w) :
    ∀ (fuel : Nat) (p q : Nat) (sts : Nat → St) (outs : Nat → Option Out) (L : Array Bool) (ρ : Nat → Loc) (a : Act) (w : World), unl L ≤ fuel → L.size = ops.size → Trace c ops p q sts outs →
      (∀ j, j < p → L.getD j false = true) → (∀ j, q ≤ j → L.getD j false = false) → Closed ops L →
      xOps c ops (ops.toList.drop q) (sts q) K → (q = ops.size ∨ ∃ o, ops[q]? = some o ∧ barrier c o.op = true) → a.tmps.size = m →
      Sim c.n0 M0 w0 ρ0 bs0 ρ ⟨frOf ops outs (sts p).fr (fun j => p ≤ j ∧ j < q ∧ L.getD j false = true), (sts q).bs⟩ a w →
      (∀ i, p ≤ i → i < q → L.getD i false = false → ∀ x, outs i = some x → ∀ k, k < x.news.length → ρ ((sts i).bs.length + k) = .absent) →
      c.n0 ≤ (sts p).bs.length →
      wpAny P .any ops Q fuel L a w := by
  intro fuel
  induction fuel with
  | zero =>
    intro p q sts outs L ρ a w hunl hsz htr hlo hhi hcl hrest hend hm hsim _ _
    -- all are listed
    have hall : ∀ j, j < ops.size → L.getD j false = true := by
      intro j hj
      have h0 : unl L = 0 := by omega
      unfold unl at h0
      rw [List.countP_eq_zero] at h0
      have hlt : j < L.size := by omega
      have := h0 (L.toList[j]'(by simpa using hlt)) (List.getElem_mem _)
      rw [Array.getD_eq_getD_getElem?]
      simp [hlt] at this ⊢
      exact this
    have hq : q = ops.size := by
      have := htr.size
      rcases Nat.lt_or_ge q ops.size with h | h
      · have h1 := hall q h
        rw [hhi q (Nat.le_refl _)] at h1
        cases h1
      · omega
    have hready : Region.ready .any ops L = [] := by
      rw [List.eq_nil_iff_forall_not_mem]
      intro j hj
      obtain ⟨h1, o, ho, _⟩ := mem_ready.1 hj
      have hlt : j < ops.size := (Array.getElem?_eq_some_iff.1 ho).1
      have := hall j hlt
      rw [Array.getD_eq_getD_getElem?] at this h1
      have hlt' : j < L.size := by omega
      simp [hlt'] at this h1
      rw [this] at h1
      cases h1
    refine ⟨hready, hQ a w ⟨ρ, sts q, ?_, ?_, hm⟩⟩
    · rw [hq] at hrest
      rw [List.drop_of_length_le (by simp)] at hrest
      rw [hq]
      exact hrest
    · have : frOf ops outs (sts p).fr (fun j => p ≤ j ∧ j < q ∧ L.getD j false = true) = (sts q).fr := by
        rw [htr.fr hu q htr.le (Nat.le_refl _)]
        funext t
        exact frOf_congr hu fun j hj => ⟨fun h => ⟨h.1, h.2.1⟩, fun h => ⟨h.1, h.2, hall j (by have := htr.size; omega)⟩⟩
      rw [this] at hsim
      exact hsim
  | succ fuel ih =>
    intro p q sts outs L ρ a w hunl hsz htr hlo hhi hcl hrest hend hm hsim habs hn0p
    have hqs := htr.size
    have getD_eq : ∀ j, j < ops.size → L.getD j true = L.getD j false := by
      intro j hj
      have hlt : j < L.size := by omega
      rw [Array.getD_eq_getD_getElem?, Array.getD_eq_getD_getElem?]
      simp [hlt]
    -- what a reach from a ready one says
    have hreach : ∀ {i j : Nat}, i ∈ Region.ready .any ops L → Reach ops i j → L.getD j false = true := by
      intro i j hi hr
      obtain ⟨_, o, ho, hall⟩ := mem_ready.1 hi
      cases hr with
      | one ho' he hb => rw [ho] at ho'; cases ho'; exact hall _ he hb
      | more ho' he hb h => rw [ho] at ho'; cases ho'; exact hcl.reach h (hall _ he hb)
    have hun : ∀ {i : Nat}, i ∈ Region.ready .any ops L → i < ops.size ∧ L.getD i false = false := by
      intro i hi
      obtain ⟨h1, o, ho, _⟩ := mem_ready.1 hi
      have hlt := (Array.getElem?_eq_some_iff.1 ho).1
      rw [getD_eq i hlt] at h1
      exact ⟨hlt, h1⟩
    -- the first that has not come may come
    have hfirst : ∀ i, i < ops.size → L.getD i false = false → (∀ j, j < i → L.getD j false = true) → i ∈ Region.ready .any ops L := by
      intro i hi hf hb
      refine mem_ready.2 ⟨by rw [getD_eq i hi]; exact hf, ops[i], by simp [hi], fun e he hbi => hb _ (hu.fwd i ops[i] e (by simp [hi]) he hbi)⟩
    have hclosed : ∀ {i : Nat}, i ∈ Region.ready .any ops L → Closed ops (L.setIfInBounds i true) := by
      intro i hi
      obtain ⟨_, o, ho, hall⟩ := mem_ready.1 hi
      have hlt := (hun hi).1
      intro x y e hx hy he hb
      rw [getD_set L i _ (by omega)] at hx ⊢
      split
      · rfl
      · split at hx
        · rename_i hxi
          subst hxi
          rw [ho] at hy
          cases hy
          exact hall e he hb
        · exact hcl x y e hx hy he hb
    by_cases hall : ∀ j, p ≤ j → j < q → L.getD j false = true
    · -- the stretch is over
      have hlow : ∀ j, j < q → L.getD j false = true := fun j hj => by
        rcases Nat.lt_or_ge j p with h | h
        · exact hlo j h
        · exact hall j h hj
      have hsimq : Sim c.n0 M0 w0 ρ0 bs0 ρ (sts q) a w := by
        have : frOf ops outs (sts p).fr (fun j => p ≤ j ∧ j < q ∧ L.getD j false = true) = (sts q).fr := by
          rw [htr.fr hu q htr.le (Nat.le_refl _)]
          funext t
          exact frOf_congr hu fun j hj => ⟨fun h => ⟨h.1, h.2.1⟩, fun h => ⟨h.1, h.2, hall j h.1 h.2⟩⟩
        rw [this] at hsim
        exact hsim
      rcases hend with hq | ⟨o, ho, hbar⟩
      · -- so is the region
        have hready : Region.ready .any ops L = [] := by
          rw [List.eq_nil_iff_forall_not_mem]
          intro j hj
          obtain ⟨h1, h2⟩ := hun hj
          rw [hlow j (by omega)] at h2
          cases h2
        refine ⟨fun _ => hQ a w ⟨ρ, sts q, ?_, hsimq, hm⟩, fun i hi => by rw [hready] at hi; cases hi⟩
        rw [hq] at hrest
        rw [List.drop_of_length_le (by simp)] at hrest
        rw [hq]
        exact hrest
      · -- a barrier comes
        have hqlt : q < ops.size := (Array.getElem?_eq_some_iff.1 ho).1
        have hqr := hfirst q hqlt (hhi q (Nat.le_refl _)) hlow
        refine ⟨fun h => absurd (h ▸ hqr) (by simp), fun i hi => ?_⟩
        have hiq : i = q := by
          apply Classical.byContradiction
          intro hne
          obtain ⟨h1, h2⟩ := hun hi
          have hgt : q < i := by
            rcases Nat.lt_or_ge i q with h | h
            · rw [hlow i h] at h2; cases h2
            · omega
          have hr := (hu.bar q i o ops[i] ho (by simp [h1]) (by omega) hbar).resolve_right (by omega)
          rw [Nat.max_eq_right (by omega), Nat.min_eq_left (by omega)] at hr
          have := hreach hi hr
          rw [hhi q (Nat.le_refl _)] at this
          cases this
        subst hiq
        have hdr : ops.toList.drop i = o :: ops.toList.drop (i + 1) := by
          rw [List.drop_eq_getElem_cons (by simpa using hqlt)]
          have : ops[i] = o := by have := ho; simp [hqlt] at this; exact this
          simp [this]
        rw [hdr] at hrest
        unfold xOps at hrest
        have hd0 : ∀ t, o.dst = some t → t < a.tmps.size := fun t ht => by rw [hm]; exact hdst i o t ho ht
        -- behind it
        have next : ∀ (ρ' : Nat → Loc) (st' : St) (a' : Act) (w' : World), xOps c ops (ops.toList.drop (i + 1)) st' K → Sim c.n0 M0 w0 ρ0 bs0 ρ' st' a' w' → a'.tmps.size = m →
            wpAny P .any ops Q fuel (L.setIfInBounds i true) a' w' := by
          intro ρ' st' a' w' hx hs' hm'
          obtain ⟨q', sts', outs', htr', hst', hrest', hend'⟩ := trace_of (ops.size - (i + 1)) (i + 1) st' rfl (by omega) hx
          obtain ⟨l, e, _⟩ := htr'.ext (q' - (i + 1)) (i + 1) (by have := htr'.le; omega) (Nat.le_refl _)
          rw [show i + 1 + (q' - (i + 1)) = q' by have := htr'.le; omega] at l e
          have hLlen : i < L.size := by omega
          refine ih (i + 1) q' sts' outs' _ ρ' a' w' (by have := unl_set hLlen (by rw [getD_eq i hqlt]; exact (hun hi).2); omega) (by simpa using hsz) htr' ?_ ?_ (hclosed hi) hrest' hend' hm' ?_ ?_ ?_
          · intro j hj
            rw [getD_set L i j hLlen]
            split
            · rfl
            · exact hlow j (by omega)
          · intro j hj
            rw [getD_set L i j hLlen, if_neg (by have := htr'.le; omega)]
            exact hhi j (by have := htr'.le; omega)
          · have hf : frOf ops outs' (sts' (i + 1)).fr (fun j => i + 1 ≤ j ∧ j < q' ∧ (L.setIfInBounds i true).getD j false = true) = st'.fr := by
              funext t
              rw [frOf_out (fun j hj => ?_), hst']
              have h1 := hj.2.2
              rw [getD_set L i j hLlen, if_neg (by omega), hhi j (by omega)] at h1
              cases h1
            rw [hf]
            have hs'' : Sim c.n0 M0 w0 ρ0 bs0 ρ' ⟨st'.fr, st'.bs⟩ a' w' := hs'
            rw [hst'] at l e
            exact hs''.ext e l
          · intro j h1 h2 _ x hx k hk
            obtain ⟨l2, _, _⟩ := htr'.ext (j - (i + 1)) (i + 1) (by omega) (Nat.le_refl _)
            rw [show i + 1 + (j - (i + 1)) = j by omega, hst'] at l2
            exact hs'.store.out _ (by omega)
          · rw [hst']
            exact Nat.le_trans (Nat.le_of_eq hs'.n0) hs'.len
        unfold wpOp
        rw [ho]
        simp only
        split at hrest
        · rename_i hw
          rw [if_pos (want_sound hsimq hw)]
          left
          refine Oper.wp_mono ?_ (op_sound hC hT hsimq hd0 hrest)
          rintro a' w' ⟨ρ', st', hK, hs', hm'⟩
          exact next ρ' st' a' w' hK hs' (hm'.trans hm)
        · rename_i hw
          rw [if_neg (by rw [want_sound hsimq hw]; simp)]
          exact next ρ _ _ w hrest (hsimq.skip hd0) (by rw [put_size]; exact hm)
        · cases hrest
    · -- inside the stretch
      by_cases hfl : ∃ i o, p ≤ i ∧ i < q ∧ i ∈ Region.ready .any ops L ∧ ops[i]? = some o ∧ floater o = true
      · -- what floats comes first
        obtain ⟨i, o, hpi, hiq, hi, ho, hfo⟩ := hfl
        obtain ⟨hilt, hif⟩ := hun hi
        obtain ⟨o', ho', hst⟩ := htr.step i hpi hiq
        rw [ho] at ho'
        cases ho'
        have hdsti : DstOf ops i = o.dst := by simp [DstOf, ho]
        have hlook := look_same hu htr hi hun hreach hcl hpi hiq ho
        have hLlen : i < L.size := by omega
        have hguard : o.guard = none := by
          unfold floater at hfo
          rw [Bool.and_eq_true] at hfo
          simpa using hfo.1
        have hd0 : ∀ t, o.dst = some t → t < a.tmps.size := fun t ht => by rw [hm]; exact hdst i o t ho ht
        obtain ⟨x, hx⟩ : ∃ x, outs i = some x := by
          have := hst.want
          simp only [wantD, hguard, Option.some.injEq] at this
          cases hx : outs i with
          | none => rw [hx] at this; cases this
          | some x => exact ⟨x, rfl⟩
        obtain ⟨hout, _, _⟩ := hst.run x hx
        have hev : ∀ t, .tmp t ∈ o.op.operands → St.ev ⟨frOf ops outs (sts p).fr (fun j => p ≤ j ∧ j < q ∧ L.getD j false = true), (sts q).bs⟩ (.tmp t) = (sts i).ev (.tmp t) := by
          intro t ht
          refine hlook t ?_
          unfold Oper.looksAt
          rw [List.mem_append]
          left
          rw [List.mem_filterMap]
          exact ⟨.tmp t, by simpa using ht, rfl⟩
        have hop : ∀ y ∈ o.op.operands, Rep w (Mof M0 ρ (sts q).bs) ρ (a.eval y) ((sts i).ev y) := by
          intro y hy
          have h1 := hsim.ev y
          cases y with
          | tmp t => rw [hev t hy] at h1; exact h1
          | const v => exact h1
          | global g => exact h1
          | func f => exact h1
        obtain ⟨v, hv1, hv2⟩ : ∃ v, (∀ w', (execOp a.eval o).run P w' = .ok (.value v) w') ∧ Rep w (Mof M0 ρ (sts q).bs) ρ v x.d := by
          obtain ⟨dst, op, ty, pos, after, guard⟩ := o
          unfold floater at hfo
          rw [Bool.and_eq_true] at hfo
          have hfo := hfo.2
          cases op with
          | move y =>
            simp only [outOp, opFn, Option.some.injEq] at hout
            subst hout
            exact ⟨a.eval y, fun w' => by simp [execOp], hop y (by simp [Op.operands])⟩
          | extract y n =>
            have hr := hop y (by simp [Op.operands])
            simp only [outOp, opFn] at hout
            split at hout
            · rename_i vs hvs
              rw [hvs] at hr
              obtain ⟨us, hus, hsz', hrep⟩ := hr.tup_inv
              cases hn : vs[n]? with
              | none => rw [hn] at hout; cases hout
              | some d =>
                rw [hn] at hout
                simp only [Option.map_some, Option.some.injEq] at hout
                subst hout
                have hlt : n < us.size := by rw [hsz']; exact (List.getElem?_eq_some_iff.1 hn).1
                have hu1 : us[n]? = some us[n] := by simp [hlt]
                exact ⟨us[n], fun w' => by simp [execOp, hus, Instr.extract, hlt], hrep n us[n] d hu1 hn⟩
            · cases hout
          | _ => cases hfo
        have hfree : ∀ j oj, ops[j]? = some oj → j ≠ i → L.getD j true = false → (∀ e ∈ oj.after, Region.binds .any e = true → e.on ≠ i) → o.apart ops oj = true := by
          intro j oj hoj hne hun' hno
          rcases hu.free i j o oj ho hoj hne hfo with h | h | h
          · exfalso
            unfold edge at h
            rw [Array.any_eq_true'] at h
            obtain ⟨e, he, hbe⟩ := h
            simp only [Bool.and_eq_true, beq_iff_eq] at hbe
            obtain ⟨_, o2, ho2, hall2⟩ := mem_ready.1 hi
            rw [ho] at ho2
            cases ho2
            have h1 := hall2 e he hbe.1
            rw [hbe.2, ← getD_eq j (Array.getElem?_eq_some_iff.1 hoj).1, hun'] at h1
            cases h1
          · exfalso
            unfold edge at h
            rw [Array.any_eq_true'] at h
            obtain ⟨e, he, hbe⟩ := h
            simp only [Bool.and_eq_true, beq_iff_eq] at hbe
            exact hno e he hbe.1 hbe.2
          · exact h
        refine wpAny_first ho (fun j o cs b => Region.noSelect_spec hu.sel j o cs b) (fun ch a w h => absurd h (hpan ch _ _)) fuel L a w hfree hi
          (.inl ⟨by simp [Region.wanted, hguard], hv1⟩) ?_
        have ht : Turn M0 c.n0 w ρ (sts q).bs w ρ (sts q).bs (fun _ => false) := ⟨hsim.store, Pres.refl _ _, fun _ _ _ => rfl, Nat.le_refl _, rfl, rfl, rfl, fun _ _ _ => rfl, fun i g base n rl esz h => .inl ⟨_, _, _, _, h⟩, fun _ _ => rfl, Nat.le_refl _⟩
        have hs2 := hsim.turn ht hd0 hv2
        rw [sweep_none, put_frOf hu hpi hiq hLlen hdsti (by simp [dval, hx])] at hs2
        refine ih p q sts outs _ ρ _ w (by have := unl_set hLlen (by rw [getD_eq i hilt]; exact hif); omega) (by simpa using hsz) htr ?_ ?_ (hclosed hi) hrest hend (by rw [put_size]; exact hm) hs2 ?_ hn0p
        · intro j hj
          rw [getD_set L i j hLlen]
          split
          · rfl
          · exact hlo j hj
        · intro j hj
          rw [getD_set L i j hLlen, if_neg (by omega)]
          exact hhi j hj
        · intro j h1 h2 h3 y hy k hk
          rw [getD_set L i j hLlen] at h3
          split at h3
          · cases h3
          · exact habs j h1 h2 h3 y hy k hk
      have hex : ∃ j, p ≤ j ∧ j < q ∧ L.getD j false = false := by
        apply Classical.byContradiction
        intro h
        refine hall fun j h1 h2 => ?_
        cases hx : L.getD j false with
        | true => rfl
        | false => exact absurd ⟨j, h1, h2, hx⟩ h
      have hne : Region.ready .any ops L ≠ [] := by
        -- the least one
        obtain ⟨j, h1, h2, h3⟩ := hex
        have key : ∀ n j, j ≤ n → j < ops.size → L.getD j false = false → ∃ i, i < ops.size ∧ L.getD i false = false ∧ ∀ k, k < i → L.getD k false = true := by
          intro n
          induction n with
          | zero => intro j hj hlt hf; exact ⟨j, hlt, hf, fun k hk => by omega⟩
          | succ n ihn =>
            intro j hj hlt hf
            by_cases hx : ∃ k, k < j ∧ L.getD k false = false
            · obtain ⟨k, hk, hkf⟩ := hx
              exact ihn k (by omega) (by omega) hkf
            · refine ⟨j, hlt, hf, fun k hk => ?_⟩
              cases hy : L.getD k false with
              | true => rfl
              | false => exact absurd ⟨k, hk, hy⟩ hx
        obtain ⟨i, hi1, hi2, hi3⟩ := key j j (Nat.le_refl _) (by omega) h3
        have := hfirst i hi1 hi2 hi3
        intro h0
        rw [h0] at this
        cases this
      refine ⟨fun h => absurd h hne, fun i hi => ?_⟩
      obtain ⟨hilt, hif⟩ := hun hi
      have hpi : p ≤ i := by
        rcases Nat.lt_or_ge i p with h | h
        · rw [hlo i h] at hif; cases hif
        · exact h
      have hiq : i < q := by
        apply Classical.byContradiction
        intro hge
        rcases hend with hq | ⟨o, ho, hbar⟩
        · omega
        · obtain ⟨j, h1, h2, h3⟩ := hex
          have hqlt : q < ops.size := (Array.getElem?_eq_some_iff.1 ho).1
          by_cases hiq : i = q
          · subst hiq
            rcases hu.bar i j o ops[j] ho (by simp) (by omega) hbar with hr | ⟨_, hfj, hrj⟩
            · rw [Nat.max_eq_left (by omega), Nat.min_eq_right (by omega)] at hr
              have := hreach hi hr
              rw [h3] at this
              cases this
            · refine hfl ⟨j, ops[j], h1, h2, ?_, by simp, hfj⟩
              refine mem_ready.2 ⟨by rw [getD_eq j (by omega)]; exact h3, ops[j], by simp, fun e he hbi => hreach hi (hrj e he hbi)⟩
          · have hr := (hu.bar q i o ops[i] ho (by simp [hilt]) (by omega) hbar).resolve_right (by omega)
            rw [Nat.max_eq_right (by omega), Nat.min_eq_left (by omega)] at hr
            have := hreach hi hr
            rw [hhi q (Nat.le_refl _)] at this
            cases this
      obtain ⟨o, ho, hst⟩ := htr.step i hpi hiq
      have hdsti : DstOf ops i = o.dst := by simp [DstOf, ho]
      -- what it looks at is as in the text's order
      have hlook := look_same hu htr hi hun hreach hcl hpi hiq ho
      have hwant : wantD ops ⟨frOf ops outs (sts p).fr (fun j => p ≤ j ∧ j < q ∧ L.getD j false = true), (sts q).bs⟩ o = wantD ops (sts i) o := by
        unfold wantD
        cases hg : o.guard with
        | none => rfl
        | some x =>
          obtain ⟨j, want⟩ := x
          simp only
          cases hb : (ops[j]?).bind (·.dst) with
          | none => rfl
          | some t =>
            simp only
            rw [hlook t (by simp [Oper.looksAt, hg, hb])]
      have hwanted := want_sound hsim (hwant.trans hst.want)
      have hd0 : ∀ t, o.dst = some t → t < a.tmps.size := fun t ht => by rw [hm]; exact hdst i o t ho ht
      have hLlen : i < L.size := by omega
      -- behind it
      have hfr' := fun (d : D) (hdv : dval outs i = d) => put_frOf (bs := (sts q).bs) (fr := (sts p).fr) hu hpi hiq hLlen hdsti hdv
      have next : ∀ (ρ' : Nat → Loc) (a' : Act) (w' : World), Sim c.n0 M0 w0 ρ0 bs0 ρ' ⟨frOf ops outs (sts p).fr (fun j => p ≤ j ∧ j < q ∧ (L.setIfInBounds i true).getD j false = true), (sts q).bs⟩ a' w' → a'.tmps.size = m →
          (∀ j, p ≤ j → j < q → j ≠ i → L.getD j false = false → ∀ x, outs j = some x → ∀ k, k < x.news.length → ρ' ((sts j).bs.length + k) = .absent) → wpAny P .any ops Q fuel (L.setIfInBounds i true) a' w' := by
        intro ρ' a' w' hs' hm' habs'
        refine ih p q sts outs _ ρ' a' w' (by have := unl_set hLlen (by rw [getD_eq i hilt]; exact hif); omega) (by simpa using hsz) htr ?_ ?_ (hclosed hi) hrest hend hm' hs' ?_ hn0p
        · intro j hj
          rw [getD_set L i j hLlen]
          split
          · rfl
          · exact hlo j hj
        · intro j hj
          rw [getD_set L i j hLlen, if_neg (by omega)]
          exact hhi j hj
        · intro j h1 h2 h3 x hx k hk
          rw [getD_set L i j hLlen] at h3
          split at h3
          · cases h3
          · rename_i hne
            exact habs' j h1 h2 hne h3 x hx k hk
      unfold wpOp
      rw [ho]
      simp only
      cases hx : outs i with
      | none =>
        have hw0 : Region.wanted o (yielded ops a.tmps) = false := by rw [hwanted, hx]; rfl
        rw [if_neg (by rw [hw0]; simp)]
        have hs2 := hsim.skip hd0
        rw [hfr' (.tup []) (by simp [dval, hx])] at hs2
        exact next ρ _ w hs2 (by rw [put_size]; exact hm) fun j h1 h2 _ h3 => habs j h1 h2 h3
      | some x =>
        have hw1 : Region.wanted o (yielded ops a.tmps) = true := by rw [hwanted, hx]; rfl
        rw [if_pos hw1]
        left
        obtain ⟨hout, hdn, _⟩ := hst.run x hx
        obtain ⟨hnew, hnl, hdown, hE⟩ := htr.new hpi hiq hx
        have hops : ∀ y ∈ o.op.operands, Rep w (Mof M0 ρ (sts q).bs) ρ (a.eval y) ((sts i).ev y) := by
          intro y hy
          have h1 := hsim.ev y
          cases y with
          | tmp t =>
            have : St.ev ⟨frOf ops outs (sts p).fr (fun j => p ≤ j ∧ j < q ∧ L.getD j false = true), (sts q).bs⟩ (.tmp t) = (sts i).ev (.tmp t) := by
              show frOf _ _ _ _ t = (sts i).fr t
              refine hlook t ?_
              unfold Oper.looksAt
              rw [List.mem_append]
              left
              rw [List.mem_filterMap]
              exact ⟨.tmp t, by simpa using hy, rfl⟩
            rw [this] at h1
            exact h1
          | const v => exact h1
          | global g => exact h1
          | func f => exact h1
        refine out_sound (bs := (sts q).bs) hC hT hsim.store hsim.m0lt hE hops hout (fun k b hb => ?_) hdown _ ?_
        · obtain ⟨b', h1, h2⟩ := hnew k b hb
          exact ⟨b', h1, h2, habs i hpi hiq hif x hx k (List.getElem?_eq_some_iff.1 hb).1⟩
        · intro v w' ρ' hrep hg
          have hn0 : c.n0 ≤ (sts i).bs.length := by
            obtain ⟨l, _, _⟩ := htr.ext (i - p) p (by omega) (Nat.le_refl _)
            rw [show p + (i - p) = i by omega] at l
            exact Nat.le_trans hn0p l
          have ht : Turn M0 c.n0 w ρ (sts q).bs w' ρ' (sts q).bs (fun _ => false) := .of_grow hsim.store hg hn0 (fun _ _ h => h) (Nat.le_refl _)
          have hs2 := hsim.turn ht hd0 hrep
          rw [sweep_none, hfr' x.d (by simp [dval, hx])] at hs2
          refine next ρ' _ w' hs2 (by rw [put_size]; exact hm) ?_
          intro j h1 h2 hne h3 y hy k hk
          have hold := habs j h1 h2 h3 y hy k hk
          apply Classical.byContradiction
          intro hpres
          obtain ⟨g1, g2, _⟩ := hg.new _ hold hpres
          -- the stretches of new blocks lie apart
          obtain ⟨_, hnl2, _, _⟩ := htr.new h1 h2 hy
          rcases Nat.lt_or_gt_of_ne hne with hlt | hgt
          · obtain ⟨l, _, _⟩ := htr.ext (i - (j + 1)) (j + 1) (by omega) (by omega)
            rw [show j + 1 + (i - (j + 1)) = i by omega] at l
            omega
          · obtain ⟨l, _, _⟩ := htr.ext (j - (i + 1)) (i + 1) (by omega) (by omega)
            rw [show i + 1 + (j - (i + 1)) = j by omega] at l
            omega
end
end Go.AM
/- AM: a region's operations in another row. -/
namespace Go.AM
set_option linter.unusedSimpArgs false
set_option linter.unusedVariables false

def remap (σ : List Nat) (o : Oper) : Oper := { o with after := o.after.map fun e => { e with on := σ.idxOf e.on }, guard := o.guard.map fun g => (σ.idxOf g.1, g.2) }
def permute (ops : Array Oper) (σ : List Nat) : Array Oper := (σ.filterMap fun i => (ops[i]?).map (remap σ)).toArray

/-- Is it a row of all of them? -/
def isPerm (n : Nat) (σ : List Nat) : Bool := decide σ.Nodup && σ.length == n && σ.all (fun i => decide (i < n)) && (List.range n).all (fun i => σ.contains i)

def early (o : Oper) : Bool := floater o && o.after.all fun e => !Region.binds .any e
def earlyAt (ops : Array Oper) (i : Nat) : Bool := match ops[i]? with
  | some o => early o
  | none => false
def hoist (ops : Array Oper) : List Nat := (List.range ops.size).filter (earlyAt ops) ++ (List.range ops.size).filter fun i => !earlyAt ops i
/-- The row in which the region is told. -/
def canon (ops : Array Oper) (draw : Bool) : Array Oper := if draw then permute ops (hoist ops) else ops

section
variable {P : Program} {ops : Array Oper} {σ : List Nat}

theorem isPerm_spec (h : isPerm ops.size σ = true) : σ.Nodup ∧ σ.length = ops.size ∧ (∀ i ∈ σ, i < ops.size) ∧ ∀ i, i < ops.size → i ∈ σ := by
  unfold isPerm at h
  simp only [Bool.and_eq_true, decide_eq_true_eq, beq_iff_eq, List.all_eq_true, List.mem_range, List.contains_iff_mem] at h
  exact ⟨h.1.1.1, h.1.1.2, h.1.2, h.2⟩

theorem filterMap_all {α β : Type} (f : α → Option β) : ∀ (l : List α), (∀ a ∈ l, ∃ b, f a = some b) → ∀ (i : Nat), (l.filterMap f)[i]? = (l[i]?).bind f := by
  intro l
  induction l with
  | nil => intro _ i; simp
  | cons a l ih =>
    intro h i
    obtain ⟨b, hb⟩ := h a (by simp)
    rw [List.filterMap_cons_some hb]
    cases i with
    | zero => simp [hb]
    | succ i => simpa using ih (fun a ha => h a (by simp [ha])) i

theorem idxOf_pos (hn : σ.Nodup) {k i : Nat} (h : σ[k]? = some i) : σ.idxOf i = k := by
  have h1 := idx_at (List.mem_of_getElem? h)
  have hlt : k < σ.length := (List.getElem?_eq_some_iff.1 h).1
  exact ((List.getElem?_inj hlt hn).1 (h.trans h1.symm)).symm
  where
  idx_at {L : List Nat} {b : Nat} (h : b ∈ L) : L[L.idxOf b]? = some b := by
    induction L with
    | nil => cases h
    | cons x l ih =>
      rw [List.idxOf_cons]
      by_cases hx : x = b
      · simp [hx]
      · have : (x == b) = false := by simpa using hx
        simp only [this, cond_false, List.getElem?_cons_succ]
        exact ih (by simpa [Ne.symm hx] using h)

theorem permute_get (h : isPerm ops.size σ = true) (k : Nat) : (permute ops σ)[k]? = (σ[k]?).bind fun i => (ops[i]?).map (remap σ) := by
  obtain ⟨_, _, h3, _⟩ := isPerm_spec h
  unfold permute
  rw [List.getElem?_toArray, filterMap_all]
  intro i hi
  have := h3 i hi
  exact ⟨remap σ ops[i], by simp [this]⟩

theorem permute_at (h : isPerm ops.size σ = true) {i : Nat} (hi : i < ops.size) : (permute ops σ)[σ.idxOf i]? = (ops[i]?).map (remap σ) := by
  obtain ⟨_, _, _, h4⟩ := isPerm_spec h
  rw [permute_get h, idxOf_pos.idx_at (h4 i hi)]
  rfl

theorem permute_size (h : isPerm ops.size σ = true) : (permute ops σ).size = ops.size := by
  obtain ⟨_, h2, h3, _⟩ := isPerm_spec h
  have key : ∀ l : List Nat, (∀ i ∈ l, i < ops.size) → (l.filterMap fun i => (ops[i]?).map (remap σ)).length = l.length := by
    intro l
    induction l with
    | nil => intro _; rfl
    | cons a l ih =>
      intro hl
      have hlt := hl a (by simp)
      rw [List.filterMap_cons_some (b := remap σ ops[a]) (by simp [hlt])]
      simp [ih fun i hi => hl i (by simp [hi])]
  unfold permute
  rw [List.size_toArray, key σ h3, h2]

theorem idxOf_out (h : isPerm ops.size σ = true) {i : Nat} (hi : ops.size ≤ i) : σ.idxOf i = ops.size := by
  obtain ⟨_, h2, h3, _⟩ := isPerm_spec h
  rw [← h2]
  refine List.idxOf_eq_length ?_
  intro hm
  have := h3 i hm
  omega

theorem yielded_permute (h : isPerm ops.size σ = true) (tmps : Array Value) (j : Nat) : yielded (permute ops σ) tmps (σ.idxOf j) = yielded ops tmps j := by
  unfold yielded
  rcases Nat.lt_or_ge j ops.size with hj | hj
  · rw [permute_at h hj]
    cases ops[j]? <;> rfl
  · rw [idxOf_out h hj, Array.getElem?_eq_none (by rw [permute_size h]; omega), Array.getElem?_eq_none hj]

theorem wanted_remap (h : isPerm ops.size σ = true) (o : Oper) (tmps : Array Value) : Region.wanted (remap σ o) (yielded (permute ops σ) tmps) = Region.wanted o (yielded ops tmps) := by
  unfold Region.wanted remap
  cases hg : o.guard with
  | none => rfl
  | some g =>
    obtain ⟨j, b⟩ := g
    simp only [Option.map_some, yielded_permute h]

theorem execOp_remap (ρ : Operand → Value) (o : Oper) : execOp ρ (remap σ o) = execOp ρ o := by
  obtain ⟨dst, op, ty, pos, after, guard⟩ := o
  cases op <;> rfl

theorem wp_remap {o : Oper} {a : Act} {w : World} {K : Act → World → Prop} {Q : Exit → Act → World → Prop} (h : (remap σ o).wp P a w K Q) : o.wp P a w K Q := by
  unfold Oper.wp at h ⊢
  rw [execOp_remap] at h
  exact h

theorem asks_remap {o : Oper} {a : Act} {w : World} (h : (remap σ o).asks P a w) : o.asks P a w := by
  unfold Oper.asks at h ⊢
  rw [execOp_remap] at h
  exact h

theorem getD_same {L L' : Array Bool} (hs : L.size = L'.size) {i j : Nat} (d : Bool) (h : L[i]? = L'[j]?) : L.getD i d = L'.getD j d := by
  rw [Array.getD_eq_getD_getElem?, Array.getD_eq_getD_getElem?, h]

theorem permute_any (h : isPerm ops.size σ = true) {Q : Exit → Act → World → Prop} : ∀ (fuel : Nat) (L L' : Array Bool) (a : Act) (w : World), L.size = ops.size → L'.size = ops.size → (∀ i, i < ops.size → L[i]? = L'[σ.idxOf i]?) →
    wpAny P .any (permute ops σ) Q fuel L' a w → wpAny P .any ops Q fuel L a w := by
  obtain ⟨hnd, hlen, hlt, hmem⟩ := isPerm_spec h
  have hbind : ∀ (e : Edge) (n : Nat), Region.binds .any { e with on := n } = Region.binds .any e := by
    intro e n
    cases e with
    | mk on ground => cases ground <;> rfl
  have ready : ∀ (L L' : Array Bool), L.size = ops.size → L'.size = ops.size → (∀ i, i < ops.size → L[i]? = L'[σ.idxOf i]?) → ∀ i, i ∈ Region.ready .any ops L → σ.idxOf i ∈ Region.ready .any (permute ops σ) L' := by
    intro L L' h1 h2 hL i hi
    obtain ⟨hf, o, ho, hall⟩ := mem_ready.1 hi
    have hil : i < ops.size := (Array.getElem?_eq_some_iff.1 ho).1
    refine mem_ready.2 ⟨?_, remap σ o, by rw [permute_at h hil, ho]; rfl, ?_⟩
    · rw [← hf]
      exact (getD_same (by omega) true (hL i hil)).symm
    · intro e he hb
      simp only [remap, Array.mem_map] at he
      obtain ⟨e0, he0, rfl⟩ := he
      rw [hbind] at hb
      have := hall e0 he0 hb
      rcases Nat.lt_or_ge e0.on ops.size with hj | hj
      · rw [← this]
        exact (getD_same (by omega) false (hL _ hj)).symm
      · rw [Array.getD_eq_getD_getElem?, Array.getElem?_eq_none (by omega)] at this
        cases this
  have ready' : ∀ (L L' : Array Bool), L.size = ops.size → L'.size = ops.size → (∀ i, i < ops.size → L[i]? = L'[σ.idxOf i]?) → Region.ready .any ops L = [] → Region.ready .any (permute ops σ) L' = [] := by
    intro L L' h1 h2 hL hr
    rw [List.eq_nil_iff_forall_not_mem]
    intro k hk
    obtain ⟨hf, o, ho, hall⟩ := mem_ready.1 hk
    rw [permute_get h] at ho
    cases hi : σ[k]? with
    | none => rw [hi] at ho; cases ho
    | some i =>
      rw [hi] at ho
      have hil := hlt i (List.mem_of_getElem? hi)
      have hoi : ops[i]? = some ops[i] := by simp [hil]
      simp only [Option.bind_some, hoi, Option.map_some, Option.some.injEq] at ho
      subst ho
      have hki := idxOf_pos hnd hi
      have : i ∈ Region.ready .any ops L := by
        refine mem_ready.2 ⟨?_, ops[i], hoi, ?_⟩
        · rw [getD_same (by omega) true (hL i hil), hki]
          exact hf
        · intro e he hb
          have := hall { e with on := σ.idxOf e.on } (by simp only [remap, Array.mem_map]; exact ⟨e, he, rfl⟩) (by rw [hbind]; exact hb)
          simp only at this
          rcases Nat.lt_or_ge e.on ops.size with hj | hj
          · rw [getD_same (by omega) false (hL _ hj)]
            exact this
          · rw [idxOf_out h hj, Array.getD_eq_getD_getElem?, Array.getElem?_eq_none (by omega)] at this
            cases this
      rw [hr] at this
      cases this
  intro fuel
  induction fuel with
  | zero =>
    intro L L' a w h1 h2 hL hw
    refine ⟨?_, hw.2⟩
    rw [List.eq_nil_iff_forall_not_mem]
    intro i hi
    have := ready L L' h1 h2 hL i hi
    rw [hw.1] at this
    cases this
  | succ fuel ih =>
    intro L L' a w h1 h2 hL hw
    refine ⟨fun hr => hw.1 (ready' L L' h1 h2 hL hr), fun i hi => ?_⟩
    have h3 := hw.2 _ (ready L L' h1 h2 hL i hi)
    obtain ⟨hf, o, ho, hall⟩ := mem_ready.1 hi
    have hil : i < ops.size := (Array.getElem?_eq_some_iff.1 ho).1
    have hL' : ∀ j, j < ops.size → (L.setIfInBounds i true)[j]? = (L'.setIfInBounds (σ.idxOf i) true)[σ.idxOf j]? := by
      intro j hj
      rw [Array.getElem?_setIfInBounds, Array.getElem?_setIfInBounds]
      have hpi : σ.idxOf i < L'.size := by
        rw [h2, ← hlen]
        exact List.idxOf_lt_length_of_mem (hmem i hil)
      by_cases hij : i = j
      · subst hij
        simp [h1, hil, hpi]
      · have : σ.idxOf i ≠ σ.idxOf j := by
          intro heq
          have e1 := idxOf_pos.idx_at (hmem i hil)
          have e2 := idxOf_pos.idx_at (hmem j hj)
          rw [heq, e2] at e1
          exact hij (Option.some.inj e1).symm
        simp [hij, this, hL j hj]
    have hK : ∀ a w, wpAny P .any (permute ops σ) Q fuel (L'.setIfInBounds (σ.idxOf i) true) a w → wpAny P .any ops Q fuel (L.setIfInBounds i true) a w :=
      fun a w hx => ih _ _ a w (by simpa using h1) (by simpa using h2) hL' hx
    unfold wpOp at h3 ⊢
    rw [permute_at h hil, ho] at h3
    rw [ho]
    simp only [Option.map_some] at h3
    simp only
    rw [wanted_remap h] at h3
    split
    · rename_i hwt
      rw [if_pos hwt] at h3
      rcases h3 with h3 | ⟨h3, h4⟩
      · exact .inl (Oper.wp_mono hK (wp_remap h3))
      · exact .inr ⟨asks_remap h3, h4⟩
    · rename_i hwt
      rw [if_neg hwt] at h3
      exact hK _ _ h3
end
end Go.AM
