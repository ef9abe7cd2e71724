/- What the proof of this claim stands on, part 5. -/
import Derived.LoopN
import Derived.Test.YtehagcggdepajaaGreatAmZ4
set_option linter.unusedVariables false
set_option linter.unusedSimpArgs false
set_option maxRecDepth 8000
set_option maxHeartbeats 0
/- AM: code. -/
namespace Go.AM
open Go.RowKit (Below)

def bare (l : List Nat) : Cfg := ⟨fun _ => default, [], 0, [], l, fun _ _ _ _ _ => False, [], [], fun _ _ _ _ _ => False, []⟩
def zmh (l : List Nat) (ops : Array Oper) (draw : Bool) : Bool := draw && !(drawOk (bare l) (canon ops true) && zfx ops.size (hoist ops))
def zro (l : List Nat) (ops : Array Oper) : List (Nat × Nat) :=
 (List.range ops.size).flatMap fun i => (List.range ops.size).filterMap fun j => match ops[i]?, ops[j]? with
   | some x, some y => if i != j && zdg (bare l) x.op && !(zmi (anc ops) i j || (decide (j < i) && zjq y && y.after.all fun e => !Region.binds .any e || zmi (anc ops) i e.on)) then some (i, j) else none
   | _, _ => none

def zkh (c : Cfg) : Code → St → (Ex → St → Prop) → Prop
 | .skip, st, Q => Q .normal st
 | .region _ ops draw, st, Q => if zmh c.lendT ops draw then ∀ p ∈ picks (zro c.lendT ops), zfx ops.size (zpm ops p) = true → xOps c (zmz ops p) (zmz ops p).toList st (Q .normal) else xOps c (canon ops draw) (canon ops draw).toList st (Q .normal)
 | .seq x y, st, Q => zkh c x st fun e st' => match e with
   | .normal => zkh c y st' Q
   | e => Q e st'
 | .cond t x y, st, Q => match st.ev t with
   | .bool b => if b then zkh c x st Q else zkh c y st Q
   | _ => False
 | .block id x, st, Q => zkh c x st fun e st' => match e with
   | .exit i => if i = id then Q .normal st' else Q (.exit i) st'
   | e => Q e st'
 | .loop x, st, Q => ∃ n, zeo st.bs.length (fun st K => zkh c x st K) Q n st
 | .exit id, st, Q => Q (.exit id) st
 | .ret, st, Q => Q .ret st
 | _, _, _ => False

def xFun (c : Cfg) (fn : Func) (body : Code) (args : List D) (bs : List Blk) (r : D) (bs' : List Blk) : Prop :=
 zkh c body (start args bs) fun e st => (e = .normal ∨ e = .ret) ∧ ∃ ds, resL c.T st fn.results.toList = some ds ∧ zax c.n0 st (zpo ds) = some (r, bs')

section
variable {P : Program} {c : Cfg} {M0 : Foot} {w0 : World} {ρ0 : Nat → Loc} {bs0 : List Blk}

theorem Store.trunc {ρ : Nat → Loc} {bs : List Blk} {w : World} (hS : Store M0 ρ bs w) (n : Nat) :
 Store M0 (fun i => if i < n then ρ i else .absent) ((bs.take n).map (Blk.sweep fun b => decide (n ≤ b))) w ∧
  ∀ g o, Mof M0 (fun i => if i < n then ρ i else .absent) ((bs.take n).map (Blk.sweep fun b => decide (n ≤ b))) g o → Mof M0 ρ bs g o := by
 have get : ∀ i b', ((bs.take n).map (Blk.sweep fun b => decide (n ≤ b)))[i]? = some b' → i < n ∧ ∃ b, bs[i]? = some b ∧ b' = b.sweep fun b => decide (n ≤ b) := by
  intro i b' h
  rw [List.getElem?_map, List.getElem?_take] at h
  split at h
  ·rename_i hi
   cases hb : bs[i]? with
   | none => simp [hb] at h
   | some b => simp [hb] at h; exact ⟨hi, b, rfl, h.symm⟩
  ·simp at h
 have hM : ∀ g o, Mof M0 (fun i => if i < n then ρ i else .absent) ((bs.take n).map (Blk.sweep fun b => decide (n ≤ b))) g o → Mof M0 ρ bs g o := by
  rintro g o (h | ⟨i, b', base, m, rl, esz, hi, hat, hk⟩)
  ·exact .inl h
  ·obtain ⟨hlt, b, hb, rfl⟩ := get i b' hi
   simp only [hlt, if_true] at hat
   exact .inr ⟨i, b, base, m, rl, esz, hb, hat, by rw [(Blk.sweep_like _ b).2.2] at hk; exact hk⟩
 refine ⟨⟨?_, ?_, ?_, ?_, ?_⟩, hM⟩
 ·intro i b' g base m rl esz hi hat
  obtain ⟨hlt, b, hb, rfl⟩ := get i b' hi
  simp only [hlt, if_true] at hat
  obtain ⟨h1, h2, h3, h4, arr, Ty, hg, hs, hc⟩ := hS.at_ i b g base m rl esz hb hat
  obtain ⟨e1, e2, e3⟩ := Blk.sweep_like (fun b => decide (n ≤ b)) b
  refine ⟨h1.trans e1.symm, h2.trans e2.symm, ?_, h4, arr, Ty, hg, hs, ?_⟩
  ·intro r hr
   simp only [Blk.sweep, List.mem_map] at hr
   obtain ⟨r0, hr0, rfl⟩ := hr
   simpa using h3 r0 hr0
  ·intro k j r d hr hd
   simp only [Blk.sweep, List.getElem?_map] at hr
   cases hr0 : b.rows[k]? with
   | none => simp [hr0] at hr
   | some r0 =>
     simp [hr0] at hr
     subst hr
     rw [List.getElem?_map] at hd
     cases hd0 : r0[j]? with
     | none => simp [hd0] at hd
     | some d0 =>
       simp [hd0] at hd
       subst hd
       obtain ⟨v, hv, hrep⟩ := hc k j r0 d0 hr0 hd0
       refine ⟨v, hv, ?_⟩
       rw [e3]
       split
       ·rename_i hbx
        rw [if_pos hbx] at hrep
        exact hrep.sweep (Pres.sub hM) fun x hx hne => by
         have : x < n := by simpa using hx
         simp [this]
       ·rename_i hbx
        rw [if_neg hbx] at hrep
        have := hrep.mapR (zoz fun b => decide (n ≤ b)) (zoy fun b => decide (n ≤ b))
        unfold D.sweep
        rw [this]
        exact hrep.move (Pres.sub hM)
 ·intro i b' hi hv
  obtain ⟨hlt, b, hb, rfl⟩ := get i b' hi
  simp only [hlt, if_true] at hv
  obtain ⟨h1, h2⟩ := hS.virt i b hb hv
  obtain ⟨e1, e2, e3⟩ := Blk.sweep_like (fun b => decide (n ≤ b)) b
  exact ⟨by simp [Blk.sweep, h1], by rw [e3]; exact h2⟩
 ·intro i hi
  simp only [List.length_map, List.length_take] at hi
  by_cases hlt : i < n
  ·simp only [hlt, if_true]
   exact hS.out i (by omega)
  ·simp [hlt]
 ·intro i j g base m rl esz base' m' rl' esz' hi hj
  have hi' : i < n := by
   apply Classical.byContradiction
   intro h
   simp [h] at hi
  have hj' : j < n := by
   apply Classical.byContradiction
   intro h
   simp [h] at hj
  simp only [hi', hj', if_true] at hi hj
  exact hS.inj i j g base m rl esz base' m' rl' esz' hi hj
 ·intro i g base m rl esz hi
  have hi' : i < n := by
   apply Classical.byContradiction
   intro h
   simp [h] at hi
  simp only [hi', if_true] at hi
  exact hS.m0 i g base m rl esz hi

theorem Sim.trunc {n0 : Nat} {ρ : Nat → Loc} {st : St} {a : Act} {w : World} (hs : Sim n0 M0 w0 ρ0 bs0 ρ st a w) {n : Nat} (hn : bs0.length ≤ n) :
 Sim n0 M0 w0 ρ0 bs0 (fun i => if i < n then ρ i else .absent) (AM.trunc n st) a w := by
 obtain ⟨h1, hM⟩ := hs.store.trunc n
 refine ⟨fun t => ?_, h1, hs.n0, ?_, fun i hi => ?_, hs.pres.trans (Pres.sub hM), ?_, hs.defers, hs.m0⟩
 ·exact (hs.fr t).sweep (Pres.sub hM) fun b hb _ => by
   have : b < n := by simpa using hb
   simp [this]
 ·have := hs.len
  simp only [AM.trunc, List.length_map, List.length_take]
  omega
 ·have : i < n := by omega
  simp only [this, if_true]
  exact hs.lent i hi
 ·refine ⟨hs.around.size, hs.around.os, hs.around.tape, hs.around.output, hs.around.keep, ?_⟩
  intro i g base m rl esz hi hat
  by_cases hlt : i < n
  ·simp only [hlt, if_true] at hat
   exact hs.around.fresh i g base m rl esz hi hat
  ·simp [hlt] at hat

theorem BlkAt.mapR {w : World} {M M' : Foot} {ρ ρ' : Nat → Loc} {b : Blk} {g base n rl esz : Nat} {fr fp : Nat → Nat → Nat → D} (h : BlkAt w M ρ b g base n rl esz) (hp : Pres w M w M')
 (hr : ∀ v b o l, Rep w M ρ v (.ref b o l) → Rep w M' ρ' v (fr b o l)) (hq : ∀ v b i j, Rep w M ρ v (.ptr b i j) → Rep w M' ρ' v (fp b i j)) : BlkAt w M' ρ' (b.mapR fr fp) g base n rl esz := by
 obtain ⟨h1, h2, h3, h4, arr, Ty, hg, hs, hc⟩ := h
 refine ⟨by simpa [Blk.mapR] using h1, h2, ?_, h4, arr, Ty, hg, hs, ?_⟩
 ·intro r hr'
  simp only [Blk.mapR] at hr'
  obtain ⟨r0, h0, rfl⟩ := List.mem_map.1 hr'
  simpa using h3 r0 h0
 ·intro k j r d hk hd
  simp only [Blk.mapR, List.getElem?_map] at hk
  cases hx : b.rows[k]? with
  | none => simp [hx] at hk
  | some r0 =>
    simp [hx] at hk
    subst hk
    rw [List.getElem?_map] at hd
    cases hy : r0[j]? with
    | none => simp [hy] at hd
    | some d0 =>
      simp [hy] at hd
      subst hd
      obtain ⟨v, hv, hrep⟩ := hc k j r0 d0 hx hy
      refine ⟨v, hv, ?_⟩
      show if b.kind.isBox = true then _ else _
      by_cases hb : b.kind.isBox = true
      ·rw [if_pos hb] at hrep ⊢; exact hrep.carry hp hr hq
      ·rw [if_neg hb] at hrep ⊢; rw [hrep.mapR]; exact hrep.move hp

theorem zky {sel : List Nat} {j : Nat} (hn : sel.Nodup) (hj : j < sel.length) : sel.idxOf sel[j] = j := List.Nodup.idxOf_getElem hn j hj

theorem Sim.pick {n0 : Nat} {ρ : Nat → Loc} {st : St} {a : Act} {w : World} (hs : Sim n0 M0 w0 ρ0 bs0 ρ st a w) (sel : List Nat) (hn : sel.Nodup) (hlt : ∀ b ∈ sel, b < st.bs.length) (hpre : ∀ i, i < bs0.length → sel[i]? = some i) :
 Sim n0 M0 w0 ρ0 bs0 (fun i => if h : i < sel.length then ρ sel[i] else .absent) (zj9 sel st) a w := by
 let ρs : Nat → Loc := fun i => if h : i < sel.length then ρ sel[i] else .absent
 have hρs : ∀ i (h : i < sel.length), ρs i = ρ sel[i] := fun i h => dif_pos h
 have hρs' : ∀ i, ¬ i < sel.length → ρs i = .absent := fun i h => dif_neg h
 have hlget : ∀ (j : Nat) (b : Blk), (zbf sel st.bs)[j]? = some b → ∃ (hj : j < sel.length) (b0 : Blk), st.bs[sel[j]]? = some b0 ∧ b = b0.mapR (inRef sel) (inPtr sel) := by
  intro j b hb
  have hj : j < sel.length := by
   have := (List.getElem?_eq_some_iff.1 hb).1
   simpa [zbf] using this
  have hl := hlt sel[j] (List.getElem_mem hj)
  refine ⟨hj, st.bs[sel[j]], by simp [hl], ?_⟩
  simp only [zbf, List.getElem?_map] at hb
  simp [hj, hl] at hb
  exact hb.symm
 have hM : ∀ g o, Mof M0 ρs (zbf sel st.bs) g o → Mof M0 ρ st.bs g o := by
  rintro g o (h | ⟨j, b, base, n, rl, esz, h1, h2, h3⟩)
  ·exact .inl h
  ·obtain ⟨hj, b0, hb0, rfl⟩ := hlget j b h1
   rw [hρs j hj] at h2
   exact .inr ⟨sel[j], b0, base, n, rl, esz, hb0, h2, h3⟩
 have hsub := Pres.sub (w := w) hM
 have hcr : ∀ v b o l, Rep w (Mof M0 ρ st.bs) ρ v (.ref b o l) → Rep w (Mof M0 ρs (zbf sel st.bs)) ρs v (inRef sel b o l) := by
  intro v b o l hr
  unfold inRef
  split
  ·rename_i hc
   have hm : b ∈ sel := by simpa using hc
   obtain ⟨j, hj, rfl⟩ := List.getElem_of_mem hm
   rw [zky hn hj]
   rcases hr.ref_inv with ⟨cap, g, base, n, rl, esz, rfl, hat, h1, h2, h3⟩ | ⟨a, rfl, hv, rfl, rfl⟩
   ·exact .ref _ _ _ cap g base n rl esz (by rw [hρs j hj]; exact hat) h1 h2 h3
   ·exact .refV _ a (by rw [hρs j hj]; exact hv)
  ·exact .imm _ _ (.undef _)
 have hcp : ∀ v b i j, Rep w (Mof M0 ρ st.bs) ρ v (.ptr b i j) → Rep w (Mof M0 ρs (zbf sel st.bs)) ρs v (inPtr sel b i j) := by
  intro v b i j hr
  unfold inPtr
  split
  ·rename_i hc
   have hm : b ∈ sel := by simpa using hc
   obtain ⟨q, hq, rfl⟩ := List.getElem_of_mem hm
   rw [zky hn hq]
   obtain ⟨g, base, n, rl, esz, rfl, hat⟩ := hr.ptr_inv
   exact .ptr _ _ _ g base n rl esz (by rw [hρs q hq]; exact hat)
  ·exact .imm _ _ (.undef _)
 have hS := hs.store
 have hS' : Store M0 ρs (zbf sel st.bs) w := by
  refine ⟨?_, ?_, ?_, ?_, ?_⟩
  ·intro j b g base n rl esz hb hat
   obtain ⟨hj, b0, hb0, rfl⟩ := hlget j b hb
   rw [hρs j hj] at hat
   exact (hS.at_ _ b0 g base n rl esz hb0 hat).mapR hsub hcr hcp
  ·intro j b hb hv
   obtain ⟨hj, b0, hb0, rfl⟩ := hlget j b hb
   rw [hρs j hj] at hv
   obtain ⟨h1, h2⟩ := hS.virt _ b0 hb0 hv
   exact ⟨by simp [Blk.mapR, h1], h2⟩
  ·intro i hi
   exact hρs' i (by simpa [zbf] using hi)
  ·intro i j g base n rl esz base' n' rl' esz' hi hj
   by_cases h1 : i < sel.length
   ·by_cases h2 : j < sel.length
    ·rw [hρs i h1] at hi
     rw [hρs j h2] at hj
     have := hS.inj _ _ g base n rl esz base' n' rl' esz' hi hj
     have e1 := zky hn h1
     have e2 := zky hn h2
     rw [this, e2] at e1
     exact e1.symm
    ·rw [hρs' j h2] at hj; cases hj
   ·rw [hρs' i h1] at hi; cases hi
  ·intro i g base n rl esz hi
   by_cases h1 : i < sel.length
   ·rw [hρs i h1] at hi
    exact hS.m0 _ g base n rl esz hi
   ·rw [hρs' i h1] at hi; cases hi
 have hlen : bs0.length ≤ sel.length := by
  apply Classical.byContradiction
  intro h
  have := hpre sel.length (by omega)
  simp at this
 have hfst : ∀ i (h : i < bs0.length), sel[i]'(by omega) = i := by
  intro i h
  have h2 := hpre i h
  rw [List.getElem?_eq_getElem (by omega)] at h2
  exact Option.some.inj h2
 refine ⟨fun t => (hs.fr t).carry hsub hcr hcp, hS', hs.n0, ?_, ?_, hs.pres.trans hsub, ?_, hs.defers, hs.m0⟩
 ·simpa [zj9, zbf] using hlen
 ·intro i hi
  show ρs i = ρ0 i
  rw [hρs i (by omega), hfst i hi]
  exact hs.lent i hi
 ·refine ⟨hs.around.size, hs.around.os, hs.around.tape, hs.around.output, hs.around.keep, ?_⟩
  intro i g base m rl esz hi hat
  change ρs i = _ at hat
  by_cases h1 : i < sel.length
  ·rw [hρs i h1] at hat
   refine hs.around.fresh _ g base m rl esz ?_ hat
   apply Classical.byContradiction
   intro hc
   have h2 : sel[i] < bs0.length := by omega
   have h3 := hfst _ h2
   have e1 := zky hn h1
   have e2 := zky hn (j := sel[i]) (by omega)
   rw [h3, e1] at e2
   omega
  ·rw [hρs' i h1] at hat; cases hat

theorem Sim.keep {n0 : Nat} {ρ : Nat → Loc} {st : St} {a : Act} {w : World} (hs : Sim n0 M0 w0 ρ0 bs0 ρ st a w) {n : Nat} (hn : bs0.length ≤ n) {ext : List Nat} (hk : keepOk n ext st) :
 Sim n0 M0 w0 ρ0 bs0 (fun i => if h : i < (List.range n ++ ext).length then ρ (List.range n ++ ext)[i] else .absent) (zij n ext st) a w := by
 obtain ⟨h1, h2, h3⟩ := hk
 rw [List.all_eq_true] at h3
 simp only [Bool.and_eq_true, decide_eq_true_eq] at h3
 refine hs.pick _ ?_ ?_ ?_
 ·rw [List.nodup_append]
  refine ⟨List.nodup_range, h2, ?_⟩
  intro a ha b hb he
  have := h3 b hb
  have := List.mem_range.1 ha
  omega
 ·intro b hb
  rcases List.mem_append.1 hb with hb | hb
  ·have := List.mem_range.1 hb
   omega
  ·exact (h3 b hb).2
 ·intro i hi
  rw [List.getElem?_append_left (by simp; omega)]
  exact List.getElem?_range (by omega)

theorem Sim.drew {n0 : Nat} {ρ : Nat → Loc} {st : St} {a : Act} {w : World} (hs : Sim n0 M0 w0 ρ0 bs0 ρ st a w) : Sim n0 M0 w0 ρ0 bs0 ρ st a { w with drawn := w.drawn + 1 } := by
 have hp : ∀ M, Pres w M { w with drawn := w.drawn + 1 } M := fun M g o v h1 h2 => ⟨h1, h2⟩
 refine ⟨fun t => (hs.fr t).move (hp _) fun _ _ => rfl, ⟨?_, hs.store.virt, hs.store.out, hs.store.inj, hs.store.m0⟩, hs.n0, hs.len, hs.lent, hs.pres.trans (hp _), ?_, hs.defers, hs.m0⟩
 ·intro i b g base n rl esz hb hat
  exact (hs.store.at_ i b g base n rl esz hb hat).move rfl (hp _) fun _ _ => rfl
 ·exact ⟨hs.around.size, hs.around.os, hs.around.tape, hs.around.output, hs.around.keep, hs.around.fresh⟩

def dstOk (m : Nat) (ops : Array Oper) : Bool := ops.toList.all fun o => match o.dst with | some t => decide (t < m) | none => true

def zfo (c : Cfg) (m : Nat) : Code → Bool
 | .skip => true
 | .region _ ops draw => if zmh c.lendT ops draw then fwdOk ops && (zro c.lendT ops).all (fun q => q.1 != q.2) && (picks (zro c.lendT ops)).all fun p => !zfx ops.size (zpm ops p) || (dstOk m (zmz ops p) && drawOk c (zmz ops p))
   else dstOk m (canon ops draw) && (!draw || (drawOk c (canon ops draw) && zfx ops.size (hoist ops)))
 | .seq a b => zfo c m a && zfo c m b
 | .cond _ a b => zfo c m a && zfo c m b
 | .block _ b => zfo c m b
 | .loop b => zfo c m b
 | .exit _ => true
 | .ret => true
 | _ => false

theorem zxt {m : Nat} {ops : Array Oper} (h : dstOk m ops = true) : ∀ o ∈ ops.toList, ∀ t, o.dst = some t → t < m := by
 intro o ho t ht
 unfold dstOk at h
 rw [List.all_eq_true] at h
 have := h o ho
 rw [ht] at this
 simpa using this

theorem zxq (hC : Sound P c ρ0) (hT : TabOk P c.T c.eqs) {ops : Array Oper} {m : Nat} {Q : Ex → St → Prop} {ρ : Nat → Loc} {st : St} {a : Act} {w : World} (hd' : ∀ o ∈ ops.toList, ∀ t, o.dst = some t → t < m)
 (hok3 : drawOk c ops = true) (hm : a.tmps.size = m) (hs : Sim c.n0 M0 w0 ρ0 bs0 ρ st a w) (h : xOps c ops ops.toList st (Q .normal)) :
 wpAny P .any ops (QSim c.n0 M0 w0 ρ0 bs0 m Q) ops.size (Array.replicate ops.size false) a { w with drawn := w.drawn + 1 } := by
 have hu := z6b (c := c) (ops := ops) hok3
 obtain ⟨q, sts, outs, htr, hst, hrest, hend⟩ := z69 (c := c) (ops := ops) ops.size 0 st rfl (by omega) (by simpa using h)
 obtain ⟨l, e, _⟩ := htr.ext q 0 (by omega) (Nat.le_refl _)
 rw [Nat.zero_add] at l e
 refine qew hC hT hu (K := Q .normal) (m := m) (fun a w h => h) (fun i o t ho ht => hd' o (by rw [Array.mem_toList_iff]; exact Array.mem_of_getElem? ho) t ht) (fun ch a w h => h) ops.size 0 q sts outs _ ρ a _ ?_ (by simp) htr
  (fun j hj => by omega) (fun j _ => ?_) ?_ hrest hend hm ?_ ?_ ?_
 ·unfold unl
  simp [List.countP_replicate]
 ·rw [Array.getD_eq_getD_getElem?, Array.getElem?_replicate]
  split <;> rfl
 ·intro i o e hi
  rw [Array.getD_eq_getD_getElem?, Array.getElem?_replicate] at hi
  split at hi <;> cases hi
 ·have hf : frOf ops outs (sts 0).fr (fun j => 0 ≤ j ∧ j < q ∧ (Array.replicate ops.size false).getD j false = true) = st.fr := by
   funext t
   rw [zoo (fun j hj => ?_), hst]
   have h1 := hj.2.2
   rw [Array.getD_eq_getD_getElem?, Array.getElem?_replicate] at h1
   split at h1 <;> cases h1
  rw [hf]
  rw [hst] at l e
  have := hs.drew
  exact Sim.ext (fr := st.fr) (bs := st.bs) this e l
 ·intro j h1 h2 _ x hx k hk
  obtain ⟨l2, _, _⟩ := htr.ext j 0 (by omega) (Nat.le_refl _)
  rw [Nat.zero_add, hst] at l2
  exact hs.store.out _ (by omega)
 ·rw [hst]
  exact Nat.le_trans (Nat.le_of_eq hs.n0) hs.len

theorem z9h (hP : P.follows .mixedOrders = true) (hC : Sound P c ρ0) (hT : TabOk P c.T c.eqs) {m0 m : Nat} (hm0 : m0 ≤ m) :
 ∀ (code : Code) (ρ : Nat → Loc) (st : St) (a : Act) (w : World) (Q : Ex → St → Prop), zfo c m0 code = true → a.tmps.size = m → Sim c.n0 M0 w0 ρ0 bs0 ρ st a w → zkh c code st Q →
   code.wp P (QSim c.n0 M0 w0 ρ0 bs0 m Q) a w := by
 intro code
 induction code with
 | skip => intro ρ st a w Q _ hm hs h; exact wp_skip ⟨ρ, st, h, hs, hm⟩
 | region id ops draw =>
   intro ρ st a w Q hok hm hs h
   simp only [zfo] at hok
   simp only [zkh] at h
   by_cases hany : zmh c.lendT ops draw = true
   ·rw [if_pos hany] at hok h
    have hdr : draw = true := by
     simp only [zmh, Bool.and_eq_true] at hany
     exact hany.1
    subst hdr
    simp only [Bool.and_eq_true, List.all_eq_true] at hok
    obtain ⟨⟨hf, hq⟩, hall⟩ := hok
    refine wp_region_draw fun t => ?_
    simp only [Region.schedule, hP, Bool.true_or, if_true]
    refine qe2 (z7m hf) (fun q hm => by simpa using hq q hm) (fun p hp hperm => ?_) _ (qi8 ops.size t (L0 ops) (by rw [qfv]; exact Nat.le_refl _) (by simp [L0]))
    have h1 := hall p hp
    rw [hperm] at h1
    simp only [Bool.not_true, Bool.false_or, Bool.and_eq_true] at h1
    have hd := zxt h1.1
    have hsz : (zmz ops p).size = ops.size := by
     unfold zmz
     rw [znt (by rw [zgp]; exact hperm), zgp]
    have h2 := zxq (Q := Q) hC hT (ops := zmz ops p) (fun o ho t ht => Nat.lt_of_lt_of_le (hd o ho t ht) hm0) h1.2 hm hs (h p hp hperm)
    rw [hsz] at h2
    exact h2
   rw [if_neg hany] at hok h
   simp only [Bool.and_eq_true] at hok
   have hd := zxt hok.1
   have hd' : ∀ o ∈ (canon ops draw).toList, ∀ t, o.dst = some t → t < m := fun o ho t ht => Nat.lt_of_lt_of_le (hd o ho t ht) hm0
   cases draw with
   | false => exact wp_region_list (qbu hC hT (fun a w h => h) _ ρ st a w hd' hm hs h)
   | true =>
     have hok2 := hok.2
     simp only [Bool.not_true, Bool.false_or, Bool.and_eq_true] at hok2
     refine wp_region_any hP ?_
     have h : xOps c (canon ops true) (canon ops true).toList st (Q .normal) := h
     suffices hk : wpAny P .any (canon ops true) (QSim c.n0 M0 w0 ρ0 bs0 m Q) (canon ops true).size (Array.replicate (canon ops true).size false) a { w with drawn := w.drawn + 1 } by
      have hk' : wpAny P .any (zfs ops (hoist ops)) (QSim c.n0 M0 w0 ρ0 bs0 m Q) (zfs ops (hoist ops)).size (Array.replicate (zfs ops (hoist ops)).size false) a { w with drawn := w.drawn + 1 } := hk
      rw [znt hok2.2] at hk'
      refine zu1 hok2.2 _ _ _ _ _ (by simp) (by simp) (fun i hi => ?_) hk'
      have hlt : (hoist ops).idxOf i < ops.size := by
       obtain ⟨_, h2, _, h4⟩ := zf4 hok2.2
       rw [← h2]
       exact List.idxOf_lt_length_of_mem (h4 i hi)
      rw [Array.getElem?_replicate, Array.getElem?_replicate, if_pos hi, if_pos hlt]
     have hok3 := hok2.1
     exact zxq hC hT hd' hok3 hm hs h
 | seq x y ihx ihy =>
   intro ρ st a w Q hok hm hs h
   simp only [zfo, Bool.and_eq_true] at hok
   refine wp_seq (wp_mono (ihx ρ st a w _ hok.1 hm hs (by simpa [zkh] using h)) ?_)
   intro e a' w' hq
   cases e with
   | normal =>
     obtain ⟨ρ', st', hQ, hs', hm'⟩ := hq
     exact ihy ρ' st' a' w' Q hok.2 hm' hs' hQ
   | exit id => exact hq
   | ret => exact hq
   | goto l => exact hq
   | panic ch => exact hq
   | outgrown => exact hq
 | cond t x y ihx ihy =>
   intro ρ st a w Q hok hm hs h
   simp only [zfo, Bool.and_eq_true] at hok
   simp only [zkh] at h
   split at h
   ·rename_i b hb
    have hev := hs.ev t
    rw [hb] at hev
    have hbv := hev.bool_inv
    refine wp_cond hbv ?_
    cases b with
    | true => exact ihx ρ st a w Q hok.1 hm hs (by simpa using h)
    | false => exact ihy ρ st a w Q hok.2 hm hs (by simpa using h)
   ·cases h
 | block id x ih =>
   intro ρ st a w Q hok hm hs h
   refine wp_block (wp_mono (ih ρ st a w _ (by simpa [zfo] using hok) hm hs (by simpa [zkh] using h)) ?_)
   intro e a' w' hq
   cases e with
   | normal => exact hq
   | exit i =>
     obtain ⟨ρ', st', hQ, hs', hm'⟩ := hq
     simp only [Exit.inBlock]
     simp only at hQ
     split
     ·rename_i hi
      rw [if_pos hi] at hQ
      exact ⟨ρ', st', hQ, hs', hm'⟩
     ·rename_i hi
      rw [if_neg hi] at hQ
      exact ⟨ρ', st', hQ, hs', hm'⟩
   | ret => exact hq
   | goto l => exact hq
   | panic ch => exact hq
   | outgrown => exact hq
 | loop x ih =>
   intro ρ st a w Q hok hm hs h
   simp only [zkh] at h
   obtain ⟨n, hn⟩ := h
   have hk : bs0.length ≤ st.bs.length := hs.len
   revert hn hk
   generalize st.bs.length = k
   intro hn hk
   refine wp_loop_rounds n ?_
   revert ρ st a w
   induction n with
   | zero => intro ρ st a w hm hs hn; exact hn.elim
   | succ n ihn =>
     intro ρ st a w hm hs hn
     rw [rounds_succ]
     refine wp_mono (ih ρ st a w _ (by simpa [zfo] using hok) hm hs hn) ?_
     intro e a' w' hq
     cases e with
     | normal =>
       obtain ⟨ρ', st', hQ, hs', hm'⟩ := hq
       rcases hQ with hQ | ⟨ext, hok', hQ⟩ | hQ
       ·exact ihn _ _ a' w' hm' (hs'.trunc hk) hQ
       ·exact ihn _ _ a' w' hm' (hs'.keep hk hok') hQ
       ·exact ihn _ _ a' w' hm' hs' hQ
     | exit id => exact hq
     | ret => exact hq
     | goto l => exact hq
     | panic ch => exact hq
     | outgrown => exact hq
 | exit id => intro ρ st a w Q _ hm hs h; exact wp_exit ⟨ρ, st, h, hs, hm⟩
 | ret => intro ρ st a w Q _ hm hs h; exact wp_ret ⟨ρ, st, h, hs, hm⟩
 | rangeFunc _ _ _ _ => intro ρ st a w Q hok; cases hok
 | scope _ => intro ρ st a w Q hok; cases hok
 | label _ => intro ρ st a w Q hok; cases hok
 | goto _ => intro ρ st a w Q hok; cases hok
 | refuse _ => intro ρ st a w Q hok; cases hok
end
end Go.AM
/- AM: a function: what leaves its call. -/
namespace Go.AM
open Go.RowKit (Below)

section
variable {P : Program} {c : Cfg} {M0 : Foot} {w0 : World} {ρ0 : Nat → Loc} {bs0 : List Blk} {w : World} {ρ : Nat → Loc} {bs : List Blk}

def ze9 (n0 : Nat) (L : List Nat) (ρ : Nat → Loc) (i : Nat) : Loc := if i < n0 then ρ i else match L[i - n0]? with
 | some b => ρ b
 | none => .absent

def expBs (n0 : Nat) (L : List Nat) (bs : List Blk) : List Blk := (bs.take n0).map (Blk.mapR (zik n0 L) (zll n0 bs)) ++ L.map fun b => (bs[b]?).getD default

theorem Rep.thaw {M M' : Foot} {v : Value} {d : D} (h : Rep w M ρ v d) (hp : Pres w M w M') : RepI w M' v (d.freeze0 []) := by
 cases h with
 | imm _ _ h =>
   have := h.move hp
   cases h <;> simpa [D.freeze0] using this
 | ref => simp [D.freeze0, zpp]; exact .undef _
 | refV => simp [D.freeze0, zpp]; exact .undef _
 | ptr => exact .undef _
 | agg => exact .undef _
 | tup => exact .undef _
 | fn => exact .undef _

theorem qhb {L : List Nat} {b : Nat} (h : b ∈ L) : L[L.idxOf b]? = some b := by
 induction L with
 | nil => cases h
 | cons x l ih =>
   rw [List.idxOf_cons]
   by_cases hx : x = b
   ·simp [hx]
   ·have : (x == b) = false := by simpa using hx
    simp only [this, cond_false, List.getElem?_cons_succ]
    exact ih (by simpa [Ne.symm hx] using h)

theorem z05 {n0 : Nat} {L : List Nat} (hS : Store M0 ρ bs w) (hn : n0 ≤ bs.length) (hnd : L.Nodup) (hge : ∀ b ∈ L, n0 ≤ b) (hk : ∀ b ∈ L, ∃ k, bs[b]? = some k ∧ k.kind.isBox = false) :
 Store M0 (ze9 n0 L ρ) (expBs n0 L bs) w ∧ (∀ g o, Mof M0 (ze9 n0 L ρ) (expBs n0 L bs) g o → Mof M0 ρ bs g o) ∧
  ∀ v d, Rep w (Mof M0 ρ bs) ρ v d → Rep w (Mof M0 (ze9 n0 L ρ) (expBs n0 L bs)) (ze9 n0 L ρ) v (d.mapR (zik n0 L) (zll n0 bs)) := by
 have hlen : ((bs.take n0).map (Blk.mapR (zik n0 L) (zll n0 bs))).length = n0 := by simp [Nat.min_eq_left hn]
 have get : ∀ i b', (expBs n0 L bs)[i]? = some b' → (i < n0 ∧ ∃ b, bs[i]? = some b ∧ b' = b.mapR (zik n0 L) (zll n0 bs)) ∨ (n0 ≤ i ∧ ∃ x, L[i - n0]? = some x ∧ x ∈ L ∧ n0 ≤ x ∧ bs[x]? = some b' ∧ b'.kind.isBox = false ∧ ze9 n0 L ρ i = ρ x) := by
  intro i b' h
  by_cases hi : i < n0
  ·left
   unfold expBs at h
   rw [List.getElem?_append_left (by omega), List.getElem?_map, List.getElem?_take, if_pos hi] at h
   cases hb : bs[i]? with
   | none => simp [hb] at h
   | some b => simp [hb] at h; exact ⟨hi, b, rfl, h.symm⟩
  ·right
   unfold expBs at h
   rw [List.getElem?_append_right (by omega), hlen, List.getElem?_map] at h
   cases hx : L[i - n0]? with
   | none => simp [hx] at h
   | some x =>
     have hmem := List.mem_of_getElem? hx
     obtain ⟨k, h1, h2⟩ := hk x hmem
     simp [hx, h1] at h
     subst h
     exact ⟨by omega, x, rfl, hmem, hge x hmem, h1, h2, by simp [ze9, hi, hx]⟩
 have loc : ∀ i g base n rl esz, ze9 n0 L ρ i = .at_ g base n rl esz → (i < n0 ∧ ρ i = .at_ g base n rl esz) ∨ (n0 ≤ i ∧ ∃ x, L[i - n0]? = some x ∧ x ∈ L ∧ n0 ≤ x ∧ ρ x = .at_ g base n rl esz) := by
  intro i g base n rl esz h
  unfold ze9 at h
  split at h
  ·rename_i hi; exact .inl ⟨hi, h⟩
  ·rename_i hi
   split at h
   ·rename_i x hx
    exact .inr ⟨by omega, x, hx, List.mem_of_getElem? hx, hge x (List.mem_of_getElem? hx), h⟩
   ·cases h
 have hM : ∀ g o, Mof M0 (ze9 n0 L ρ) (expBs n0 L bs) g o → Mof M0 ρ bs g o := by
  rintro g o (h | ⟨i, b', base, m, rl, esz, hi, hat, hkk⟩)
  ·exact .inl h
  ·rcases get i b' hi with ⟨hlt, b, hb, rfl⟩ | ⟨_, x, _, _, _, hb, _, he⟩
   ·unfold ze9 at hat
    rw [if_pos hlt] at hat
    exact .inr ⟨i, b, base, m, rl, esz, hb, hat, hkk⟩
   ·rw [he] at hat
    exact .inr ⟨x, b', base, m, rl, esz, hb, hat, hkk⟩
 have hp := Pres.sub (w := w) hM
 have hR : ∀ v d, Rep w (Mof M0 ρ bs) ρ v d → Rep w (Mof M0 (ze9 n0 L ρ) (expBs n0 L bs)) (ze9 n0 L ρ) v (d.mapR (zik n0 L) (zll n0 bs)) := by
  intro v d h
  have same : ∀ b, b < n0 → ze9 n0 L ρ b = ρ b := fun b hb => by simp [ze9, hb]
  refine h.carry hp ?_ ?_
  ·intro v b o l h
   unfold zik
   split
   ·rename_i hb
    rcases h.ref_inv with ⟨cap, g, base, n, rl, esz, rfl, hat, h1, h2, h3⟩ | ⟨a, rfl, hat, rfl, rfl⟩
    ·exact .ref _ _ _ cap g base n rl esz ((same b hb).trans hat) h1 h2 h3
    ·exact .refV _ _ ((same b hb).trans hat)
   ·split
    ·rename_i hb hc
     have hmem : b ∈ L := by simpa using hc
     have hl : ze9 n0 L ρ (n0 + L.idxOf b) = ρ b := by
      unfold ze9
      rw [if_neg (by omega)]
      have : L[n0 + L.idxOf b - n0]? = some b := by
       rw [Nat.add_sub_cancel_left]
       exact qhb hmem
      rw [this]
     rcases h.ref_inv with ⟨cap, g, base, n, rl, esz, rfl, hat, h1, h2, h3⟩ | ⟨a, rfl, hat, rfl, rfl⟩
     ·exact .ref _ _ _ cap g base n rl esz (hl.trans hat) h1 h2 h3
     ·exact .refV _ _ (hl.trans hat)
    ·exact .undef _
  ·intro v b i j h
   unfold zll
   obtain ⟨g, base, n, rl, esz, rfl, hat⟩ := h.ptr_inv
   split
   ·rename_i hb
    exact .ptr _ _ _ g base n rl esz ((same b hb).trans hat)
   ·rename_i hb
    split
    ·rename_i k hkb
     split
     ·rename_i hbox
      split
      ·rename_i r hr
       have hrow := hS.row_cells (Ext.refl bs) (j := j) hat hkb hr
       refine .imm _ _ (.mem g (base + i * esz + j) _ (fun m => (w.cell? ⟨g, base + i * esz + j + m, none⟩).getD Go.undef) ?_ ?_)
       ·intro m hm
        have hlt : m < (r.drop j).length := by simpa using hm
        obtain ⟨u, hu, _⟩ := hrow m (r.drop j)[m] (by simp [hlt])
        refine ⟨?_, by rw [hu]; rfl⟩
        rintro (h0 | ⟨i', b', base', m', rl', esz', hi', hat', _⟩)
        ·exact hS.m0 b g _ _ _ _ hat _ h0
        ·rcases loc i' g _ _ _ _ hat' with ⟨hlt', h'⟩ | ⟨_, x, _, hx, _, h'⟩
         ·exact absurd (hS.inj _ _ _ _ _ _ _ _ _ _ _ h' hat) (by omega)
         ·have := hS.inj _ _ _ _ _ _ _ _ _ _ _ h' hat
          subst this
          obtain ⟨k', hk1, hk2⟩ := hk x hx
          rw [hkb] at hk1
          cases hk1
          rw [hbox] at hk2
          cases hk2
       ·intro m d hd
        rw [List.getElem?_map] at hd
        cases hd0 : (r.drop j)[m]? with
        | none => simp [hd0] at hd
        | some d0 =>
          simp [hd0] at hd
          subst hd
          obtain ⟨u, hu, hrep⟩ := hrow m d0 hd0
          rw [hu]
          exact hrep.thaw hp
      ·exact .undef _
     ·exact .undef _
    ·exact .undef _
 refine ⟨⟨?_, ?_, ?_, ?_, ?_⟩, hM, hR⟩
 ·intro i b' g base m rl esz hi hat
  rcases get i b' hi with ⟨hlt, b, hb, rfl⟩ | ⟨_, x, _, _, _, hb, hbx, he⟩
  ·have hat' : ρ i = .at_ g base m rl esz := by simpa [ze9, hlt] using hat
   obtain ⟨h1, h2, h3, h4, arr, Ty, hg, hs, hc⟩ := hS.at_ i b g base m rl esz hb hat'
   refine ⟨by simpa [Blk.mapR] using h1, h2, ?_, h4, arr, Ty, hg, hs, ?_⟩
   ·intro r hr
    simp only [Blk.mapR, List.mem_map] at hr
    obtain ⟨r0, hr0, rfl⟩ := hr
    simpa using h3 r0 hr0
   ·intro k j r d hr hd
    simp only [Blk.mapR, List.getElem?_map] at hr
    cases hr0 : b.rows[k]? with
    | none => simp [hr0] at hr
    | some r0 =>
      simp [hr0] at hr
      subst hr
      rw [List.getElem?_map] at hd
      cases hd0 : r0[j]? with
      | none => simp [hd0] at hd
      | some d0 =>
        simp [hd0] at hd
        subst hd
        obtain ⟨v, hv, hrep⟩ := hc k j r0 d0 hr0 hd0
        refine ⟨v, hv, ?_⟩
        show if b.kind.isBox then _ else _
        split
        ·rename_i hbx
         rw [if_pos hbx] at hrep
         exact hR v d0 hrep
        ·rename_i hbx
         rw [if_neg hbx] at hrep
         rw [hrep.mapR]
         exact hrep.move hp
  ·rw [he] at hat
   obtain ⟨h1, h2, h3, h4, arr, Ty, hg, hs, hc⟩ := hS.at_ x b' g base m rl esz hb hat
   refine ⟨h1, h2, h3, h4, arr, Ty, hg, hs, ?_⟩
   intro k j r d hr hd
   obtain ⟨v, hv, hrep⟩ := hc k j r d hr hd
   refine ⟨v, hv, ?_⟩
   rw [hbx] at hrep ⊢
   simp only [Bool.false_eq_true, if_false] at hrep ⊢
   exact hrep.move hp
 ·intro i b' hi hv
  rcases get i b' hi with ⟨hlt, b, hb, rfl⟩ | ⟨_, x, _, _, _, hb, hbx, he⟩
  ·have hv' : ρ i = .virt := by simpa [ze9, hlt] using hv
   obtain ⟨h1, h2⟩ := hS.virt i b hb hv'
   exact ⟨by simp [Blk.mapR, h1], h2⟩
  ·rw [he] at hv
   exact hS.virt x b' hb hv
 ·intro i hi
  unfold ze9
  have hl : (expBs n0 L bs).length = n0 + L.length := by
   unfold expBs
   rw [List.length_append, hlen, List.length_map]
  rw [if_neg (by omega)]
  rw [List.getElem?_eq_none (by omega)]
 ·intro i j g base m rl esz base' m' rl' esz' hi hj
  rcases loc i g _ _ _ _ hi with ⟨h1, h2⟩ | ⟨h1, x, hx, _, hxn, h2⟩ <;> rcases loc j g _ _ _ _ hj with ⟨h3, h4⟩ | ⟨h3, y, hy, _, hyn, h4⟩
  ·exact hS.inj _ _ _ _ _ _ _ _ _ _ _ h2 h4
  ·have := hS.inj _ _ _ _ _ _ _ _ _ _ _ h2 h4
   omega
  ·have := hS.inj _ _ _ _ _ _ _ _ _ _ _ h2 h4
   omega
  ·have hxy := hS.inj _ _ _ _ _ _ _ _ _ _ _ h2 h4
   subst hxy
   obtain ⟨hi1, e1⟩ := List.getElem?_eq_some_iff.1 hx
   obtain ⟨hj1, e2⟩ := List.getElem?_eq_some_iff.1 hy
   have := (List.getElem?_inj hi1 hnd).1 (hx.trans hy.symm)
   omega
 ·intro i g base m rl esz hi
  rcases loc i g _ _ _ _ hi with ⟨h1, h2⟩ | ⟨h1, x, hx, _, hxn, h2⟩
  ·exact hS.m0 _ _ _ _ _ _ h2
  ·exact hS.m0 _ _ _ _ _ _ h2

theorem qgg {T : Tab} {eqs : List Nat} (hT : TabOk P T eqs) {st : St} {tmps : Array Value} (hS : Store M0 ρ st.bs w) (hfr : ∀ t, Rep w (Mof M0 ρ st.bs) ρ (tmps.getD t Go.undef) (st.fr t)) :
 ∀ (g : ResultVar → Sem Value), (∀ t, g (.tmp t) = pure (tmps.getD t Go.undef)) → (∀ a t, g (.cell a t) = do loadVar t (← asAddr (tmps.getD a Go.undef))) →
 ∀ (rs : List ResultVar) (ds : List D), resL T st rs = some ds → ∃ vs : List Value, (rs.mapM g).run P w = .ok vs w ∧ vs.length = ds.length ∧
     ∀ (i : Nat) (v : Value) (d : D), vs[i]? = some v → ds[i]? = some d → Rep w (Mof M0 ρ st.bs) ρ v d := by
 intro g hg1 hg2 rs
 induction rs with
 | nil => intro ds h; cases h; exact ⟨[], rfl, rfl, fun i v d h => by simp at h⟩
 | cons r rs ih =>
   intro ds h
   unfold resL at h
   split at h
   ·rename_i d ds' hd hds
    cases h
    obtain ⟨vs, hrun, hl, hrep⟩ := ih ds' hds
    have one : ∃ v, (g r).run P w = .ok v w ∧ Rep w (Mof M0 ρ st.bs) ρ v d := by
     cases r with
     | tmp t =>
       simp only [resD, Option.some.injEq] at hd
       rw [hg1]
       exact ⟨_, rfl, hd ▸ hfr t⟩
     | cell a t =>
       simp only [resD] at hd
       have hv := hfr a
       rw [hg2]
       revert hd
       cases hda : st.fr a with
       | mem cs =>
         intro hd
         rw [hda] at hv
         obtain ⟨g, o, ho⟩ := hv.mem_inv.mem_addr
         rw [ho] at hv ⊢
         obtain ⟨v', hr, hp⟩ := z6h (P := P) hT (w := w) (M := Mof M0 ρ st.bs) (ρ := ρ) (g := g) (o := o) hd (fun j d hd => by
          obtain ⟨u, hu, hr⟩ := hv.mem_inv.mem_cell j d hd
          exact ⟨u, hu, .imm _ _ hr⟩)
         exact ⟨v', by simp [asAddr, hr], hp⟩
       | ptr b i j =>
         intro hd
         rw [hda] at hv
         simp only [loadD] at hd
         split at hd
         ·rename_i k hb
          split at hd
          ·rename_i r hr
           obtain ⟨g, base, n, rl, esz, ho, hat⟩ := hv.ptr_inv
           rw [ho]
           obtain ⟨v', hrun, hrep⟩ := z6h (P := P) hT (w := w) (M := Mof M0 ρ st.bs) (ρ := ρ) hd (hS.row_cells (Ext.refl _) hat hb hr)
           exact ⟨v', by simp [asAddr, hrun], hrep⟩
          ·cases hd
         ·cases hd
       | _ => intro hd; simp [loadD] at hd
    obtain ⟨v, h1, h2⟩ := one
    refine ⟨v :: vs, ?_, by simp [hl], ?_⟩
    ·rw [List.mapM_cons]
     simp only [Sem.run_bind, h1, Result.andThen_ok, hrun]
     rfl
    ·intro i v' d' hv hd
     cases i with
     | zero => simp at hv hd; subst hv; subst hd; exact h2
     | succ i => exact hrep i v' d' (by simpa using hv) (by simpa using hd)
   ·cases h

theorem z6f {T : Tab} {eqs : List Nat} (hT : TabOk P T eqs) {st : St} {tmps : Array Value} {fn : Func} {ds : List D} (hS : Store M0 ρ st.bs w) (hfr : ∀ t, Rep w (Mof M0 ρ st.bs) ρ (tmps.getD t Go.undef) (st.fr t))
 (h : resL T st fn.results.toList = some ds) : ∃ v, (results fn tmps).run P w = .ok v w ∧ Rep w (Mof M0 ρ st.bs) ρ v (zpo ds) := by
 have key : ∀ (g : ResultVar → Sem Value), (∀ t, g (.tmp t) = pure (tmps.getD t Go.undef)) → (∀ a t, g (.cell a t) = do loadVar t (← asAddr (tmps.getD a Go.undef))) →
  ∃ v, (do let vs ← fn.results.mapM g; pure (if h : vs.size = 1 then vs[0] else .tuple vs) : Sem Value).run P w = .ok v w ∧ Rep w (Mof M0 ρ st.bs) ρ v (zpo ds) := by
  intro g hg1 hg2
  obtain ⟨vs, hrun, hl, hrep⟩ := qgg hT hS hfr g hg1 hg2 _ _ h
  rw [Array.mapM_eq_mapM_toList]
  simp only [Sem.run_bind, Sem.run_map, hrun, Result.andThen_ok]
  match ds, hl, hrep with
  | [d], hl, hrep =>
    match vs, hl with
    | [v], _ => exact ⟨v, rfl, hrep 0 v d rfl rfl⟩
  | [], hl, hrep =>
    match vs, hl with
    | [], _ => exact ⟨_, rfl, .tup _ _ rfl fun i v d h => by simp at h⟩
  | d1 :: d2 :: ds, hl, hrep =>
    match vs, hl with
    | v1 :: v2 :: vs, hl =>
      refine ⟨.tuple (v1 :: v2 :: vs).toArray, ?_, .tup _ _ (by simpa using hl) fun i v d h1 h2 => hrep i v d (by simpa using h1) h2⟩
      simp
 exact key _ (fun _ => rfl) (fun _ _ => rfl)

theorem qax {f : Nat} {fn : Func} {body : Code} {args : List D} {r : D} {bs' : List Blk} (hP : P.follows .mixedOrders = true) (hf : P.funcs[f]? = some fn) (hn : (fn.name == "runtime.NumGoroutine") = false) (hb : fn.body = some body)
 (hok : zfo c fn.ntmps body = true) (hT : TabOk P c.T c.eqs) (hC : ∀ f args bs r bs', c.C f args bs r bs' → Den P f args bs r bs') (hG : ∀ f args bs r bs', c.G f args bs r bs' → DenF P [0] f args bs r bs') (hO : ∀ f ∈ c.ovl, zqa P c.T f) (hF : ∀ b ∈ c.full, b < c.n0) (hn0 : c.n0 = bs.length) (h : xFun c fn body args bs r bs') : DenF P c.full f args bs r bs' := by
 refine ⟨⟨fn, hf, hn, by simp [hb]⟩, ?_⟩
 intro w M0 ρ vals hfull hm0 hS hsz hvals
 refine calls_of_wp hf hb ?_
 have hs : Sim c.n0 M0 w ρ bs ρ (start args bs) { tmps := vals ++ Array.replicate (fn.ntmps - vals.size) Go.undef, defers := [] } w := by
  refine ⟨fun t => ?_, hS, hn0, Nat.le_refl _, fun _ _ => rfl, Pres.refl _ _, ⟨Nat.le_refl _, rfl, rfl, rfl, fun _ _ _ => rfl, ?_⟩, rfl, hm0⟩
  ·show Rep _ _ _ ((vals ++ Array.replicate (fn.ntmps - vals.size) Go.undef).getD t Go.undef) (args.getD t .undef)
   rw [Array.getD_eq_getD_getElem?, List.getD_eq_getElem?_getD]
   by_cases ht : t < vals.size
   ·rw [Array.getElem?_append_left ht]
    have h1 : vals[t]? = some vals[t] := by simp [ht]
    have h2 : args[t]? = some (args[t]'(by omega)) := by simp [← hsz, ht]
    rw [h1, h2]
    exact hvals t _ _ h1 h2
   ·have h2 : args[t]? = none := by rw [List.getElem?_eq_none]; omega
    rw [h2]
    exact .undef _
  ·intro i g base n rl esz hi hat
   rw [hS.out i hi] at hat
   cases hat
 refine wp_mono (z9h (m := (vals ++ Array.replicate (fn.ntmps - vals.size) Go.undef).size) hP (ρ0 := ρ) ⟨hO, hC, hG, hfull, hF⟩ hT (by simp; omega) body ρ (start args bs) _ w _ hok rfl hs h) ?_
 have fin : ∀ (a' : Act) (w' : World) (ρ' : Nat → Loc) (st : St), (∃ ds, resL c.T st fn.results.toList = some ds ∧ zax c.n0 st (zpo ds) = some (r, bs')) → Sim c.n0 M0 w ρ bs ρ' st a' w' →
  a'.defers = [] ∧ ∃ v, (results fn a'.tmps).run P w' = .ok v w' ∧ ∃ v' ρ', Ending.returned v = .returned v' ∧ Rep w' (Mof M0 ρ' bs') ρ' v' r ∧ Store M0 ρ' bs' w' ∧
  bs.length ≤ bs'.length ∧ (∀ i, i < bs.length → ρ' i = ρ i) ∧ Pres w (Mof M0 ρ bs) w' (Mof M0 ρ' bs') ∧ Around w ρ bs.length w' ρ' := by
  rintro a' w' ρ' st ⟨ds, hds, hlv⟩ hs'
  obtain ⟨v, hrun, hrep⟩ := z6f hT hs'.store hs'.fr hds
  refine ⟨hs'.defers, v, hrun, v, ?_⟩
  unfold zax at hlv
  simp only at hlv
  generalize hL : List.filter (fun b => decide (c.n0 ≤ b)) ((zpo ds).rids ++ zmg (List.take c.n0 st.bs)) = L at hlv
  split at hlv
  ·rename_i hc
   obtain ⟨hnd, hall⟩ := hc
   simp only [Option.some.injEq, Prod.mk.injEq] at hlv
   obtain ⟨rfl, rfl⟩ := hlv
   have hlen : c.n0 ≤ st.bs.length := by have := hs'.len; omega
   have hge : ∀ b ∈ L, c.n0 ≤ b := by
    intro b hb
    rw [← hL, List.mem_filter] at hb
    simpa using hb.2
   have hk : ∀ b ∈ L, ∃ k, st.bs[b]? = some k ∧ k.kind.isBox = false := by
    intro b hb
    rw [List.all_eq_true] at hall
    have := hall b hb
    split at this
    ·rename_i k hk
     exact ⟨k, hk, by simpa using this⟩
    ·cases this
   obtain ⟨h1, h2, h3⟩ := z05 hs'.store hlen hnd hge hk
   refine ⟨ze9 c.n0 L ρ', rfl, h3 v _ hrep, h1, ?_, ?_, hs'.pres.trans (Pres.sub h2), ?_⟩
   ·simp [Nat.min_eq_left hlen]; omega
   ·intro i hi
    rw [← hn0] at hi
    have : ze9 c.n0 L ρ' i = ρ' i := by simp [ze9, hi]
    rw [this]
    exact hs'.lent i (by omega)
   ·refine ⟨hs'.around.size, hs'.around.os, hs'.around.tape, hs'.around.output, hs'.around.keep, ?_⟩
    intro i g base n rl esz hi hat
    unfold ze9 at hat
    rw [if_neg (by omega)] at hat
    split at hat
    ·rename_i x hx
     have := hge x (List.mem_of_getElem? hx)
     exact hs'.around.fresh x g base n rl esz (by omega) hat
    ·cases hat
  ·cases hlv
 intro e a' w' hq
 cases e with
 | normal =>
   obtain ⟨ρ', st, ⟨_, hQ⟩, hs', _⟩ := hq
   exact fin a' w' ρ' st hQ hs'
 | ret =>
   obtain ⟨ρ', st, ⟨_, hQ⟩, hs', _⟩ := hq
   exact fin a' w' ρ' st hQ hs'
 | exit id =>
   obtain ⟨ρ', st, ⟨hbad, _⟩, _⟩ := hq
   rcases hbad with hbad | hbad <;> cases hbad
 | goto l => exact hq.elim
 | panic ch => exact hq.elim
 | outgrown => exact hq.elim
end
end Go.AM
/- AM: operations that answer a datum alone; calls, as they are stepped through. -/
namespace Go.AM

section
variable {c : Cfg}

theorem zx6 (bs : List Blk) : zar [] bs = bs := by
 apply List.ext_getElem?
 intro i
 rw [zea]
 cases bs[i]? <;> simp

theorem qft {o : Oper} {st : St} (hb : zdg c o.op = false) {out : Out} (h : zhf c st.bs.length st.bs st.ev o out) (hd : (out.down.all fun b => decide (b < st.bs.length)) = true) {K : St → Prop} (hK : K (st.out o.dst out)) : xOp c o st K := by
 unfold xOp
 rw [if_neg (by rw [hb]; simp)]
 exact ⟨out, h, hd, hK⟩

theorem zvm (st : St) (dst : Option Nat) (x : D) : st.out dst { d := x } = st.put dst x := by
 cases dst <;> simp [St.out, St.put, zx6]

def pureD (c : Cfg) (bs : List Blk) (ev : Operand → D) : Op → Option D
 | .move x => some (ev x)
 | .assign x => match x with
   | .const (.slice none 0 0) => none
   | x => some (ev x)
 | .pick t a b => match ev t with
   | .bool x => some (if x = true then ev a else ev b)
   | _ => none
 | .load t a => loadD c.T bs t (ev a)
 | .nilCheck x => match ev x with
   | .mem cs => some (.mem cs)
   | .ptr b i j => some (.ptr b i j)
   | .fn f a c => some (.fn f a c)
   | _ => none
 | .binOp op t x y _ => binX c.T c.eqs op t (ev x) y (ev y)
 | .unOp op _ x => unD op (ev x)
 | .convert src dst x => match (c.T src).d.known, (c.T dst).d, ev x with
   | true, .int k, .int _ n => some (.int k (k.wrap n))
   | _, _, _ => none
 | .makeFunc (.func f) first caps => some (.fn f (first.toList.map ev) (caps.toList.map ev))
 | .fieldAddr s x f => zlg c.T s (ev x) f
 | .field s x f => fieldD c.T s (ev x) f
 | .indexAddr t x i => match ev i with
   | .int _ n => zlj c.T bs t (ev x) n
   | _ => none
 | .index t x i => match ev i with
   | .int _ n => indexD c.T t (ev x) n
   | _ => none
 | .extract x n => match ev x with
   | .tup vs => vs[n]?
   | _ => none
 | .build t parts => match (c.T t).d with
   | .struct fs => (fillD (fun i => (fs[i]?).map fun f => (f.1, (c.T f.2).size)) (c.T t).zero (parts.toList.map fun p => (p.1, ev p.2))).map D.agg
   | .arr _ e => (fillD (fun i => some (i * (c.T e).size, (c.T e).size)) (c.T t).zero (parts.toList.map fun p => (p.1, ev p.2))).map D.agg
   | _ => none
 | .call ⟨.builtin .len, args, tys⟩ => match args.toList, tys.toList with
   | [x], [t] => match (c.T t).d with
     | .slice _ => lenD (ev x)
     | _ => none
   | _, _ => none
 | .call ⟨.builtin .cap, args, tys⟩ => capT c.T c.full bs ev args tys
 | .slice t x lo (some hi) (some mx) => if mxOk c.T c.full bs t (ev x) (lo.map ev) (ev hi) (ev mx) = true then some .undef else none
 | .call ⟨.builtin .min, args, _⟩ => (minL (fun x y => if y < x then y else x) (args.toList.map ev)).map fun r => .int r.1 r.2
 | .call ⟨.builtin .max, args, _⟩ => (minL (fun x y => if y > x then y else x) (args.toList.map ev)).map fun r => .int r.1 r.2
 | _ => none

theorem z37 {o : Oper} {st : St} {x : D} (h : pureD c st.bs st.ev o.op = some x) {K : St → Prop} (hK : K (st.put o.dst x)) : xOp c o st K := by
 obtain ⟨dst, op, ty, pos, after, guard⟩ := o
 have go : zdg c op = false → zhf c st.bs.length st.bs st.ev ⟨dst, op, ty, pos, after, guard⟩ { d := x } → xOp c ⟨dst, op, ty, pos, after, guard⟩ st K :=
  fun h1 h2 => qft h1 h2 (by simp) (by rw [zvm]; exact hK)
 simp only at h
 cases op <;> simp only [pureD] at h <;> try cases h
 case move => exact go rfl rfl
 case assign y =>
  refine go rfl ?_
  split at h
  ·cases h
  ·rename_i hne
   cases h
   simp only [zhf, opFn]
 case pick t a b =>
  refine go rfl ?_
  split at h
  ·rename_i y hy
   cases h
   simp only [zhf, opFn, hy]
  ·cases h
 case load t a => exact go rfl (by simp only [zhf, opFn, h, Option.map_some])
 case nilCheck y =>
  refine go rfl ?_
  simp only [zhf, opFn]
  split at h <;> cases h <;> rename_i hy <;> simp only [hy]
 case binOp op t a b _ => exact go rfl (by simp only [zhf, opFn, h, Option.map_some])
 case unOp op t a => exact go rfl (by simp only [zhf, opFn, h, Option.map_some])
 case convert a b y =>
  refine go rfl ?_
  simp only [zhf, opFn]
  split at h
  ·rename_i h1 h2 h3
   cases h
   simp only [h1, h2, h3]
  ·cases h
 case makeFunc f first caps =>
  cases f <;> simp only at h <;> try cases h
  exact go rfl rfl
 case fieldAddr s y f => exact go rfl (by simp only [zhf, opFn, h, Option.map_some])
 case field s y f => exact go rfl (by simp only [zhf, opFn, h, Option.map_some])
 case indexAddr t y i =>
  refine go rfl ?_
  split at h
  ·rename_i hi
   simp only [zhf, opFn, hi, h, Option.map_some]
  ·cases h
 case index t y i =>
  refine go rfl ?_
  split at h
  ·rename_i hi
   simp only [zhf, opFn, hi, h, Option.map_some]
  ·cases h
 case extract y n =>
  refine go rfl ?_
  split at h
  ·rename_i hi
   simp only [zhf, opFn, hi, h, Option.map_some]
  ·cases h
 case build t parts =>
  refine go rfl ?_
  simp only [zhf, opFn]
  split at h
  ·rename_i hi
   simp only [hi]
   rw [Option.map_eq_some_iff] at h ⊢
   obtain ⟨cs, h1, h2⟩ := h
   exact ⟨cs, h1, by rw [h2]⟩
  ·rename_i hi
   simp only [hi]
   rw [Option.map_eq_some_iff] at h ⊢
   obtain ⟨cs, h1, h2⟩ := h
   exact ⟨cs, h1, by rw [h2]⟩
  ·cases h
 case slice t y lo hi mx =>
  cases hi <;> cases mx <;> simp only at h <;> try cases h
  rename_i hi mx
  refine go rfl ?_
  split at h
  ·rename_i hm
   cases h
   show (if _ then _ else _)
   rw [if_pos hm]
  ·cases h
 case call cl =>
  obtain ⟨callee, args, tys⟩ := cl
  cases callee with
  | builtin b =>
    cases b <;> simp only at h <;> try cases h
    case cap => exact go rfl (by simp only [zhf, h, Option.map_some])
    case len =>
     refine go rfl ?_
     simp only [zhf, opFn]
     split at h
     ·rename_i h1 h2
      simp only [h1, h2]
      split at h
      ·rename_i h3
       simp only [h3, h, Option.map_some]
      ·cases h
     ·cases h
    case min =>
     refine go rfl ?_
     simp only [zhf, opFn]
     rw [Option.map_eq_some_iff] at h ⊢
     obtain ⟨cs, h1, h2⟩ := h
     exact ⟨cs, h1, by rw [h2]⟩
    case max =>
     refine go rfl ?_
     simp only [zhf, opFn]
     rw [Option.map_eq_some_iff] at h ⊢
     obtain ⟨cs, h1, h2⟩ := h
     exact ⟨cs, h1, by rw [h2]⟩
  | value f => cases h
  | invoke r m => cases h

def callV (c : Cfg) (dst : Option Nat) (f : D) (args : List D) (st : St) (K : St → Prop) : Prop :=
 match f with
 | .fn f first caps => ∃ r nbs, c.C f ((first ++ args ++ caps).map (D.freeze st.bs)) [] r nbs ∧ (nbs.all fun b => !b.kind.isBox) = true ∧
    ((zh4 (ownT c dst) st.bs.length r nbs (reach st.bs (idsL (first ++ args ++ caps)))).down.all fun b => decide (b < st.bs.length)) = true ∧
    K (st.out dst (zh4 (ownT c dst) st.bs.length r nbs (reach st.bs (idsL (first ++ args ++ caps)))))
 | _ => False

def optK (x : Option St) (K : St → Prop) : Prop := match x with
 | some st => K st
 | none => False
def outK (st : St) (dst : Option Nat) (x : Option Out) (K : St → Prop) : Prop := match x with
 | some out => (out.down.all fun b => decide (b < st.bs.length)) = true ∧ K (st.out dst out)
 | none => False
def appK2 (dst : Option Nat) (x : Option (D × St)) (K : St → Prop) : Prop := match x with
 | some (r, st') => K (st'.put dst r)
 | none => False
def appK (c : Cfg) (dst : Option Nat) (e : Nat) (base : D) (ys : Option (List (List D))) (st : St) (K : St → Prop) : Prop := match ys with
 | some ys => Fits (c.T e).size ys ∧ appK2 dst (zjn c st e base ys) K
 | none => False
def appT (c : Cfg) (dst : Option Nat) (t0 t1 : TD) (s x : D) (st : St) (K : St → Prop) : Prop := match t0 with
 | .slice e => appK c dst e s (ziu c.T st.bs e t1 x) st K
 | _ => False
def overK (dst : Option Nat) (d : D) (x : Option St) (K : St → Prop) : Prop := match x with
 | some st => K (st.put dst d)
 | none => False
def copyK (c : Cfg) (dst : Option Nat) (e b off len : Nat) (ys : Option (List (List D))) (st : St) (K : St → Prop) : Prop := match ys with
 | some ys => (∀ r ∈ ys, r.length = (c.T e).size) ∧ Fits (c.T e).size (ys.take len) ∧ overK dst (.int .i64 ((ys.take len).length : Int)) (zo7 st (.ref b off len) (c.T e).size (ys.take len)) K
 | none => False
def copyT (c : Cfg) (dst : Option Nat) (t0 : TD) (s x : D) (st : St) (K : St → Prop) : Prop := match t0, s with
 | .slice e, .ref b off len => copyK c dst e b off len (zkj st.bs x) st K
 | _, _ => False
def clearT (c : Cfg) (dst : Option Nat) (t0 : TD) (s : D) (st : St) (K : St → Prop) : Prop := match t0, s with
 | .slice e, .ref b off len => Fits (c.T e).size (zas len (c.T e).zero) ∧ overK dst (.tup []) (zo7 st (.ref b off len) (c.T e).size (zas len (c.T e).zero)) K
 | _, _ => False
def barV (c : Cfg) (dst : Option Nat) (f : Operand) (args : Array Operand) (st : St) (K : St → Prop) : Prop :=
 if isOvl c f = true then (ztj st.bs (args.toList.map st.ev) = true ∧ K (st.put dst (.bool false)))
 else if isGive c args = true then zmb c dst (st.ev f) (args.toList.map st.ev) st K else zir c dst (st.ev f) (args.toList.map st.ev) st K

def zgh (c : Cfg) (o : Oper) (st : St) (K : St → Prop) : Prop :=
 match o.op with
 | .call ⟨.value f, args, _⟩ => if isLend c f args = true then barV c o.dst f args st K else callV c o.dst (st.ev f) (args.toList.map st.ev) st K
 | .call ⟨.builtin .append, args, tys⟩ => match tys.toList, args.toList with
   | [t0, t1], [s, x] => appT c o.dst (c.T t0).d (c.T t1).d (st.ev s) (st.ev x) st K
   | _, _ => False
 | .call ⟨.builtin .copy, args, tys⟩ => match tys.toList, args.toList with
   | [t0, _], [s, x] => copyT c o.dst (c.T t0).d (st.ev s) (st.ev x) st K
   | _, _ => False
 | .call ⟨.builtin .clear, args, tys⟩ => match tys.toList, args.toList with
   | [t0], [s] => clearT c o.dst (c.T t0).d (st.ev s) st K
   | _, _ => False
 | .call _ => False
 | .store t a x => optK (zrq c.T st t (st.ev a) (st.ev x)) fun st' => K (st'.put o.dst (.tup []))
 | op => outK st o.dst (opFn c.T c.eqs st.bs.length st.bs st.ev o.type op) K
def vOp (c : Cfg) (o : Oper) (st : St) (K : St → Prop) : Prop :=
 match pureD c st.bs st.ev o.op with
 | some x => K (st.put o.dst x)
 | none => zgh c o st K

theorem z2v {o : Oper} {st : St} {K : St → Prop} (h : vOp c o st K) : xOp c o st K := by
 unfold vOp at h
 split at h
 ·rename_i x hx
  exact z37 hx h
 ·rename_i hpure
  unfold zgh at h
  obtain ⟨dst, op, ty, pos, after, guard⟩ := o
  simp only at h hpure
  split at h
  ·rename_i f args tys
   split at h
   ·rename_i hl
    unfold xOp
    have hb : zdg c (.call ⟨.value f, args, tys⟩) = true := hl
    rw [if_pos hb]
    exact h
   ·rename_i hl
    unfold xOp
    have hb : ¬ zdg c (.call ⟨.value f, args, tys⟩) = true := hl
    rw [if_neg hb]
    unfold callV at h
    split at h
    ·rename_i fid first caps hf
     obtain ⟨r, nbs, h1, h2, h3, h4⟩ := h
     refine ⟨_, ?_, h3, h4⟩
     simp only [zhf, hf]
     exact ⟨r, nbs, h1, h2, rfl⟩
    ·cases h
  ·split at h
   ·rename_i t0 t1 s x h1 h2
    unfold appT at h
    split at h
    ·rename_i e h3
     unfold appK at h
     split at h
     ·rename_i ys hys
      obtain ⟨hf, h⟩ := h
      unfold appK2 at h
      split at h
      ·rename_i r st' hr
       unfold xOp
       rw [if_pos (by rfl)]
       simp only [xBar, h1, h2, h3]
       exact ⟨ys, r, st', hys, hf, hr, h⟩
      ·cases h
     ·cases h
    ·cases h
   ·cases h
  ·split at h
   ·rename_i t0 t1 s x h1 h2
    unfold copyT at h
    split at h
    ·rename_i e b off len h3 h4
     unfold copyK at h
     split at h
     ·rename_i ys hys
      obtain ⟨hf, hf2, h⟩ := h
      unfold overK at h
      split at h
      ·rename_i st' hr
       unfold xOp
       rw [if_pos (by rfl)]
       simp only [xBar, h1, h2, h3, copyB, h4]
       exact ⟨ys, st', hys, hf, hf2, hr, h⟩
      ·cases h
     ·cases h
    ·cases h
   ·cases h
  ·split at h
   ·rename_i t0 s h1 h2
    unfold clearT at h
    split at h
    ·rename_i e b off len h3 h4
     obtain ⟨hf, h⟩ := h
     unfold overK at h
     split at h
     ·rename_i st' hr
      unfold xOp
      rw [if_pos (by rfl)]
      simp only [xBar, h1, h2, h3, clearB, h4]
      exact ⟨st', hf, hr, h⟩
     ·cases h
    ·cases h
   ·cases h
  ·cases h
  ·unfold optK at h
   split at h
   ·rename_i st' hst
    unfold xOp
    rw [if_pos (by rfl)]
    exact ⟨st', hst, h⟩
   ·cases h
  ·rename_i g1 g2 g3 g4 g5 g6
   unfold outK at h
   split at h
   ·rename_i out hout
    have hb : zdg c op = false := by
     cases op <;> first | rfl | skip
     ·exact absurd rfl (g6 _ _ _)
     ·exact absurd rfl (g5 _)
    refine qft hb ?_ h.1 h.2
    cases op <;> first | exact hout | exact absurd rfl (g5 _) | skip
    rename_i t x lo hi mx
    cases hi <;> cases mx <;> first | exact hout | skip
    rename_i hi mx
    simp only [zhf]
    split
    ·rename_i hm
     simp only [pureD] at hpure
     rw [if_pos hm] at hpure
     cases hpure
    ·exact hout
   ·cases h
end
end Go.AM
/- AM: code in short: what the laws' proofs step through. -/
namespace Go.AM

structure SO where
 dst : Option Nat
 op : Op
 ty : Nat
 g : Option (Nat × Bool)

section
variable (d k s i t k2 : Nat)
@[simp] def oM : SO := ⟨some d, .move (.tmp s), t, none⟩
@[simp] def oA : SO := ⟨some d, .assign (.tmp s), t, none⟩
@[simp] def oI (n : Int) : SO := ⟨some d, .assign (.const (.int .i64 n)), t, none⟩
@[simp] def oV (b : Bool) : SO := ⟨some d, .assign (.const (.bool b)), t, none⟩
@[simp] def oL : SO := ⟨some d, .load k (.tmp s), t, none⟩
@[simp] def oF : SO := ⟨some d, .fieldAddr k (.tmp s) i, t, none⟩
@[simp] def oX : SO := ⟨some d, .indexAddr k (.tmp s) (.tmp i), t, none⟩
@[simp] def oE : SO := ⟨some d, .extract (.tmp s) i, t, none⟩
@[simp] def oP : SO := ⟨some d, .pick (.tmp s) (.tmp i) (.const (.bool false)), t, none⟩
@[simp] def oQ : SO := ⟨some d, .pick (.tmp s) (.const (.bool true)) (.tmp i), t, none⟩
@[simp] def oU : SO := ⟨some d, .unOp .not k (.tmp s), t, none⟩
@[simp] def oB (op : BinOp) : SO := ⟨some d, .binOp op k (.tmp s) (.tmp i) k2, t, none⟩
@[simp] def oK (op : BinOp) (n : Int) : SO := ⟨some d, .binOp op k (.tmp s) (.const (.int .i64 n)) k2, t, none⟩
@[simp] def oC (f : Nat) (a : Array Operand) (ts : Array TypeId) : SO := ⟨some d, .call ⟨.value (.func f), a, ts⟩, t, none⟩
@[simp] def oN : SO := ⟨some d, .call ⟨.builtin .len, #[.tmp s], #[k]⟩, t, none⟩
@[simp] def oS : SO := ⟨none, .store k (.tmp s) (.tmp i), 0, none⟩
@[simp] def oG (b : Bool) (o : SO) : SO := { o with g := some (t, b) }
end

inductive SC where
 | skip | ops (l : List SO) | alts (ls : List (List SO)) | seq (a b : SC) | cond (c : Operand) (a b : SC) | block (id : Nat) (a : SC) | loop (a : SC) | exit (id : Nat) | ret

def slimOp (ops : Array Oper) (o : Oper) : Option SO :=
 match o.guard with
 | none => some ⟨o.dst, o.op, o.type, none⟩
 | some (j, want) => match (ops[j]?).bind (·.dst) with
   | some t => some ⟨o.dst, o.op, o.type, some (t, want)⟩
   | none => none
def zwh (ops : Array Oper) : List Oper → Option (List SO)
 | [] => some []
 | o :: os => match slimOp ops o, zwh ops os with
   | some x, some xs => some (x :: xs)
   | _, _ => none
def zrp (ops : Array Oper) : List Pick → Option (List (List SO))
 | [] => some []
 | p :: ps => if zfx ops.size (zpm ops p) then (match zwh (zmz ops p) (zmz ops p).toList, zrp ops ps with
   | some x, some xs => some (x :: xs)
   | _, _ => none) else zrp ops ps
def slim (l : List Nat) : Code → Option SC
 | .skip => some .skip
 | .region _ ops draw => if zmh l ops draw then (match zrp ops (picks (zro l ops)) with
   | some t => some (.alts t)
   | none => none) else match zwh (canon ops draw) (canon ops draw).toList with
   | some l => some (.ops l)
   | none => none
 | .seq a b => match slim l a, slim l b with
   | some x, some y => some (.seq x y)
   | _, _ => none
 | .cond t a b => match slim l a, slim l b with
   | some x, some y => some (.cond t x y)
   | _, _ => none
 | .block id a => match slim l a with
   | some x => some (.block id x)
   | none => none
 | .loop a => match slim l a with
   | some x => some (.loop x)
   | none => none
 | .exit id => some (.exit id)
 | .ret => some .ret
 | _ => none

def SO.oper (o : SO) : Oper := { dst := o.dst, op := o.op, type := o.ty, pos := "", after := #[], guard := none }

def sOps (c : Cfg) : List SO → St → (St → Prop) → Prop
 | [], st, K => K st
 | o :: rest, st, K =>
   match o.g with
   | none => vOp c o.oper st fun st' => sOps c rest st' K
   | some (t, want) => match st.fr t with
     | .bool b => if b = want then vOp c o.oper st fun st' => sOps c rest st' K else sOps c rest (st.put o.dst (.tup [])) K
     | .tup [] => sOps c rest (st.put o.dst (.tup [])) K
     | _ => False

def sAlts (c : Cfg) : List (List SO) → St → (St → Prop) → Prop
 | [], st, K => True
 | l :: ls, st, K => sOps c l st K ∧ sAlts c ls st K

def seqQ (K : St → Prop) (Q : Ex → St → Prop) : Ex → St → Prop
 | .normal, st => K st
 | .exit i, st => Q (.exit i) st
 | .ret, st => Q .ret st
def zdk (id : Nat) (Q : Ex → St → Prop) : Ex → St → Prop
 | .normal, st => Q .normal st
 | .exit i, st => if i = id then Q .normal st else Q (.exit i) st
 | .ret, st => Q .ret st

def zcl (c : Cfg) : SC → St → (Ex → St → Prop) → Prop
 | .skip, st, Q => Q .normal st
 | .ops l, st, Q => sOps c l st (Q .normal)
 | .alts ls, st, Q => sAlts c ls st (Q .normal)
 | .seq x y, st, Q => zcl c x st (seqQ (fun st' => zcl c y st' Q) Q)
 | .cond t x y, st, Q => match st.ev t with
   | .bool b => if b = true then zcl c x st Q else zcl c y st Q
   | _ => False
 | .block id x, st, Q => zcl c x st (zdk id Q)
 | .loop x, st, Q => ∃ n, zeo st.bs.length (fun st K => zcl c x st K) Q n st
 | .exit id, st, Q => Q (.exit id) st
 | .ret, st, Q => Q .ret st

theorem qcd (c : Cfg) (k : Nat) (x : SC) (Q : Ex → St → Prop) (n : Nat) (st : St) : zeo k (fun st K => zcl c x st K) Q (n + 1) st = zcl c x st (seqQ (fun st' => zeo k (fun st K => zcl c x st K) Q n (trunc k st') ∨ (∃ ext, keepOk k ext st' ∧ zeo k (fun st K => zcl c x st K) Q n (zij k ext st')) ∨ zeo k (fun st K => zcl c x st K) Q n st') Q) := by
 rw [zeo]
 congr 1
 funext e st'
 cases e <;> rfl

theorem zz6 {c : Cfg} {o : Oper} {st : St} {K K' : St → Prop} (hK : ∀ st, K st → K' st) (h : xOp c o st K) : xOp c o st K' := by
 unfold xOp at h ⊢
 split at h
 ·rename_i hb
  rw [if_pos hb]
  unfold xBar at h ⊢
  split at h
  ·obtain ⟨st', h1, h2⟩ := h
   exact ⟨st', h1, hK _ h2⟩
  ·split at h
   ·rename_i hov; rw [if_pos hov]; exact ⟨h.1, hK _ h.2⟩
   rename_i hov
   rw [if_neg hov]
   split at h
   ·rename_i hgv
    rw [if_pos hgv]
    unfold zmb at h ⊢
    split at h
    ·obtain ⟨k, R, h1, h2, h3, h4, h5, h6, h7⟩ := h
     exact ⟨k, R, h1, h2, h3, h4, h5, h6, hK _ h7⟩
    ·cases h
   rename_i hgv
   rw [if_neg hgv]
   unfold zir at h ⊢
   split at h
   ·obtain ⟨r, bs', h1, h2⟩ := h
    exact ⟨r, bs', h1, hK _ h2⟩
   ·cases h
  ·split at h
   ·split at h
    ·obtain ⟨ys, r, st', h1, h2, h3, h4⟩ := h
     exact ⟨ys, r, st', h1, h2, h3, hK _ h4⟩
    ·cases h
   ·cases h
  ·split at h
   ·split at h
    ·unfold copyB at h ⊢
     split at h
     ·obtain ⟨ys, st', h1, h2, h3, h4, h5⟩ := h
      exact ⟨ys, st', h1, h2, h3, h4, hK _ h5⟩
     ·cases h
    ·cases h
   ·cases h
  ·split at h
   ·split at h
    ·unfold clearB at h ⊢
     split at h
     ·obtain ⟨st', h1, h2, h3⟩ := h
      exact ⟨st', h1, h2, hK _ h3⟩
     ·cases h
    ·cases h
   ·cases h
  ·cases h
 ·rename_i hb
  rw [if_neg hb]
  obtain ⟨out, h1, h2, h3⟩ := h
  exact ⟨out, h1, h2, hK _ h3⟩

theorem z7a {c : Cfg} {o : Oper} {x : SO} {st : St} {K : St → Prop} (hd : x.dst = o.dst) (ho : x.op = o.op) (ht : x.ty = o.type) (h : xOp c x.oper st K) : xOp c o st K := by
 obtain ⟨dst, op, ty, pos, after, guard⟩ := o
 obtain ⟨dst', op', ty', g⟩ := x
 simp only at hd ho ht
 subst hd ho ht
 exact h

theorem z60 {c : Cfg} {ops : Array Oper} : ∀ (l : List Oper) (sl : List SO) (st : St) (K : St → Prop), zwh ops l = some sl → sOps c sl st K → xOps c ops l st K := by
 intro l
 induction l with
 | nil => intro sl st K hs h; cases hs; exact h
 | cons o os ih =>
   intro sl st K hs h
   unfold zwh at hs
   split at hs
   ·rename_i x xs hx hxs
    cases hs
    unfold xOps
    unfold sOps at h
    unfold slimOp at hx
    cases hg : o.guard with
    | none =>
      rw [hg] at hx
      simp only [Option.some.injEq] at hx
      subst hx
      simp only at h
      simp only [wantD, hg]
      exact z7a rfl rfl rfl (zz6 (fun st' h' => ih xs st' K hxs h') (z2v h))
    | some p =>
      obtain ⟨j, want⟩ := p
      rw [hg] at hx
      simp only at hx
      cases ht : (ops[j]?).bind (·.dst) with
      | none => rw [ht] at hx; cases hx
      | some t =>
        rw [ht] at hx
        simp only [Option.some.injEq] at hx
        subst hx
        simp only at h
        simp only [wantD, hg, ht]
        split at h
        ·rename_i b hb
         rw [hb]
         simp only
         split at h
         ·rename_i hw
          subst hw
          simp only [beq_self_eq_true]
          exact z7a rfl rfl rfl (zz6 (fun st' h' => ih xs st' K hxs h') (z2v h))
         ·rename_i hw
          have : (b == want) = false := by simpa using hw
          simp only [this]
          exact ih xs _ K hxs h
        ·rename_i hb
         rw [hb]
         exact ih xs _ K hxs h
        ·cases h
   ·cases hs

theorem z1e {c : Cfg} {ops : Array Oper} : ∀ (l : List Oper) (st : St) (K K' : St → Prop), (∀ st, K st → K' st) → xOps c ops l st K → xOps c ops l st K' := by
 intro l
 induction l with
 | nil => intro st K K' hK h; exact hK _ h
 | cons o os ih =>
   intro st K K' hK h
   unfold xOps at h ⊢
   split at h
   ·exact zz6 (fun st' h' => ih st' K K' hK h') h
   ·exact ih _ K K' hK h
   ·cases h

theorem zni {k : Nat} {b b' : St → (Ex → St → Prop) → Prop} {Q Q' : Ex → St → Prop} (hb : ∀ st (R R' : Ex → St → Prop), (∀ e st, R e st → R' e st) → b st R → b' st R') (hQ : ∀ e st, Q e st → Q' e st) :
 ∀ (n : Nat) (st : St), zeo k b Q n st → zeo k b' Q' n st := by
 intro n
 induction n with
 | zero => intro st h; exact h
 | succ n ih =>
   intro st h
   refine hb _ _ _ ?_ h
   intro e st' h'
   cases e with
   | normal =>
     rcases h' with h' | ⟨ext, h1, h2⟩ | h'
     ·exact .inl (ih _ h')
     ·exact .inr (.inl ⟨ext, h1, ih _ h2⟩)
     ·exact .inr (.inr (ih _ h'))
   | exit i => exact hQ _ _ h'
   | ret => exact hQ _ _ h'

theorem qb3 {c : Cfg} {ops : Array Oper} {K : St → Prop} {st : St} : ∀ (ps : List Pick) (ls : List (List SO)), zrp ops ps = some ls → sAlts c ls st K → ∀ p ∈ ps, zfx ops.size (zpm ops p) = true → xOps c (zmz ops p) (zmz ops p).toList st K := by
 intro ps
 induction ps with
 | nil => intro ls _ _ p hp; cases hp
 | cons q ps ih =>
   intro ls hs h p hp hperm
   simp only [zrp] at hs
   by_cases hq : zfx ops.size (zpm ops q) = true
   ·rw [if_pos hq] at hs
    split at hs
    ·rename_i x xs hx hxs
     cases hs
     rcases List.mem_cons.1 hp with rfl | hp
     ·exact z60 _ _ _ _ hx h.1
     ·exact ih xs hxs h.2 p hp hperm
    ·cases hs
   ·rw [if_neg hq] at hs
    rcases List.mem_cons.1 hp with rfl | hp
    ·exact absurd hperm hq
    ·exact ih ls hs h p hp hperm

theorem zox {c : Cfg} : ∀ (code : Code) (st : St) (Q Q' : Ex → St → Prop), (∀ e st, Q e st → Q' e st) → zkh c code st Q → zkh c code st Q' := by
 intro code
 induction code with
 | skip => intro st Q Q' hQ h; exact hQ _ _ h
 | region id ops draw =>
   intro st Q Q' hQ h
   simp only [zkh] at h ⊢
   by_cases ha : zmh c.lendT ops draw = true
   ·rw [if_pos ha] at h ⊢
    exact fun p hp hperm => z1e _ _ _ _ (fun st h => hQ _ st h) (h p hp hperm)
   ·rw [if_neg ha] at h ⊢
    exact z1e _ _ _ _ (fun st h => hQ _ st h) h
 | seq x y ihx ihy =>
   intro st Q Q' hQ h
   refine ihx _ _ _ ?_ h
   intro e st' h'
   cases e with
   | normal => exact ihy _ _ _ hQ h'
   | exit i => exact hQ _ _ h'
   | ret => exact hQ _ _ h'
 | cond t x y ihx ihy =>
   intro st Q Q' hQ h
   simp only [zkh] at h ⊢
   split at h
   ·rename_i b hb
    cases b with
    | true => exact ihx _ _ _ hQ h
    | false => exact ihy _ _ _ hQ h
   ·cases h
 | block id x ih =>
   intro st Q Q' hQ h
   refine ih _ _ _ ?_ h
   intro e st' h'
   cases e with
   | normal => exact hQ _ _ h'
   | exit i =>
     simp only at h' ⊢
     split at h'
     ·rename_i hi; rw [if_pos hi]; exact hQ _ _ h'
     ·rename_i hi; rw [if_neg hi]; exact hQ _ _ h'
   | ret => exact hQ _ _ h'
 | loop x ih =>
   intro st Q Q' hQ h
   obtain ⟨n, h⟩ := h
   exact ⟨n, zni (fun st R R' hR h => ih st R R' hR h) hQ n st h⟩
 | exit id => intro st Q Q' hQ h; exact hQ _ _ h
 | ret => intro st Q Q' hQ h; exact hQ _ _ h
 | rangeFunc _ _ _ _ => intro st Q Q' hQ h; cases h
 | scope _ => intro st Q Q' hQ h; cases h
 | label _ => intro st Q Q' hQ h; cases h
 | goto _ => intro st Q Q' hQ h; cases h
 | refuse _ => intro st Q Q' hQ h; cases h

theorem qa2 {c : Cfg} : ∀ (code : Code) (s : SC) (st : St) (Q : Ex → St → Prop), slim c.lendT code = some s → zcl c s st Q → zkh c code st Q := by
 intro code
 induction code with
 | skip => intro s st Q hs h; cases hs; exact h
 | region id ops draw =>
   intro s st Q hs h
   unfold slim at hs
   simp only [zkh]
   by_cases ha : zmh c.lendT ops draw = true
   ·rw [if_pos ha] at hs ⊢
    split at hs
    ·rename_i t ht; cases hs; exact qb3 _ _ ht h
    ·cases hs
   rw [if_neg ha] at hs ⊢
   split at hs
   ·rename_i l hl; cases hs; exact z60 _ _ _ _ hl h
   ·cases hs
 | seq x y ihx ihy =>
   intro s st Q hs h
   unfold slim at hs
   split at hs
   ·rename_i a b ha hb
    cases hs
    have h1 := ihx a st _ ha (by simpa only [zcl] using h)
    refine zox x st _ _ ?_ h1
    intro e st' h'
    cases e with
    | normal => exact ihy _ _ _ hb h'
    | exit i => exact h'
    | ret => exact h'
   ·cases hs
 | cond t x y ihx ihy =>
   intro s st Q hs h
   unfold slim at hs
   split at hs
   ·rename_i a b ha hb
    cases hs
    simp only [zcl] at h
    simp only [zkh]
    split at h
    ·rename_i v hv
     try rw [hv]
     cases v with
     | true => exact ihx _ _ _ ha (by simpa using h)
     | false => exact ihy _ _ _ hb (by simpa using h)
    ·cases h
   ·cases hs
 | block id x ih =>
   intro s st Q hs h
   unfold slim at hs
   split at hs
   ·rename_i a ha
    cases hs
    refine zox x st _ _ ?_ (ih _ _ _ ha h)
    intro e st' h'
    cases e with
    | normal => exact h'
    | exit i =>
      simp only [zdk] at h'
      exact h'
    | ret => exact h'
   ·cases hs
 | loop x ih =>
   intro s st Q hs h
   unfold slim at hs
   split at hs
   ·rename_i a ha
    cases hs
    obtain ⟨n, h⟩ := h
    exact ⟨n, zni (b := fun st K => zcl c a st K) (b' := fun st K => zkh c x st K) (fun st R R' hR h => zox _ _ _ _ hR (ih a st R ha h)) (fun _ _ h => h) n st h⟩
   ·cases hs
 | exit id => intro s st Q hs h; cases hs; exact h
 | ret => intro s st Q hs h; cases hs; exact h
 | rangeFunc _ _ _ _ => intro s st Q hs h; cases hs
 | scope _ => intro s st Q hs h; cases hs
 | label _ => intro s st Q hs h; cases hs
 | goto _ => intro s st Q hs h; cases hs
 | refuse _ => intro s st Q hs h; cases hs

structure SF where
 ntmps : Nat
 res : List ResultVar
 body : SC

def finQ (c : Cfg) (res : List ResultVar) (r : D) (bs' : List Blk) : Ex → St → Prop
 | .normal, st => ∃ ds, resL c.T st res = some ds ∧ zax c.n0 st (zpo ds) = some (r, bs')
 | .ret, st => ∃ ds, resL c.T st res = some ds ∧ zax c.n0 st (zpo ds) = some (r, bs')
 | .exit _, _ => False

def sFun (c : Cfg) (F : SF) (args : List D) (bs : List Blk) (r : D) (bs' : List Blk) : Prop :=
 zcl c F.body (start args bs) (finQ c F.res r bs')

def isF (P : Program) (c : Cfg) (f : Nat) (F : SF) : Prop :=
 ∃ fn body, P.funcs[f]? = some fn ∧ (fn.name == "runtime.NumGoroutine") = false ∧ fn.body = some body ∧ zfo c F.ntmps body = true ∧ fn.ntmps = F.ntmps ∧ fn.results.toList = F.res ∧ slim c.lendT body = some F.body

theorem zf6 (c : Cfg) (m : Nat) : ∀ code, zfo c m code = zfo (bare c.lendT) m code
 | .skip => rfl
 | .region _ _ _ => rfl
 | .seq a b => by simp only [zfo, zf6 c m a, zf6 c m b]
 | .cond _ a b => by simp only [zfo, zf6 c m a, zf6 c m b]
 | .block _ a => by simp only [zfo, zf6 c m a]
 | .loop a => by simp only [zfo, zf6 c m a]
 | .exit _ => rfl
 | .ret => rfl
 | .rangeFunc _ _ _ _ => rfl
 | .scope _ => rfl
 | .label _ => rfl
 | .goto _ => rfl
 | .refuse _ => rfl

theorem qjg {P : Program} {c : Cfg} {f : Nat} {F : SF} {fn : Func} {body : Code} {l : List Nat} (h1 : P.funcs[f]? = some fn) (h2 : (fn.name == "runtime.NumGoroutine") = false) (h3 : fn.body = some body) (hl : c.lendT = l)
 (h4 : zfo (bare l) F.ntmps body = true) (h5 : fn.ntmps = F.ntmps) (h6 : fn.results.toList = F.res) (h7 : slim l body = some F.body) : isF P c f F :=
 ⟨fn, body, h1, h2, h3, by rw [zf6, hl]; exact h4, h5, h6, by rw [hl]; exact h7⟩

theorem zvd {P : Program} {c : Cfg} {f : Nat} {F : SF} {args : List D} {bs : List Blk} {r : D} {bs' : List Blk} (hP : P.follows .mixedOrders = true) (hT : TabOk P c.T c.eqs) (hC : ∀ f args bs r bs', c.C f args bs r bs' → Den P f args bs r bs')
 (hG : ∀ f args bs r bs', c.G f args bs r bs' → DenF P [0] f args bs r bs') (hO : ∀ f ∈ c.ovl, zqa P c.T f) (hfull : ∀ b ∈ c.full, b < c.n0) (hF : isF P c f F) (hn0 : c.n0 = bs.length) (h : sFun c F args bs r bs') : DenF P c.full f args bs r bs' := by
 obtain ⟨fn, body, hf, hn, hb, hok, hm, hr, hs⟩ := hF
 refine qax hP hf hn hb (hm ▸ hok) hT hC hG hO hfull hn0 ?_
 unfold xFun
 rw [hr]
 refine zox _ _ _ _ ?_ (qa2 _ _ _ _ hs h)
 intro e st h'
 cases e with
 | normal => exact ⟨.inl rfl, h'⟩
 | ret => exact ⟨.inr rfl, h'⟩
 | exit i => exact h'.elim

theorem z80 {P : Program} {c : Cfg} {f : Nat} {F : SF} {args : List D} {bs : List Blk} {r : D} {bs' : List Blk} (hP : P.follows .mixedOrders = true) (hT : TabOk P c.T c.eqs) (hC : ∀ f args bs r bs', c.C f args bs r bs' → Den P f args bs r bs')
 (hG : ∀ f args bs r bs', c.G f args bs r bs' → DenF P [0] f args bs r bs') (hO : ∀ f ∈ c.ovl, zqa P c.T f) (hfull : c.full = []) (hF : isF P c f F) (hn0 : c.n0 = bs.length) (h : sFun c F args bs r bs') : Den P f args bs r bs' := by
 have h1 := zvd hP hT hC hG hO (by rw [hfull]; intro b hb; cases hb) hF hn0 h
 rw [hfull] at h1
 exact h1.den

section
variable {c : Cfg}
def restK (c : Cfg) (l : List SO) (K : St → Prop) : St → Prop := fun st => sOps c l st K
def codeK (c : Cfg) (x : SC) (Q : Ex → St → Prop) : St → Prop := fun st => zcl c x st Q
def loopK (c : Cfg) (k : Nat) (x : SC) (Q : Ex → St → Prop) (n : Nat) : St → Prop := fun st => zeo k (fun st K => zcl c x st K) Q n (trunc k st)
def loopN (c : Cfg) (k : Nat) (x : SC) (Q : Ex → St → Prop) (n : Nat) : St → Prop := fun st => zeo k (fun st K => zcl c x st K) Q n (trunc k st) ∨ (∃ ext, keepOk k ext st ∧ zeo k (fun st K => zcl c x st K) Q n (zij k ext st)) ∨ zeo k (fun st K => zcl c x st K) Q n st
def zlf (c : Cfg) (k : Nat) (x : SC) (Q : Ex → St → Prop) (n : Nat) (st : St) : Prop := zeo k (fun st K => zcl c x st K) Q n st
def zsr (c : Cfg) (k : Nat) (x : SC) (Q : Ex → St → Prop) (st : St) : Prop := ∃ n, zlf c k x Q n st
def gOps (c : Cfg) (b : Bool) (o : SO) (l : List SO) (st : St) (K : St → Prop) : Prop := if b = true then vOp c o.oper st (restK c l K) else sOps c l (st.put o.dst (.tup [])) K
def zit (c : Cfg) (b : Bool) (x y : SC) (st : St) (Q : Ex → St → Prop) : Prop := if b = true then zcl c x st Q else zcl c y st Q
def z0a (c : Cfg) (d : D) (want : Bool) (o : SO) (l : List SO) (st : St) (K : St → Prop) : Prop := match d with
 | .bool b => gOps c (b == want) o l st K
 | .tup [] => sOps c l (st.put o.dst (.tup [])) K
 | _ => False
def condD (c : Cfg) (d : D) (x y : SC) (st : St) (Q : Ex → St → Prop) : Prop := match d with
 | .bool b => zit c b x y st Q
 | _ => False
def callEnd (c : Cfg) (dst : Option Nat) (ids : List Nat) (r : D) (nbs : List Blk) (st : St) (K : St → Prop) : Prop :=
 (nbs.all fun b => !b.kind.isBox) = true ∧ ((zh4 (ownT c dst) st.bs.length r nbs ids).down.all fun b => decide (b < st.bs.length)) = true ∧ K (st.out dst (zh4 (ownT c dst) st.bs.length r nbs ids))
def callThen (c : Cfg) (dst : Option Nat) (f : Nat) (args : List D) (ids : List Nat) (st : St) (K : St → Prop) : Prop := ∃ r nbs, c.C f args [] r nbs ∧ callEnd c dst ids r nbs st K
def pureV (c : Cfg) (x : Option D) (o : SO) (st : St) (K : St → Prop) : Prop := match x with
 | some x => K (st.put o.dst x)
 | none => zgh c o.oper st K

theorem qd9 (l : List SO) (K : St → Prop) (st : St) : restK c l K st = sOps c l st K := rfl
theorem qe1 (x : SC) (Q : Ex → St → Prop) (st : St) : codeK c x Q st = zcl c x st Q := rfl
theorem qea (k : Nat) (x : SC) (Q : Ex → St → Prop) (n : Nat) (st : St) : loopK c k x Q n st = zlf c k x Q n (trunc k st) := rfl
theorem qed (st : St) (K : St → Prop) : sOps c [] st K = K st := rfl
theorem qao (dst : Option Nat) (op : Op) (ty : Nat) (l : List SO) (st : St) (K : St → Prop) : sOps c (⟨dst, op, ty, none⟩ :: l) st K = vOp c (SO.oper ⟨dst, op, ty, none⟩) st (restK c l K) := rfl
theorem qba (dst : Option Nat) (op : Op) (ty t : Nat) (w : Bool) (l : List SO) (st : St) (K : St → Prop) : sOps c (⟨dst, op, ty, some (t, w)⟩ :: l) st K = z0a c (st.fr t) w ⟨dst, op, ty, none⟩ l st K := by
 rw [sOps]
 unfold z0a
 simp only
 split
 ·rename_i b hb
  simp only [gOps]
  by_cases h : b = w
  ·rw [if_pos h, if_pos (by simp [h])]; rfl
  ·rw [if_neg h, if_neg (by simp [h])]
 ·rfl
 ·rfl
theorem z22 (b w : Bool) (o : SO) (l : List SO) (st : St) (K : St → Prop) : z0a c (.bool b) w o l st K = gOps c (b == w) o l st K := rfl
theorem z1g (w : Bool) (o : SO) (l : List SO) (st : St) (K : St → Prop) : z0a c (.tup []) w o l st K = sOps c l (st.put o.dst (.tup [])) K := rfl
theorem qa7 (o : SO) (l : List SO) (st : St) (K : St → Prop) : gOps c true o l st K = vOp c o.oper st (restK c l K) := by simp [gOps]
theorem z8e (o : SO) (l : List SO) (st : St) (K : St → Prop) : gOps c false o l st K = sOps c l (st.put o.dst (.tup [])) K := by simp [gOps]
theorem zac {b : Bool} {o : SO} {l : List SO} {st : St} {K : St → Prop} (h1 : b = true → gOps c true o l st K) (h2 : b = false → gOps c false o l st K) : gOps c b o l st K := by
 cases b
 ·exact h2 rfl
 ·exact h1 rfl
theorem z7h (st : St) (Q : Ex → St → Prop) : zcl c .skip st Q = Q .normal st := rfl
theorem z8c (ls : List (List SO)) (st : St) (Q : Ex → St → Prop) : zcl c (.alts ls) st Q = sAlts c ls st (Q .normal) := rfl
theorem qcg (st : St) (K : St → Prop) : sAlts c [] st K = True := rfl
theorem qb7 (l : List SO) (st : St) (K : St → Prop) : sAlts c [l] st K = sOps c l st K := by simp [sAlts]
theorem z7g (l l' : List SO) (ls : List (List SO)) (st : St) (K : St → Prop) : sAlts c (l :: l' :: ls) st K = (sOps c l st K ∧ sAlts c (l' :: ls) st K) := rfl
theorem qco (l : List SO) (st : St) (Q : Ex → St → Prop) : zcl c (.ops l) st Q = sOps c l st (Q .normal) := rfl
theorem qcy (x y : SC) (st : St) (Q : Ex → St → Prop) : zcl c (.seq x y) st Q = zcl c x st (seqQ (codeK c y Q) Q) := rfl
theorem z9k (t : Operand) (x y : SC) (st : St) (Q : Ex → St → Prop) : zcl c (.cond t x y) st Q = condD c (st.ev t) x y st Q := rfl
theorem z7j (b : Bool) (x y : SC) (st : St) (Q : Ex → St → Prop) : condD c (.bool b) x y st Q = zit c b x y st Q := rfl
theorem z8u (x y : SC) (st : St) (Q : Ex → St → Prop) : zit c true x y st Q = zcl c x st Q := by simp [zit]
theorem z57 (x y : SC) (st : St) (Q : Ex → St → Prop) : zit c false x y st Q = zcl c y st Q := by simp [zit]
theorem zab {b : Bool} {x y : SC} {st : St} {Q : Ex → St → Prop} (h1 : b = true → zit c true x y st Q) (h2 : b = false → zit c false x y st Q) : zit c b x y st Q := by
 cases b
 ·exact h2 rfl
 ·exact h1 rfl
theorem z5a (id : Nat) (x : SC) (st : St) (Q : Ex → St → Prop) : zcl c (.block id x) st Q = zcl c x st (zdk id Q) := rfl
theorem z9g (x : SC) (st : St) (Q : Ex → St → Prop) : zcl c (.loop x) st Q = zsr c st.bs.length x Q st := rfl
theorem z98 (i : Nat) (st : St) (Q : Ex → St → Prop) : zcl c (.exit i) st Q = Q (.exit i) st := rfl
theorem qb5 (st : St) (Q : Ex → St → Prop) : zcl c .ret st Q = Q .ret st := rfl
theorem z42 (K : St → Prop) (Q : Ex → St → Prop) (st : St) : seqQ K Q .normal st = K st := rfl
theorem z1k (K : St → Prop) (Q : Ex → St → Prop) : seqQ K Q .normal = K := rfl
theorem qcx (K : St → Prop) (Q : Ex → St → Prop) (i : Nat) (st : St) : seqQ K Q (.exit i) st = Q (.exit i) st := rfl
theorem qfk (K : St → Prop) (Q : Ex → St → Prop) (st : St) : seqQ K Q .ret st = Q .ret st := rfl
theorem zzi (id : Nat) (Q : Ex → St → Prop) (st : St) : zdk id Q .normal st = Q .normal st := rfl
theorem z39 (id i : Nat) (Q : Ex → St → Prop) (st : St) : zdk id Q (.exit i) st = if i = id then Q .normal st else Q (.exit i) st := rfl
theorem z82 (id : Nat) (Q : Ex → St → Prop) (st : St) : zdk id Q .ret st = Q .ret st := rfl
theorem zkw (k : Nat) (x : SC) (Q : Ex → St → Prop) (n : Nat) (st : St) : zlf c k x Q (n + 1) st = zcl c x st (seqQ (loopN c k x Q n) Q) := qcd c k x Q n st
theorem zdm {k : Nat} {x : SC} {Q : Ex → St → Prop} {st : St} (n : Nat) (h : zlf c k x Q n st) : zsr c k x Q st := ⟨n, h⟩
theorem qdf (dst : Option Nat) (f : Nat) (first caps args : List D) (st : St) (K : St → Prop) :
 callV c dst (.fn f first caps) args st K = callThen c dst f ((first ++ args ++ caps).map (D.freeze st.bs)) (reach st.bs (idsL (first ++ args ++ caps))) st K := rfl
theorem zaa {dst : Option Nat} {f : Nat} {args : List D} {ids : List Nat} {st : St} {K : St → Prop} {r : D} {nbs : List Blk} (h : c.C f args [] r nbs) (h2 : callEnd c dst ids r nbs st K) : callThen c dst f args ids st K := ⟨r, nbs, h, h2⟩
theorem qdw (dst : Option Nat) (op : Op) (ty : Nat) (st : St) (K : St → Prop) : vOp c (SO.oper ⟨dst, op, ty, none⟩) st K = pureV c (pureD c st.bs st.ev op) ⟨dst, op, ty, none⟩ st K := rfl
theorem z8s (x : D) (dst : Option Nat) (op : Op) (ty : Nat) (st : St) (K : St → Prop) : pureV c (some x) ⟨dst, op, ty, none⟩ st K = K (st.put dst x) := rfl
theorem z9u (dst : Option Nat) (op : Op) (ty : Nat) (st : St) (K : St → Prop) : pureV c none ⟨dst, op, ty, none⟩ st K = zgh c (SO.oper ⟨dst, op, ty, none⟩) st K := rfl
theorem z46 (dst : Option Nat) (f : Operand) (args : Array Operand) (tys : Array TypeId) (ty : Nat) (st : St) (K : St → Prop) :
 zgh c (SO.oper ⟨dst, .call ⟨.value f, args, tys⟩, ty, none⟩) st K = if isLend c f args = true then barV c dst f args st K else callV c dst (st.ev f) (args.toList.map st.ev) st K := rfl
theorem zyr (dst : Option Nat) (s x : Operand) (t0 t1 : Nat) (ty : Nat) (st : St) (K : St → Prop) :
 zgh c (SO.oper ⟨dst, .call ⟨.builtin .append, #[s, x], #[t0, t1]⟩, ty, none⟩) st K = appT c dst (c.T t0).d (c.T t1).d (st.ev s) (st.ev x) st K := rfl
theorem z7w (dst : Option Nat) (e : Nat) (t1 : TD) (s x : D) (st : St) (K : St → Prop) : appT c dst (.slice e) t1 s x st K = appK c dst e s (ziu c.T st.bs e t1 x) st K := rfl
theorem zwt (T : Tab) (bs : List Blk) (e e' : Nat) (x : D) : ziu T bs e (.slice e') x = zkj bs x := rfl
theorem z1t (T : Tab) (bs : List Blk) (e : Nat) (k k' : IntKind) (n : Int) : ziu T bs e (.int k) (.int k' n) = if 0 ≤ n ∧ n * (T e).bytes ≤ 140737488355328 ∧ n ≤ 9223372036854775807 then some (zas n.toNat (T e).zero) else none := rfl
theorem z4u (dst : Option Nat) (s x : Operand) (t0 t1 : Nat) (ty : Nat) (st : St) (K : St → Prop) :
 zgh c (SO.oper ⟨dst, .call ⟨.builtin .copy, #[s, x], #[t0, t1]⟩, ty, none⟩) st K = copyT c dst (c.T t0).d (st.ev s) (st.ev x) st K := rfl
theorem z0w (dst : Option Nat) (s : Operand) (t0 : Nat) (ty : Nat) (st : St) (K : St → Prop) :
 zgh c (SO.oper ⟨dst, .call ⟨.builtin .clear, #[s], #[t0]⟩, ty, none⟩) st K = clearT c dst (c.T t0).d (st.ev s) st K := rfl
theorem z3n (dst : Option Nat) (e b off len : Nat) (x : D) (st : St) (K : St → Prop) : copyT c dst (.slice e) (.ref b off len) x st K = copyK c dst e b off len (zkj st.bs x) st K := rfl
theorem z9s (dst : Option Nat) (e b off len : Nat) (ys : List (List D)) (st : St) (K : St → Prop) : copyK c dst e b off len (some ys) st K =
 ((∀ r ∈ ys, r.length = (c.T e).size) ∧ Fits (c.T e).size (ys.take len) ∧ overK dst (.int .i64 ((ys.take len).length : Int)) (zo7 st (.ref b off len) (c.T e).size (ys.take len)) K) := rfl
theorem z2x (dst : Option Nat) (e b off len : Nat) (st : St) (K : St → Prop) : clearT c dst (.slice e) (.ref b off len) st K =
 (Fits (c.T e).size (zas len (c.T e).zero) ∧ overK dst (.tup []) (zo7 st (.ref b off len) (c.T e).size (zas len (c.T e).zero)) K) := rfl
theorem z8q (dst : Option Nat) (d : D) (st : St) (K : St → Prop) : overK dst d (some st) K = K (st.put dst d) := rfl
theorem z5k (dst : Option Nat) (f b len : Nat) (rest : List D) (st : St) (K : St → Prop) : zmb c dst (.fn f [] []) (.ref b 0 len :: rest) st K = z0c c dst f b len rest st K := rfl
theorem zjf {dst : Option Nat} {f b len : Nat} {rest : List D} {st : St} {K : St → Prop} {R : List (List D)} {rows : List (List D)} {esz : Nat} (hb : st.bs[b]? = some ⟨rows, esz, .mut⟩) (hn : c.n0 ≤ b) (hl : rows.length = len)
 (hr : (reach st.bs (idsL rest)).contains b = false) (hg : zgz c.G f rows esz (rest.map (D.freeze st.bs)) R)
 (hK : K (St.put ⟨zjl (· == b) st.fr, zbj ((zar (reach st.bs (idsL rest)) st.bs).map (Blk.sweep (· == b))) b R⟩ dst (.ref b 0 R.length))) : z0c c dst f b len rest st K :=
 ⟨⟨rows, esz, .mut⟩, R, hb, hn, rfl, hl, hr, hg, hK⟩
theorem z1h (dst : Option Nat) (e : Nat) (base : D) (ys : List (List D)) (st : St) (K : St → Prop) : appK c dst e base (some ys) st K = (Fits (c.T e).size ys ∧ appK2 dst (zjn c st e base ys) K) := rfl
theorem z9b (dst : Option Nat) (r : D) (st' : St) (K : St → Prop) : appK2 dst (some (r, st')) K = K (st'.put dst r) := rfl
def putK (dst : Option Nat) (K : St → Prop) : St → Prop := fun st => K (st.put dst (.tup []))
theorem qg6 (dst : Option Nat) (K : St → Prop) (st : St) : putK dst K st = K (st.put dst (.tup [])) := rfl
theorem z1x (dst : Option Nat) (t : Nat) (a x : Operand) (ty : Nat) (st : St) (K : St → Prop) :
 zgh c (SO.oper ⟨dst, .store t a x, ty, none⟩) st K = optK (zrq c.T st t (st.ev a) (st.ev x)) (putK dst K) := rfl
theorem qav (st : St) (K : St → Prop) : optK (some st) K = K st := rfl
theorem z2i (dst : Option Nat) (e ty : Nat) (st : St) (K : St → Prop) :
 zgh c (SO.oper ⟨dst, .alloc e, ty, none⟩) st K = outK st dst (if (c.T e).d.known = true then some { d := .ptr st.bs.length 0 0, news := [⟨[(c.T e).zero], (c.T e).zero.length, .box⟩] } else none) K := rfl
theorem z8m (dst : Option Nat) (e : Nat) (x : Operand) (ty : Nat) (st : St) (K : St → Prop) :
 zgh c (SO.oper ⟨dst, .box e x, ty, none⟩) st K = outK st dst (opFn c.T c.eqs st.bs.length st.bs st.ev ty (.box e x)) K := rfl
theorem zyy (dst : Option Nat) (x : Operand) (ty : Nat) (st : St) (K : St → Prop) :
 zgh c (SO.oper ⟨dst, .assign x, ty, none⟩) st K = outK st dst (opFn c.T c.eqs st.bs.length st.bs st.ev ty (.assign x)) K := rfl
theorem zsn (dst : Option Nat) (t n : Nat) (ps : Array (Nat × Operand)) (ty : Nat) (st : St) (K : St → Prop) :
 zgh c (SO.oper ⟨dst, .buildSlice t n ps, ty, none⟩) st K = outK st dst (opFn c.T c.eqs st.bs.length st.bs st.ev ty (.buildSlice t n ps)) K := rfl
theorem ztn (dst : Option Nat) (t : Nat) (l n : Operand) (ty : Nat) (st : St) (K : St → Prop) :
 zgh c (SO.oper ⟨dst, .makeSlice t l n, ty, none⟩) st K = outK st dst (opFn c.T c.eqs st.bs.length st.bs st.ev ty (.makeSlice t l n)) K := rfl
theorem z0h (dst : Option Nat) (t : Nat) (x : Operand) (lo hi mx : Option Operand) (ty : Nat) (st : St) (K : St → Prop) :
 zgh c (SO.oper ⟨dst, .slice t x lo hi mx, ty, none⟩) st K = outK st dst (zjm c.T st.bs t (st.ev x) (lo.map st.ev) (hi.map st.ev) (mx.map st.ev)) K := rfl
theorem qa5 (st : St) (dst : Option Nat) (out : Out) (K : St → Prop) : outK st dst (some out) K = ((out.down.all fun b => decide (b < st.bs.length)) = true ∧ K (st.out dst out)) := rfl
end
end Go.AM
