/- What the proof of this claim stands on, part 15. -/
import Derived.JoinedCond
import Derived.Test.YtehagcggdepajaaGreatAmZ14
set_option linter.unusedVariables false
set_option linter.unusedSimpArgs false
set_option maxRecDepth 8000
set_option maxHeartbeats 0
/- AM: what a row's arguments read as, told as data, where their bulk is bounded. -/
namespace Go.AM
set_option linter.unusedSectionVars false
open Go.ChangeShapes Go.WideShapes Go.ChangeAt Go.RowKit
def szD : D → Nat
 | .sl rows _ => szRows rows
 | .agg cs => szL cs
 | .undef => 0
 | .int _ _ => 0
 | .bool _ => 0
 | .nil => 0
 | .zs _ => 0
 | .mem _ => 0
 | .ref _ _ _ => 0
 | .ptr _ _ _ => 0
 | .tup _ => 0
 | .fn _ _ _ => 0
 where
 szL : List D → Nat
 | [] => 0
 | d :: ds => szD d + szL ds
 szRows : List (List D) → Nat
 | [] => 0
 | r :: rs => szL r + 1 + szRows rs
open szD (szL szRows)
theorem zyi : ∀ (a b : List D), szL (a ++ b) = szL a + szL b := by
 intro a
 induction a with
 | nil => intro b; simp [szL]
 | cons d a ih => intro b; simp [szL, ih]; omega
def zgw (T : Tab) : Nat → Nat → Bool
 | 0, _ => false
 | n + 1, t => match (T t).d with
   | .int _ => decide ((T t).size = 1)
   | .bool => decide ((T t).size = 1)
   | .slice e => decide ((T t).size = 1) && zgw T n e && decide (0 < (T e).size) && decide ((T e).bytes ≤ 1000)
   | .struct fs => (fs.all fun f => zgw T n f.2) && decide (zm2 T 0 fs = some (T t).size)
   | _ => false
theorem zhk {T : Tab} {n t : Nat} (h : zgw T n t = true) : (T t).d.known = true := by
 cases n with
 | zero => cases h
 | succ n =>
   unfold zgw at h
   revert h
   cases (T t).d <;> intro h <;> first | rfl | cases h
section
variable {H : Type} {B : DataW H → Nat} {BA : List (DataW H) → Nat} (hB1 : ∀ d, 1 ≤ B d) (hB0 : BA [] = 0) (hBc : ∀ d r, BA (d :: r) = B d + BA r)
include hB0 hBc in
theorem qii {d : DataW H} : ∀ {ds : List (DataW H)}, d ∈ ds → B d ≤ BA ds := by
 intro ds
 induction ds with
 | nil => intro h; cases h
 | cons x ds ih =>
   intro h
   rw [hBc]
   rcases List.mem_cons.1 h with rfl | h
   ·omega
   ·have := ih h; omega
include hB1 hB0 hBc in
theorem qiy : ∀ (ds : List (DataW H)), ds.length ≤ BA ds := by
 intro ds
 induction ds with
 | nil => simp
 | cons x ds ih => have := hB1 x; rw [hBc]; simp; omega
include hB0 hBc in
theorem qat : ∀ (rows : List (List D)) (ds : List (DataW H)), rows.length = ds.length → (∀ (i : Nat) (r : List D) (d : DataW H), rows[i]? = some r → ds[i]? = some d → szL r + 1 ≤ B d) → szRows rows ≤ BA ds := by
 intro rows
 induction rows with
 | nil => intro ds _ _; exact Nat.zero_le _
 | cons r rows ih =>
   intro ds hl h
   cases ds with
   | nil => simp at hl
   | cons d ds =>
     have h1 := h 0 r d rfl rfl
     have h2 := ih ds (by simpa using hl) fun i r d hr hd => h (i + 1) r d (by simpa using hr) (by simpa using hd)
     rw [hBc]
     show szL r + 1 + szRows rows ≤ _
     omega
end
section
variable {H : Type} {enc : TypeId × Value → H} {P : Program} {T : Tab} {eqs : List Nat} (hT : TabOk P T eqs) {w : World}
 {B : DataW H → Nat} {BA : List (DataW H) → Nat} (hB1 : ∀ d, 1 ≤ B d) (hB0 : BA [] = 0) (hBc : ∀ d r, BA (d :: r) = B d + BA r) (hBs : ∀ es sp, B (.slice es sp) = BA es + BA sp + 1) (hBa : ∀ ps, B (.agg ps) = BA ps + 1)
include hT hB1 hB0 hBc hBs hBa in
theorem z3u : ∀ (n t : Nat), zgw T n t = true → ∀ (fuel : Nat) (cs : List Value) (d : DataW H) (ps : List MemPlace), DataW.trod enc P w 0 (fun _ => true) true fuel t cs = some (d, ps) →
 B d ≤ 1048576 → ∃ ds : List D, cs.length = (T t).size ∧ ds.length = cs.length ∧ (∀ (i : Nat) (v : Value) (d : D), cs[i]? = some v → ds[i]? = some d → RepI w none0 v d) ∧ Tell T n t ds ∧ szL ds + 1 ≤ B d := by
 intro n
 induction n with
 | zero => intro t h; cases h
 | succ n ih =>
   intro t h fuel cs d ps htr hwt
   have hkn := zhk h
   obtain ⟨de, hde, hdo⟩ := zg8 hT hkn
   cases fuel with
   | zero => simp [DataW.trod] at htr
   | succ fuel =>
   unfold zgw at h
   unfold DataW.trod at htr
   rw [hde] at htr
   unfold Tell
   cases hd' : (T t).d with
   | int k =>
     rw [hd'] at h hdo
     simp only [decide_eq_true_eq] at h
     cases de <;> simp [za0] at hdo
     subst hdo
     match cs, htr with
     | [.int k' x], htr =>
       simp only at htr
       split at htr
       ·rename_i hc
        obtain ⟨rfl, hwf⟩ := hc
        refine ⟨[.int _ x], by simp [h], rfl, ?_, ⟨x, rfl, hwf⟩, by simpa [szL, szD, szRows] using hB1 d⟩
        intro i v d hv hd
        cases i with
        | zero => simp at hv hd; subst hv hd; exact .int _ _
        | succ i => simp at hd
       ·cases htr
   | bool =>
     rw [hd'] at h hdo
     simp only [decide_eq_true_eq] at h
     cases de <;> simp [za0] at hdo
     match cs, htr with
     | [.bool b], htr =>
       refine ⟨[.bool b], by simp [h], rfl, ?_, ⟨b, rfl⟩, by simpa [szL, szD, szRows] using hB1 d⟩
       intro i v d hv hd
       cases i with
       | zero => simp at hv hd; subst hv hd; exact .bool _
       | succ i => simp at hd
   | slice e =>
     rw [hd'] at h hdo
     simp only [Bool.and_eq_true, decide_eq_true_eq] at h
     obtain ⟨⟨⟨hsz, hche⟩, hpos⟩, hby⟩ := h
     cases de <;> simp [za0] at hdo
     rename_i e2
     have hdo := hdo.symm
     subst hdo
     have hke := zhk hche
     obtain ⟨hcell, hbyte⟩ := zk1 hT hke
     match cs, htr with
     | [.slice none 0 0], htr =>
       refine ⟨[.sl [] 0], by simp [hsz], rfl, ?_, ⟨[], rfl, by simp, by simp⟩, by simpa [szL, szD, szRows] using hB1 d⟩
       intro i v d hv hd
       cases i with
       | zero =>
         simp at hv hd
         subst hv hd
         exact .sl none 0 0 [] 0 0 0 (fun _ _ => Go.undef) (by simp) (by simp) (by simp) (by simp) (fun i j h => (by simp at h)) (fun i j r d h => (by simp at h))
       | succ i => simp at hd
     | [.slice (some a) len cap], htr =>
       simp only at htr
       split at htr
       ·rename_i hc
        obtain ⟨_, hlc, hcap⟩ := hc
        simp only [Option.bind_eq_some_iff, Option.map_eq_some_iff, Prod.mk.injEq] at htr
        obtain ⟨elems, hel, rest, hrest, hd, _⟩ := htr
        subst hd
        obtain ⟨hell, helem⟩ := zlc hel
        rw [List.length_range] at hell
        rw [if_pos trivial] at hrest
        have hrl := (zlc hrest).1
        rw [List.length_range] at hrl
        rw [hBs] at hwt
        have hel2 : elems.length ≤ BA (elems.map (·.1)) := by have := qiy hB1 hB0 hBc (elems.map (·.1)); simpa using this
        have hrow : ∀ i, i < len → ∃ (r : List D), r.length = (T e).size ∧ (Tell T n e r ∧ ∀ y, elems[i]? = some y → szL r + 1 ≤ B y.1) ∧ ∀ j, j < (T e).size → ∃ v, w.cell? ((a.add (i * (T e).size)).add j) = some v ∧ ∀ d, r[j]? = some d → RepI w none0 v d := by
         intro i hi
         obtain ⟨y, hy, hfy⟩ := helem i i (by simp [hi])
         simp only [Option.bind_eq_some_iff] at hfy
         obtain ⟨ecs, hecs, htre⟩ := hfy
         have hyw : B y.1 ≤ 1048576 := by have := qii hB0 hBc (List.mem_map.2 ⟨y, List.mem_of_getElem? hy, rfl⟩ : y.1 ∈ elems.map (·.1)); omega
         obtain ⟨ds, h1, h2, h3, h4, h5⟩ := ih e hche fuel ecs y.1 y.2 htre hyw
         refine ⟨ds, by omega, ⟨h4, fun y' hy' => by rw [hy] at hy'; cases hy'; exact h5⟩, fun j hj => ?_⟩
         rw [hcell] at hecs
         unfold World.cells? at hecs
         rw [if_pos (Nat.zero_le _)] at hecs
         obtain ⟨v, hv, hcv⟩ := (zlc hecs).2 j j (by simp [hj])
         exact ⟨v, hcv, fun d hd => h3 j v d hv hd⟩
        let f : Nat → List D := fun i => if h : i < len then Classical.choose (hrow i h) else []
        have hf : ∀ i (h : i < len), f i = Classical.choose (hrow i h) := fun i h => dif_pos h
        have hfs : ∀ i (h : i < len), (f i).length = (T e).size ∧ (Tell T n e (f i) ∧ ∀ y, elems[i]? = some y → szL (f i) + 1 ≤ B y.1) ∧ ∀ j, j < (T e).size → ∃ v, w.cell? ((a.add (i * (T e).size)).add j) = some v ∧ ∀ d, (f i)[j]? = some d → RepI w none0 v d := by
         intro i h
         rw [hf i h]
         exact Classical.choose_spec (hrow i h)
        have hget : ∀ i r, ((List.range len).map f)[i]? = some r → i < len ∧ r = f i := by
         intro i r hr
         rw [List.getElem?_map] at hr
         by_cases hi : i < len
         ·simp [hi] at hr; exact ⟨hi, hr.symm⟩
         ·rw [List.getElem?_eq_none (by simpa using hi)] at hr; cases hr
        have hspot : 0 < len → a.spot = none := by
         intro hl
         obtain ⟨_, _, hc⟩ := hfs 0 hl
         obtain ⟨v, hv, _⟩ := hc 0 hpos
         simp only [Nat.zero_mul, Addr.add, if_true] at hv
         unfold World.cell? at hv
         split at hv
         ·split at hv
          ·cases hv
          ·rename_i hs; simpa using hs
         ·cases hv
        have haddr : ∀ i j, 0 < len → (a.add (i * (T e).size)).add j = ⟨a.block, a.off + i * (T e).size + j, none⟩ := by
         intro i j hl
         have hs := hspot hl
         obtain ⟨blk, off, spot⟩ := a
         simp only at hs
         subst hs
         rw [Addr.add_plain, Addr.add_plain]
        have hbnd : len * (T e).bytes ≤ 140737488351232 := by
         have : len * (T e).bytes ≤ 1048576 * 1000 := Nat.mul_le_mul (by omega) hby
         omega
        refine ⟨[.sl ((List.range len).map f) len], by simp [hsz], rfl, ?_, ⟨(List.range len).map f, by simp, by simpa using hbnd, ?_⟩, ?_⟩
        ·intro i v d hv hd
         cases i with
         | zero =>
           simp at hv hd
           subst hv hd
           refine .sl (some a) len cap _ (T e).size a.block a.off (fun i j => (w.cell? ⟨a.block, a.off + i * (T e).size + j, none⟩).getD Go.undef) (by simp) (by simpa using hlc) ?_ ?_ ?_ ?_
           ·intro r hr
            obtain ⟨i, hi, rfl⟩ := List.mem_map.1 hr
            exact (hfs i (List.mem_range.1 hi)).1
           ·intro hne
            have hl : 0 < len := by
             rcases Nat.eq_zero_or_pos len with h0 | h0
             ·subst h0; simp at hne
             ·exact h0
            have := hspot hl
            obtain ⟨blk, off, spot⟩ := a
            simp only at this
            subst this
            rfl
           ·intro i j hi hj
            have hi' : i < len := by simpa using hi
            obtain ⟨_, _, hc⟩ := hfs i hi'
            obtain ⟨v, hv, _⟩ := hc j hj
            rw [haddr i j (by omega)] at hv
            exact ⟨fun h => h, by simp [hv]⟩
           ·intro i j r d hr hd
            obtain ⟨hi', rfl⟩ := hget i r hr
            obtain ⟨hl, _, hc⟩ := hfs i hi'
            have hj : j < (T e).size := by
             have := (List.getElem?_eq_some_iff.1 hd).1
             omega
            obtain ⟨v, hv, hrep⟩ := hc j hj
            rw [haddr i j (by omega)] at hv
            simp only [hv, Option.getD_some]
            exact hrep d hd
         | succ i => simp at hd
        ·intro r hr
         obtain ⟨i, hi, rfl⟩ := List.mem_map.1 hr
         exact (hfs i (List.mem_range.1 hi)).2.1.1
        ·have h5 := qat hB0 hBc ((List.range len).map f) (elems.map (·.1)) (by simp [hell]) fun i r d hr hd => by
          obtain ⟨hi, rfl⟩ := hget i r hr
          rw [List.getElem?_map] at hd
          obtain ⟨y, hy, rfl⟩ := Option.map_eq_some_iff.1 hd
          exact (hfs i hi).2.1.2 y hy
         rw [hBs]
         show szRows ((List.range len).map f) + 0 + 1 ≤ _
         omega
       ·cases htr
   | struct fs =>
     rw [hd'] at h hdo
     simp only [Bool.and_eq_true, decide_eq_true_eq] at h
     obtain ⟨hfs, hcon⟩ := h
     cases de <;> simp [za0] at hdo
     rename_i fields
     simp only at htr
     split at htr
     ·rename_i hlen
      rw [(zk1 hT hkn).1] at hlen
      simp only [Option.map_eq_some_iff, Prod.mk.injEq] at htr
      obtain ⟨xs, hxs, hd, _⟩ := htr
      subst hd
      rw [hBa] at hwt ⊢
      have hwt' : BA (xs.map (·.1)) ≤ 1048576 := by omega
      clear hwt
      have key : ∀ (fl : List Field) (fs : List (Nat × Nat)) (o : Nat) (xs : List (DataW H × List MemPlace)), fl.map (fun f => (f.offset, f.type)) = fs → (fs.all fun f => zgw T n f.2) = true → zm2 T o fs = some (T t).size →
       (fl.mapM fun f => DataW.trod enc P w 0 (fun _ => true) true fuel f.type ((cs.drop f.offset).take (P.cellsOf f.type))) = some xs →
       BA (xs.map (·.1)) ≤ 1048576 → o ≤ cs.length →
       ∃ ds : List D, ds.length = cs.length - o ∧ (∀ (i : Nat) (v : Value) (d : D), (cs.drop o)[i]? = some v → ds[i]? = some d → RepI w none0 v d) ∧ Tell.TellFs (Tell T n) fs ds ∧ szL ds ≤ BA (xs.map (·.1)) := by
       intro fl
       induction fl with
       | nil =>
         intro fs o xs hm _ hcon _ _ ho
         subst hm
         simp [zm2] at hcon
         refine ⟨[], by simp; omega, by simp, rfl, Nat.zero_le _⟩
       | cons f fl ihf =>
         intro fs o xs hm hall hcon hmm hw ho
         subst hm
         simp only [List.map_cons, List.all_cons, Bool.and_eq_true] at hall
         simp only [List.map_cons, zm2] at hcon
         split at hcon
         ·rename_i hof
          rw [List.mapM_cons] at hmm
          simp only [Option.bind_eq_bind, Option.pure_def, Option.bind_eq_some_iff, Option.some.injEq] at hmm
          obtain ⟨y, hy, ys, hys, rfl⟩ := hmm
          simp only [List.map_cons, hBc] at hw
          have hkf := zhk hall.1
          rw [(zk1 hT hkf).1, hof] at hy
          obtain ⟨d1, h1, h2, h3, h4, h5⟩ := ih f.type hall.1 fuel _ y.1 y.2 hy (by omega)
          have hle : o + (T f.type).size ≤ cs.length := by
           simp only [List.length_take, List.length_drop] at h1
           omega
          obtain ⟨d2, g2, g3, g4, g5⟩ := ihf _ (o + (T f.type).size) ys rfl hall.2 hcon hys (by omega) hle
          have hd1 : d1.length = (T f.type).size := by omega
          refine ⟨d1 ++ d2, by simp; omega, ?_, ⟨d1, d2, rfl, h4, g4⟩, by rw [List.map_cons, hBc, zyi]; omega⟩
          intro i v d hv hd
          by_cases hi : i < (T f.type).size
          ·rw [List.getElem?_append_left (by omega)] at hd
           exact h3 i v d (by rw [List.getElem?_take, if_pos hi]; exact hv) hd
          ·rw [List.getElem?_append_right (by omega)] at hd
           refine g3 _ v d ?_ hd
           rw [List.getElem?_drop] at hv ⊢
           rw [← hv]
           congr 1
           omega
         ·cases hcon
      obtain ⟨ds, h1, h2, h3, h6⟩ := key fields.toList fs 0 xs hdo hfs hcon hxs hwt' (Nat.zero_le _)
      exact ⟨ds, hlen, by simpa using h1, fun i v d hv hd => h2 i v d (by simpa using hv) hd, h3, by omega⟩
     ·cases htr
   | arr => rw [hd'] at h; cases h
   | ptr => rw [hd'] at h; cases h
   | fn => rw [hd'] at h; cases h
   | other => rw [hd'] at h; cases h
include hT hB1 hB0 hBc hBs hBa in
theorem qci {n t : Nat} (hc : zgw T n t = true) {v : Value} {d : DataW H} {ps : List MemPlace} (h : DataW.Trod enc P w 0 (fun _ => true) true t v d ps) (hw : B d ≤ 1048576)
 {base : Nat} (hok : Value.okWide P w .any base t v) : ∃ x : D, Rep w none0 zry v x ∧ zda T n t x ∧ szD x + 1 ≤ B d := by
 obtain ⟨fuel, h⟩ := h
 obtain ⟨ds, h1, h2, h3, h4, h5⟩ := z3u hT hB1 hB0 hBc hBs hBa n t hc fuel _ d ps h hw
 have hkn := zhk hc
 obtain ⟨de, hde, hdo⟩ := zg8 hT hkn
 cases ha : (T t).d.agg with
 | true =>
   have : ∃ cs, v = .agg cs := by
    cases hd' : (T t).d <;> rw [hd'] at ha hdo <;> simp [TD.agg] at ha
    ·cases de <;> simp [za0] at hdo
     simp only [Value.okWide, hde] at hok
     obtain ⟨cs, h, _⟩ := hok
     exact ⟨cs, h⟩
    ·cases de <;> simp [za0] at hdo
     obtain ⟨cs, h, _⟩ := okWide_struct hde hok
     exact ⟨cs, h⟩
   obtain ⟨cs, rfl⟩ := this
   refine ⟨.agg ds, .agg cs ds (by simpa [Value.cells] using h2.symm) fun i v d hv hd => .imm _ _ (h3 i v d (by simpa [Value.cells] using hv) hd), ?_, h5⟩
   unfold zda
   rw [if_pos ha]
   exact ⟨ds, rfl, h4⟩
 | false =>
   have hs1 : (T t).size = 1 := by
    cases n with
    | zero => cases hc
    | succ n =>
      unfold zgw at hc
      revert hc ha
      cases (T t).d <;> simp [TD.agg] <;> intro h <;> first | exact h | exact fun _ _ => h | exact fun _ _ _ => h
   have hv : ∀ cs, v ≠ .agg cs := by
    rintro cs rfl
    cases hd' : (T t).d <;> rw [hd'] at ha hdo <;> simp [TD.agg] at ha <;> cases de <;> simp [za0] at hdo <;> simp [Value.okWide, hde, Cell.okWide, Cell.ok] at hok
    all_goals (rw [hd'] at hkn; cases hkn)
   rw [zyj hv] at h1 h2 h3
   match ds, h2 with
   | [x], _ =>
     refine ⟨x, .imm _ _ (h3 0 v x rfl rfl), ?_, by simpa [szL] using h5⟩
     unfold zda
     rw [if_neg (by rw [ha]; exact Bool.false_ne_true)]
     exact h4
include hT hB1 hB0 hBc hBs hBa in
theorem z89 {n : Nat} : ∀ (ts : List TypeId) (vs : List Value) (ds : List (DataW H)) (ps : List MemPlace), (∀ t ∈ ts, zgw T n t = true) → DataW.TrodAll enc P w 0 (fun _ => true) true ts vs ds ps →
 BA ds ≤ 1048576 → ∀ {base : Nat}, (∀ (j : Nat) t v, ts[j]? = some t → vs[j]? = some v → Value.okWide P w .any base t v) →
 ∃ xs : List D, xs.length = vs.length ∧ (∀ (i : Nat) (v : Value) (d : D), vs[i]? = some v → xs[i]? = some d → Rep w none0 zry v d) ∧ zo0 T n ts xs ∧ szL xs ≤ BA ds := by
 intro ts
 induction ts with
 | nil =>
   intro vs ds ps _ h _ base _
   obtain ⟨rfl, rfl, rfl⟩ := trodAll_nil h
   exact ⟨[], rfl, by simp, rfl, Nat.zero_le _⟩
 | cons t ts ih =>
   intro vs ds ps hc h hw base hok
   obtain ⟨v, vs', d, ds', p, q, rfl, rfl, rfl, h1, h2⟩ := trodAll_cons h
   rw [hBc] at hw ⊢
   obtain ⟨x, hx, htx, hsx⟩ := qci hT hB1 hB0 hBc hBs hBa (hc t (by simp)) h1 (by omega) (hok 0 t v rfl rfl)
   obtain ⟨xs, g1, g2, g3, g4⟩ := ih vs' ds' q (fun t ht => hc t (by simp [ht])) h2 (by omega) (fun j t v h1 h2 => hok (j + 1) t v (by simpa using h1) (by simpa using h2))
   refine ⟨x :: xs, by simp [g1], ?_, ⟨x, xs, rfl, htx, g3⟩, by simp only [szL]; omega⟩
   intro i v' d' hv hd
   cases i with
   | zero => simp at hv hd; subst hv hd; exact hx
   | succ i => exact g2 i v' d' (by simpa using hv) (by simpa using hd)
end
theorem qdb {H : Type} {enc : TypeId × Value → H} {C : Checked} {T : Tab} {eqs : List Nat} (hT : TabOk C.prog T eqs) {os : Os} {f : FuncId} {fn : Func} {s : OpenSpec} {conds : List PathCond} {tb : TypeId} (n : Nat) {F : Stop.Interp}
 {B : DataW H → Nat} {BA : List (DataW H) → Nat} (hB1 : ∀ d, 1 ≤ B d) (hB0 : BA [] = 0) (hBc : ∀ d r, BA (d :: r) = B d + BA r) (hBs : ∀ es sp, B (.slice es sp) = BA es + BA sp + 1) (hBa : ∀ ps, B (.agg ps) = BA ps + 1)
 {k : (H : Type) → List (DataW H) → Bool} (hk : s.cond = some k) (hkB : ∀ ds, k H ds = true → BA ds ≤ 1048576)
 (own : ownKnob C.prog.godebug = none) (started : os.Started) (noInit : C.prog.inits.idxOf? f = none) (hfn : C.prog.funcs[f]? = some fn) (hl : laidOutB C.prog = true)
 (witness : ∃ (w : World) (tape : Tape) (i : Input), w.os = os ∧ (w.forCall tape i).Shaped C.prog ∧ i.vars = [] ∧ Input.okWide C.prog (w.forCall tape i) .any w.heap.size f i ∧
   s.pre6 enc C.prog fn conds false (w.forCall tape i).memory i.args ∧ ({} : Assume).holds C.prog (lone (Frame.enter C.prog f i.args .normal) [] (w.forCall tape i)))
 (hpar : (fn.params.toList.all fun t => zgw T n t && C.prog.readableRec t && decide (t < C.prog.types.size)) = true) (hres : fn.resultTypes = #[tb]) (htb : C.prog.underlying tb = some .bool) (hv : s.vars = [])
 (hs : ∀ ds : List (DataW H), ds.length = fn.params.size → s.fn F H ds = { results := [.lit (.bool true)], args := ds })
 (hden : ∀ xs : List D, zo0 T n fn.params.toList xs → szL xs ≤ 1048576 → Den C.prog f xs [] (.bool true) []) :
 ReturnsInHanded {} C os f .any (s.pre6 enc C.prog fn conds false) ((s.at F).post enc C.prog fn false true false false) := by
 refine returnsInHanded_of_cond hk own started noInit hfn witness ?_
 intro W base args ds gs before hval hW _ hkk _
 have hW' := hW
 obtain ⟨p, q, hA, hV, rfl, _, _⟩ := hW
 rw [hv] at hV
 obtain ⟨rfl, rfl⟩ := trodVars_none hV
 simp only [List.all_eq_true, Bool.and_eq_true, decide_eq_true_eq] at hpar
 have hlen : ∀ (ts : List TypeId) (vs : List Value) (ds : List (DataW H)) (p : List MemPlace), DataW.TrodAll enc C.prog W 0 (fun _ => true) true ts vs ds p → ds.length = ts.length := by
  intro ts
  induction ts with
  | nil => intro vs ds p h; obtain ⟨_, rfl, _⟩ := trodAll_nil h; rfl
  | cons t ts ih =>
    intro vs ds p h
    obtain ⟨v, vs', d, ds', p, q, _, rfl, _, _, h2⟩ := trodAll_cons h
    simp [ih _ _ _ h2]
 have hdl := hlen _ _ _ _ hA
 have hw : BA ds ≤ 1048576 := by
  rw [List.append_nil] at hkk
  exact hkB ds hkk
 obtain ⟨xs, h1, h2, h3, h4⟩ := z89 hT hB1 hB0 hBc hBs hBa fn.params.toList args.toList ds p (fun t ht => (hpar t ht).1.1) hA hw (base := base) (fun j t v hj hv => hval j t v (by simpa using hj) (by simpa using hv))
 obtain ⟨_, hcall⟩ := hden xs h3 (by omega)
 refine (hcall W none0 zry args (fun _ _ h => h.elim) (.empty _ _) (by simpa using h1.symm) (fun i v d hv hd => ?_)).mono ?_
 ·rw [z3k]
  exact h2 i v d (by simpa using hv) hd
 ·rintro e W' ⟨v, ρ', rfl, hr, _, _, _, _, har⟩
  have e := hr.bool_inv
  subst e
  have bel := har.below
  have hs' : (s.at F).fn H ds = { results := [.lit (.bool true)], args := ds } := hs ds (by simpa using hdl)
  have hv' : (s.at F).vars = [] := hv
  refine ⟨_, rfl, ds, [], p ++ [], [], p, [], hW', ?_, ?_, ?_, bel.frame _, fun h => by cases h⟩
  ·rw [List.append_nil, hs', hres]
   exact trodAll_mk1 (shut_bool htb _)
  ·rw [List.append_nil, hs']
   exact z9c (ts := []) hl bel (fun t ht => ⟨(hpar t ht).1.2, (hpar t ht).2⟩) hA
  ·rw [hv', List.append_nil, hs']
   rfl
end Go.AM
/- AM: plain: what the best comes to in eight rounds; how much there is. -/
namespace Go.AM
open szD (szL szRows)
theorem zz7 {w : Wld} {x : Node} {i : Item} (hx : x ∈ w.nodes) (hi : i ∈ x.items) : i ∈ zf8 w := List.mem_append.2 (.inl (List.mem_flatMap.2 ⟨x, hx, hi⟩))
theorem zz5 {w : Wld} {m : Msg} (hm : m ∈ w.packets) (hk : m.kind = 1) : m.item ∈ zf8 w := List.mem_append.2 (.inr (List.mem_map.2 ⟨m, List.mem_filter.2 ⟨hm, by simpa using hk⟩, rfl⟩))
theorem qfy {w : Wld} {i : Item} (h : i ∈ zf8 w) : (∃ x ∈ w.nodes, i ∈ x.items) ∨ ∃ m ∈ w.packets, m.kind = 1 ∧ m.item = i := by
 rcases List.mem_append.1 h with h | h
 ·exact .inl (List.mem_flatMap.1 h)
 ·obtain ⟨m, hm, rfl⟩ := List.mem_map.1 h
  obtain ⟨hm, hk⟩ := List.mem_filter.1 hm
  exact .inr ⟨m, hm, by simpa using hk, rfl⟩
theorem zks {S : List Int} {w : Wld} (hF : Fine S w) {x : Node} (hx : x ∈ w.nodes) : zbu x.items = true := (zfc (hF.may.node hx)).2.2.1
theorem qgo {S : List Int} {w : Wld} (hF : Fine S w) : ∀ i ∈ zf8 w, zba i = true := by
 intro i hi
 rcases qfy hi with ⟨x, hx, hi⟩ | ⟨m, hm, hk, rfl⟩
 ·exact ((zca _).1 (zks hF hx)).1 i hi
 ·exact zy1 (hF.may.inM m hm).1 hk
theorem z6i {S : List Int} {k o : Int} {w v : Wld} (hF : Fine S w) (h : Rnds S 8 w v) (hc : ∀ i ∈ S, ∀ j ∈ S, Dist w 8 i j) (hl : (zob (zf8 w)).length ≤ 16) (hk : place k = true) (ho : o ∈ S) (hle : ∀ j ∈ S, far k o ≤ far k j)
 {y : Node} (hy : y ∈ v.nodes) (hid : y.view.id = o ∨ (y.view.id ≠ o ∧ ∀ j ∈ S, j ≠ o → far o y.view.id ≤ far o j)) : getR y.items k = zjr k (zf8 w) := by
 have hv := h.fine
 have hs := zks hv hy
 have inv := qdj k (zf8 w) (qgo hF)
 cases hb : (zjr k (zf8 w)).2 with
 | false =>
   obtain ⟨e1, e2⟩ := inv.none hb
   have hA := qel h (Q := fun i => i.key ≠ k) ⟨fun x hx i hi => e2 i (zz7 hx hi), fun m hm hk => e2 _ (zz5 hm hk)⟩
   have hg : getS y.items k = none := by
    cases hg : getS y.items k with
    | none => rfl
    | some i => exact absurd (zq5 hg).1 (hA.nodes y hy i (zq5 hg).2)
   unfold getR
   rw [if_pos hs, hg]
   exact Prod.ext e1.symm hb.symm
 | true =>
   obtain ⟨e1, e2, e3⟩ := inv.some hb
   have hA : AllI (Best1 (zob (zf8 w)) k (zjr k (zf8 w)).1) w := ⟨fun x hx i hi => ⟨z6v _ i (zz7 hx hi), fun hik => e3 i (zz7 hx hi) hik⟩, fun m hm hk => ⟨z6v _ _ (zz5 hm hk), fun hik => e3 _ (zz5 hm hk) hik⟩⟩
   have hat : (∃ id, Held k (zjr k (zf8 w)).1 w id) ∨ ∃ m ∈ w.packets, m.kind = 1 ∧ m.item = (zjr k (zf8 w)).1 := by
    rcases qfy e1 with ⟨x, hx, hi⟩ | hm
    ·have := ztu ((zca _).1 (zks hF hx)).2.1 hi
     rw [e2] at this
     exact .inl ⟨x.view.id, x, hx, rfl, this⟩
    ·exact .inr hm
   obtain ⟨k1, k2⟩ := z9w hl e2 hF h hc hA hk ho hle hat
   have hh : Held k (zjr k (zf8 w)).1 v y.view.id := by
    rcases hid with e | ⟨hne, hn⟩
    ·rw [e]; exact k1
    ·exact k2 _ (by rw [← hv.ids]; exact zek.2 ⟨y, hy, rfl⟩) hne hn
   obtain ⟨x, hx, he, hg⟩ := hh
   obtain rfl := znh hv.pair hx hy he
   unfold getR
   rw [if_pos hs, hg]
   exact Prod.ext rfl hb.symm
theorem zuc {α : Type} (f : α → List D) (g : α → Nat) (h : ∀ x, g x ≤ szL (f x)) : ∀ xs : List α, (xs.map g).sum + xs.length ≤ szRows (xs.map f) := by
 intro xs
 induction xs with
 | nil => exact Nat.zero_le _
 | cons x xs ih =>
   have := h x
   simp only [List.map_cons, List.sum_cons, List.length_cons, szRows]
   omega
theorem qeu (is : List Item) : is.length ≤ szD (zav is) := by
 have := zuc Item.row (fun _ => 0) (fun _ => Nat.zero_le _) is
 simp only [zav, szD]
 omega
theorem qgw (x : Node) : x.items.length ≤ szL x.cells := by
 have := qeu x.items
 unfold Node.cells
 simp only [zyi, szL]
 omega
theorem qjj (w : Wld) : w.nodes.length + (zhh w.nodes).length + w.packets.length ≤ szD (wldD w) := by
 have h1 := zuc Node.cells (fun x => x.items.length) qgw w.nodes
 have h2 := zuc Msg.row (fun _ => 0) (fun _ => Nat.zero_le _) w.packets
 have h3 : (zhh w.nodes).length = (w.nodes.map fun x => x.items.length).sum := by unfold zhh; rw [List.length_flatMap]
 simp only [wldD, Wld.cells, za2, zbc, zbl, szD, szL]
 omega
theorem qje (w : Wld) : (zf8 w).length ≤ szD (wldD w) ∧ w.nodes.length ≤ szD (wldD w) ∧ w.packets.length ≤ szD (wldD w) := by
 have h := qjj w
 have h2 : (ziw w.packets).length ≤ w.packets.length := by
  unfold ziw
  rw [List.length_map]
  exact List.length_filter_le _ _
 unfold zf8
 rw [List.length_append]
 omega
end Go.AM
/- AM: contracts: rounds. -/
namespace Go.AM
theorem z5h {P : Program} {f : Nat} {a b : D} {bs : List Blk} {r : D} {bs' : List Blk} (h : Den P f [a, b.nrm] bs r bs') : Den P f [a, b] bs r bs' := by
 refine ⟨h.1, fun w M0 ρ vals hM hS hs ha => h.2 w M0 ρ vals hM hS (by simpa using hs) ?_⟩
 intro i v d hv hd
 match i with
 | 0 => exact ha 0 v d hv (by simpa using hd)
 | 1 =>
   simp at hd
   subst hd
   exact (ha 1 v b hv (by simp)).nrm
 | i + 2 => simp at hd
theorem qe4 {S : List Int} {w : Wld} (hF : Fine S w) (hne : w.packets ≠ []) : ∃ v, Den PP 20 [.agg (wldL w), .agg [.int .i64 1, .int .i64 0, .int .i64 0, .int .i64 0, .nil, .int .i64 0, .int .i64 0]] [] (.tup [.agg (wldL v), .int .i64 0]) [] ∧ Del S w v := by
 obtain ⟨v, h1, h2⟩ := qg2 hF hne
 exact ⟨v, z5h h1, h2⟩
theorem qcm {S : List Int} {w : Wld} (hF : Fine S w) {P : Nat} {x : Node} (hx : w.nodes[P]? = some x) : ∃ v, Den PP 20 [.agg (wldL w), .agg [.int .i64 0, .int .i64 x.view.id, .int .i64 0, .int .i64 0, .nil, .int .i64 0, .int .i64 0]] [] (.tup [.agg (wldL v), .int .i64 0]) [] ∧ Tik S P w v := by
 obtain ⟨v, h1, h2⟩ := qde hF hx
 exact ⟨v, z5h h1, h2⟩
def DelC (w v : Wld) : Prop := Den PP 20 [.agg (wldL w), .agg [.int .i64 1, .int .i64 0, .int .i64 0, .int .i64 0, .nil, .int .i64 0, .int .i64 0]] [] (.tup [.agg (wldL v), .int .i64 0]) []
theorem qey {S : List Int} : ∀ (n : Nat) (w : Wld), pot w.packets ≤ n → Fine S w → ∃ (s : Nat → Wld) (k : Nat), s 0 = w ∧ k ≤ n ∧ (∀ i, i < k → (s i).packets ≠ [] ∧ DelC (s i) (s (i + 1)) ∧ Del S (s i) (s (i + 1))) ∧ (s k).packets = [] := by
 intro n
 induction n with
 | zero =>
   intro w hp hF
   refine ⟨fun _ => w, 0, rfl, Nat.le_refl _, fun i hi => by omega, ?_⟩
   have := (qfn w.packets).1
   show w.packets = []
   exact List.eq_nil_of_length_eq_zero (by omega)
 | succ n ih =>
   intro w hp hF
   by_cases he : w.packets = []
   ·exact ⟨fun _ => w, 0, rfl, by omega, fun i hi => by omega, he⟩
   ·obtain ⟨v, h1, h2⟩ := qe4 hF he
    have := qf2 h2
    obtain ⟨s, k, e1, e2, e3, e4⟩ := ih v (by omega) h2.1
    refine ⟨fun i => match i with | 0 => w | i + 1 => s i, k + 1, rfl, by omega, fun i hi => ?_, e4⟩
    match i with
    | 0 => simp only [e1]; exact ⟨he, h1, h2⟩
    | i + 1 => exact e3 i (by omega)
theorem qc4 {S : List Int} {s : Nat → Wld} {k : Nat} (h0 : Fine S (s 0)) (h : ∀ i, i < k → Del S (s i) (s (i + 1))) : ∀ i, i ≤ k → Dels S (s 0) (s i) := by
 intro i
 induction i with
 | zero => intro _; exact .refl h0
 | succ i ih => intro hi; exact .snoc (ih (by omega)) (h i (by omega))
theorem zpk {S : List Int} (w : Wld) (hF : Fine S w) : ∃ v, Den PP 70 [.agg (wldL w)] [] (.agg (wldL v)) [] ∧ Dels S w v ∧ v.packets = [] := by
 have hl := hF.may.len
 have hpot := (qfn w.packets).2
 obtain ⟨s, k, e1, e2, e3, e4⟩ := qey 1024 w (by omega) hF
 refine ⟨s k, ?_, by have := qc4 (k := k) (by rw [e1]; exact hF) (fun i hi => (e3 i hi).2.2) k (Nat.le_refl _); rw [e1] at this; exact this, e4⟩
 subst e1
 clear hF hl hpot
 refine zak [] [] zsk ?_
 simp -implicitDefEqProofs [zmp, wldL]
 refine zgj k (fun n ⟨fr, bs⟩ => ∃ i, i + n = k ∧ bs = [⟨[wldL (s i)], 3, .box⟩, ⟨[[.nil, .nil, .nil]], 3, .box⟩] ∧ fr 1 = .ptr 0 0 0 ∧ fr 2 = .ptr 1 0 0 ∧ fr 3 = .int .i64 i)
  (fun ⟨fr, bs⟩ => bs = [⟨[wldL (s k)], 3, .box⟩, ⟨[[.nil, .nil, .nil]], 3, .box⟩] ∧ fr 1 = .ptr 0 0 0 ∧ fr 2 = .ptr 1 0 0) (fun _ => False) zjb.eq_1 ?_ ?_ ?_ ?_ ?_
 ·exact ⟨0, by omega, rfl, rfl, rfl, rfl⟩
 ·rintro ⟨fr, bs⟩ ⟨i, hi, rfl, h1, h2, h3⟩
  obtain rfl : i = k := by omega
  by_cases hk : (i : Int) < 1024
  ·simp -implicitDefEqProofs [h1, h2, h3, hk, wldL, e4]
  ·simp -implicitDefEqProofs [h1, h2, h3, hk, wldL, e4]
 ·rintro n ⟨fr, bs⟩ ⟨i, hi, rfl, h1, h2, h3⟩
  obtain ⟨g1, g2, g3⟩ := e3 i (by omega)
  have hk : (i : Int) < 1024 := by omega
  have hpos : 0 < (s i).packets.length := List.length_pos_iff.2 g1
  have hpos' : (0 : Int) < (s i).packets.length := by omega
  have hw : IntKind.wrap .i64 ((i : Int) + 1) = (i : Int) + 1 := zaw (by omega) (by omega)
  unfold DelC at g2
  simp only [wldL] at g2
  simp -implicitDefEqProofs [h1, h2, h3, hk, hpos, hpos', wldL]
  refine zaa g2 ?_
  simp -implicitDefEqProofs [h1, h2, h3, hw]
  exact ⟨i + 1, by omega, by simp, by simp⟩
 ·rintro ⟨fr, bs⟩ ⟨rfl, h1, h2⟩
  simp -implicitDefEqProofs [h1, h2, wldL]
 ·rintro ⟨fr, bs⟩ h
  exact h.elim
def zfy (a : Wld) (i : Nat) : Wld := ⟨(a.nodes.take i).map zdp ++ a.nodes.drop i, [], (a.nodes.take i).flatMap zis⟩
theorem z2p {x : Node} (h : zcj x = true) : (zis x).length ≤ 32 := by
 obtain ⟨p1, p2, p3, p4, p5⟩ := zbi h
 obtain ⟨v1, v2, v3⟩ := zjd p2
 have l2 := (za1 p2).2.2.1
 obtain ⟨l3, l4, l5, l6⟩ := zjw h
 have h1 : (zb5 (zdp x)).1.length ≤ 16 := by
  unfold zb5
  split
  ·exact Nat.le_trans (List.length_filterMap_le _ _) l5
  ·simp
 unfold zis
 rw [List.length_append, List.length_map]
 have h2 : (zgx (ageV x.view)).length = (ageV x.view).peers.length + (ageV x.view).passive.length := by simp [zgx]
 omega
theorem z3j {S : List Int} {a v : Wld} {i : Nat} (ha : Fine S a) (h : Tik S i (zfy a i) v) (hi : i < a.nodes.length) : v = zfy a (i + 1) := by
 obtain ⟨hf, x, hx, rfl⟩ := h
 have hn := ha.few
 have hl := ha.len
 have e1 : (zfy a i).nodes[i]? = a.nodes[i]? := by
  unfold zfy
  simp only
  rw [List.getElem?_append_right (by simp; omega)]
  simp [show min i a.nodes.length = i by omega]
 rw [e1] at hx
 have ht : a.nodes.take (i + 1) = a.nodes.take i ++ [x] := by rw [List.take_add_one, hx]; rfl
 have hd : a.nodes.drop i = x :: a.nodes.drop (i + 1) := by
  rw [List.drop_eq_getElem_cons hi]
  rw [List.getElem?_eq_getElem hi] at hx
  rw [Option.some.inj hx]
 have hlen : ((a.nodes.take i).flatMap zis).length ≤ (a.nodes.take i).length * 32 := zlr _ fun y hy => z2p (ha.node (List.mem_of_mem_take hy))
 have hlx := z2p (ha.node (List.mem_of_getElem? hx))
 have hti : (a.nodes.take i).length = i := by rw [List.length_take]; omega
 unfold zc5 zfy
 simp only
 rw [ht, hd]
 congr 1
 ·rw [List.set_append_right _ _ (by rw [List.length_map, hti]; exact Nat.le_refl _), List.length_map, hti]
  simp
 ·have e3 : (zis x).take (512 - ((a.nodes.take i).flatMap zis).length) = zis x := List.take_of_length_le (by rw [hti] at hlen; omega)
  rw [e3]
  simp
def TickC (x : Node) (w v : Wld) : Prop := Den PP 20 [.agg (wldL w), .agg [.int .i64 0, .int .i64 x.view.id, .int .i64 0, .int .i64 0, .nil, .int .i64 0, .int .i64 0]] [] (.tup [.agg (wldL v), .int .i64 0]) []
theorem qbi {S : List Int} {a : Wld} (ha : Fine S a) (he : a.packets = []) : ∀ i, i ≤ a.nodes.length → Fine S (zfy a i) ∧ ∀ j, j < i → ∃ x, (zfy a j).nodes[j]? = some x ∧ (zfy a j).nodes.length = a.nodes.length ∧ TickC x (zfy a j) (zfy a (j + 1)) := by
 intro i
 induction i with
 | zero =>
   intro _
   have : zfy a 0 = a := by
    obtain ⟨ns, cs, ps⟩ := a
    have hc := ha.cuts
    simp only at hc he
    subst hc he
    rfl
   rw [this]
   exact ⟨ha, fun j hj => by omega⟩
 | succ i ih =>
   intro hi
   obtain ⟨h1, h2⟩ := ih (by omega)
   have hl : (zfy a i).nodes.length = a.nodes.length := by unfold zfy; simp; omega
   obtain ⟨x, hx⟩ : ∃ x, (zfy a i).nodes[i]? = some x := ⟨_, List.getElem?_eq_getElem (by omega)⟩
   obtain ⟨v, c1, c2⟩ := qcm h1 hx
   have hv := z3j ha c2 (by omega)
   subst hv
   refine ⟨c2.1, fun j hj => ?_⟩
   by_cases hji : j = i
   ·subst hji
    exact ⟨x, hx, hl, c1⟩
   ·exact h2 j (by omega)
theorem zxd (a : Wld) : zfy a a.nodes.length = zo6 a := by simp [zfy, zo6]
theorem z3y (w : Wld) (h : w.tiny) : Den PP 57 [.agg (wldL w)] [] (.agg (wldL w)) [] := by
 have h := zon (zk8 w h)
 have e : (D.agg (wldR w 0 1 2)).freeze (wldB w) = .agg (wldL w) := by
  simp [wldR, wldB, wldL, D.freeze]
 rw [e] at h
 exact h
theorem ztg {S : List Int} (w : Wld) (hF : Fine S w) : ∃ v, Den PP 21 [.agg (wldL w)] [] (.tup [.agg (wldL v), .int .i64 0]) [] ∧ Rnd S w v := by
 have hw := zfr.2 hF.may
 have c1 := zku w (zck hw).small
 rw [hw] at c1
 have c2 := z3y w (zck hw)
 obtain ⟨a, c3, ha, he⟩ := zpk w hF
 have hT := qbi ha.fine he a.nodes.length (Nat.le_refl _)
 have hfn : Fine S (zo6 a) := by have := hT.1; rw [zxd] at this; exact this
 obtain ⟨v, c4, hv, hve⟩ := zpk (zo6 a) hfn
 rw [← zxd] at c4
 refine ⟨v, ?_, a, ha, he, hv, hve⟩
 have hlen8 : a.nodes.length ≤ 8 := by rw [ha.fine.len]; exact ha.fine.few
 have hpath := hT.2
 have hcuts := ha.fine.cuts
 have hpacks := he
 clear hT hfn hv hve ha he hF hw
 simp only [wldD, Wld.cells, za2, zbc, zbl, wldL] at c1 c2 c3 c4 ⊢
 refine zak [] [] zt8 ?_
 simp -implicitDefEqProofs [zpd, wldL]
 refine zaa c1 ?_
 simp -implicitDefEqProofs
 refine zaa c2 ?_
 simp -implicitDefEqProofs
 refine zaa c3 ?_
 simp -implicitDefEqProofs
 have e0 : zfy a 0 = ⟨a.nodes, [], []⟩ := rfl
 refine zgj a.nodes.length (fun n ⟨fr, bs⟩ => ∃ i, i + n = a.nodes.length ∧ bs = [⟨[wldL w], 3, .box⟩, ⟨[[.nil, .nil, .nil]], 3, .box⟩, ⟨[wldL (zfy a i)], 3, .box⟩] ∧ fr 2 = .ptr 1 0 0 ∧ fr 3 = .int .i64 0 ∧ fr 4 = .ptr 2 0 0 ∧ fr 15 = .int .i64 a.nodes.length ∧ fr 16 = .int .i64 i)
  (fun ⟨fr, bs⟩ => bs = [⟨[wldL w], 3, .box⟩, ⟨[[.nil, .nil, .nil]], 3, .box⟩, ⟨[wldL (zfy a a.nodes.length)], 3, .box⟩] ∧ fr 2 = .ptr 1 0 0 ∧ fr 3 = .int .i64 0 ∧ fr 4 = .ptr 2 0 0) (fun _ => False) zk5.eq_1 ?_ ?_ ?_ ?_ ?_
 ·refine ⟨0, by omega, ?_, rfl, rfl, rfl, rfl, rfl⟩
  rw [e0]
  simp [wldL, hcuts, hpacks]
 ·rintro ⟨fr, bs⟩ ⟨i, hi, rfl, h2, h3, h4, h15, h16⟩
  obtain rfl : i = a.nodes.length := by omega
  simp -implicitDefEqProofs [h2, h3, h4, h15, h16, wldL]
 ·rintro n ⟨fr, bs⟩ ⟨i, hi, rfl, h2, h3, h4, h15, h16⟩
  obtain ⟨x, hx, hl, g⟩ := hpath i (by omega)
  have hlt : i < a.nodes.length := by omega
  have hlt' : (i : Int) < a.nodes.length := by omega
  have hw : IntKind.wrap .i64 ((i : Int) + 1) = (i : Int) + 1 := zaw (by omega) (by omega)
  have hgx := zqh hx
  unfold TickC at g
  simp only [wldL, hl] at g
  obtain ⟨u', hu'⟩ : ∃ u', u' = zfy a (i + 1) := ⟨_, rfl⟩
  rw [← hu'] at g
  generalize zfy a i = u at *
  simp -implicitDefEqProofs [h2, h3, h4, h15, h16, hlt, hlt', hx, hgx, hl, wldL, Node.cells, zat, zap, zav, zay]
  refine zaa g ?_
  simp -implicitDefEqProofs [h2, h3, h4, h15, h16, hw]
  refine ⟨i + 1, by omega, ?_⟩
  subst hu'
  simp [wldL]
 ·rintro ⟨fr, bs⟩ ⟨rfl, h2, h3, h4⟩
  simp -implicitDefEqProofs [h2, h3, h4, wldL]
  refine zaa c4 ?_
  simp -implicitDefEqProofs [h2, h3, h4]
 ·rintro ⟨fr, bs⟩ h
  exact h.elim
end Go.AM
/- AM: contracts: many rounds. -/
namespace Go.AM
def RoundC (w v : Wld) : Prop := Den PP 21 [.agg (wldL w)] [] (.tup [.agg (wldL v), .int .i64 0]) []
theorem qeb {S : List Int} (w : Wld) (hF : Fine S w) : ∀ n : Nat, ∃ s : Nat → Wld, s 0 = w ∧ ∀ i, i < n → RoundC (s i) (s (i + 1)) ∧ Rnd S (s i) (s (i + 1)) := by
 intro n
 induction n with
 | zero => exact ⟨fun _ => w, rfl, fun i hi => by omega⟩
 | succ n ih =>
   obtain ⟨s, e1, e2⟩ := ih
   have hf : Fine S (s n) := by
    cases n with
    | zero => rw [e1]; exact hF
    | succ n => exact (zhl (e2 n (by omega)).2).1
   obtain ⟨v, c1, c2⟩ := ztg (s n) hf
   refine ⟨fun i => if i ≤ n then s i else v, by simp [e1], fun i hi => ?_⟩
   simp only
   by_cases hn : i = n
   ·subst hn
    rw [if_pos (Nat.le_refl _), if_neg (by omega)]
    exact ⟨c1, c2⟩
   ·rw [if_pos (by omega), if_pos (by omega)]
    exact e2 i (by omega)
theorem qe5 {S : List Int} {s : Nat → Wld} (h0 : Fine S (s 0)) : ∀ n, (∀ t, t < n → Rnd S (s t) (s (t + 1))) → Rnds S n (s 0) (s n) := by
 intro n
 induction n with
 | zero => intro _; exact .zero h0
 | succ n ih => intro h; exact .succ (ih fun t ht => h t (by omega)) (h n (by omega))
theorem z9z {S : List Int} (w : Wld) (hF : Fine S w) (n : Nat) (hn : n ≤ 1000) : ∃ v, Den PP 13 [.agg (wldL w), .int .i64 n] [] (.tup [.agg (wldL v), .bool true]) [] ∧ Rnds S n w v := by
 obtain ⟨s, e1, e2⟩ := qeb w hF n
 have hr := qe5 (s := s) (by rw [e1]; exact hF) n fun t ht => (e2 t ht).2
 rw [e1] at hr
 refine ⟨s n, ?_, hr⟩
 have key : ∀ i, i < n → RoundC (s i) (s (i + 1)) ∧ (s (i + 1)).nodes.length = (s i).nodes.length ∧ za9 (s (i + 1)) = true := by
  intro i hi
  obtain ⟨c1, c2⟩ := e2 i hi
  have f2 := (zhl c2).1
  have f1 : Fine S (s i) := by
   cases i with
   | zero => rw [e1]; exact hF
   | succ i => exact (zhl (e2 i (by omega)).2).1
  exact ⟨c1, by rw [f2.len, f1.len], zfr.2 f2.may⟩
 subst e1
 clear hF hr e2
 simp only [wldL]
 refine zak [] [] zpv ?_
 simp -implicitDefEqProofs [zj6]
 refine zgj n (fun m ⟨fr, bs⟩ => ∃ i, i + m = n ∧ bs = [⟨[wldL (s i)], 3, .box⟩, ⟨[[.nil, .nil, .nil]], 3, .box⟩] ∧ fr 1 = .int .i64 n ∧ fr 2 = .ptr 0 0 0 ∧ fr 4 = .ptr 1 0 0 ∧ fr 6 = .int .i64 i)
  (fun ⟨fr, bs⟩ => bs = [⟨[wldL (s n)], 3, .box⟩, ⟨[[.nil, .nil, .nil]], 3, .box⟩] ∧ fr 2 = .ptr 0 0 0 ∧ fr 4 = .ptr 1 0 0) (fun _ => False) zhv.eq_1 ?_ ?_ ?_ ?_ ?_
 ·exact ⟨0, by omega, rfl, rfl, rfl, rfl, rfl⟩
 ·rintro ⟨fr, bs⟩ ⟨i, hi, rfl, h1, h2, h4, h6⟩
  obtain rfl : i = n := by omega
  simp -implicitDefEqProofs [h1, h2, h4, h6, wldL]
 ·rintro m ⟨fr, bs⟩ ⟨i, hi, rfl, h1, h2, h4, h6⟩
  obtain ⟨g, hl, hw⟩ := key i (by omega)
  have hlt' : (i : Int) < n := by omega
  have hwi : IntKind.wrap .i64 ((i : Int) + 1) = (i : Int) + 1 := zaw (by omega) (by omega)
  have q1 := zs5 (s (i + 1)) (zck hw).small
  rw [hw] at q1
  unfold RoundC at g
  obtain ⟨u', hu'⟩ : ∃ u', u' = s (i + 1) := ⟨_, rfl⟩
  rw [← hu'] at g q1 hl
  simp only [wldD, Wld.cells, za2, zbc, zbl, wldL, hl] at g q1
  simp -implicitDefEqProofs [h1, h2, h4, h6, hlt', wldL]
  refine zaa g ?_
  simp -implicitDefEqProofs [h1, h2, h4, h6]
  refine zaa (z4z _) ?_
  simp -implicitDefEqProofs [h1, h2, h4, h6]
  refine zaa q1 ?_
  simp -implicitDefEqProofs [h1, h2, h4, h6, hl, hwi]
  refine ⟨i + 1, by omega, ?_⟩
  subst hu'
  simp [wldL, hl]
 ·rintro ⟨fr, bs⟩ ⟨rfl, h2, h4⟩
  simp -implicitDefEqProofs [h2, h4, wldL]
 ·rintro ⟨fr, bs⟩ h
  exact h.elim
end Go.AM
/- AM: contracts: the worlds that heal. -/
namespace Go.AM
def atN (ns : List Node) (j : Int) : Nat := (gIdx (hasN j) 0 ns).toNat
def stepJ (ns : List Node) (i : Nat) (part : List Int) (j : Int) : List Int :=
 (part.set i (min (part[i]?.getD 0) (part[atN ns j]?.getD 0))).set (atN ns j) (min (part[i]?.getD 0) (part[atN ns j]?.getD 0))
def stepI (ns : List Node) (part : List Int) (x : Node × Nat) : List Int := (zbm x.1.view).foldl (stepJ ns x.2) part
def stepT (ns : List Node) (part : List Int) : List Int := ns.zipIdx.foldl (stepI ns) part
def partOf (ns : List Node) : List Int := (List.range ns.length).foldl (fun p _ => stepT ns p) ((List.range ns.length).map Int.ofNat)
def wholeB (w : Wld) : Bool := decide (w.cuts.length = 0) && (decide (w.packets.length ≤ 200) && (za9 w && (w.nodes.all Node.up && (partOf w.nodes).all fun r => decide (r = 0))))
theorem Dist.trans {w : Wld} {a b : Nat} {i m j : Int} (h1 : Dist w a i m) (h2 : Dist w b m j) : Dist w (a + b) i j := by
 induction b generalizing j with
 | zero => obtain rfl : m = j := h2; exact h1
 | succ b ih =>
   obtain ⟨z, hz, hn⟩ := h2
   exact ⟨z, ih hz, hn⟩
def Conn (w : Wld) (i j : Nat) : Prop := ∃ x y, w.nodes[i]? = some x ∧ w.nodes[j]? = some y ∧ ∃ d, Dist w d x.view.id y.view.id
theorem Conn.symm {w : Wld} {i j : Nat} (h : Conn w i j) : Conn w j i := by
 obtain ⟨x, y, hx, hy, d, hd⟩ := h
 exact ⟨y, x, hy, hx, d, hd.symm⟩
theorem Conn.trans {w : Wld} {i j k : Nat} (h : Conn w i j) (g : Conn w j k) : Conn w i k := by
 obtain ⟨x, y, hx, hy, d, hd⟩ := h
 obtain ⟨y', z, hy', hz, e, he⟩ := g
 rw [hy] at hy'
 cases hy'
 exact ⟨x, z, hx, hz, d + e, hd.trans he⟩
theorem Conn.lt {w : Wld} {i j : Nat} (h : Conn w i j) : i < w.nodes.length ∧ j < w.nodes.length := by
 obtain ⟨x, y, hx, hy, _⟩ := h
 exact ⟨(List.getElem?_eq_some_iff.1 hx).1, (List.getElem?_eq_some_iff.1 hy).1⟩
theorem z4n {ns : List Node} {j : Int} (h : j ∈ idsN ns) : atN ns j < ns.length ∧ gIdx (hasN j) 0 ns = (atN ns j : Int) ∧ ∃ y, ns[atN ns j]? = some y ∧ y.view.id = j := by
 have key : ∀ (ms : List Node) (k : Nat), j ∈ idsN ms → ∃ p, p < ms.length ∧ gIdx (hasN j) k ms = ((k + p : Nat) : Int) ∧ ∃ y, ms[p]? = some y ∧ y.view.id = j := by
  intro ms
  induction ms with
  | nil => intro k h; simp [idsN] at h
  | cons x ms ih =>
    intro k h
    by_cases hx : x.view.id = j
    ·exact ⟨0, by simp, by simp [gIdx, hasN, hx], x, rfl, hx⟩
    ·have h2 : j ∈ idsN ms := by
      rcases List.mem_cons.1 h with e | e
      ·exact absurd e.symm hx
      ·exact e
     obtain ⟨p, p1, p2, y, p3, p4⟩ := ih (k + 1) h2
     refine ⟨p + 1, by simp; omega, ?_, y, by simpa using p3, p4⟩
     have hh : hasN j x = false := by simp [hasN, hx]
     simp only [gIdx, hh]
     rw [if_neg (by simp), p2]
     congr 1
     omega
 obtain ⟨p, p1, p2, y, p3, p4⟩ := key ns 0 h
 have e : atN ns j = p := by unfold atN; rw [p2]; simp
 rw [e]
 exact ⟨p1, by rw [p2]; simp, y, p3, p4⟩
structure Part (w : Wld) (part : List Int) : Prop where
 len : part.length = w.nodes.length
 conn : ∀ i, i < w.nodes.length → ∃ r : Nat, part[i]? = some (r : Int) ∧ Conn w i r
theorem z8r {w : Wld} : Part w ((List.range w.nodes.length).map Int.ofNat) := by
 refine ⟨by simp, fun i hi => ⟨i, by simp [hi], ?_⟩⟩
 obtain ⟨x, hx⟩ : ∃ x, w.nodes[i]? = some x := ⟨_, List.getElem?_eq_getElem hi⟩
 exact ⟨x, x, hx, hx, 0, rfl⟩
theorem qc3 {w : Wld} {part : List Int} {i : Nat} {x : Node} {j : Int} (h : Part w part) (hx : w.nodes[i]? = some x) (hj : j ∈ zbm x.view) (hin : j ∈ idsN w.nodes) : Part w (stepJ w.nodes i part j) := by
 obtain ⟨a1, a2, y, a3, a4⟩ := z4n hin
 have hi := (List.getElem?_eq_some_iff.1 hx).1
 obtain ⟨r, r1, r2⟩ := h.conn i hi
 obtain ⟨q, q1, q2⟩ := h.conn _ a1
 have hc : Conn w i (atN w.nodes j) := ⟨x, y, hx, a3, 1, Dist.one.2 (.inr (.inl ⟨x, List.mem_of_getElem? hx, rfl, by rw [a4]; exact hj⟩))⟩
 have hlen := h.len
 obtain ⟨p, hp, p1, p2⟩ : ∃ p : Nat, min ((part[i]?).getD 0) ((part[atN w.nodes j]?).getD 0) = (p : Int) ∧ Conn w i p ∧ Conn w (atN w.nodes j) p := by
  rw [r1, q1]
  simp only [Option.getD_some]
  rcases Nat.le_total r q with hle | hle
  ·exact ⟨r, by omega, r2, hc.symm.trans r2⟩
  ·exact ⟨q, by omega, hc.trans q2, q2⟩
 unfold stepJ
 rw [hp]
 refine ⟨by simp [hlen], fun k hk => ?_⟩
 by_cases h1 : k = atN w.nodes j
 ·subst h1
  exact ⟨p, by rw [List.getElem?_set_self (by simp; omega)], p2⟩
 ·rw [List.getElem?_set_ne (fun e => h1 e.symm)]
  by_cases h2 : k = i
  ·subst h2
   exact ⟨p, by rw [List.getElem?_set_self (by omega)], p1⟩
  ·rw [List.getElem?_set_ne (fun e => h2 e.symm)]
   exact h.conn k hk
theorem qdu {w : Wld} (hM : May w) : Part w (partOf w.nodes) := by
 have h1 : ∀ (i : Nat) (x : Node), w.nodes[i]? = some x → ∀ (js : List Int) (part : List Int), (∀ j ∈ js, j ∈ zbm x.view) → Part w part → Part w (js.foldl (stepJ w.nodes i) part) := by
  intro i x hx js
  induction js with
  | nil => intro part _ h; exact h
  | cons j js ih =>
    intro part hj h
    exact ih _ (fun k hk => hj k (by simp [hk])) (qc3 h hx (hj j (by simp)) (hM.inN x (List.mem_of_getElem? hx) j (hj j (by simp))))
 have h2 : ∀ (xs : List (Node × Nat)) (part : List Int), (∀ p ∈ xs, w.nodes[p.2]? = some p.1) → Part w part → Part w (xs.foldl (stepI w.nodes) part) := by
  intro xs
  induction xs with
  | nil => intro part _ h; exact h
  | cons p xs ih =>
    intro part hp h
    exact ih _ (fun q hq => hp q (by simp [hq])) (h1 p.2 p.1 (hp p (by simp)) _ part (fun j hj => hj) h)
 have h3 : ∀ part, Part w part → Part w (stepT w.nodes part) := fun part h => h2 _ part (fun p hp => by
  obtain ⟨x, i⟩ := p
  exact (List.mem_zipIdx_iff_getElem?.1 hp)) h
 have h4 : ∀ (ts : List Nat) (part : List Int), Part w part → Part w (ts.foldl (fun p _ => stepT w.nodes p) part) := by
  intro ts
  induction ts with
  | nil => intro part h; exact h
  | cons t ts ih => intro part h; exact ih _ (h3 _ h)
 exact h4 _ _ z8r
theorem z49 {w : Wld} (h : wholeB w = true) : Fine (idsN w.nodes) w ∧ w.packets.length ≤ 200 ∧ ∀ i ∈ idsN w.nodes, ∀ j ∈ idsN w.nodes, Dist w 8 i j := by
 simp only [wholeB, Bool.and_eq_true, decide_eq_true_eq, List.all_eq_true] at h
 obtain ⟨h1, h2, h3, h4, h5⟩ := h
 have hM := zfr.1 h3
 have hF : Fine (idsN w.nodes) w := ⟨hM, h4, List.eq_nil_of_length_eq_zero h1, rfl⟩
 have hP := qdu hM
 have hz : ∀ i, i < w.nodes.length → Conn w i 0 := by
  intro i hi
  obtain ⟨r, r1, r2⟩ := hP.conn i hi
  have := h5 _ (List.mem_of_getElem? r1)
  have : r = 0 := by omega
  subst this
  exact r2
 refine ⟨hF, h2, fun i hi j hj => ?_⟩
 obtain ⟨x, hx, rfl⟩ := zek.1 hi
 obtain ⟨y, hy, rfl⟩ := zek.1 hj
 obtain ⟨k, hk⟩ := List.getElem?_of_mem hx
 obtain ⟨l, hl⟩ := List.getElem?_of_mem hy
 have hc := (hz k (List.getElem?_eq_some_iff.1 hk).1).trans (hz l (List.getElem?_eq_some_iff.1 hl).1).symm
 obtain ⟨x', y', hx', hy', d, hd⟩ := hc
 rw [hk] at hx'
 rw [hl] at hy'
 cases hx'
 cases hy'
 refine qd4 hi (fun a b hn ha => ?_) hF.few hd
 rcases hn with rfl | ⟨z, hz, he, hm⟩ | ⟨z, hz, he, hm⟩
 ·exact ha
 ·exact hM.inN z hz b hm
 ·exact zek.2 ⟨z, hz, he⟩
end Go.AM
/- AM: plain: the owner, the next one, and who asks. -/
namespace Go.AM
theorem qg9 {S : List Int} {k : Int} (hk : place k = true) (h8 : S.length ≤ 8) (hne : 1 ≤ S.length) (hpl : ∀ j ∈ S, place j = true) : ∃ o, zfj S k = (o, 0) ∧ o ∈ S ∧ ∀ j ∈ S, far k o ≤ far k j := by
 have h1 : decide (S.length ≤ 64) = true := by simpa using (by omega : S.length ≤ 64)
 have h2 : S.all place = true := List.all_eq_true.2 hpl
 unfold zfj
 rw [hk, h1, h2]
 cases S with
 | nil => simp at hne
 | cons x xs => exact ⟨zdv k x xs, rfl, zlt k xs x, zso k xs x⟩
theorem qbn {S : List Int} {n : Nat} {w v : Wld} (h : Rnds S (n + 1) w v) : v.packets = [] := by
 cases h with
 | succ _ h => exact (zhl h).2
theorem z41 {S : List Int} {w : Wld} (hF : Fine S w) {P : Nat} {x : Node} (h : w.nodes[P]? = some x) : S[P]? = some x.view.id := by
 rw [← hF.ids]
 unfold idsN
 rw [List.getElem?_map, h]
 rfl
theorem qdh {S : List Int} {k : Int} {w v : Wld} (hF : Fine S w) (h : Rnds S 8 w v) (hc : ∀ i ∈ S, ∀ j ∈ S, Dist w 8 i j) (hl : (zob (zf8 w)).length ≤ 16) (hk : place k = true) :
 ∃ (o : Int) (P : Nat) (y z : Node), zfj S k = (o, 0) ∧ (∀ j ∈ S, far k o ≤ far k j) ∧ gIdx (hasN o) 0 v.nodes = (P : Int) ∧ v.nodes[P]? = some y ∧ y.view.id = o ∧ v.nodes[(P + 1) % v.nodes.length]? = some z ∧
   getR y.items k = zjr k (zf8 w) ∧ getR z.items k = zjr k (zf8 w) := by
 have hv := h.fine
 obtain ⟨hp, hpl⟩ := zzz hv
 have h1 : 1 ≤ S.length := by rw [← hv.len]; exact (zb1 hv.may.nodes).2.2.1
 obtain ⟨o, e1, e2, e3⟩ := qg9 hk hv.few h1 hpl
 obtain ⟨a1, a2, y, a3, a4⟩ := z4n (ns := v.nodes) (by rw [hv.ids]; exact e2)
 generalize atN v.nodes o = P at *
 have hS : S[P]? = some o := by rw [← a4]; exact z41 hv a3
 obtain ⟨t, t1, t2, t3⟩ := qff hp hpl hS
 have hlt : (P + 1) % v.nodes.length < v.nodes.length := Nat.mod_lt _ (by omega)
 obtain ⟨z, hz⟩ : ∃ z, v.nodes[(P + 1) % v.nodes.length]? = some z := ⟨_, List.getElem?_eq_getElem hlt⟩
 have hzt : z.view.id = t := by
  have := z41 hv hz
  rw [hv.len, t1] at this
  exact (Option.some.inj this).symm
 refine ⟨o, P, y, z, e1, e3, a2, a3, a4, hz, z6i hF h hc hl hk e2 e3 (List.mem_of_getElem? a3) (.inl a4), z6i hF h hc hl hk e2 e3 (List.mem_of_getElem? hz) ?_⟩
 rw [hzt]
 by_cases hto : t = o
 ·exact .inl hto
 ·exact .inr ⟨hto, t3⟩
theorem qib (who : Int) {n : Nat} (h1 : 1 ≤ n) (h8 : n ≤ 8) : ∃ c : Nat, (IntKind.wrap .u64 who).tmod (n : Int) = (c : Int) ∧ c < n := by
 have h0 : 0 ≤ IntKind.wrap .u64 who := by
  unfold IntKind.wrap
  simp [IntKind.bits, IntKind.signed]
  omega
 refine ⟨((IntKind.wrap .u64 who).tmod n).toNat, ?_, ?_⟩
 ·have := Int.tmod_nonneg (n : Int) h0
  omega
 ·have := Int.tmod_lt_of_pos (IntKind.wrap .u64 who) (b := (n : Int)) (by omega)
  omega
end Go.AM
/- AM: contracts: whole, walked. -/
namespace Go.AM
theorem qi1 (r q : Int) : (if q < r then q else r) = min r q := by split <;> omega
theorem qcw (w : Wld) (hs : w.small) : Den PP 12 [.agg (wldL w)] [] (.bool (wholeB w)) [] := by
 have c1 := zs5 w hs
 unfold wholeB
 obtain ⟨A, hA⟩ : ∃ A, partOf w.nodes = A := ⟨_, rfl⟩
 obtain ⟨U, hU⟩ : ∃ U, w.nodes.all Node.up = U := ⟨_, rfl⟩
 simp only [wldD, Wld.cells, za2, zbc, zbl] at c1
 simp only [wldL]
 have hcl : (0 : Int) < w.cuts.length ↔ ¬ w.cuts.length = 0 := by omega
 have hpl : (200 : Int) < w.packets.length ↔ ¬ w.packets.length ≤ 200 := by omega
 refine zak [] [] zqe ?_
 by_cases h1 : w.cuts.length = 0
 rotate_left
 ·have h1' : 0 < w.cuts.length := by omega
  simp -implicitDefEqProofs [zfb, h1, h1']
 have h1' : ¬ 0 < w.cuts.length := by omega
 by_cases h2 : w.packets.length ≤ 200
 rotate_left
 ·have h2' : (200 : Int) < w.packets.length := by omega
  simp -implicitDefEqProofs [zfb, h1, h1', h2, h2']
 have h2' : ¬ (200 : Int) < w.packets.length := by omega
 rw [h1] at c1
 simp -implicitDefEqProofs [zfb, h1, h1', h2, h2']
 refine zaa c1 ?_
 cases hw : za9 w with
 | false => simp -implicitDefEqProofs
 | true =>
 have hM := zfr.1 hw
 have hk8 := (zb1 hM.nodes).2.2.2
 have hk1 := (zb1 hM.nodes).2.2.1
 simp -implicitDefEqProofs
 have e5 : (w.nodes.length : Int) * 8 ≤ 140737488355328 := by omega
 have e6 : (w.nodes.length : Int) ≤ 9223372036854775807 := by omega
 simp -implicitDefEqProofs [e5, e6]
 have hin : ∀ x ∈ w.nodes, ∀ j ∈ zbm x.view, j ∈ idsN w.nodes := fun x hx j hj => hM.inN x hx j hj
 have hvm : ∀ x ∈ w.nodes, zbd x.view = true := fun x hx => (zfc (hM.node hx)).2.1
 clear hcl hpl c1 hs hw hM
 obtain ⟨ns, cs, ps⟩ := w
 simp only at *
 refine za3 (List.range ns.length) (fun i rest => fun ⟨fr, bs⟩ => ∃ part : List Int, bs = [⟨[[.sl (ns.map Node.cells) ns.length, .sl (cs.map Cut.row) 0, .sl (ps.map Msg.row) ps.length]], 3, .box⟩, ⟨part.map irow, 1, .mut⟩] ∧ part.length = ns.length ∧ (∀ j, j < i → part[j]? = some (j : Int)) ∧ fr 1 = .ptr 0 0 0 ∧ fr 3 = .int .i64 ns.length ∧ fr 4 = .ref 1 0 ns.length ∧ fr 5 = .int .i64 i)
  (fun ⟨fr, bs⟩ => bs = [⟨[[.sl (ns.map Node.cells) ns.length, .sl (cs.map Cut.row) 0, .sl (ps.map Msg.row) ps.length]], 3, .box⟩, ⟨((List.range ns.length).map Int.ofNat).map irow, 1, .mut⟩] ∧ fr 1 = .ptr 0 0 0 ∧ fr 3 = .int .i64 ns.length ∧ fr 4 = .ref 1 0 ns.length) (fun _ => False) zh6.eq_1 ?_ ?_ ?_ ?_ ?_
 ·exact ⟨List.replicate ns.length 0, by simp [irow], by simp, fun j hj => by omega, rfl, rfl, rfl, rfl⟩
 ·rintro i ⟨fr, bs⟩ hi ⟨part, rfl, hl, hp, g1, g3, g4, g5⟩
  have hi : i = ns.length := by simpa using hi
  have hpe : part = (List.range ns.length).map Int.ofNat := by
   apply List.ext_getElem?
   intro j
   by_cases hj : j < ns.length
   ·rw [hp j (by omega)]
    simp [hj]
   ·rw [List.getElem?_eq_none (by omega), List.getElem?_eq_none (by simp; omega)]
  subst hpe hi
  simp -implicitDefEqProofs [g1, g3, g4, g5]
 ·rintro i a rest ⟨fr, bs⟩ hlt hget hgg hd hd2 ⟨part, rfl, hl, hp, g1, g3, g4, g5⟩
  have hi : i < ns.length := by simpa using hlt
  have hi' : (i : Int) < ns.length := by omega
  have hw : IntKind.wrap .i64 ((i : Int) + 1) = (i : Int) + 1 := zaw (by omega) (by omega)
  clear hd hd2 hget hgg
  simp -implicitDefEqProofs [g1, g3, g4, g5, hi, hi', hl, hw]
  refine ⟨part.set i (i : Int), ?_, by simp [hl], fun j hj => ?_⟩
  ·simp [List.map_set, irow]
   rfl
  ·by_cases hji : j = i
   ·subst hji
    rw [List.getElem?_set_self (by omega)]
   ·rw [List.getElem?_set_ne (by omega)]
    exact hp j (by omega)
 ·rintro ⟨fr, bs⟩ ⟨rfl, g1, g3, g4⟩
  have hzu : ∀ (zs : List (Node × Nat)), zs = ns.zipIdx → (zs.all fun p => p.1.up) = U := by
   rintro zs rfl
   rw [← hU]
   have : (ns.zipIdx.map Prod.fst) = ns := by simp
   conv => rhs; rw [← this]
   rw [List.all_map]
   rfl
  simp -implicitDefEqProofs [g1, g3, g4]
  refine za3 (List.range ns.length) (fun t rest => fun ⟨fr, bs⟩ => ∃ part : List Int, bs = [⟨[[.sl (ns.map Node.cells) ns.length, .sl (cs.map Cut.row) 0, .sl (ps.map Msg.row) ps.length]], 3, .box⟩, ⟨part.map irow, 1, .mut⟩] ∧ part.length = ns.length ∧ rest.foldl (fun p _ => stepT ns p) part = A ∧ (0 < t → U = true) ∧ fr 1 = .ptr 0 0 0 ∧ fr 3 = .int .i64 ns.length ∧ fr 4 = .ref 1 0 ns.length ∧ fr 6 = .int .i64 t)
   (fun ⟨fr, bs⟩ => bs = [⟨[[.sl (ns.map Node.cells) ns.length, .sl (cs.map Cut.row) 0, .sl (ps.map Msg.row) ps.length]], 3, .box⟩, ⟨A.map irow, 1, .mut⟩] ∧ A.length = ns.length ∧ U = true ∧ fr 1 = .ptr 0 0 0 ∧ fr 3 = .int .i64 ns.length ∧ fr 4 = .ref 1 0 ns.length) (fun ⟨fr, bs⟩ => fr 2 = .bool false ∧ U = false) zh7.eq_1 ?_ ?_ ?_ ?_ ?_
  ·exact ⟨_, by simp, by simp, hA, fun h => by omega, by simp [g1], by simp [g3], by simp [g4], by simp⟩
  ·rintro t ⟨fr, bs⟩ ht ⟨part, rfl, hl, hf, hu, g1, g3, g4, g6⟩
   have ht : t = ns.length := by simpa using ht
   obtain rfl : part = A := hf
   have hut := hu (by omega)
   subst ht
   simp -implicitDefEqProofs [g1, g3, g4, g6]
   exact ⟨hl, hut⟩
  ·rintro t a rest ⟨fr, bs⟩ hlt hget hgg hd hd2 ⟨part, rfl, hl, hf, hu, g1, g3, g4, g6⟩
   have ht : t < ns.length := by simpa using hlt
   have ht' : (t : Int) < ns.length := by omega
   have hwt : IntKind.wrap .i64 ((t : Int) + 1) = (t : Int) + 1 := zaw (by omega) (by omega)
   obtain ⟨B, hB⟩ : ∃ B, stepT ns part = B := ⟨_, rfl⟩
   rw [List.foldl_cons, hB] at hf
   clear hd hd2 hget hgg hu
   simp -implicitDefEqProofs [g1, g3, g4, g6, ht']
   refine za3 ns.zipIdx (fun i rest => fun ⟨fr, bs⟩ => ∃ part : List Int, bs = [⟨[[.sl (ns.map Node.cells) ns.length, .sl (cs.map Cut.row) 0, .sl (ps.map Msg.row) ps.length]], 3, .box⟩, ⟨part.map irow, 1, .mut⟩] ∧ part.length = ns.length ∧ rest.foldl (stepI ns) part = B ∧ (rest.all fun p => p.1.up) = U ∧ fr 1 = .ptr 0 0 0 ∧ fr 3 = .int .i64 ns.length ∧ fr 4 = .ref 1 0 ns.length ∧ fr 6 = .int .i64 t ∧ fr 7 = .int .i64 i)
    (fun ⟨fr, bs⟩ => bs = [⟨[[.sl (ns.map Node.cells) ns.length, .sl (cs.map Cut.row) 0, .sl (ps.map Msg.row) ps.length]], 3, .box⟩, ⟨B.map irow, 1, .mut⟩] ∧ B.length = ns.length ∧ U = true ∧ fr 1 = .ptr 0 0 0 ∧ fr 3 = .int .i64 ns.length ∧ fr 4 = .ref 1 0 ns.length ∧ fr 6 = .int .i64 t) (fun ⟨fr, bs⟩ => fr 2 = .bool false ∧ U = false) zii.eq_1 ?_ ?_ ?_ ?_ ?_
   ·exact ⟨part, by simp, hl, hB, hzu _ rfl, by simp [g1], by simp [g3], by simp [g4], by simp [g6], by simp⟩
   ·rintro i ⟨fr, bs⟩ hi ⟨part, rfl, hl, hf2, hu, g1, g3, g4, g6, g7⟩
    have hi : i = ns.length := by simpa using hi
    obtain rfl : part = B := hf2
    have hut : U = true := by simpa using hu.symm
    subst hi
    simp -implicitDefEqProofs [g1, g3, g4, g6, g7]
    exact ⟨hl, hut⟩
   ·rintro i ⟨x, i'⟩ rest ⟨fr, bs⟩ hlt hget hgg hd hd2 ⟨part, rfl, hl, hf2, hu, g1, g3, g4, g6, g7⟩
    obtain ⟨hx, hii⟩ : ns[i]? = some x ∧ i' = i := by
     rw [List.getElem?_zipIdx] at hget
     cases hc : ns[i]? with
     | none => rw [hc] at hget; cases hget
     | some z => rw [hc] at hget; simp at hget; exact ⟨by rw [hget.1], by omega⟩
    subst hii
    have hi := (List.getElem?_eq_some_iff.1 hx).1
    have hi' : (i' : Int) < ns.length := by omega
    have hgx := zqh hx
    have hwi : IntKind.wrap .i64 ((i' : Int) + 1) = (i' : Int) + 1 := zaw (by omega) (by omega)
    have hxm := List.mem_of_getElem? hx
    obtain ⟨C, hC⟩ : ∃ C, stepI ns part (x, i') = C := ⟨_, rfl⟩
    rw [List.foldl_cons, hC] at hf2
    rw [List.all_cons] at hu
    clear hd hd2 hget hgg hlt
    simp -implicitDefEqProofs [g1, g3, g4, g6, g7, hi, hi', hx, hgx, Node.cells, zat, zap, zav, zay]
    cases hxu : x.up with
    | false =>
      simp -implicitDefEqProofs
      rw [hxu] at hu
      simpa using hu.symm
    | true =>
      rw [hxu] at hu
      have n1 := qby x.view (hvm x hxm)
      have hnx := hin x hxm
      have l1 : (zbm x.view).length ≤ 16 := by have := (za1 (hvm x hxm)).2.2.1; simp [zbm]; omega
      unfold stepI at hC
      simp only at hC
      generalize zbm x.view = js at *
      simp only [zd6, View.cells, zat, zap] at n1
      simp -implicitDefEqProofs [g1, g3, g4, g6, g7, hi, hi', hx, hgx, Node.cells, zat, zap, zav, zay]
      refine zaa n1 ?_
      simp -implicitDefEqProofs
      refine za3 js (fun j rest => fun ⟨fr, bs⟩ => ∃ part : List Int, bs = [⟨[[.sl (ns.map Node.cells) ns.length, .sl (cs.map Cut.row) 0, .sl (ps.map Msg.row) ps.length]], 3, .box⟩, ⟨part.map irow, 1, .mut⟩] ∧ part.length = ns.length ∧ rest.foldl (stepJ ns i') part = C ∧ fr 1 = .ptr 0 0 0 ∧ fr 3 = .int .i64 ns.length ∧ fr 4 = .ref 1 0 ns.length ∧ fr 6 = .int .i64 t ∧ fr 7 = .int .i64 i' ∧ fr 8 = .sl (js.map irow) js.length ∧ fr 9 = .int .i64 j)
       (fun ⟨fr, bs⟩ => bs = [⟨[[.sl (ns.map Node.cells) ns.length, .sl (cs.map Cut.row) 0, .sl (ps.map Msg.row) ps.length]], 3, .box⟩, ⟨C.map irow, 1, .mut⟩] ∧ C.length = ns.length ∧ fr 1 = .ptr 0 0 0 ∧ fr 3 = .int .i64 ns.length ∧ fr 4 = .ref 1 0 ns.length ∧ fr 6 = .int .i64 t ∧ fr 7 = .int .i64 i') (fun _ => False) zia.eq_1 ?_ ?_ ?_ ?_ ?_
      ·exact ⟨part, by simp, hl, hC, by simp [g1], by simp [g3], by simp [g4], by simp [g6], by simp [g7], by simp, by simp⟩
      ·rintro j ⟨fr, bs⟩ hj ⟨part, rfl, hl, hf3, g1, g3, g4, g6, g7, g8, g9⟩
       obtain rfl : part = C := hf3
       simp -implicitDefEqProofs [g1, g3, g4, g6, g7, g8, g9, hj]
       exact hl
      ·rintro j id rest ⟨fr, bs⟩ hlj hgj hggj hdj hdj2 ⟨part, rfl, hl, hf3, g1, g3, g4, g6, g7, g8, g9⟩
       have hj' : (j : Int) < js.length := by omega
       have hwj : IntKind.wrap .i64 ((j : Int) + 1) = (j : Int) + 1 := zaw (by omega) (by omega)
       have k1 := zum ns id (by unfold cap; omega)
       obtain ⟨a1, a2, -⟩ := z4n (hnx id (List.mem_of_getElem? hgj))
       rw [a2] at k1
       rw [List.foldl_cons] at hf3
       unfold stepJ at hf3
       obtain ⟨P, hP⟩ : ∃ P, atN ns id = P := ⟨_, rfl⟩
       rw [hP] at a1 k1 hf3
       have a1' : (P : Int) < ns.length := by omega
       have p1 : P < part.length := by omega
       have p2 : i' < part.length := by omega
       obtain ⟨r, hr⟩ : ∃ r, part[i']? = some r := ⟨_, List.getElem?_eq_getElem p2⟩
       obtain ⟨q, hq⟩ : ∃ q, part[P]? = some q := ⟨_, List.getElem?_eq_getElem p1⟩
       have hgr := zqh hr
       have hgq := zqh hq
       rw [hr, hq] at hf3
       simp only [Option.getD_some] at hf3
       rw [← qi1] at hf3
       clear hdj hdj2 n1
       simp only [za2] at k1
       simp -implicitDefEqProofs [g1, g3, g4, g6, g7, g8, g9, hlj, hj', hgj, hggj, irow]
       refine zaa k1 ?_
       simp -implicitDefEqProofs [g1, g3, g4, g6, g7, g8, g9, hi, hi', a1, a1', p1, p2, hl, hr, hq, hgr, hgq, irow]
       have hmin : minL (fun x y : Int => if y < x then y else x) [D.int .i64 r, D.int .i64 q] = some (.i64, if q < r then q else r) := rfl
       obtain ⟨m, hm⟩ : ∃ m, (if q < r then q else r) = m := ⟨_, rfl⟩
       rw [hm] at hmin hf3
       have hms : ∀ (pt : List Int) (k : Nat) (z : Int), (pt.map irow).set k [.int .i64 z] = (pt.set k z).map irow := fun pt k z => by rw [List.map_set]; rfl
       simp -implicitDefEqProofs [g1, g3, g4, g6, g7, g8, g9, hi, hi', a1, a1', p1, p2, hl, hmin, hwj, irow, hms, -List.map_set]
       exact ⟨_, rfl, by simp [hl], hf3⟩
      ·rintro ⟨fr, bs⟩ ⟨rfl, hl, g1, g3, g4, g6, g7⟩
       simp -implicitDefEqProofs [g1, g3, g4, g6, g7, hwi]
       exact ⟨C, rfl, hl, hf2, by simpa using hu⟩
      ·rintro ⟨fr, bs⟩ h
       exact h.elim
   ·rintro ⟨fr, bs⟩ ⟨rfl, hl, hut, g1, g3, g4, g6⟩
    simp -implicitDefEqProofs [g1, g3, g4, g6, hwt]
    exact ⟨B, rfl, hl, hf, hut⟩
   ·rintro ⟨fr, bs⟩ ⟨h, hu⟩
    simp -implicitDefEqProofs [h, hu]
  ·rintro ⟨fr, bs⟩ ⟨rfl, hl, hut, g1, g3, g4⟩
   obtain ⟨V, hV⟩ : ∃ V, (A.all fun r => decide (r = 0)) = V := ⟨_, rfl⟩
   rw [hU, hut, hA, hV]
   simp -implicitDefEqProofs [g1, g3, g4]
   refine za3 A (fun i rest => fun ⟨fr, bs⟩ => bs = [⟨[[.sl (ns.map Node.cells) ns.length, .sl (cs.map Cut.row) 0, .sl (ps.map Msg.row) ps.length]], 3, .box⟩, ⟨A.map irow, 1, .mut⟩] ∧ (rest.all fun r => decide (r = 0)) = V ∧ fr 1 = .ptr 0 0 0 ∧ fr 3 = .int .i64 ns.length ∧ fr 4 = .ref 1 0 ns.length ∧ fr 12 = .int .i64 i)
    (fun ⟨fr, bs⟩ => V = true) (fun ⟨fr, bs⟩ => fr 2 = .bool false ∧ V = false) zh9.eq_1 ?_ ?_ ?_ ?_ ?_
   ·exact ⟨by simp, hV, by simp [g1], by simp [g3], by simp [g4], by simp⟩
   ·rintro i ⟨fr, bs⟩ hi ⟨rfl, hv, g1, g3, g4, g12⟩
    rw [hl] at hi
    subst hi
    simp -implicitDefEqProofs [g1, g3, g4, g12]
    simpa using hv.symm
   ·rintro i a rest ⟨fr, bs⟩ hlt hget hgg hd hd2 ⟨rfl, hv, g1, g3, g4, g12⟩
    have hi : i < ns.length := by omega
    have hi' : (i : Int) < ns.length := by omega
    have hwi : IntKind.wrap .i64 ((i : Int) + 1) = (i : Int) + 1 := zaw (by omega) (by omega)
    rw [List.all_cons] at hv
    by_cases ha : a = 0
    ·subst ha
     simp -implicitDefEqProofs [g1, g3, g4, g12, hi, hi', hl, hlt, hget, hgg, irow, hwi]
     simpa using hv
    ·simp -implicitDefEqProofs [g1, g3, g4, g12, hi, hi', hl, hlt, hget, hgg, irow, ha]
     simpa [ha] using hv.symm
   ·rintro ⟨fr, bs⟩ h
    subst h
    simp -implicitDefEqProofs
   ·rintro ⟨fr, bs⟩ ⟨h, hv⟩
    simp -implicitDefEqProofs [h, hv]
  ·rintro ⟨fr, bs⟩ ⟨h, hu⟩
   rw [hU, hu]
   simp -implicitDefEqProofs [h]
 ·rintro ⟨fr, bs⟩ h
  exact h.elim
end Go.AM
/- AM: the statement TopKept, where the bulk is bounded. -/
namespace Go.AM
theorem topKept (w : Wld) (key who : Int) (hs : w.small) (hn : w.nodes.length ≤ 1048576) (hm : w.packets.length ≤ 1048576) (hb : (zf8 w).length ≤ 1048576) : Den PP 4 [wldD w, .int .i64 key, .int .i64 who] [] (.bool true) [] := by
 have hkp : place (key % 256) = true := by simp [place]; omega
 have c1 := qei w (key % 256) hn hm hb
 have c2 := qcw w hs
 have hkl := z7c (zf8 w)
 obtain ⟨k, hk⟩ : ∃ k, key % 256 = k := ⟨_, rfl⟩
 rw [hk] at c1 hkp
 cases hw : wholeB w with
 | false =>
   rw [hw] at c2
   obtain ⟨⟨X, has⟩, hR⟩ : ∃ R, zjr k (zf8 w) = R := ⟨_, rfl⟩
   rw [hR] at c1
   clear hw hR hb hn hm hs
   simp only [wldD, Wld.cells, za2, zbc, zbl, wldL, Item.row] at c1 c2 ⊢
   refine zak [] [] zfp ?_
   simp -implicitDefEqProofs [zef]
   refine zaa awake ?_
   simp -implicitDefEqProofs [hk]
   refine zaa c1 ?_
   simp -implicitDefEqProofs
   refine zaa c2 ?_
   simp -implicitDefEqProofs
 | true =>
   rw [hw] at c2
   by_cases h16 : (zob (zf8 w)).length ≤ 16
   ·obtain ⟨hF, -, hD⟩ := z49 hw
    generalize idsN w.nodes = S at *
    obtain ⟨a, c3, ha⟩ := z9z w hF 8 (by omega)
    have hfa := z8l ha hD
    have hFa := ha.fine
    have hpa := qbn ha
    obtain ⟨o, P, y, z, d1, d2, d3, d4, d5, d6, d7, d8⟩ := qdh hF ha hD h16 hkp
    have hn8 : a.nodes.length ≤ 8 := by rw [hFa.len]; exact hFa.few
    have hn1 := (zb1 hFa.may.nodes).2.2.1
    obtain ⟨c, w1, w2⟩ := qib who hn1 hn8
    obtain ⟨x, hx⟩ : ∃ x, a.nodes[c]? = some x := ⟨_, List.getElem?_eq_getElem w2⟩
    obtain ⟨b, c8, hGb⟩ := qgy hFa hpa hx hkp
    have c8 := z5h (b := .agg [.int .i64 10, .int .i64 x.view.id, .int .i64 0, .int .i64 0, .nil, .int .i64 k, .int .i64 0]) c8
    obtain ⟨d, c9, hRd⟩ := ztg b hGb.1
    have hFd := (zhl hRd).1
    obtain ⟨⟨X, has⟩, hR⟩ : ∃ R, zjr k (zf8 w) = R := ⟨_, rfl⟩
    rw [hR] at c1 d7 d8
    have hym := List.mem_of_getElem? d4
    have hzm := List.mem_of_getElem? d6
    obtain ⟨u, u1, u2, u3⟩ := qdk hFa hfa hkp hym d5 d2 d7 hGb hRd
    have c4 := z52 S k (by have := hFa.few; unfold cap; omega)
    rw [d1] at c4
    have c5 := zum a.nodes o (by unfold cap; omega)
    rw [d3] at c5
    have hys : y.items.length ≤ 16 := ((zca _).1 (zks hFa hym)).2.2
    have hzs : z.items.length ≤ 16 := ((zca _).1 (zks hFa hzm)).2.2
    have hul : u.log.length ≤ 64 := (zfc (hFd.may.node (List.mem_of_getElem? u1))).2.2.2.1
    have c6 := zs6 y.items k (by unfold zbo; omega)
    have c7 := zs6 z.items k (by unfold zbo; omega)
    rw [d7] at c6
    rw [d8] at c7
    have hids : ∀ i x, a.nodes[i]? = some x → S.take (i + 1) = S.take i ++ [x.view.id] := by
     intro i x hx
     rw [List.take_add_one, z41 hFa hx]
     rfl
    have hlen := hFa.len
    have hdl : d.nodes.length = a.nodes.length := by rw [hFd.len, hFa.len]
    have hmod : ((P : Int) + 1).tmod (a.nodes.length : Int) = (((P + 1) % a.nodes.length : Nat) : Int) := by
     rw [Int.tmod_eq_emod_of_nonneg (by omega)]
     simp
    have hQ : (P + 1) % a.nodes.length < a.nodes.length := Nat.mod_lt _ (by omega)
    have hP := (List.getElem?_eq_some_iff.1 d4).1
    have hU := (List.getElem?_eq_some_iff.1 u1).1
    have gx := zqh hx
    have gy := zqh d4
    have gz := zqh d6
    have gu := zqh u1
    have gl := zqh u3
    generalize (P + 1) % a.nodes.length = Q at *
    have hld : d.nodes.length ≠ 0 := by omega
    clear hF hD ha hfa hFa hGb hRd hFd hw hR hb hn hm hs hpa d1 d2 d3 d7 d8
    obtain ⟨ns, cs, ps⟩ := a
    obtain ⟨ms, cs2, ps2⟩ := d
    simp only at *
    simp only [wldD, Wld.cells, za2, zbc, zbl, wldL, Item.row, zap, zng, zav] at c1 c2 c3 c4 c5 c6 c7 c8 c9 ⊢
    refine zak [] [] zfp ?_
    simp -implicitDefEqProofs [zef]
    refine zaa awake ?_
    simp -implicitDefEqProofs [hk]
    refine zaa c1 ?_
    simp -implicitDefEqProofs
    refine zaa c2 ?_
    have h17 : ¬ (16 : Int) < (zob (zf8 w)).length := by omega
    simp -implicitDefEqProofs [h17]
    refine zaa c3 ?_
    simp -implicitDefEqProofs
    refine za3 ns (fun i rest => fun ⟨fr, bs⟩ => bs = [⟨[[.sl (w.nodes.map Node.cells) w.nodes.length, .sl (w.cuts.map Cut.row) w.cuts.length, .sl (w.packets.map Msg.row) w.packets.length]], 3, .box⟩, ⟨[[.int .i64 X.key, .int .i64 X.count, .int .i64 X.writer, .int .i64 X.value, .bool X.gone]], 5, .box⟩, ⟨[[.sl (ns.map Node.cells) ns.length, .sl (cs.map Cut.row) cs.length, .sl (ps.map Msg.row) ps.length]], 3, .box⟩, ⟨(S.take i).map irow, 1, .mut⟩] ∧ fr 2 = .int .i64 who ∧ fr 7 = .int .i64 k ∧ fr 8 = .ptr 1 0 0 ∧ fr 9 = .bool has ∧ fr 11 = .ptr 2 0 0 ∧ fr 13 = .ref 3 0 i ∧ fr 14 = .int .i64 i)
     (fun ⟨fr, bs⟩ => bs = [⟨[[.sl (w.nodes.map Node.cells) w.nodes.length, .sl (w.cuts.map Cut.row) w.cuts.length, .sl (w.packets.map Msg.row) w.packets.length]], 3, .box⟩, ⟨[[.int .i64 X.key, .int .i64 X.count, .int .i64 X.writer, .int .i64 X.value, .bool X.gone]], 5, .box⟩, ⟨[[.sl (ns.map Node.cells) ns.length, .sl (cs.map Cut.row) cs.length, .sl (ps.map Msg.row) ps.length]], 3, .box⟩, ⟨S.map irow, 1, .mut⟩] ∧ fr 2 = .int .i64 who ∧ fr 7 = .int .i64 k ∧ fr 8 = .ptr 1 0 0 ∧ fr 9 = .bool has ∧ fr 11 = .ptr 2 0 0 ∧ fr 13 = .ref 3 0 S.length) (fun _ => False) zg7.eq_1 ?_ ?_ ?_ ?_ ?_
    ·exact ⟨rfl, rfl, rfl, rfl, rfl, rfl, rfl, rfl⟩
    ·rintro i ⟨fr, bs⟩ hi ⟨rfl, g2, g7, g8, g9, g11, g13, g14⟩
     subst hi
     rw [hlen] at *
     rw [List.take_length] at *
     simp -implicitDefEqProofs [g2, g7, g8, g9, g11, g13, g14]
    ·rintro i a rest ⟨fr, bs⟩ hlt hget hgg hd hd2 ⟨rfl, g2, g7, g8, g9, g11, g13, g14⟩
     have hlt' : (i : Int) < ns.length := by omega
     have hwi : IntKind.wrap .i64 ((i : Int) + 1) = (i : Int) + 1 := zaw (by omega) (by omega)
     have e1 := hids i a hget
     have e2 : (S.take i).length = i := by rw [List.length_take]; omega
     have hb1 : (i + 1) * 8 ≤ 140737488355328 := by omega
     have hb2 : i ≤ 9223372036854775806 := by omega
     rw [e1]
     clear e1 hd hd2 hids c1 c2 c3 c4 c5 c6 c7 c8 c9
     generalize S.take i = L at *
     subst e2
     simp -implicitDefEqProofs [g2, g7, g8, g9, g11, g13, g14, hlt, hlt', hget, hgg, Node.cells, zat, zap, zav, zay, hb1, hb2, Fits, hwi]
     rfl
    ·rintro ⟨fr, bs⟩ ⟨rfl, g2, g7, g8, g9, g11, g13⟩
     simp -implicitDefEqProofs [g2, g7, g8, g9, g11, g13]
     refine zaa c4 ?_
     have hPi : (P : Int) < ns.length := by omega
     have hQi : (Q : Int) < ns.length := by omega
     have hCi : (c : Int) < ns.length := by omega
     have hn0 : ¬ ns.length = 0 := by omega
     have hw1 : IntKind.wrap .i64 ((P : Int) + 1) = (P : Int) + 1 := zaw (by omega) (by omega)
     have hw2 : IntKind.wrap .u64 (ns.length : Int) = ns.length := by
      unfold IntKind.wrap
      simp [IntKind.bits, IntKind.signed]
      omega
     have hw3 : IntKind.wrap .i64 (c : Int) = c := zaw (by omega) (by omega)
     simp -implicitDefEqProofs [g2, g7, g8, g9, g11]
     refine zaa c5 ?_
     simp -implicitDefEqProofs [g2, g7, g8, g9, g11, hP, hQ, hPi, hQi, gy, gz, d4, d6, hmod, hw1, hn0, Node.cells, zat, zap, zav, zay]
     refine zaa c6 ?_
     simp -implicitDefEqProofs [g2, g7, g8, g9, g11, hP, hQ, hPi, hQi, gy, gz, d4, d6, hmod, hw1, hn0, Node.cells, zat, zap, zav, zay]
     refine zaa c7 ?_
     simp -implicitDefEqProofs [g2, g7, g8, g9, g11, hP, hQ, hPi, hQi, gy, gz, d4, d6, hmod, hw1, hw2, hw3, w1, w2, hCi, gx, hx, hn0, Node.cells, zat, zap, zav, zay]
     have hE1 : 46 ∈ EQS := by decide
     have hE2 : 61 ∈ EQS := by decide
     simp -implicitDefEqProofs [hE1, g2, g7, g8, g9, g11, hP, hQ, hPi, hQi, gy, gz, d4, d6, hmod, hw1, hw2, hw3, w1, w2, hCi, gx, hx, hn0, Node.cells, View.cells, zat, zap, zav, zay]
     refine zaa c8 ?_
     simp -implicitDefEqProofs [g2, g7, g8, g9, g11]
     refine zaa c9 ?_
     simp -implicitDefEqProofs [g2, g7, g8, g9, g11]
     refine zaa (z4z _) ?_
     simp -implicitDefEqProofs [g2, g7, g8, g9, g11]
     refine zaa (z4z _) ?_
     have hUi : (c : Int) < ms.length := by omega
     have hu2 : ¬ u.log.length = 0 := u2
     have hu5 : u.log.length - 1 < u.log.length := by omega
     have hu6 : IntKind.wrap .i64 ((u.log.length : Int) - 1) = (u.log.length : Int) - 1 := zaw (by omega) (by omega)
     simp -implicitDefEqProofs [g2, g7, g8, g9, g11, hdl, hU, hUi, w2, hCi, gu, u1, hu2, Node.cells, View.cells, zat, zap, zav, zay]
     have hv1 : (0 : Int) ≤ (u.log.length : Int) - 1 := by omega
     have hv2 : (u.log.length : Int) - 1 < u.log.length := by omega
     have hv3 : ((u.log.length : Int) - 1).toNat = u.log.length - 1 := by omega
     have hv4 : (1 : Int) ≤ u.log.length := by omega
     have hv5 : 0 < u.log.length := by omega
     cases has with
     | false =>
       have e1 : zes k X false = ⟨k, false, 0⟩ := rfl
       rw [e1] at u3 gl
       simp -implicitDefEqProofs [hE2, g2, g7, g8, g9, g11, hdl, hU, hUi, w2, hCi, gu, u1, u3, gl, hu2, hu5, hu6, hv1, hv2, hv3, hv4, hv5, Node.cells, View.cells, zat, zap, zav, zay, Told.row]
     | true =>
       cases hgo : X.gone with
       | true =>
         have e1 : zes k X true = ⟨k, false, 0⟩ := by simp [zes, hgo]
         rw [e1] at u3 gl
         simp -implicitDefEqProofs [hE2, hgo, g2, g7, g8, g9, g11, hdl, hU, hUi, w2, hCi, gu, u1, u3, gl, hu2, hu5, hu6, hv1, hv2, hv3, hv4, hv5, Node.cells, View.cells, zat, zap, zav, zay, Told.row]
       | false =>
         have e1 : zes k X true = ⟨k, true, X.value⟩ := by simp [zes, hgo]
         rw [e1] at u3 gl
         simp -implicitDefEqProofs [hE2, hgo, g2, g7, g8, g9, g11, hdl, hU, hUi, w2, hCi, gu, u1, u3, gl, hu2, hu5, hu6, hv1, hv2, hv3, hv4, hv5, Node.cells, View.cells, zat, zap, zav, zay, Told.row]
    ·rintro ⟨fr, bs⟩ h
     exact h.elim
   ·obtain ⟨⟨X, has⟩, hR⟩ : ∃ R, zjr k (zf8 w) = R := ⟨_, rfl⟩
    rw [hR] at c1
    have h17 : (16 : Int) < (zob (zf8 w)).length := by omega
    clear hw hR hb hn hm hs
    simp only [wldD, Wld.cells, za2, zbc, zbl, wldL, Item.row] at c1 c2 ⊢
    refine zak [] [] zfp ?_
    simp -implicitDefEqProofs [zef]
    refine zaa awake ?_
    simp -implicitDefEqProofs [hk]
    refine zaa c1 ?_
    simp -implicitDefEqProofs
    refine zaa c2 ?_
    simp -implicitDefEqProofs [h17]
end Go.AM
