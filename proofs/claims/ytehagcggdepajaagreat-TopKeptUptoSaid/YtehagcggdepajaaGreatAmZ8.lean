/- What the proof of this claim stands on, part 8. -/
import GoSem.ClaimJoined
import Derived.Test.YtehagcggdepajaaGreatAmZ7
set_option linter.unusedVariables false
set_option linter.unusedSimpArgs false
set_option maxRecDepth 8000
set_option maxHeartbeats 0
/- AM: what a row's arguments read as, told as data. -/
namespace Go.AM

def zki (T : Tab) : Nat → Nat → Bool
 | 0, _ => false
 | n + 1, t => match (T t).d with
   | .int _ => decide ((T t).size = 1)
   | .bool => decide ((T t).size = 1)
   | .slice e => decide ((T t).size = 1) && zki T n e && decide (0 < (T e).size)
   | .struct fs => (fs.all fun f => zki T n f.2) && decide (zm2 T 0 fs = some (T t).size)
   | _ => false

def Tell (T : Tab) : Nat → Nat → List D → Prop
 | 0, _, _ => False
 | n + 1, t, cs => match (T t).d with
   | .int k => ∃ x, cs = [.int k x] ∧ (Lit.int k x).wf = true
   | .bool => ∃ b, cs = [.bool b]
   | .slice e => ∃ rows : List (List D), cs = [.sl rows rows.length] ∧ rows.length * (T e).bytes ≤ 140737488351232 ∧ ∀ r ∈ rows, Tell T n e r
   | .struct fs => TellFs (Tell T n) fs cs
   | _ => False
 where
 TellFs (F : Nat → List D → Prop) : List (Nat × Nat) → List D → Prop
 | [], cs => cs = []
 | f :: fs, cs => ∃ a b, cs = a ++ b ∧ F f.2 a ∧ TellFs F fs b

theorem zlc {α β : Type} {f : α → Option β} : ∀ {l : List α} {ys : List β}, l.mapM f = some ys → ys.length = l.length ∧ ∀ (i : Nat) (x : α), l[i]? = some x → ∃ y, ys[i]? = some y ∧ f x = some y := by
 intro l
 induction l with
 | nil => intro ys h; simp at h; subst h; simp
 | cons a l ih =>
   intro ys h
   rw [List.mapM_cons] at h
   simp only [Option.bind_eq_bind, Option.pure_def, Option.bind_eq_some_iff, Option.some.injEq] at h
   obtain ⟨y, hy, ys', hys, rfl⟩ := h
   obtain ⟨h1, h2⟩ := ih hys
   refine ⟨by simp [h1], fun i x hx => ?_⟩
   cases i with
   | zero => simp at hx; subst hx; exact ⟨y, by simp, hy⟩
   | succ i => simpa using h2 i x (by simpa using hx)

abbrev none0 : Foot := fun _ _ => False

section
variable {H : Type} {enc : TypeId × Value → H} {P : Program} {T : Tab} {eqs : List Nat} (hT : TabOk P T eqs) {w : World}

include hT in
theorem zk1 {t : Nat} (h : (T t).d.known = true) : P.cellsOf t = (T t).size ∧ P.bytesOf t = (T t).bytes := by
 obtain ⟨i, z, hi, _, hs, hb, _⟩ := (hT.ty t h).info
 simp [Program.cellsOf, Program.bytesOf, hi, hs, hb]

theorem ziq {n t : Nat} (h : zki T n t = true) : (T t).d.known = true := by
 cases n with
 | zero => cases h
 | succ n =>
   unfold zki at h
   revert h
   cases (T t).d <;> intro h <;> first | rfl | cases h

include hT in
theorem z8o : ∀ (n t : Nat), zki T n t = true → ∀ (fuel : Nat) (cs : List Value) (d : DataW H) (ps : List MemPlace), DataW.trod enc P w 0 (fun _ => true) true fuel t cs = some (d, ps) →
 (d.weights P t).all (· ≤ reachBytes) = true → ∃ ds : List D, cs.length = (T t).size ∧ ds.length = cs.length ∧ (∀ (i : Nat) (v : Value) (d : D), cs[i]? = some v → ds[i]? = some d → RepI w none0 v d) ∧ Tell T n t ds := by
 intro n
 induction n with
 | zero => intro t h; cases h
 | succ n ih =>
   intro t h fuel cs d ps htr hwt
   have hkn := ziq h
   obtain ⟨de, hde, hdo⟩ := zg8 hT hkn
   cases fuel with
   | zero => simp [DataW.trod] at htr
   | succ fuel =>
   unfold zki at h
   unfold DataW.trod at htr
   rw [hde] at htr
   unfold Tell
   cases hd' : (T t).d with
   | int k =>
     rw [hd'] at h hdo
     simp only [decide_eq_true_eq] at h
     cases de <;> simp [za0] at hdo
     subst hdo
     match cs, htr with
     | [.int k' x], htr =>
       simp only at htr
       split at htr
       ·rename_i hc
        obtain ⟨rfl, hwf⟩ := hc
        refine ⟨[.int _ x], by simp [h], rfl, ?_, x, rfl, hwf⟩
        intro i v d hv hd
        cases i with
        | zero => simp at hv hd; subst hv hd; exact .int _ _
        | succ i => simp at hd
       ·cases htr
   | bool =>
     rw [hd'] at h hdo
     simp only [decide_eq_true_eq] at h
     cases de <;> simp [za0] at hdo
     match cs, htr with
     | [.bool b], htr =>
       refine ⟨[.bool b], by simp [h], rfl, ?_, b, rfl⟩
       intro i v d hv hd
       cases i with
       | zero => simp at hv hd; subst hv hd; exact .bool _
       | succ i => simp at hd
   | slice e =>
     rw [hd'] at h hdo
     simp only [Bool.and_eq_true, decide_eq_true_eq] at h
     obtain ⟨⟨hsz, hche⟩, hpos⟩ := h
     cases de <;> simp [za0] at hdo
     rename_i e2
     have hdo := hdo.symm
     subst hdo
     have hke := ziq hche
     obtain ⟨hcell, hbyte⟩ := zk1 hT hke
     match cs, htr with
     | [.slice none 0 0], htr =>
       refine ⟨[.sl [] 0], by simp [hsz], rfl, ?_, [], rfl, by simp, by simp⟩
       intro i v d hv hd
       cases i with
       | zero =>
         simp at hv hd
         subst hv hd
         exact .sl none 0 0 [] 0 0 0 (fun _ _ => Go.undef) (by simp) (by simp) (by simp) (by simp) (fun i j h => (by simp at h)) (fun i j r d h => (by simp at h))
       | succ i => simp at hd
     | [.slice (some a) len cap], htr =>
       simp only at htr
       split at htr
       ·rename_i hc
        obtain ⟨_, hlc, hcap⟩ := hc
        simp only [Option.bind_eq_some_iff, Option.map_eq_some_iff, Prod.mk.injEq] at htr
        obtain ⟨elems, hel, rest, hrest, hd, _⟩ := htr
        subst hd
        obtain ⟨hell, helem⟩ := zlc hel
        rw [List.length_range] at hell
        rw [if_pos trivial] at hrest
        have hrl := (zlc hrest).1
        rw [List.length_range] at hrl
        have hw2 : (elems.length + rest.length) * (T e).bytes ≤ reachBytes ∧ (DataW.weightsAll P e (elems.map (·.1))).all (· ≤ reachBytes) = true := by
         unfold DataW.weights at hwt
         rw [hde] at hwt
         simp only [List.all_cons, List.all_append, Bool.and_eq_true, decide_eq_true_eq, List.length_map, hbyte] at hwt
         exact ⟨hwt.1, hwt.2.1⟩
        have hwall : ∀ (ds : List (DataW H)) (x : DataW H), (DataW.weightsAll P e ds).all (· ≤ reachBytes) = true → x ∈ ds → (x.weights P e).all (· ≤ reachBytes) = true := by
         intro ds
         induction ds with
         | nil => intro x _ hx; simp at hx
         | cons y ds ihd =>
           intro x hall hx
           unfold DataW.weightsAll at hall
           rw [List.all_append, Bool.and_eq_true] at hall
           rcases List.mem_cons.1 hx with rfl | hx
           ·exact hall.1
           ·exact ihd x hall.2 hx
        have hrow : ∀ i, i < len → ∃ (r : List D), r.length = (T e).size ∧ Tell T n e r ∧ ∀ j, j < (T e).size → ∃ v, w.cell? ((a.add (i * (T e).size)).add j) = some v ∧ ∀ d, r[j]? = some d → RepI w none0 v d := by
         intro i hi
         obtain ⟨y, hy, hfy⟩ := helem i i (by simp [hi])
         simp only [Option.bind_eq_some_iff] at hfy
         obtain ⟨ecs, hecs, htre⟩ := hfy
         have hyw : (y.1.weights P e).all (· ≤ reachBytes) = true := hwall _ _ hw2.2 (List.mem_map.2 ⟨y, List.mem_of_getElem? hy, rfl⟩)
         obtain ⟨ds, h1, h2, h3, h4⟩ := ih e hche fuel ecs y.1 y.2 htre hyw
         refine ⟨ds, by omega, h4, fun j hj => ?_⟩
         rw [hcell] at hecs
         unfold World.cells? at hecs
         rw [if_pos (Nat.zero_le _)] at hecs
         obtain ⟨v, hv, hcv⟩ := (zlc hecs).2 j j (by simp [hj])
         exact ⟨v, hcv, fun d hd => h3 j v d hv hd⟩
        let f : Nat → List D := fun i => if h : i < len then Classical.choose (hrow i h) else []
        have hf : ∀ i (h : i < len), f i = Classical.choose (hrow i h) := fun i h => dif_pos h
        have hfs : ∀ i (h : i < len), (f i).length = (T e).size ∧ Tell T n e (f i) ∧ ∀ j, j < (T e).size → ∃ v, w.cell? ((a.add (i * (T e).size)).add j) = some v ∧ ∀ d, (f i)[j]? = some d → RepI w none0 v d := by
         intro i h
         rw [hf i h]
         exact Classical.choose_spec (hrow i h)
        have hget : ∀ i r, ((List.range len).map f)[i]? = some r → i < len ∧ r = f i := by
         intro i r hr
         rw [List.getElem?_map] at hr
         by_cases hi : i < len
         ·simp [hi] at hr; exact ⟨hi, hr.symm⟩
         ·rw [List.getElem?_eq_none (by simpa using hi)] at hr; cases hr
        have hspot : 0 < len → a.spot = none := by
         intro hl
         obtain ⟨_, _, hc⟩ := hfs 0 hl
         obtain ⟨v, hv, _⟩ := hc 0 hpos
         simp only [Nat.zero_mul, Addr.add, if_true] at hv
         unfold World.cell? at hv
         split at hv
         ·split at hv
          ·cases hv
          ·rename_i hs; simpa using hs
         ·cases hv
        have haddr : ∀ i j, 0 < len → (a.add (i * (T e).size)).add j = ⟨a.block, a.off + i * (T e).size + j, none⟩ := by
         intro i j hl
         have hs := hspot hl
         obtain ⟨blk, off, spot⟩ := a
         simp only at hs
         subst hs
         rw [Addr.add_plain, Addr.add_plain]
        have hbnd : len * (T e).bytes ≤ 140737488351232 := by
         have h1 := hw2.1
         rw [hell, hrl] at h1
         refine Nat.le_trans (Nat.mul_le_mul_right _ (by omega)) h1
        refine ⟨[.sl ((List.range len).map f) len], by simp [hsz], rfl, ?_, (List.range len).map f, by simp, by simpa using hbnd, ?_⟩
        ·intro i v d hv hd
         cases i with
         | zero =>
           simp at hv hd
           subst hv hd
           refine .sl (some a) len cap _ (T e).size a.block a.off (fun i j => (w.cell? ⟨a.block, a.off + i * (T e).size + j, none⟩).getD Go.undef) (by simp) (by simpa using hlc) ?_ ?_ ?_ ?_
           ·intro r hr
            obtain ⟨i, hi, rfl⟩ := List.mem_map.1 hr
            exact (hfs i (List.mem_range.1 hi)).1
           ·intro hne
            have hl : 0 < len := by
             rcases Nat.eq_zero_or_pos len with h0 | h0
             ·subst h0; simp at hne
             ·exact h0
            have := hspot hl
            obtain ⟨blk, off, spot⟩ := a
            simp only at this
            subst this
            rfl
           ·intro i j hi hj
            have hi' : i < len := by simpa using hi
            obtain ⟨_, _, hc⟩ := hfs i hi'
            obtain ⟨v, hv, _⟩ := hc j hj
            rw [haddr i j (by omega)] at hv
            exact ⟨fun h => h, by simp [hv]⟩
           ·intro i j r d hr hd
            obtain ⟨hi', rfl⟩ := hget i r hr
            obtain ⟨hl, _, hc⟩ := hfs i hi'
            have hj : j < (T e).size := by
             have := (List.getElem?_eq_some_iff.1 hd).1
             omega
            obtain ⟨v, hv, hrep⟩ := hc j hj
            rw [haddr i j (by omega)] at hv
            simp only [hv, Option.getD_some]
            exact hrep d hd
         | succ i => simp at hd
        ·intro r hr
         obtain ⟨i, hi, rfl⟩ := List.mem_map.1 hr
         exact (hfs i (List.mem_range.1 hi)).2.1
       ·cases htr
   | struct fs =>
     rw [hd'] at h hdo
     simp only [Bool.and_eq_true, decide_eq_true_eq] at h
     obtain ⟨hfs, hcon⟩ := h
     cases de <;> simp [za0] at hdo
     rename_i fields
     simp only at htr
     split at htr
     ·rename_i hlen
      rw [(zk1 hT hkn).1] at hlen
      simp only [Option.map_eq_some_iff, Prod.mk.injEq] at htr
      obtain ⟨xs, hxs, hd, _⟩ := htr
      subst hd
      have hwt' : (DataW.weightsEach P (fields.toList.map (·.type)) (xs.map (·.1))).all (· ≤ reachBytes) = true := by
       unfold DataW.weights at hwt
       rw [hde] at hwt
       exact hwt
      clear hwt
      have key : ∀ (fl : List Field) (fs : List (Nat × Nat)) (o : Nat) (xs : List (DataW H × List MemPlace)), fl.map (fun f => (f.offset, f.type)) = fs → (fs.all fun f => zki T n f.2) = true → zm2 T o fs = some (T t).size →
       (fl.mapM fun f => DataW.trod enc P w 0 (fun _ => true) true fuel f.type ((cs.drop f.offset).take (P.cellsOf f.type))) = some xs →
       (DataW.weightsEach P (fl.map (·.type)) (xs.map (·.1))).all (· ≤ reachBytes) = true → o ≤ cs.length →
       ∃ ds : List D, ds.length = cs.length - o ∧ (∀ (i : Nat) (v : Value) (d : D), (cs.drop o)[i]? = some v → ds[i]? = some d → RepI w none0 v d) ∧ Tell.TellFs (Tell T n) fs ds := by
       intro fl
       induction fl with
       | nil =>
         intro fs o xs hm _ hcon _ _ ho
         subst hm
         simp [zm2] at hcon
         refine ⟨[], by simp; omega, by simp, rfl⟩
       | cons f fl ihf =>
         intro fs o xs hm hall hcon hmm hw ho
         subst hm
         simp only [List.map_cons, List.all_cons, Bool.and_eq_true] at hall
         simp only [List.map_cons, zm2] at hcon
         split at hcon
         ·rename_i hof
          rw [List.mapM_cons] at hmm
          simp only [Option.bind_eq_bind, Option.pure_def, Option.bind_eq_some_iff, Option.some.injEq] at hmm
          obtain ⟨y, hy, ys, hys, rfl⟩ := hmm
          simp only [List.map_cons, DataW.weightsEach, List.all_append, Bool.and_eq_true] at hw
          have hkf := ziq hall.1
          rw [(zk1 hT hkf).1, hof] at hy
          obtain ⟨d1, h1, h2, h3, h4⟩ := ih f.type hall.1 fuel _ y.1 y.2 hy hw.1
          have hle : o + (T f.type).size ≤ cs.length := by
           simp only [List.length_take, List.length_drop] at h1
           omega
          obtain ⟨d2, g2, g3, g4⟩ := ihf _ (o + (T f.type).size) ys rfl hall.2 hcon hys hw.2 hle
          have hd1 : d1.length = (T f.type).size := by omega
          refine ⟨d1 ++ d2, by simp; omega, ?_, d1, d2, rfl, h4, g4⟩
          intro i v d hv hd
          by_cases hi : i < (T f.type).size
          ·rw [List.getElem?_append_left (by omega)] at hd
           exact h3 i v d (by rw [List.getElem?_take, if_pos hi]; exact hv) hd
          ·rw [List.getElem?_append_right (by omega)] at hd
           refine g3 _ v d ?_ hd
           rw [List.getElem?_drop] at hv ⊢
           rw [← hv]
           congr 1
           omega
         ·cases hcon
      obtain ⟨ds, h1, h2, h3⟩ := key fields.toList fs 0 xs hdo hfs hcon hxs hwt' (Nat.zero_le _)
      exact ⟨ds, hlen, by simpa using h1, fun i v d hv hd => h2 i v d (by simpa using hv) hd, h3⟩
     ·cases htr
   | arr => rw [hd'] at h; cases h
   | ptr => rw [hd'] at h; cases h
   | fn => rw [hd'] at h; cases h
   | other => rw [hd'] at h; cases h
end

def in64 (x : Int) : Prop := -9223372036854775808 ≤ x ∧ x < 9223372036854775808
theorem wf64 {x : Int} (h : (Lit.int .i64 x).wf = true) : in64 x := by
 simp [Lit.wf, IntKind.min, IntKind.max, IntKind.signed, IntKind.bits] at h
 unfold in64
 omega
theorem zps {α : Type} {f : α → List D} {Q : α → Prop} : ∀ (rows : List (List D)), (∀ r ∈ rows, ∃ a, r = f a ∧ Q a) → ∃ xs : List α, rows = xs.map f ∧ ∀ a ∈ xs, Q a := by
 intro rows
 induction rows with
 | nil => intro _; exact ⟨[], rfl, by simp⟩
 | cons r rows ih =>
   intro h
   obtain ⟨a, rfl, ha⟩ := h r (by simp)
   obtain ⟨xs, rfl, hx⟩ := ih fun r hr => h r (by simp [hr])
   exact ⟨a :: xs, rfl, by simpa using ⟨ha, hx⟩⟩
end Go.AM
