/- What the proof of this claim stands on, part 13. -/
import Derived.RangeFuncBox
import Derived.RangeFuncLeaves
import Derived.Shelf.Abstract
import Derived.WalkKit
import Derived.OwnWalkIn
import Derived.TacticsInMore
import Derived.LoopNIn
import Derived.LoopIn
import Derived.Maps.AppendAt
import Derived.Shelf.Small.Bits
import Derived.KernelRfl
import Derived.Test.YtehagcggdepajaaGreatAmZ12
/- AM: contracts: an iterator's values collected; how many bits a number has. -/
namespace Go.AM
set_option linter.unusedSimpArgs false
set_option linter.unusedVariables false
open Go.RowKit Go.Shelf Go.Proofs
attribute [local go_sem] Oper.semAt_some
def upto (f : Nat → Int) (k : Nat) : List Int := (List.range k).map f
theorem zwp (f : Nat → Int) (k : Nat) : upto f (k + 1) = upto f k ++ [f k] := by simp [upto, List.range_succ]
theorem zw3 (f : Nat → Int) (k : Nat) : (upto f k).length = k := by simp [upto]
theorem z6s (zs : List Int) : upto (fun j => zs[j]?.getD 0) zs.length = zs := by
 apply List.ext_getElem
 ·simp [upto]
 ·intro i h1 h2
  simp [upto, h2]
theorem z4j (zs : List Int) {k : Nat} (hk : k ≤ zs.length) : upto (fun j => zs[j]?.getD 0) k = zs.take k := by
 apply List.ext_getElem
 ·simp [upto, hk]
 ·intro i h1 h2
  have : i < zs.length := by simp [upto] at h1; omega
  simp [upto, this]
set_option maxRecDepth 100000 in
set_option maxHeartbeats 2000000 in
theorem z4c (n : Nat) (hn : 1 ≤ n) (l n₀ b off len cap : Nat) (p : Addr) (zs : List Int) (hreach : len * 8 ≤ 140737488351232) (hb : b < n₀) (J Jx : List Int → World → Prop)
 (hY : ∀ pre x W, J pre W → pre.length < len → YieldAt Fence.wide (n - 1) PP l #[.int .i64 x] W fun e W' =>
   (e = .returned (.bool true) ∧ J (pre ++ [x]) W' ∧ Below n₀ W W') ∨ (e = .returned (.bool false) ∧ Jx (pre ++ [x]) W'))
 (W : World) (hBs : W.cell? p = some (.slice (some ⟨b, off, none⟩) len cap)) (hc : ∀ j, j < len → W.cell? ⟨b, off + j, none⟩ = some (.int .i64 (zs[j]?.getD 0))) (h0 : J [] W) :
 CallsIn Fence.wide n PP 202 #[.func (.yield l) #[] #[], .pointer (some p)] W fun e W' => (∃ v, e = .returned v) ∧
  ((∃ ys, ys = upto (fun j => zs[j]?.getD 0) len ∧ J ys W') ∨ (∃ pre, (∃ k, k ≤ len ∧ pre = upto (fun j => zs[j]?.getD 0) k) ∧ Jx pre W')) := by
 refine callsIn_of_wp Tryz.func202 rfl trivial ?_ rfl
 simp only [Tryz.ntmps202, List.size_toArray, List.length_cons, List.length_nil, Nat.reduceAdd, Nat.reduceSub, Array.replicate_succ, Array.replicate_zero, List.push_toArray, List.append_toArray, List.nil_append, List.cons_append]
 gi_wp2
 gi_loopw [7] (fun i wr => ∃ k : Nat, k ≤ len ∧ i = .int .i64 k ∧ J (upto (fun j => zs[j]?.getD 0) k) wr ∧ Below n₀ W wr)
  (fun i _ => len - (intOf i).toNat)
 case atStart => exact ⟨0, Nat.zero_le _, rfl, h0, Below.refl _ _⟩
 case round =>
  obtain ⟨k, hk, rfl, hJs, hnx⟩ := hrel
  have hcx : k < len → wr.cell? ⟨b, off + k, none⟩ = some (.int .i64 (zs[k]?.getD 0)) := fun h => (hnx.cell (p := ⟨b, off + k, none⟩) hb).trans (hc k h)
  by_cases hlt : k < len
  ·obtain ⟨fn, tmps, assign, body, hy, hR⟩ := hY _ (zs[k]?.getD 0) wr hJs (by rw [zw3]; exact hlt)
   have hcx' := hcx hlt
   gi_wp2
   refine hR.mono ?_
   rintro e W3 (⟨rfl, hJ3, hk3⟩ | ⟨rfl, hJx3⟩)
   ·gi_wp2
    go_roundw
    case rel => exact ⟨k + 1, by omega, by simp, by rw [zwp]; exact hJ3, hnx.trans hk3⟩
    case measure => simp [intOf]; omega
   ·gi_wp2
    refine bodyPost_ret (results_none rfl _ _ _) rfl ?_
    exact ⟨⟨_, rfl⟩, .inr ⟨_, ⟨k + 1, by omega, (zwp _ _).symm⟩, hJx3⟩⟩
  ·obtain rfl : k = len := by omega
   gi_wp2
   go_end0
   exact ⟨⟨_, rfl⟩, .inl ⟨_, rfl, hJs⟩⟩
set_option maxRecDepth 100000 in
set_option maxHeartbeats 1000000 in
theorem zxf (n : Nat) (l cap : Nat) (p : Addr) (a : Option Addr) (J : List Int → World → Prop) (W : World) (hBs : W.cell? p = some (.slice a 0 cap)) (h0 : J [] W) :
 CallsIn Fence.wide n PP 202 #[.func (.yield l) #[] #[], .pointer (some p)] W fun e W' => (∃ v, e = .returned v) ∧ J [] W' := by
 refine callsIn_of_wp Tryz.func202 rfl trivial ?_ rfl
 simp only [Tryz.ntmps202, List.size_toArray, List.length_cons, List.length_nil, Nat.reduceAdd, Nat.reduceSub, Array.replicate_succ, Array.replicate_zero, List.push_toArray, List.append_toArray, List.nil_append, List.cons_append]
 gi_wp2
 gi_loopw [7] (fun i wr => i = .int .i64 0 ∧ J [] wr) (fun _ _ => 0)
 case atStart => exact ⟨rfl, h0⟩
 case round =>
  obtain ⟨rfl, hJs⟩ := hrel
  gi_wp2
  go_end0
  exact ⟨⟨_, rfl⟩, hJs⟩
def IntsAt (n₀ : Nat) (W : World) (sv : Value) (zs : List Int) : Prop :=
 (∃ a cap, sv = .slice a 0 cap ∧ zs = []) ∨ ∃ b off cap, sv = .slice (some ⟨b, off, none⟩) zs.length cap ∧ b < n₀ ∧ ∀ j, j < zs.length → W.cell? ⟨b, off + j, none⟩ = some (.int .i64 (zs[j]?.getD 0))
theorem IntsAt.below {n₀ : Nat} {A B : World} (h : Below n₀ A B) {sv : Value} {zs : List Int} : IntsAt n₀ A sv zs → IntsAt n₀ B sv zs
 | .inl e => .inl e
 | .inr ⟨b, off, cap, e, hb, hc⟩ => .inr ⟨b, off, cap, e, hb, fun j hj => (h.cell (p := ⟨b, off + j, none⟩) hb).trans (hc j hj)⟩
theorem zuj (n : Nat) (hn : 1 ≤ n) (n₀ : Nat) (p : Addr) (sv : Value) (zs : List Int) (hreach : zs.length * 8 ≤ 140737488351232) (w : World) (hBs : p.block < w.heap.size) (hn₀ : n₀ ≤ w.heap.size)
 (hc : w.cell? p = some sv) (hI : IntsAt n₀ w sv zs) :
 SeqStopsK Fence.wide n PP 202 #[.pointer (some p)] (fun x : Int => #[Value.int .i64 x]) (Below n₀) (fun ys => ys = zs) (fun pre => pre <+: zs) zs.length w := fun l J Jx W hW _ _ hY h0 => by
 have hc' := (hW.cell (p := p) hBs).trans hc
 rcases hI.below (hW.mono hn₀) with ⟨a, cap, rfl, rfl⟩ | ⟨b, off, cap, rfl, hb, hcs⟩
 ·exact (zxf n l cap p a J W hc' h0).mono fun e W' ⟨he, hj⟩ => ⟨he, .inl ⟨_, rfl, hj⟩⟩
 ·refine (z4c n hn l n₀ b off zs.length cap p zs hreach hb J Jx hY W hc' hcs h0).mono ?_
  rintro e W' ⟨he, ⟨ys, rfl, hj⟩ | ⟨pre, ⟨k, hk, rfl⟩, hj⟩⟩
  ·exact ⟨he, .inl ⟨_, z6s zs, hj⟩⟩
  ·exact ⟨he, .inr ⟨_, by rw [z4j zs hk]; exact List.take_prefix _ _, hj⟩⟩
set_option maxRecDepth 100000 in
set_option maxHeartbeats 2000000 in
theorem zpr (n : Nat) (hn : 3 ≤ n) (p : Addr) (sv : Value) (zs : List Int) (hlen : zs.length * 8 ≤ 140737488351232) (w : World) (hp : p.block < w.heap.size) (hc : w.cell? p = some sv) (hI : IntsAt w.heap.size w sv zs) :
 CallsIn Fence.wide n PP 233 #[.slice none 0 0, .func (.func 202) #[] #[.pointer (some p)]] w fun e W' => ∃ v, e = .returned v ∧
  W'.ownsRow w.heap.size 3 1 v zs.length (zs.map (Value.int .i64)) ∧ (v = .slice none 0 0 ↔ zs = []) ∧ Below w.heap.size w W' := by
 have h1 : 1 ≤ n := by omega
 have hmax : zs.length ≤ maxLen := by simp [maxLen]; omega
 obtain ⟨i0, hi, hz0, hz1, hz2⟩ := info_parts (by kernel_rfl : (PP.info? 3).map (fun i => (i.zero, i.size, i.bytes)) = some (some (.int .i64 0), 1, 8))
 refine callsIn_of_wp_marks Tryz.func233 rfl trivial ?_ rfl
 simp only [Tryz.ntmps233, List.size_toArray, List.length_cons, List.length_nil, Nat.reduceAdd, Nat.reduceSub, Array.replicate_succ, Array.replicate_zero, List.push_toArray, List.append_toArray, List.nil_append, List.cons_append]
 gi_wp2
 have bO := Boxed.new w 36 (.slice none 0 0)
 have hB0 : Below w.heap.size w (w.alloc (.cells #[.slice none 0 0] 36)) := (Below.refl _ w).alloc (Nat.le_refl _) _
 refine wpIn_rangeFunc_ownG rfl h1 (gf := 202) (lb := #[.pointer (some p)]) rfl trivial (enters_of Tryz.func202 (by kernel_rfl) rfl)
  (zuj (n - 1) (by omega) w.heap.size p sv zs hlen _ (by simp; omega) (by simp) ((hB0.cell (p := p) hp).trans hc) (hI.below hB0)) belowK_t (belowK_b (by simp)) (Below.refl _ _) (fun _ => rfl)
  (fun pre W => (∃ v, Boxed W w.heap.size 36 v ∧ W.ownsRow w.heap.size 3 1 v pre.length (pre.map (Value.int .i64)) ∧ (v = .slice none 0 0 ↔ pre = [])) ∧ Below w.heap.size w W)
  (fun _ _ _ => False)
  (OwnFrom.and (Own.from (holdsRow_own w.heap.size w.heap.size 36 3 1 (fun pre => pre.length) (fun pre => pre.map (Value.int .i64)) (fun pre v => v = .slice none 0 0 ↔ pre = [])) _) (ownFrom_below (Nat.le_refl _) (by simp)))
  (fun _ _ _ _ _ hs _ _ => hs)
  ⟨⟨_, bO, World.ownsRow_nil _ _ _ _, by simp⟩, hB0⟩
  (fun x => { tmps := #[.slice none 0 0, .func (.func 202) #[] #[.pointer (some p)], .pointer (some ⟨w.heap.size, 0, none⟩), Go.undef, .slice none 0 0, .int .i64 x, .func (.func 202) #[] #[.pointer (some p)], .int .i64 x, Go.undef, Go.undef, Go.undef, Go.undef, Go.undef], defers := [] }) ?assign ?body ?done ?stop
 case assign =>
  intro l x W K hK
  gi_wp2
  exact hK
 case body =>
  rintro l pre x W ⟨⟨v, hv, hrow, hnil⟩, hB⟩ hlt
  have hc := hv.cell
  gi_wp2_with (gi_at_builtin; refine wpListIn_append_own _ rfl _ _ 36 rfl w.heap.size 3 i0 (.int .i64 0) 1 8 Tryz.underlying36 hi hz0 hz1 hz2 rfl (by decide) _ _ _ rfl (hrow.alloc _) ⟨W.heap.size, 0, none⟩ 1 1 [.int .i64 x] rfl rfl (cell_one_new _ _ _) (by simp [Value.oneCell']) (by omega) (by omega) (by have := hB.size; simp; omega) ?_; intro v' w1 hown' hgrow _; obtain ⟨g', cap', rfl⟩ := ownsRow_succ hown'; obtain ⟨hv1, hv2, hr2, hk2, hb2⟩ := hv.appended (by decide) hrow hB.size (Nat.le_refl _) hown' hgrow; have hc1 := hv1.cell; have hf1 := hv1.frozen)
  exact ⟨hk2.from _, hb2, ⟨_, hv2, by simpa using hr2, by simp⟩, hB.trans hb2⟩
 case done =>
  rintro D ys W hD rfl ⟨⟨v, hv, hrow, hnil⟩, hB⟩ hK
  have hc := hv.cell
  gi_wp2
  refine ⟨by simp, .inl ⟨_, _, rfl, run_takeDeferred hK, ?_⟩⟩
  exact ⟨_, results_tmp rfl _ _ _, v, rfl, ownsRow_putObj hrow _ hK rfl, hnil, hB.trans (belowK_b (w := w) (Nat.le_refl _) W D _ _ (by simp at hD; omega) hK rfl rfl)⟩
 case stop =>
  rintro D c pre W _ _ h _
  exact h.elim
end Go.AM
/- AM: contracts: slices.Collect of a slice's values; how many bits two takes. -/
namespace Go.AM
set_option linter.unusedSimpArgs false
set_option linter.unusedVariables false
open Go.RowKit Go.Shelf Go.Proofs
attribute [local go_sem] Oper.semAt_some
set_option maxRecDepth 100000 in
set_option maxHeartbeats 2000000 in
theorem zso (n : Nat) (hn : 4 ≤ n) (p : Addr) (sv : Value) (zs : List Int) (hlen : zs.length * 8 ≤ 140737488351232) (w : World) (hp : p.block < w.heap.size) (hc : w.cell? p = some sv) (hI : IntsAt w.heap.size w sv zs) :
 CallsIn Fence.wide n PP 200 #[.func (.func 202) #[] #[.pointer (some p)]] w fun e W' => ∃ v, e = .returned v ∧
  W'.ownsRow w.heap.size 3 1 v zs.length (zs.map (Value.int .i64)) ∧ (v = .slice none 0 0 ↔ zs = []) ∧ Below w.heap.size w W' := by
 have h1 : 1 ≤ n := by omega
 have hf : Fence.wide.fn 233 := trivial
 refine callsIn_of_wp Tryz.func200 rfl trivial ?_ rfl
 simp only [Tryz.ntmps200, List.size_toArray, List.length_cons, List.length_nil, Nat.reduceAdd, Nat.reduceSub, Array.replicate_succ, Array.replicate_zero, List.push_toArray, List.append_toArray, List.nil_append, List.cons_append]
 gi_wp2_with (gi_at_call 233; refine (zpr (n - 1) (by omega) p sv zs hlen w hp hc hI).mono ?_; rintro e w1 ⟨v, rfl, hr, hnil, hB⟩)
 go_ret
 exact ⟨_, rfl, hr, hnil, hB⟩
theorem ztn {vs : Array Value} (h : vs.size = 1) : ∃ v, vs = #[v] := by
 obtain ⟨l⟩ := vs
 match l, h with
 | [v], _ => exact ⟨v, rfl⟩
theorem zpl (zs : List Int) (hne : zs ≠ []) (hlen : zs.length * 8 ≤ 140737488351232) :
 Den PP 200 [.fn 202 [] [.mem [.sl (zs.map fun z => [.int .i64 z]) zs.length]]] [] (.ref 0 0 zs.length) [⟨zs.map fun z => [.int .i64 z], 1, .mut⟩] := by
 refine ⟨⟨_, Tryz.func200, by kernel_rfl, rfl⟩, fun w M0 ρ vals hM hS hs ha => ?_⟩
 obtain ⟨v0, rfl⟩ := ztn hs
 obtain ⟨va, vc, rfl, h1, h2, -, h4⟩ := (ha 0 v0 _ (by simp) rfl).fn_inv
 obtain rfl : va = #[] := Array.eq_empty_of_size_eq_zero (by simpa using h1)
 obtain ⟨v1, rfl⟩ := ztn h2
 have hm := (h4 0 v1 _ (by simp) rfl).mem_inv
 cases hm with
 | mem g off cs vs hc hv =>
 obtain ⟨-, hcell⟩ := hc 0 (by simp)
 have hsl := hv 0 _ rfl
 have key : ∃ b o cap, vs 0 = .slice (some ⟨b, o, none⟩) zs.length cap ∧ b < w.heap.size ∧ ∀ j, j < zs.length → w.cell? ⟨b, o + j, none⟩ = some (.int .i64 (zs[j]?.getD 0)) := by
  generalize vs 0 = sv at hsl
  cases hsl with
  | sl a len cap rows esz g off vals h1 h2 hr ha hc hv =>
    have h0 : 0 < zs.length := List.length_pos_iff.2 hne
    have he : esz = 1 := by
     cases zs with
     | nil => exact absurd rfl hne
     | cons z zs => exact (hr [.int .i64 z] (by simp)).symm
    subst he
    have hcc : ∀ j, j < zs.length → w.cell? ⟨g, off + j, none⟩ = some (.int .i64 (zs[j]?.getD 0)) := by
     intro j hj
     have hx := (hc j 0 (by simpa using hj) (by omega)).2
     have hy := hv j 0 [.int .i64 zs[j]] (.int .i64 zs[j]) (by simp [hj]) rfl
     have : vals j 0 = .int .i64 zs[j] := by
      generalize vals j 0 = u at hy
      cases hy; rfl
     rw [this] at hx
     simpa [hj] using hx
    exact ⟨g, off, cap, by rw [ha (by simpa using hne)], zh1 (hcc 0 h0), hcc⟩
 obtain ⟨b, o, cap, hsv, hb, hcc⟩ := key
 have hcell' : w.cell? ⟨g, off + 0, none⟩ = some (vs 0) := hcell
 refine ((callsIn_wide (n := 4)).1 (zso 4 (by omega) ⟨g, off, none⟩ (vs 0) zs hlen w (zh1 hcell') hcell' (.inr ⟨b, o, cap, hsv, hb, hcc⟩))).mono ?_
 rintro e W' ⟨v, rfl, ⟨hl, hrow⟩, hnil, hB⟩
 rcases hrow with ⟨rfl, h0⟩ | ⟨g', cap', cur, rfl, hg, hh, hn1, hn2, hsz, htk⟩
 ·exact absurd (hnil.1 rfl) hne
 have habs : ∀ i, ρ i = .absent := fun i => hS.out i (Nat.zero_le _)
 have hcur : ∀ i, i < zs.length → cur[i]? = some (.int .i64 (zs[i]?.getD 0)) := by
  intro i hi
  have : (cur.toList.take (zs.length * 1))[i]? = (zs.map (Value.int .i64))[i]? := by rw [htk]
  rw [List.getElem?_take_of_lt (by omega)] at this
  simpa [hi] using this
 have hgw : w.heap.size ≤ g' := hg
 have hMof : ∀ (x o : Nat), Mof M0 (updL ρ 0 (.at_ g' 0 cur.size zs.length 1)) [⟨zs.map fun z => [.int .i64 z], 1, .mut⟩] x o → M0 x o ∨ x = g' := by
  rintro x o (h | ⟨i, k, base, n, rl, esz, hi, hat, -⟩)
  ·exact .inl h
  ·by_cases h0 : i = 0
   ·subst h0
    rw [zay] at hat
    cases hat
    exact .inr rfl
   ·rw [za6 _ _ h0, habs] at hat
    cases hat
 refine ⟨_, updL ρ 0 (.at_ g' 0 cur.size zs.length 1), rfl, ?_, ?_, by simp, fun i hi => absurd hi (by simp), ?_, ?_⟩
 ·have := Rep.ref (w := W') (M := Mof M0 (updL ρ 0 (.at_ g' 0 cur.size zs.length 1)) [⟨zs.map fun z => [.int .i64 z], 1, .mut⟩]) 0 0 zs.length cap' g' 0 cur.size zs.length 1 (zay ρ 0 _) (by omega) (by omega) (by omega)
  simpa using this
 ·refine ⟨?_, ?_, ?_, ?_, ?_⟩
  ·intro i k g2 base n rl esz hi hat
   by_cases h0 : i = 0
   ·subst h0
    rw [zay] at hat
    cases hat
    cases hi
    refine ⟨by simp, rfl, by simp, by omega, cur, 3, hh, Nat.le_refl _, ?_⟩
    intro kk j r d hr hd
    rw [List.getElem?_map] at hr
    cases hz : zs[kk]? with
    | none => simp [hz] at hr
    | some z =>
      simp [hz] at hr
      subst hr
      cases j with
      | succ j => simp at hd
      | zero =>
        simp at hd
        subst hd
        have hlt := (List.getElem?_eq_some_iff.1 hz).1
        exact ⟨_, by simpa using hcur kk hlt, by rw [hz]; exact .int _ _⟩
   ·rw [za6 _ _ h0, habs] at hat
    cases hat
  ·intro i k hi hv
   by_cases h0 : i = 0
   ·subst h0
    rw [zay] at hv
    cases hv
   ·rw [za6 _ _ h0, habs] at hv
    cases hv
  ·intro i hi
   have : i ≠ 0 := by simp at hi; omega
   rw [za6 _ _ this]
   exact habs i
  ·intro i j g2 base n rl esz base' n' rl' esz' hi hj
   have hz : ∀ i, ∀ {base n rl esz}, updL ρ 0 (.at_ g' 0 cur.size zs.length 1) i = .at_ g2 base n rl esz → i = 0 := by
    intro i base n rl esz h
    by_cases h0 : i = 0
    ·exact h0
    ·rw [za6 _ _ h0, habs] at h
     cases h
   rw [hz i hi, hz j hj]
  ·intro i g2 base n rl esz hi o hm
   by_cases h0 : i = 0
   ·subst h0
    rw [zay] at hi
    cases hi
    have := hM _ _ hm
    omega
   ·rw [za6 _ _ h0, habs] at hi
    cases hi
 ·intro x o v hn hv
  have hx := zh1 hv
  refine ⟨fun hm => ?_, (hB.cell (p := ⟨x, o, none⟩) hx).trans hv⟩
  rcases hMof _ _ hm with h | h
  ·exact hn (.inl h)
  ·subst h; omega
 ·refine ⟨hB.size, hB.os, hB.tape, hB.output, fun g2 h2 _ => hB.block g2 h2, ?_⟩
  intro i g2 base n rl esz _ hi
  by_cases h0 : i = 0
  ·subst h0
   rw [zay] at hi
   cases hi
   exact hgw
  ·rw [za6 _ _ h0, habs] at hi
   cases hi
set_option maxRecDepth 100000 in
set_option maxHeartbeats 2000000 in
theorem z4l (w : World) : Calls PP 253 #[.int .u64 2] w fun e w' => e = .returned (.int .i64 2) ∧ w' = w := by
 go_enter Tryz.func253, Tryz.ntmps253
 go_wp2
 all_goals go_ret
 all_goals refine ⟨congrArg Ending.returned (congrArg (Value.int IntKind.i64) ?_), rfl⟩
 all_goals first | decide | kernel_rfl | rfl
set_option maxRecDepth 100000 in
set_option maxHeartbeats 2000000 in
theorem z88 (w : World) : Calls PP 235 #[.int .u64 2] w fun e w' => e = .returned (.int .i64 2) ∧ w' = w := by
 go_enter Tryz.func235, Tryz.ntmps235
 go_wp2_with (go_at_call 253; refine (z4l _).mono ?_; rintro e w' ⟨rfl, rfl⟩)
 all_goals go_ret
 all_goals exact ⟨rfl, rfl⟩
theorem z4z : Den PP 235 [.int .u64 2] [] (.int .i64 2) [] := by
 refine ⟨⟨_, Tryz.func235, by kernel_rfl, rfl⟩, fun w M0 ρ vals hM hS hs ha => ?_⟩
 obtain ⟨v0, rfl⟩ := ztn hs
 obtain rfl := (ha 0 v0 _ (by simp) rfl).int_inv
 refine (z88 w).mono ?_
 rintro e w' ⟨rfl, rfl⟩
 exact ⟨_, ρ, rfl, .imm _ _ (.int _ _), hS, Nat.le_refl _, fun _ _ => rfl, Pres.refl _ _, ⟨Nat.le_refl _, rfl, rfl, rfl, fun _ _ _ => rfl, fun i g base n rl esz hi hat => by rw [hS.out i hi] at hat; cases hat⟩⟩
end Go.AM
/- AM: awake: the program's own first answers, reckoned out. -/
namespace Go.AM
set_option linter.unusedSimpArgs false
set_option linter.unusedVariables false
set_option maxRecDepth 100000
theorem zxp {n : Nat} {rows : List (List D)} (h : (rows.all fun r => Nat.beq r.length n && r.all D.isCell) = true) : Fits n rows := by
 intro r hr
 have := List.all_eq_true.1 h r hr
 simp only [Bool.and_eq_true, Nat.beq_eq] at this
 exact this
theorem ztt {rows : List (List D)} (h : (rows.all fun r => r.all D.still) = true) : StillR rows :=
 fun r hr d hd => List.all_eq_true.1 (List.all_eq_true.1 h r hr) d hd
abbrev i (n : Int) : D := .int .i64 n
def xtab : List XR := [
 ⟨11, [12, 13, 18, 23, 27, 29, 48, 52, 56, 64, 69, 74, 82], [], [], []⟩,
 ⟨14, [16, 46, 59, 65], [], [], []⟩,
 ⟨15, [], [], [], []⟩,
 ⟨20, [9, 13, 17, 47], [46], [], []⟩,
 ⟨21, [7, 11, 12, 29, 34], [], [], []⟩,
 ⟨23, [5, 10, 16, 19, 21], [], [], []⟩,
 ⟨28, [10, 14, 27, 44], [43], [], []⟩,
 ⟨37, [15, 19, 23, 39, 46], [], [], []⟩,
 ⟨38, [12, 16, 22, 38, 44, 48], [], [], []⟩,
 ⟨39, [12, 17, 32], [], [], []⟩,
 ⟨40, [28, 32, 43], [], [], []⟩,
 ⟨41, [12, 16, 32, 37, 39, 52, 57, 61], [38, 60], [], []⟩,
 ⟨49, [5], [], [], []⟩,
 ⟨50, [5], [], [], []⟩,
 ⟨51, [9, 12, 14, 15, 17], [], [], []⟩,
 ⟨52, [5], [], [], []⟩,
 ⟨53, [], [], [], []⟩,
 ⟨57, [6, 9, 12, 30], [], [], []⟩,
 ⟨58, [43, 58, 84, 93, 99, 108], [], [], []⟩,
 ⟨59, [10, 15, 26], [8, 24], [], []⟩,
 ⟨60, [16, 37, 46, 52, 63], [14, 41, 61], [], []⟩,
 ⟨70, [17], [], [], []⟩,
 ⟨76, [13], [], [], []⟩,
 ⟨77, [14, 19, 39], [], [], []⟩,
 ⟨78, [10], [], [], []⟩,
 ⟨79, [7], [], [], []⟩,
 ⟨80, [25], [], [], []⟩,
 ⟨81, [8], [], [], []⟩,
 ⟨82, [11], [], [], []⟩,
 ⟨84, [7], [], [], []⟩,
 ⟨85, [6, 11, 28, 38, 45, 49, 55, 59, 70, 74, 83], [], [], []⟩,
 ⟨86, [5, 8, 11], [], [], []⟩,
 ⟨87, [15], [], [], []⟩,
 ⟨108, [], [], [], []⟩,
 ⟨109, [8, 13, 30], [], [], []⟩,
 ⟨110, [5, 8], [], [], []⟩,
 ⟨111, [13], [], [], []⟩,
 ⟨113, [24], [], [], []⟩,
 ⟨114, [9, 13, 17, 23], [], [], []⟩,
 ⟨115, [13], [], [], []⟩,
 ⟨116, [7], [], [], []⟩,
 ⟨118, [], [], [], []⟩,
 ⟨119, [12], [], [], []⟩,
 ⟨120, [7, 11, 17, 27, 43], [], [], []⟩,
 ⟨121, [17], [], [], []⟩,
 ⟨122, [10], [], [], []⟩,
 ⟨123, [5, 9, 14], [], [], []⟩,
 ⟨124, [], [], [], []⟩,
 ⟨132, [13], [], [], []⟩,
 ⟨135, [28], [], [], []⟩,
 ⟨136, [7, 16, 17], [], [], []⟩,
 ⟨137, [], [], [], []⟩,
 ⟨138, [6, 14], [], [], []⟩,
 ⟨139, [7, 10], [8], [], []⟩,
 ⟨140, [], [], [], []⟩,
 ⟨141, [], [], [], []⟩,
 ⟨142, [], [], [], []⟩,
 ⟨143, [], [], [], []⟩,
 ⟨144, [], [], [], []⟩,
 ⟨145, [], [], [], []⟩,
 ⟨146, [6, 19], [], [], []⟩,
 ⟨147, [12], [], [], []⟩,
 ⟨149, [], [], [], []⟩,
 ⟨150, [15], [], [], []⟩,
 ⟨151, [11], [], [], []⟩,
 ⟨152, [35], [], [], []⟩,
 ⟨153, [14], [], [], []⟩,
 ⟨163, [4], [], [], []⟩,
 ⟨164, [7], [], [], []⟩,
 ⟨165, [16], [], [], []⟩,
 ⟨166, [30, 46], [], [], []⟩,
 ⟨167, [9], [], [], []⟩,
 ⟨168, [8, 10], [], [], []⟩,
 ⟨169, [], [], [], []⟩,
 ⟨170, [], [], [], []⟩,
 ⟨181, [9, 24, 40, 47], [], [], []⟩,
 ⟨182, [10], [], [], []⟩,
 ⟨183, [], [], [], []⟩,
 ⟨184, [], [], [], []⟩,
 ⟨187, [], [], [], []⟩,
 ⟨188, [8, 17, 18], [], [], []⟩,
 ⟨189, [16], [], [], []⟩,
 ⟨190, [], [], [], []⟩,
 ⟨191, [8, 12, 17, 19], [17], [17], []⟩,
 ⟨192, [13, 17, 26, 31, 39], [34], [34], []⟩,
 ⟨193, [15], [], [], []⟩,
 ⟨194, [7], [], [], []⟩,
 ⟨195, [14], [], [], []⟩,
 ⟨199, [11, 32], [], [], []⟩,
 ⟨201, [11, 13], [7], [], []⟩,
 ⟨203, [8, 11, 12], [], [], []⟩,
 ⟨204, [], [], [], []⟩,
 ⟨205, [], [], [], []⟩,
 ⟨206, [13, 17, 22, 35], [], [], []⟩,
 ⟨207, [10, 24, 34], [30], [30], []⟩,
 ⟨208, [12, 16, 21, 40, 44], [], [], []⟩,
 ⟨215, [16], [], [], []⟩,
 ⟨216, [], [], [], []⟩,
 ⟨223, [26], [], [], []⟩,
 ⟨227, [11, 15, 16], [], [], []⟩,
 ⟨228, [30, 46], [], [], []⟩,
 ⟨229, [], [], [], []⟩,
 ⟨234, [30, 37, 44, 52, 61, 80, 94, 103, 111, 134, 146], [26, 33, 40, 48, 57, 76, 98, 106, 129, 140], [], []⟩,
 ⟨237, [30, 46], [], [], []⟩,
 ⟨244, [32], [], [], []⟩]
theorem z9v : (xtab.all fun x => x.ovl.isEmpty && (SFof PP x.f x.lend).isSome) = true := by kernel_rfl
def LH : List (Nat × List D × D × List Blk) := [
 (200, [.fn 202 [] [.mem [.sl [[i 3], [i 9]] 2]]], .ref 0 0 2, [⟨[[i 3], [i 9]], 1, .mut⟩]),
 (235, [.int .u64 2], i 2, [])]
def LG : List (Nat × List (List D) × Nat × List D × List (List D)) := [
 (236, [[i 0, i 3, i 9, .sl [] 0, i 0, i 0, i 0, i 0, i 0, .bool false, .bool false]], 11, [i 0, i 1], []),
 (225, [], 1, [.fn 224 [] [.mem [i 3]]], []),
 (226, [], 2, [i 0, .sl [[i 3, i 0]] 1], [[i 3, i 0]]),
 (236, [[i 0, i 3, i 9, .sl [] 0, i 0, i 0, i 0, i 0, i 0, .bool false, .bool false], [i 0, i 9, i 3, .sl [[i 3]] 1, i 0, i 0, i 0, i 0, i 0, .bool false, .bool false]], 11, [i 0, i 1], [[i 0, i 9, i 3, .sl [[i 3]] 1, i 0, i 0, i 0, i 0, i 0, .bool false, .bool false]]),
 (236, [[i 0, i 9, i 3, .sl [[i 3]] 1, i 0, i 0, i 0, i 0, i 0, .bool false, .bool false]], 11, [i 0, i 1], []),
 (225, [[i 9]], 1, [.fn 224 [] [.mem [i 9]]], []),
 (226, [], 2, [i 0, .sl [[i 9, i 0]] 1], [[i 9, i 0]])]
theorem LH_ok : ∀ x ∈ LH, Den PP x.1 x.2.1 [] x.2.2.1 x.2.2.2 := by
 intro x hx
 simp only [LH, List.mem_cons, List.not_mem_nil, or_false] at hx
 rcases hx with rfl | rfl
 ·exact zpl [3, 9] (by simp) (by simp)
 ·exact z4z
theorem LG_ok : ∀ x ∈ LG, GivesC (DenF PP [0]) x.1 x.2.1 x.2.2.1 x.2.2.2.1 x.2.2.2.2 := by
 intro x hx
 simp only [LG, List.mem_cons, List.not_mem_nil, or_false] at hx
 rcases hx with rfl | rfl | rfl | rfl | rfl | rfl | rfl
 ·exact zke _ 0 (zxp rfl) (ztt rfl) (by simp) (by simp)
 ·exact zg7 [] 224 [.mem [.int .i64 3]] (fun a => decide (a = 3)) ⟨fun _ => rfl, fun _ _ => rfl, fun a _ => ze5 3 a⟩ (by simp)
 ·exact zkv [] _ 0 (by intro r hr; cases hr) (by intro r hr; cases hr) (by intro r hr; rw [List.mem_singleton.1 hr]; exact ⟨rfl, rfl⟩) (fun d hd => List.all_eq_true.1 (rfl : List.all _ D.still = true) d hd) (by simp) (by simp)
 ·exact zke _ 0 (zxp rfl) (ztt rfl) (by simp) (by simp)
 ·exact zke _ 0 (zxp rfl) (ztt rfl) (by simp) (by simp)
 ·exact zg7 [9] 224 [.mem [.int .i64 9]] (fun a => decide (a = 9)) ⟨fun _ => rfl, fun _ _ => rfl, fun a _ => ze5 9 a⟩ (by simp)
 ·exact zkv [] _ 0 (by intro r hr; cases hr) (by intro r hr; cases hr) (by intro r hr; rw [List.mem_singleton.1 hr]; exact ⟨rfl, rfl⟩) (fun d hd => List.all_eq_true.1 (rfl : List.all _ D.still = true) d hd) (by simp) (by simp)
noncomputable def mkX (fe : FE) (n : Nat) : Cfg := cfx n fe.own fe.lend fe.give [] fe.ovl
noncomputable abbrev XX (L : List (Nat × List D × D × List Blk)) : XC := run mkX (tabX PP xtab) (known L) (knownG LG) 1000 40
theorem zsx (L : List (Nat × List D × D × List Blk)) (hL : ∀ x ∈ L, Den PP x.1 x.2.1 [] x.2.2.1 x.2.2.2) (f : Nat) (args : List D) (bs : List Blk) (r : D) (bs' : List Blk) (h : XX L f args bs = some (r, bs')) : Den PP f args bs r bs' := by
 refine z6i (C := Den PP) (fun _ _ => rfl) (fun fe n f rows esz rest R hR => zu8 LG LG_ok _ _ _ _ _ hR) (zy6 L hL) ?_ ?_ 40 f args bs r bs' h
 ·intro f fe args bs r bs' hfe h
  unfold tabX at hfe
  split at hfe
  ·rename_i x hx
   cases hfe
   obtain ⟨hm, rfl⟩ := z55 _ _ _ hx
   have hk := List.all_eq_true.1 z9v x hm
   simp only [Bool.and_eq_true, List.isEmpty_iff] at hk
   refine zku x.own x.lend x.give x.ovl (fun f hf => by rw [hk.1] at hf; exact absurd hf List.not_mem_nil) (zy5 hk.2) ?_
   simpa only [mkX] using h
  ·cases hfe
 ·intro f x r nbs hx h1 h2
  have key : Den PP f [.sl [] 0] [] r nbs := zno (pre := []) (post := []) h1 h2
  unfold D.empty at hx
  split at hx
  ·exact zd0 (by simpa using key)
  ·exact key
  ·cases hx
theorem chkL {L M : List (Nat × List D × D × List Blk)} (hL : ∀ x ∈ L, Den PP x.1 x.2.1 [] x.2.2.1 x.2.2.2) (h : chkX (XX L) M = true) : ∀ x ∈ M ++ L, Den PP x.1 x.2.1 [] x.2.2.1 x.2.2.2 := by
 intro x hx
 rcases List.mem_append.1 hx with h1 | h1
 ·exact z06 (C := Den PP) h (fun f args r nbs h => zsx L hL _ _ _ _ _ h) x h1
 ·exact hL x h1
def VW1 : List (Nat × List D × D × List Blk) := [
 (23, [.agg [.sl [[.bool true, i 3, .nil, .sl [[i 9]] 1, .sl [[i 5, i 1, i 3, i 7, .bool false]] 1, .nil], [.bool true, i 9, .nil, .sl [] 0, .nil, .nil]] 2, .nil, .nil]], .bool true, []),
 (23, [.agg [.sl [[.bool true, i 3, .sl [] 0, .sl [[i 9]] 1, .sl [[i 5, i 1, i 3, i 7, .bool false]] 1, .sl [] 0], [.bool true, i 9, .sl [] 0, .sl [] 0, .sl [] 0, .sl [] 0]] 2, .sl [] 0, .sl [] 0]], .bool true, []),
 (23, [.agg [.sl [[.bool true, i 3, .sl [] 0, .sl [[i 9]] 1, .sl [[i 5, i 1, i 3, i 7, .bool false]] 1, .sl [] 0], [.bool true, i 9, .sl [] 0, .sl [] 0, .sl [] 0, .sl [] 0]] 2, .sl [] 0, .sl [[i 0, i 3, i 9, .sl [] 0, i 0, i 0, i 0, i 0, i 0, .bool false, .bool false]] 1]], .bool true, []),
 (23, [.agg [.sl [[.bool true, i 3, .sl [] 0, .sl [[i 9]] 1, .sl [[i 5, i 1, i 3, i 7, .bool false]] 1, .sl [] 0], [.bool true, i 9, .sl [[i 3, i 0]] 1, .sl [] 0, .sl [] 0, .sl [] 0]] 2, .sl [] 0, .sl [] 0]], .bool true, []),
 (23, [.agg [.sl [[.bool true, i 3, .sl [] 0, .sl [[i 9]] 1, .sl [[i 5, i 1, i 3, i 7, .bool false]] 1, .sl [] 0], [.bool true, i 9, .sl [[i 3, i 0]] 1, .sl [] 0, .sl [] 0, .sl [] 0]] 2, .sl [] 0, .nil]], .bool true, []),
 (23, [.agg [.sl [[.bool true, i 3, .sl [] 0, .sl [[i 9]] 1, .sl [[i 5, i 1, i 3, i 7, .bool false]] 1, .sl [] 0], [.bool true, i 9, .sl [[i 3, i 0]] 1, .sl [] 0, .sl [] 0, .sl [] 0]] 2, .sl [] 0, .sl [[i 0, i 3, i 9, .sl [] 0, i 0, i 0, i 0, i 0, i 0, .bool false, .bool false]] 1]], .bool true, [])]
theorem ck_W1 : chkX (XX LH) VW1 = true := by kernel_rfl
abbrev LW1 : List (Nat × List D × D × List Blk) := VW1 ++ LH
theorem qcb : ∀ x ∈ LW1, Den PP x.1 x.2.1 [] x.2.2.1 x.2.2.2 := chkL LH_ok ck_W1
def VW2 : List (Nat × List D × D × List Blk) := [
 (23, [.agg [.sl [[.bool true, i 3, .sl [] 0, .sl [[i 9]] 1, .sl [[i 5, i 1, i 3, i 7, .bool false]] 1, .sl [] 0], [.bool true, i 9, .sl [[i 3, i 1]] 1, .sl [] 0, .sl [] 0, .sl [] 0]] 2, .sl [] 0, .sl [[i 0, i 3, i 9, .sl [] 0, i 0, i 0, i 0, i 0, i 0, .bool false, .bool false]] 1]], .bool true, []),
 (23, [.agg [.sl [[.bool true, i 3, .sl [] 0, .sl [[i 9]] 1, .sl [[i 5, i 1, i 3, i 7, .bool false]] 1, .sl [] 0], [.bool true, i 9, .sl [[i 3, i 1]] 1, .sl [] 0, .sl [] 0, .sl [] 0]] 2, .sl [] 0, .sl [[i 0, i 9, i 3, .sl [[i 3]] 1, i 0, i 0, i 0, i 0, i 0, .bool false, .bool false]] 1]], .bool true, []),
 (23, [.agg [.sl [[.bool true, i 3, .sl [] 0, .sl [[i 9]] 1, .sl [[i 5, i 1, i 3, i 7, .bool false]] 1, .sl [] 0], [.bool true, i 9, .sl [[i 3, i 1]] 1, .sl [] 0, .sl [] 0, .sl [] 0]] 2, .sl [] 0, .sl [[i 0, i 3, i 9, .sl [] 0, i 0, i 0, i 0, i 0, i 0, .bool false, .bool false], [i 0, i 9, i 3, .sl [[i 3]] 1, i 0, i 0, i 0, i 0, i 0, .bool false, .bool false]] 2]], .bool true, []),
 (23, [.agg [.sl [[.bool true, i 3, .sl [] 0, .sl [[i 9]] 1, .sl [[i 5, i 1, i 3, i 7, .bool false]] 1, .sl [] 0], [.bool true, i 9, .sl [[i 3, i 0]] 1, .sl [] 0, .sl [] 0, .sl [] 0]] 2, .sl [] 0, .sl [[i 0, i 9, i 3, .sl [[i 3]] 1, i 0, i 0, i 0, i 0, i 0, .bool false, .bool false]] 1]], .bool true, []),
 (23, [.agg [.sl [[.bool true, i 3, .sl [[i 9, i 0]] 1, .sl [] 0, .sl [[i 5, i 1, i 3, i 7, .bool false]] 1, .sl [] 0], [.bool true, i 9, .sl [[i 3, i 0]] 1, .sl [] 0, .sl [] 0, .sl [] 0]] 2, .sl [] 0, .sl [] 0]], .bool true, []),
 (23, [.agg [.sl [[.bool true, i 3, .sl [[i 9, i 0]] 1, .sl [] 0, .sl [[i 5, i 1, i 3, i 7, .bool false]] 1, .sl [] 0], [.bool true, i 9, .sl [[i 3, i 0]] 1, .sl [] 0, .sl [] 0, .sl [] 0]] 2, .sl [] 0, .nil]], .bool true, [])]
theorem ck_W2 : chkX (XX LW1) VW2 = true := by kernel_rfl
abbrev LW2 : List (Nat × List D × D × List Blk) := VW2 ++ LW1
theorem qbc : ∀ x ∈ LW2, Den PP x.1 x.2.1 [] x.2.2.1 x.2.2.2 := chkL qcb ck_W2
def VA1 : List (Nat × List D × D × List Blk) := [
 (20, [.agg [.sl [[.bool true, i 3, .sl [] 0, .sl [[i 9]] 1, .sl [[i 5, i 1, i 3, i 7, .bool false]] 1, .sl [] 0], [.bool true, i 9, .sl [] 0, .sl [] 0, .sl [] 0, .sl [] 0]] 2, .sl [] 0, .sl [] 0], .agg [i 0, i 3, i 0, i 0, .nil, i 0, i 0]], .tup [.agg [.ref 0 0 2, .ref 1 0 0, .ref 2 0 1], i 0], [⟨[[.bool true, i 3, .sl [] 0, .sl [[i 9]] 1, .sl [[i 5, i 1, i 3, i 7, .bool false]] 1, .sl [] 0], [.bool true, i 9, .sl [] 0, .sl [] 0, .sl [] 0, .sl [] 0]], 6, .mut⟩, ⟨[], 2, .mut⟩, ⟨[[i 0, i 3, i 9, .sl [] 0, i 0, i 0, i 0, i 0, i 0, .bool false, .bool false]], 11, .mut⟩]),
 (20, [.agg [.sl [[.bool true, i 3, .sl [] 0, .sl [[i 9]] 1, .sl [[i 5, i 1, i 3, i 7, .bool false]] 1, .sl [] 0], [.bool true, i 9, .sl [] 0, .sl [] 0, .sl [] 0, .sl [] 0]] 2, .sl [] 0, .sl [[i 0, i 3, i 9, .sl [] 0, i 0, i 0, i 0, i 0, i 0, .bool false, .bool false]] 1], .agg [i 0, i 9, i 0, i 0, .nil, i 0, i 0]], .tup [.agg [.ref 0 0 2, .ref 1 0 0, .ref 2 0 1], i 0], [⟨[[.bool true, i 3, .sl [] 0, .sl [[i 9]] 1, .sl [[i 5, i 1, i 3, i 7, .bool false]] 1, .sl [] 0], [.bool true, i 9, .sl [] 0, .sl [] 0, .sl [] 0, .sl [] 0]], 6, .mut⟩, ⟨[], 2, .mut⟩, ⟨[[i 0, i 3, i 9, .sl [] 0, i 0, i 0, i 0, i 0, i 0, .bool false, .bool false]], 11, .mut⟩]),
 (20, [.agg [.sl [[.bool true, i 3, .sl [] 0, .sl [[i 9]] 1, .sl [[i 5, i 1, i 3, i 7, .bool false]] 1, .sl [] 0], [.bool true, i 9, .sl [] 0, .sl [] 0, .sl [] 0, .sl [] 0]] 2, .sl [] 0, .sl [[i 0, i 3, i 9, .sl [] 0, i 0, i 0, i 0, i 0, i 0, .bool false, .bool false]] 1], .agg [i 1, i 0, i 0, i 0, .nil, i 0, i 0]], .tup [.agg [.ref 0 0 2, .ref 1 0 0, .ref 2 0 0], i 0], [⟨[[.bool true, i 3, .sl [] 0, .sl [[i 9]] 1, .sl [[i 5, i 1, i 3, i 7, .bool false]] 1, .sl [] 0], [.bool true, i 9, .sl [[i 3, i 0]] 1, .sl [] 0, .sl [] 0, .sl [] 0]], 6, .mut⟩, ⟨[], 2, .mut⟩, ⟨[], 11, .mut⟩]),
 (20, [.agg [.sl [[.bool true, i 3, .sl [] 0, .sl [[i 9]] 1, .sl [[i 5, i 1, i 3, i 7, .bool false]] 1, .sl [] 0], [.bool true, i 9, .sl [[i 3, i 0]] 1, .sl [] 0, .sl [] 0, .sl [] 0]] 2, .sl [] 0, .sl [] 0], .agg [i 0, i 3, i 0, i 0, .nil, i 0, i 0]], .tup [.agg [.ref 0 0 2, .ref 1 0 0, .ref 2 0 1], i 0], [⟨[[.bool true, i 3, .sl [] 0, .sl [[i 9]] 1, .sl [[i 5, i 1, i 3, i 7, .bool false]] 1, .sl [] 0], [.bool true, i 9, .sl [[i 3, i 0]] 1, .sl [] 0, .sl [] 0, .sl [] 0]], 6, .mut⟩, ⟨[], 2, .mut⟩, ⟨[[i 0, i 3, i 9, .sl [] 0, i 0, i 0, i 0, i 0, i 0, .bool false, .bool false]], 11, .mut⟩])]
theorem ck_A1 : chkX (XX LW2) VA1 = true := by kernel_rfl
abbrev LA1 : List (Nat × List D × D × List Blk) := VA1 ++ LW2
theorem qcd : ∀ x ∈ LA1, Den PP x.1 x.2.1 [] x.2.2.1 x.2.2.2 := chkL qbc ck_A1
def VA2 : List (Nat × List D × D × List Blk) := [
 (20, [.agg [.sl [[.bool true, i 3, .sl [] 0, .sl [[i 9]] 1, .sl [[i 5, i 1, i 3, i 7, .bool false]] 1, .sl [] 0], [.bool true, i 9, .sl [[i 3, i 0]] 1, .sl [] 0, .sl [] 0, .sl [] 0]] 2, .sl [] 0, .sl [[i 0, i 3, i 9, .sl [] 0, i 0, i 0, i 0, i 0, i 0, .bool false, .bool false]] 1], .agg [i 0, i 9, i 0, i 0, .nil, i 0, i 0]], .tup [.agg [.ref 0 0 2, .ref 1 0 0, .ref 2 0 2], i 0], [⟨[[.bool true, i 3, .sl [] 0, .sl [[i 9]] 1, .sl [[i 5, i 1, i 3, i 7, .bool false]] 1, .sl [] 0], [.bool true, i 9, .sl [[i 3, i 1]] 1, .sl [] 0, .sl [] 0, .sl [] 0]], 6, .mut⟩, ⟨[], 2, .mut⟩, ⟨[[i 0, i 3, i 9, .sl [] 0, i 0, i 0, i 0, i 0, i 0, .bool false, .bool false], [i 0, i 9, i 3, .sl [[i 3]] 1, i 0, i 0, i 0, i 0, i 0, .bool false, .bool false]], 11, .mut⟩]),
 (20, [.agg [.sl [[.bool true, i 3, .sl [] 0, .sl [[i 9]] 1, .sl [[i 5, i 1, i 3, i 7, .bool false]] 1, .sl [] 0], [.bool true, i 9, .sl [[i 3, i 1]] 1, .sl [] 0, .sl [] 0, .sl [] 0]] 2, .sl [] 0, .sl [[i 0, i 3, i 9, .sl [] 0, i 0, i 0, i 0, i 0, i 0, .bool false, .bool false], [i 0, i 9, i 3, .sl [[i 3]] 1, i 0, i 0, i 0, i 0, i 0, .bool false, .bool false]] 2], .agg [i 1, i 0, i 0, i 0, .nil, i 0, i 0]], .tup [.agg [.ref 0 0 2, .ref 1 0 0, .ref 2 0 1], i 0], [⟨[[.bool true, i 3, .sl [] 0, .sl [[i 9]] 1, .sl [[i 5, i 1, i 3, i 7, .bool false]] 1, .sl [] 0], [.bool true, i 9, .sl [[i 3, i 0]] 1, .sl [] 0, .sl [] 0, .sl [] 0]], 6, .mut⟩, ⟨[], 2, .mut⟩, ⟨[[i 0, i 9, i 3, .sl [[i 3]] 1, i 0, i 0, i 0, i 0, i 0, .bool false, .bool false]], 11, .mut⟩]),
 (20, [.agg [.sl [[.bool true, i 3, .sl [] 0, .sl [[i 9]] 1, .sl [[i 5, i 1, i 3, i 7, .bool false]] 1, .sl [] 0], [.bool true, i 9, .sl [[i 3, i 0]] 1, .sl [] 0, .sl [] 0, .sl [] 0]] 2, .sl [] 0, .sl [[i 0, i 9, i 3, .sl [[i 3]] 1, i 0, i 0, i 0, i 0, i 0, .bool false, .bool false]] 1], .agg [i 1, i 0, i 0, i 0, .nil, i 0, i 0]], .tup [.agg [.ref 0 0 2, .ref 1 0 0, .ref 2 0 0], i 0], [⟨[[.bool true, i 3, .sl [[i 9, i 0]] 1, .sl [] 0, .sl [[i 5, i 1, i 3, i 7, .bool false]] 1, .sl [] 0], [.bool true, i 9, .sl [[i 3, i 0]] 1, .sl [] 0, .sl [] 0, .sl [] 0]], 6, .mut⟩, ⟨[], 2, .mut⟩, ⟨[], 11, .mut⟩]),
 (20, [.agg [.sl [[.bool true, i 3, .nil, .sl [[i 9]] 1, .sl [[i 5, i 1, i 3, i 7, .bool false]] 1, .nil], [.bool true, i 9, .nil, .sl [] 0, .nil, .nil]] 2, .nil, .nil], .agg [i 0, i 3, i 0, i 0, .nil, i 0, i 0]], .tup [.agg [.ref 0 0 2, .ref 1 0 0, .ref 2 0 1], i 0], [⟨[[.bool true, i 3, .sl [] 0, .sl [[i 9]] 1, .sl [[i 5, i 1, i 3, i 7, .bool false]] 1, .sl [] 0], [.bool true, i 9, .sl [] 0, .sl [] 0, .sl [] 0, .sl [] 0]], 6, .mut⟩, ⟨[], 2, .mut⟩, ⟨[[i 0, i 3, i 9, .sl [] 0, i 0, i 0, i 0, i 0, i 0, .bool false, .bool false]], 11, .mut⟩])]
theorem ck_A2 : chkX (XX LA1) VA2 = true := by kernel_rfl
abbrev LA2 : List (Nat × List D × D × List Blk) := VA2 ++ LA1
theorem qbp : ∀ x ∈ LA2, Den PP x.1 x.2.1 [] x.2.2.1 x.2.2.2 := chkL qcd ck_A2
def VO1 : List (Nat × List D × D × List Blk) := [
 (14, [.agg [.sl [[.bool true, i 3, .sl [[i 9, i 0]] 1, .sl [] 0, .sl [[i 5, i 1, i 3, i 7, .bool false]] 1, .sl [] 0], [.bool true, i 9, .sl [[i 3, i 0]] 1, .sl [] 0, .sl [] 0, .sl [] 0]] 2, .sl [] 0, .sl [] 0]], .tup [.bool true, i 0], [])]
theorem ck_O1 : chkX (XX LA2) VO1 = true := by kernel_rfl
abbrev LO1 : List (Nat × List D × D × List Blk) := VO1 ++ LA2
theorem qbq : ∀ x ∈ LO1, Den PP x.1 x.2.1 [] x.2.2.1 x.2.2.2 := chkL qbp ck_O1
def VR1 : List (Nat × List D × D × List Blk) := [
 (21, [.agg [.sl [[.bool true, i 3, .nil, .sl [[i 9]] 1, .sl [[i 5, i 1, i 3, i 7, .bool false]] 1, .nil], [.bool true, i 9, .nil, .sl [] 0, .nil, .nil]] 2, .nil, .nil]], .tup [.agg [.ref 0 0 2, .ref 1 0 0, .ref 2 0 0], i 0], [⟨[[.bool true, i 3, .sl [] 0, .sl [[i 9]] 1, .sl [[i 5, i 1, i 3, i 7, .bool false]] 1, .sl [] 0], [.bool true, i 9, .sl [[i 3, i 0]] 1, .sl [] 0, .sl [] 0, .sl [] 0]], 6, .mut⟩, ⟨[], 2, .mut⟩, ⟨[], 11, .mut⟩]),
 (21, [.agg [.sl [[.bool true, i 3, .sl [] 0, .sl [[i 9]] 1, .sl [[i 5, i 1, i 3, i 7, .bool false]] 1, .sl [] 0], [.bool true, i 9, .sl [[i 3, i 0]] 1, .sl [] 0, .sl [] 0, .sl [] 0]] 2, .sl [] 0, .sl [] 0]], .tup [.agg [.ref 0 0 2, .ref 1 0 0, .ref 2 0 0], i 0], [⟨[[.bool true, i 3, .sl [[i 9, i 0]] 1, .sl [] 0, .sl [[i 5, i 1, i 3, i 7, .bool false]] 1, .sl [] 0], [.bool true, i 9, .sl [[i 3, i 0]] 1, .sl [] 0, .sl [] 0, .sl [] 0]], 6, .mut⟩, ⟨[], 2, .mut⟩, ⟨[], 11, .mut⟩])]
theorem ck_R1 : chkX (XX LO1) VR1 = true := by kernel_rfl
abbrev LR1 : List (Nat × List D × D × List Blk) := VR1 ++ LO1
theorem qbf : ∀ x ∈ LR1, Den PP x.1 x.2.1 [] x.2.2.1 x.2.2.2 := chkL qbq ck_R1
theorem z5s : XX LR1 11 [] [] = some (.bool true, []) := by kernel_rfl
theorem awake : Den PP 11 [] [] (.bool true) [] := zsx LR1 qbf _ _ _ _ _ z5s
end Go.AM
/- AM: contracts: peers: one is heard, all age. -/
namespace Go.AM
set_option linter.unusedSimpArgs false
set_option linter.unusedVariables false
set_option maxRecDepth 8000
set_option maxHeartbeats 0
theorem zre (p : Peer) : ∀ d ∈ p.row, d.still = true := by
 intro d hd
 simp [Peer.row] at hd
 rcases hd with rfl | rfl <;> rfl
theorem zx4 (base : Int) (ps : List Peer) (id : Int) (hl : ps.length ≤ cap16) : Den PP 192 [.int .i64 base, peersD ps, .int .i64 id] [] (.tup [.ref 0 0 (refHeard base ps id).1.length, .int .i64 (refHeard base ps id).2]) [⟨(refHeard base ps id).1.map Peer.row, 2, .mut⟩] := by
 have c1 := zo6 base ps (zpv hl)
 have c0 := zat id
 have c2 := fun h : ps.length ≤ 16 => zrl (ps.map Peer.row) (by intro r hr; obtain ⟨a, _, rfl⟩ := List.mem_map.1 hr; exact ⟨rfl, rfl⟩) (by simp; omega)
 have c3 := fun h => zrr base ps id (zpv hl) h
 obtain ⟨r, hr⟩ : ∃ r, refHeard base ps id = r := ⟨_, rfl⟩
 have hr' := hr
 unfold refHeard at hr'
 rw [zk5] at hr'
 rw [hr]
 clear hr
 simp only [peersD, List.length_map] at c1 c2 c3
 refine zku [26, 34] [34] [34] [] (fun _ h => absurd h List.not_mem_nil) zqw ?_
 simp -implicitDefEqProofs [zlh, peersD]
 refine zaa c1 ?_
 simp -implicitDefEqProofs
 cases h1 : peersMay base ps with
 | false =>
   rw [h1] at hr'
   simp at hr'
   subst hr'
   simp -implicitDefEqProofs
 | true =>
 cases h2 : place id with
 | false =>
   rw [h2] at hr' c0
   simp at hr'
   subst hr'
   simp -implicitDefEqProofs
   repeat' ((first | refine zaa (by first | exact c0) ?_ | ((with_reducible first | refine zak ?_ ?_ | refine zah ?_ ?_ | refine zad ?_ ?_ | refine zae ?_ ?_) <;> intro _) | ((with_reducible first | refine zan ?_ ?_ | refine zap ?_ ?_ | refine zal ?_ ?_ | refine zac ?_ ?_ | refine zai ?_ ?_ | refine zao ?_ ?_ | refine zaf ?_ ?_ | refine zab ?_ ?_) <;> intro hq <;> (try simp at hq)) | refine zag (by omega) ?_ | refine zam (by omega) ?_) <;> simp -implicitDefEqProofs [*])
 | true =>
 rw [h1, h2] at hr'
 rw [h2] at c0
 by_cases h3 : id = base
 ·simp [h3] at hr'
  subst hr'
  simp -implicitDefEqProofs
  repeat' ((first | refine zaa (by first | exact c0) ?_ | ((with_reducible first | refine zak ?_ ?_ | refine zah ?_ ?_ | refine zad ?_ ?_ | refine zae ?_ ?_) <;> intro _) | ((with_reducible first | refine zan ?_ ?_ | refine zap ?_ ?_ | refine zal ?_ ?_ | refine zac ?_ ?_ | refine zai ?_ ?_ | refine zao ?_ ?_ | refine zaf ?_ ?_ | refine zab ?_ ?_) <;> intro hq <;> (try simp at hq)) | refine zag (by omega) ?_ | refine zam (by omega) ?_) <;> simp -implicitDefEqProofs [*, h3])
 obtain ⟨hb, h16, hp, hd⟩ := zbi.1 h1
 obtain ⟨ha1, ha2⟩ := z60 hb h2 ps (fun p hp' => (hp p hp').1) hd
 have hlen := znb base id ps
 have hple := zwi base ps id
 have c4 := c3 (zdf h1)
 clear c3
 generalize peerIs base ps id = A at *
 generalize findAt base ps id = p at *
 have h3' : (id == base) = false := by simpa using h3
 simp only [h3', Bool.not_false, Bool.and_self, if_true] at hr'
 simp -implicitDefEqProofs
 refine zaa c0 ?_
 simp -implicitDefEqProofs [h3]
 refine zaa (c2 h16) ?_
 simp -implicitDefEqProofs [downTo]
 refine zaa c4 ?_
 simp -implicitDefEqProofs [downTo]
 cases A with
 | true =>
   obtain ⟨hlt, ⟨m, hy⟩, hput⟩ := ha1 rfl
   have hr2 : r = (ps.set p ⟨id, 0⟩, 0) := by
    rw [← hr', hput]
    simp [h16]
   subst hr2
   have hlt' : (p : Int) < ps.length := by omega
   have hy2 : ps[p] = ⟨id, m⟩ := by simpa [hlt] using hy
   clear hr' hput ha1 ha2 hlen c4 hp hd
   simp -implicitDefEqProofs [hlt, hlt', hy2, Peer.row]
 | false =>
   have hput := ha2 rfl
   rw [hput] at hr' hlen
   simp only [zpk] at hr' hlen
   by_cases h5 : ps.length = 16
   ·have hr2 : r = ([], 701) := by
     rw [← hr']
     simp [h5]
    subst hr2
    clear hr' hput ha1 ha2 hlen c4 hp hd
    simp -implicitDefEqProofs [h5]
   ·have hr2 : r = (insL ps p ⟨id, 0⟩, 0) := by
     rw [← hr', if_pos (by omega)]
    subst hr2
    clear hr' hput ha1 ha2 hlen c4 hp hd
    have h5' : ¬ (ps.length : Int) = 16 := by omega
    simp -implicitDefEqProofs [h5']
    refine zgp rfl (by simp) (by simp) (by simp) (zkv (ps.map Peer.row) (Peer.row ⟨id, 0⟩) p (by simp [Peer.row]) (StillR.map _ _ fun a _ => zre a) (by intro r hr; rw [List.mem_singleton.1 hr]; exact ⟨rfl, rfl⟩) (zre _) (by simpa using hple) (by simp; omega)) ?_
    rw [← zs2]
    simp -implicitDefEqProofs [downTo]
theorem z46 (base : Int) (ps : List Peer) (hl : ps.length ≤ cap16) : Den PP 111 [.int .i64 base, peersD ps] [] (.tup [.ref 0 0 (ageR base ps).1.length, .ref 1 0 (ageR base ps).2.1.length, .int .i64 (ageR base ps).2.2]) [⟨(ageR base ps).1.map Peer.row, 2, .mut⟩, ⟨(ageR base ps).2.1.map irow, 1, .mut⟩] := by
 have c1 := zo6 base ps (zpv hl)
 refine zaj [] [] zur ?_
 simp -implicitDefEqProofs [zpj, peersD]
 refine zaa c1 ?_
 unfold ageR
 cases h1 : peersMay base ps with
 | false => simp -implicitDefEqProofs
 | true =>
   obtain ⟨hb, h16, hp, hd⟩ := zbi.1 h1
   simp -implicitDefEqProofs
   refine zax ps (fun i rest => fun ⟨fr, bs⟩ => bs = [⟨[], 2, .mut⟩, ⟨[], 1, .mut⟩, ⟨(ageL (ps.take i)).map Peer.row, 2, .mut⟩, ⟨(lostL (ps.take i)).map irow, 1, .mut⟩] ∧ fr 7 = .ref 2 0 (ageL (ps.take i)).length ∧ fr 8 = .ref 3 0 (lostL (ps.take i)).length ∧ fr 15 = .sl (ps.map Peer.row) ps.length ∧ fr 16 = .int .i64 ps.length ∧ fr 17 = .int .i64 i)
    (fun ⟨fr, bs⟩ => bs = [⟨[], 2, .mut⟩, ⟨[], 1, .mut⟩, ⟨(ageL ps).map Peer.row, 2, .mut⟩, ⟨(lostL ps).map irow, 1, .mut⟩] ∧ fr 7 = .ref 2 0 (ageL ps).length ∧ fr 8 = .ref 3 0 (lostL ps).length) (fun _ => False) zkj.eq_1 ?_ ?_ ?_ ?_ ?_
   ·exact ⟨rfl, rfl, rfl, rfl, rfl, rfl⟩
   ·rintro i ⟨fr, bs⟩ hi ⟨rfl, h7, h8, h15, h16, h17⟩
    subst hi
    rw [List.take_length] at *
    simp -implicitDefEqProofs [h7, h8, h15, h16, h17]
   ·rintro i q rest ⟨fr, bs⟩ hlt hget hg hd hd2 ⟨rfl, h7, h8, h15, h16, h17⟩
    have hlt' : (i : Int) < ps.length := by omega
    have hw := zav (n := i) (by omega)
    have hm := hp q (List.mem_of_getElem? hget)
    have hwm : IntKind.wrap .i64 (q.missed + 1) = q.missed + 1 := zaq (by have := hm.2.1; omega) (by have := hm.2.2.1; omega)
    have e1 : ps.take (i + 1) = ps.take i ++ [q] := by rw [List.take_add_one, hget]; rfl
    have e2 := z40 (ps.take i) q
    have e3 := z3a (ps.take i) q
    rw [← e1] at e2 e3
    have hal := zj7 (ps.take i)
    have htl : (ps.take i).length ≤ 16 := by simp; omega
    have ha16 : (ageL (ps.take i)).length ≤ 16 := by omega
    have hl16 : (lostL (ps.take i)).length ≤ 16 := by omega
    have w3 : IntKind.wrap .i64 3 = 3 := zaq (by omega) (by omega)
    clear hal htl
    generalize ageL (ps.take (i + 1)) = a' at *
    generalize ageL (ps.take i) = a at *
    generalize lostL (ps.take (i + 1)) = l' at *
    generalize lostL (ps.take i) = l at *
    by_cases hq : q.missed + 1 = 3
    ·rw [if_pos hq] at e2 e3
     subst e2 e3
     obtain ⟨qi, qm⟩ := q
     have hq2 : qm = 2 := by simp at hq; omega
     subst hq2
     clear hwm hq hm
     simp -implicitDefEqProofs [h7, h8, h15, h16, h17, hlt, hlt', hget, hg, w3, Peer.row]
     refine ⟨by simp [Fits], ?_⟩
     repeat' ((first | refine zaa (by first | exact zat _ | exact zd0 (zat _) | exact zd0 (by simpa using zat _)) ?_ | ((with_reducible first | refine zak ?_ ?_ | refine zah ?_ ?_ | refine zad ?_ ?_ | refine zae ?_ ?_) <;> intro _) | ((with_reducible first | refine zan ?_ ?_ | refine zap ?_ ?_ | refine zal ?_ ?_ | refine zac ?_ ?_ | refine zai ?_ ?_ | refine zao ?_ ?_ | refine zaf ?_ ?_ | refine zab ?_ ?_) <;> intro hq <;> (try simp at hq)) | refine zag (by omega) ?_ | refine zam (by omega) ?_) <;> simp -implicitDefEqProofs [*, h7, h8, h15, h16, h17, hlt, hlt', hw, irow, Fits])
     exact fun _ _ => rfl
    ·rw [if_neg hq] at e2 e3
     subst e2 e3
     simp -implicitDefEqProofs [h7, h8, h15, h16, h17, hlt, hlt', hget, hg, hwm, hq, Peer.row]
     refine ⟨by simp [Fits], ?_⟩
     repeat' ((first | refine zaa (by first | exact zat _ | exact zd0 (zat _) | exact zd0 (by simpa using zat _)) ?_ | ((with_reducible first | refine zak ?_ ?_ | refine zah ?_ ?_ | refine zad ?_ ?_ | refine zae ?_ ?_) <;> intro _) | ((with_reducible first | refine zan ?_ ?_ | refine zap ?_ ?_ | refine zal ?_ ?_ | refine zac ?_ ?_ | refine zai ?_ ?_ | refine zao ?_ ?_ | refine zaf ?_ ?_ | refine zab ?_ ?_) <;> intro hq <;> (try simp at hq)) | refine zag (by omega) ?_ | refine zam (by omega) ?_) <;> simp -implicitDefEqProofs [*, h7, h8, h15, h16, h17, hlt, hlt', hw, Peer.row, Fits])
   ·rintro ⟨fr, bs⟩ ⟨rfl, h7, h8⟩
    simp -implicitDefEqProofs [h7, h8]
   ·rintro ⟨fr, bs⟩ h
    exact h.elim
end Go.AM
/- AM: contracts: age.Tick. -/
namespace Go.AM
set_option linter.unusedSimpArgs false
set_option linter.unusedVariables false
set_option maxRecDepth 8000
set_option maxHeartbeats 0
theorem zxx : Den PP 113 [.sl [[.sl [] 0], [.sl [] 0]] 2] [] (.ref 0 0 0) [⟨[], 1, .mut⟩] := zsx LH LH_ok _ _ _ _ _ (by kernel_rfl)
theorem concat2 (xs ys : List Int) (hl : xs.length + ys.length ≤ cap16) : Den PP 113 [.sl [[.sl (xs.map irow) xs.length], [.sl (ys.map irow) ys.length]] 2] [] (.ref 0 0 (xs ++ ys).length) [⟨(xs ++ ys).map irow, 1, .mut⟩] := by
 by_cases h : 0 < (xs ++ ys).length
 ·have := zx8 [xs, ys] (by unfold cap16; simp) (by simpa [tot] using h) (by simpa [tot] using hl)
  simpa [tot, frow, lrow] using this
 ·have h1 : xs = [] := List.length_eq_zero_iff.1 (by simp at h; simp [h])
  have h2 : ys = [] := List.length_eq_zero_iff.1 (by simp at h; simp [h])
  subst h1 h2
  exact zxx
theorem z1s {L : List Int} {i : Nat} {x : Int} (h : L[i]? = some x) (p : List Int) : agedP (L.take (i + 1)) p = (withP (agedP (L.take i) p) x).1 := by
 have e1 : L.take (i + 1) = L.take i ++ [x] := by rw [List.take_add_one, h]; rfl
 unfold agedP
 rw [e1, List.foldl_append]
 rfl
theorem z4n (L : List Int) (p : List Int) (h : p.length ≤ 16) : (agedP L p).length ≤ 16 := by
 unfold agedP
 induction L generalizing p with
 | nil => exact h
 | cons x L ih => exact ih _ (z5k p x)
theorem z6w (v : View) (h : viewMay v = true) : Den PP 38 [viewD v] [] (.tup [viewD (ageV v), intsD (greetV (ageV v)), .int .i64 0]) [] := by
 obtain ⟨m1, m2, m3, m4⟩ := zas h
 have hs : v.small := ⟨by unfold cap16; omega, by unfold cap; omega⟩
 have c1 := zh7 v hs
 have c2 := zma v hs
 have c3 := z46 v.id v.peers hs.1
 have c4 := zj4 (ageV v) (by have := (zhf h).2.1; unfold cap16; omega)
 have c5 := concat2 ((ageV v).peers.map Peer.id) (ageV v).passive (by have := (zhf h).2.1; unfold cap16; simp; omega)
 have hal := zj7 v.peers
 have c6 := fun i => z4n ((lostL v.peers).take i) v.passive (by omega)
 have e0 : ageR v.id v.peers = (ageL v.peers, lostL v.peers, 0) := by simp [ageR, m1]
 have hnx : ∀ i x, (lostL v.peers)[i]? = some x → _ := fun i x hx => z1s hx v.passive
 have e9 : agedP (lostL v.peers) v.passive = (ageV v).passive := rfl
 have e8 : ageL v.peers = (ageV v).peers := rfl
 have e7 : (ageV v).id = v.id := rfl
 have e6 : agedP [] v.passive = v.passive := rfl
 unfold greetV
 rw [h] at c1
 rw [e0] at c3
 rw [e8] at c3 hal
 simp only [viewD, View.cells, peersD, intsD, e7] at c1 c2 c3 c4 c5 ⊢
 have hll : (lostL v.peers).length ≤ 16 := by omega
 generalize lostL v.peers = lost at *
 clear e0 e8 hal m1 m4 h
 generalize (ageV v).peers = ps at *
 generalize (ageV v).passive = xs at *
 simp only [List.map_map, Function.comp_def, List.length_map, List.map_append, List.length_append] at c5
 refine zaj [] [] zxb ?_
 simp -implicitDefEqProofs [zrt]
 refine zaa c1 ?_
 simp -implicitDefEqProofs
 refine zaa c2 ?_
 simp -implicitDefEqProofs
 refine zaa c3 ?_
 simp -implicitDefEqProofs
 refine zax lost (fun i rest => fun ⟨fr, bs⟩ => bs = [⟨[[.int .i64 v.id, .sl (v.peers.map Peer.row) v.peers.length, .sl (v.passive.map irow) v.passive.length]], 3, .box⟩, ⟨[[.int .i64 0, .nil, .nil]], 3, .box⟩, ⟨[], 1, .mut⟩, ⟨[[.int .i64 v.id, .sl (ps.map Peer.row) ps.length, .sl ((agedP (lost.take i) v.passive).map irow) (agedP (lost.take i) v.passive).length]], 3, .box⟩] ∧ fr 2 = .ptr 1 0 0 ∧ fr 5 = .ptr 3 0 0 ∧ fr 28 = .sl (lost.map irow) lost.length ∧ fr 29 = .int .i64 lost.length ∧ fr 30 = .int .i64 i)
  (fun ⟨fr, bs⟩ => bs = [⟨[[.int .i64 v.id, .sl (v.peers.map Peer.row) v.peers.length, .sl (v.passive.map irow) v.passive.length]], 3, .box⟩, ⟨[[.int .i64 0, .nil, .nil]], 3, .box⟩, ⟨[], 1, .mut⟩, ⟨[[.int .i64 v.id, .sl (ps.map Peer.row) ps.length, .sl (xs.map irow) xs.length]], 3, .box⟩] ∧ fr 2 = .ptr 1 0 0 ∧ fr 5 = .ptr 3 0 0) (fun _ => False) zle.eq_1 ?_ ?_ ?_ ?_ ?_
 ·refine ⟨?_, rfl, rfl, rfl, rfl, rfl⟩
  simp [e6]
 ·rintro i ⟨fr, bs⟩ hi ⟨rfl, h2, h5, h28, h29, h30⟩
  subst hi
  rw [List.take_length] at *
  rw [e9]
  simp -implicitDefEqProofs [h2, h5, h28, h29, h30]
 ·rintro i x rest ⟨fr, bs⟩ hlt hget hg hd hd2 ⟨rfl, h2, h5, h28, h29, h30⟩
  have hlt' : (i : Int) < lost.length := by omega
  have hx := hnx i x hget
  have hc := zv0 (agedP (lost.take i) v.passive) x (by have := c6 i; unfold cap; omega)
  rw [hx]
  clear hx
  simp only [intsD] at hc
  generalize withP (agedP (lost.take i) v.passive) x = r at *
  generalize agedP (lost.take i) v.passive = p at *
  obtain ⟨q, e⟩ := r
  simp only at hc
  simp -implicitDefEqProofs [h2, h5, h28, h29, h30, hlt, hlt', hget, hg, irow]
  refine zaa hc ?_
  simp -implicitDefEqProofs [h2, h5, h28, h29, h30, irow]
  exact zaq (by omega) (by omega)
 ·rintro ⟨fr, bs⟩ ⟨rfl, h2, h5⟩
  simp -implicitDefEqProofs [h2, h5]
  repeat' ((first | refine zaa (by first | exact c4 | exact c5) ?_ | ((with_reducible first | refine zak ?_ ?_ | refine zah ?_ ?_ | refine zad ?_ ?_ | refine zae ?_ ?_) <;> intro _) | ((with_reducible first | refine zan ?_ ?_ | refine zap ?_ ?_ | refine zal ?_ ?_ | refine zac ?_ ?_ | refine zai ?_ ?_ | refine zao ?_ ?_ | refine zaf ?_ ?_ | refine zab ?_ ?_) <;> intro hq <;> (try simp at hq)) | refine zag (by omega) ?_ | refine zam (by omega) ?_) <;> simp -implicitDefEqProofs [*, h2, h5, downTo])
 ·rintro ⟨fr, bs⟩ h
  exact h.elim
end Go.AM
/- AM: chapter 20's statements: Takes. -/
namespace Go.AM
set_option linter.unusedSimpArgs false
set_option linter.unusedVariables false
set_option maxRecDepth 8000
set_option maxHeartbeats 0
theorem za5 {x : Node} (h : nodeUp x = true) : x.up = true ∧ viewMay x.view = true ∧ storeMay x.items = true ∧ x.log.length ≤ 64 ∧ x.log.any toldOdd = false := by
 simp only [nodeUp, nodeMay, Bool.and_eq_true, decide_eq_true_eq, Bool.not_eq_true'] at h
 exact ⟨h.1, h.2.1.1.1.2, h.2.1.1.2, h.2.1.2, h.2.2⟩
theorem zjb {x : Node} (h1 : x.up = true) (h2 : viewMay x.view = true) (h3 : storeMay x.items = true) (h4 : x.log.length ≤ 64) (h5 : x.log.any toldOdd = false) : nodeUp x = true := by
 simp [nodeUp, nodeMay, h1, h2, h3, h4, h5]
theorem z77 {x : Node} {i : Item} (h : nodeUp x = true) : nodeUp (takeI x i) = true := by
 obtain ⟨h1, h2, h3, h4, h5⟩ := za5 h
 unfold takeI
 split
 ·rename_i h6
  obtain ⟨_, _, h7, h8⟩ := z8h h6
  rw [h7]
  exact zjb h1 h2 h8 h4 h5
 ·exact h
theorem zg2 {x : Node} (h : nodeUp x = true) : x.view.peers.length ≤ 16 ∧ x.view.passive.length ≤ 16 ∧ x.items.length ≤ 16 ∧ x.log.length ≤ 64 := by
 obtain ⟨h1, h2, h3, h4, h5⟩ := za5 h
 have h6 := (zas h2).2.2.1
 have h7 := ((zdn _).1 h3).2.2
 omega
theorem zl1 {x : Node} (h : nodeUp x = true) : x.small := by
 obtain ⟨h1, h2, h3, h4⟩ := zg2 h
 unfold Node.small View.small cap16 cap
 omega
end Go.AM
/- AM: contracts: tick.Step. -/
namespace Go.AM
set_option linter.unusedSimpArgs false
set_option linter.unusedVariables false
set_option maxRecDepth 8000
set_option maxHeartbeats 0
def tickN (x : Node) : Node := { x with view := ageV x.view }
def greetR (w : View) (to : Int) : List D := [.int .i64 0, .int .i64 w.id, .int .i64 to, .sl (w.peers.map fun p => irow p.id) w.peers.length, .int .i64 0, .int .i64 0, .int .i64 0, .int .i64 0, .int .i64 0, .bool false, .bool false]
def greetsR (w : View) (L : List Int) : List (List D) := L.map (greetR w)
theorem zuu {w : View} {L : List Int} {i : Nat} {x : Int} (h : L[i]? = some x) : greetsR w (L.take (i + 1)) = greetsR w (L.take i) ++ [greetR w x] := by
 have e1 : L.take (i + 1) = L.take i ++ [x] := by rw [List.take_add_one, h]; rfl
 rw [e1]; simp [greetsR]
theorem zsr (w : View) (L : List Int) (S : Nat → Bool) : (greetsR w L).map (fun r => r.map (D.sweep S)) = greetsR w L := by
 unfold greetsR
 rw [List.map_map]
 rfl
theorem z5q (x : Node) (h : nodeUp x = true) : Den PP 37 [nodeD x] [] (.tup [nodeD (tickN x), .ref 0 0 ((greetV (ageV x.view)).length + (shareOf (tickN x)).1.length), .int .i64 0]) [⟨greetsR (ageV x.view) (greetV (ageV x.view)) ++ (shareOf (tickN x)).1.map Msg.row0, 11, .mut⟩] := by
 obtain ⟨p1, p2, p3, p4, p5⟩ := za5 h
 obtain ⟨v1, v2, v3⟩ := zhf p2
 obtain ⟨l1, l2, l3, l4⟩ := zg2 h
 have hs := zl1 h
 have hu : nodeUp (tickN x) = true := zjb p1 v1 p3 p4 p5
 have c1 := zjp x hs
 have c2 := zfg x hs
 have c3 := z6w x.view p2
 have c4 := zj4 (ageV x.view) (by unfold cap16; omega)
 have c5 := z8g (tickN x) (zl1 hu)
 have hgl : (greetV (ageV x.view)).length ≤ 16 := by have := (zas v1).2.2.1; unfold greetV; simp; omega
 have hsl : (shareOf (tickN x)).1.length ≤ 4096 := by
  have h1 : (shareOf (tickN x)).1.length ≤ x.items.length := by
   unfold shareOf
   rw [hu]
   exact List.length_filterMap_le ..
  omega
 have e0 : (shareOf (tickN x)).2 = 0 := by unfold shareOf; rw [hu]; rfl
 rw [e0] at c5
 rw [h] at c1
 generalize (shareOf (tickN x)).1 = ms at *
 have e7 : (ageV x.view).id = x.view.id := rfl
 unfold tickN at c5 ⊢
 generalize hw : ageV x.view = w at *
 generalize greetV w = gs at *
 simp only [nodeD, Node.cells, viewD, View.cells, peersD, intsD, itemsD, toldsD, copyD, nodeB, e7] at c1 c2 c3 c4 c5 ⊢
 have hnx := fun i y (hy : gs[i]? = some y) => zuu (w := w) hy
 have hsw := zsr w
 clear e0 hw hu h p1 p2 p3 p4 p5 v1 v2 v3
 refine zaj [] [] zvc ?_
 simp -implicitDefEqProofs [zpi]
 refine zaa c1 ?_
 simp -implicitDefEqProofs
 refine zaa c2 ?_
 simp -implicitDefEqProofs
 refine zaa c3 ?_
 simp -implicitDefEqProofs
 refine zax gs (fun i rest => fun ⟨fr, bs⟩ => (bs = [⟨[[.bool x.up, .int .i64 x.view.id, .sl (x.view.peers.map Peer.row) x.view.peers.length, .sl (x.view.passive.map irow) x.view.passive.length, .sl (x.items.map Item.row) x.items.length, .sl (x.log.map Told.row) x.log.length]], 6, .box⟩, ⟨[[.bool false, .int .i64 0, .nil, .nil, .nil, .nil]], 6, .box⟩, ⟨[], 11, .mut⟩, ⟨[[.bool x.up, .int .i64 x.view.id, .sl (w.peers.map Peer.row) w.peers.length, .sl (w.passive.map irow) w.passive.length, .sl (x.items.map Item.row) x.items.length, .sl (x.log.map Told.row) x.log.length]], 6, .box⟩, ⟨[[.int .i64 x.view.id, .sl (w.peers.map Peer.row) w.peers.length, .sl (w.passive.map irow) w.passive.length]], 3, .box⟩, ⟨greetsR w (gs.take i), 11, .mut⟩] ∨ bs = [⟨[[.bool x.up, .int .i64 x.view.id, .sl (x.view.peers.map Peer.row) x.view.peers.length, .sl (x.view.passive.map irow) x.view.passive.length, .sl (x.items.map Item.row) x.items.length, .sl (x.log.map Told.row) x.log.length]], 6, .box⟩, ⟨[[.bool false, .int .i64 0, .nil, .nil, .nil, .nil]], 6, .box⟩, ⟨[], 11, .mut⟩, ⟨[[.bool x.up, .int .i64 x.view.id, .sl (w.peers.map Peer.row) w.peers.length, .sl (w.passive.map irow) w.passive.length, .sl (x.items.map Item.row) x.items.length, .sl (x.log.map Told.row) x.log.length]], 6, .box⟩, ⟨[[.int .i64 x.view.id, .sl (w.peers.map Peer.row) w.peers.length, .sl (w.passive.map irow) w.passive.length]], 3, .ibox⟩, ⟨greetsR w (gs.take i), 11, .mut⟩]) ∧ fr 2 = .ptr 1 0 0 ∧ fr 5 = .ptr 3 0 0 ∧ fr 6 = .ptr 4 0 0 ∧ fr 9 = .ref 5 0 i ∧ fr 29 = .sl (gs.map irow) gs.length ∧ fr 30 = .int .i64 gs.length ∧ fr 31 = .int .i64 i)
  (fun ⟨fr, bs⟩ => (bs = [⟨[[.bool x.up, .int .i64 x.view.id, .sl (x.view.peers.map Peer.row) x.view.peers.length, .sl (x.view.passive.map irow) x.view.passive.length, .sl (x.items.map Item.row) x.items.length, .sl (x.log.map Told.row) x.log.length]], 6, .box⟩, ⟨[[.bool false, .int .i64 0, .nil, .nil, .nil, .nil]], 6, .box⟩, ⟨[], 11, .mut⟩, ⟨[[.bool x.up, .int .i64 x.view.id, .sl (w.peers.map Peer.row) w.peers.length, .sl (w.passive.map irow) w.passive.length, .sl (x.items.map Item.row) x.items.length, .sl (x.log.map Told.row) x.log.length]], 6, .box⟩, ⟨[[.int .i64 x.view.id, .sl (w.peers.map Peer.row) w.peers.length, .sl (w.passive.map irow) w.passive.length]], 3, .box⟩, ⟨greetsR w gs, 11, .mut⟩] ∨ bs = [⟨[[.bool x.up, .int .i64 x.view.id, .sl (x.view.peers.map Peer.row) x.view.peers.length, .sl (x.view.passive.map irow) x.view.passive.length, .sl (x.items.map Item.row) x.items.length, .sl (x.log.map Told.row) x.log.length]], 6, .box⟩, ⟨[[.bool false, .int .i64 0, .nil, .nil, .nil, .nil]], 6, .box⟩, ⟨[], 11, .mut⟩, ⟨[[.bool x.up, .int .i64 x.view.id, .sl (w.peers.map Peer.row) w.peers.length, .sl (w.passive.map irow) w.passive.length, .sl (x.items.map Item.row) x.items.length, .sl (x.log.map Told.row) x.log.length]], 6, .box⟩, ⟨[[.int .i64 x.view.id, .sl (w.peers.map Peer.row) w.peers.length, .sl (w.passive.map irow) w.passive.length]], 3, .ibox⟩, ⟨greetsR w gs, 11, .mut⟩]) ∧ fr 2 = .ptr 1 0 0 ∧ fr 5 = .ptr 3 0 0 ∧ fr 9 = .ref 5 0 gs.length) (fun _ => False) zko.eq_1 ?_ ?_ ?_ ?_ ?_
 ·exact ⟨.inl (by simp [greetsR]), rfl, rfl, rfl, rfl, rfl, rfl, rfl⟩
 ·rintro i ⟨fr, bs⟩ hi ⟨hb, h2, h5, h6, h9, h29, h30, h31⟩
  subst hi
  rw [List.take_length] at *
  simp -implicitDefEqProofs [h2, h5, h6, h9, h29, h30, h31]
  exact hb
 ·rintro i y rest ⟨fr, bs⟩ hlt hget hg hd hd2 ⟨hb, h2, h5, h6, h9, h29, h30, h31⟩
  have hlt' : (i : Int) < gs.length := by omega
  have hgr : (greetsR w (gs.take i)).length = i := by simp [greetsR]; omega
  rw [hnx i y hget]
  have hsG := hsw (gs.take i)
  generalize greetsR w (gs.take i) = G at *
  rcases hb with rfl | rfl
  all_goals
   simp -implicitDefEqProofs [h2, h5, h6, h9, h29, h30, h31, hlt, hlt', hget, hg, irow]
   repeat' ((first | refine zaa (by first | exact c4) ?_ | ((with_reducible first | refine zak ?_ ?_ | refine zah ?_ ?_ | refine zad ?_ ?_ | refine zae ?_ ?_) <;> intro _) | ((with_reducible first | refine zan ?_ ?_ | refine zap ?_ ?_ | refine zal ?_ ?_ | refine zac ?_ ?_ | refine zai ?_ ?_ | refine zao ?_ ?_ | refine zaf ?_ ?_ | refine zab ?_ ?_) <;> intro hq <;> (try simp at hq)) | refine zag (by omega) ?_ | refine zam (by omega) ?_) <;> simp -implicitDefEqProofs [*, h2, h5, h6, h9, h29, h30, h31, hlt, hlt', hgr, irow, downTo])
   refine ⟨by simp [Fits], ?_⟩
   refine zag ⟨by omega, by omega⟩ ?_
   simp -implicitDefEqProofs [h2, h5, h6, h9, h29, h30, h31, hgr, irow, downTo, greetR, hsG]
   exact ⟨e7.symm, zaq (by omega) (by omega)⟩
 ·rintro ⟨fr, bs⟩ ⟨hb, h2, h5, h9⟩
  have hgr : (greetsR w gs).length = gs.length := by simp [greetsR]
  have hsG := hsw gs
  generalize greetsR w gs = G at *
  rcases hb with rfl | rfl
  all_goals
   simp -implicitDefEqProofs [h2, h5, h9]
   refine zaa c5 ?_
   simp -implicitDefEqProofs [h2, h5, h9]
   repeat' apply And.intro
  all_goals
   refine zag ⟨by omega, by omega⟩ ?_
   refine zag (by omega) ?_
   simp -implicitDefEqProofs [h2, h5, h9, hsG]
 ·rintro ⟨fr, bs⟩ h
  exact h.elim
end Go.AM
/- AM: contracts: a tick as an act. -/
namespace Go.AM
set_option linter.unusedSimpArgs false
set_option linter.unusedVariables false
set_option maxRecDepth 8000
set_option maxHeartbeats 0
def tickM (x : Node) : List Msg := (greetV (ageV x.view)).map (greetM (ageV x.view)) ++ (shareOf (tickN x)).1
theorem z6e {x : Node} {m : Msg} (h : m ∈ (shareOf x).1) : m.ids = [] := by
 unfold shareOf at h
 split at h
 ·obtain ⟨i, -, hi⟩ := List.mem_filterMap.1 h
  unfold shareOne at hi
  generalize (if (ownerV x.view i.key).1 = x.view.id then (succV x.view).1 else (ownerV x.view i.key).1) = to at hi
  by_cases hc : to = x.view.id
  ·rw [if_pos hc] at hi; cases hi
  ·rw [if_neg hc] at hi; cases hi; rfl
 ·cases h
theorem z26 (x : Node) : (shareOf x).1.map Msg.bare = (shareOf x).1 := by
 rw [List.map_congr_left (g := id) (fun m hm => ?_), List.map_id]
 have := z6e hm
 cases m
 simp only at this
 subst this
 rfl
theorem z51 (x : Node) : nrmLL (greetsR (ageV x.view) (greetV (ageV x.view)) ++ (shareOf (tickN x)).1.map Msg.row0) = (tickM x).map Msg.row := by
 have h := zp0 (shareOf (tickN x)).1
 rw [z26, zd6] at h
 rw [zd6, List.map_append, h]
 unfold tickM
 rw [List.map_append]
 congr 1
 unfold greetsR
 rw [List.map_map, List.map_map]
 apply List.map_congr_left
 intro to _
 simp [greetR, greetM, Msg.row, intsD, zeroItem, irow, zd6, Function.comp_def]
theorem z3r (w : Wld) (a : Act) (x : Node) (hw : w.tiny) (hr : MonoC (cmpN a.node) w.nodes) (hi : isN a.node w.nodes = true) (hx : w.nodes[posN a.node w.nodes]? = some x) (h : nodeUp x = true)
 (hm1 : worldMay { w with nodes := w.nodes.set (posN a.node w.nodes) (tickN x) } = true) (hm2 : worldMay { w with nodes := w.nodes.set (posN a.node w.nodes) (tickN x), packets := tickM x } = true) :
 Den PP 59 [.ptr 0 0 0, .ptr 4 0 0] (actB w a) (.tup []) (doS { w with nodes := w.nodes.set (posN a.node w.nodes) (tickN x) } (sendW { w with nodes := w.nodes.set (posN a.node w.nodes) (tickN x) } (tickM x)) w.packets a) := by
 have c1 := z56 w a (by have := hw.nodes; unfold cap; omega) hr hi
 have c2 := z5q x h
 have c3 := z4r { w with nodes := w.nodes.set (posN a.node w.nodes) (tickN x) } (tickM x) hm1 hm2
 have hp := zkz hi
 have hn := z51 x
 have hlen : (tickM x).length = (greetV (ageV x.view)).length + (shareOf (tickN x)).1.length := by simp [tickM]
 have hg : ∀ h : posN a.node w.nodes < w.nodes.length, w.nodes[posN a.node w.nodes] = x := fun h => by rw [List.getElem?_eq_getElem h] at hx; exact Option.some.inj hx
 have c3 : Den PP 151 [.ptr 0 0 0, .sl (greetsR (ageV x.view) (greetV (ageV x.view)) ++ (shareOf (tickN x)).1.map Msg.row0) ((greetV (ageV x.view)).length + (shareOf (tickN x)).1.length)] _ _ _ := zd0 (by
  simp only [List.map_cons, List.map_nil, D.nrm, hn, ← hlen]
  exact c3)
 generalize posN a.node w.nodes = P at *
 have hp' : (P : Int) < w.nodes.length := by omega
 generalize (greetsR (ageV x.view) (greetV (ageV x.view)) ++ (shareOf (tickN x)).1.map Msg.row0) = R at *
 generalize ((greetV (ageV x.view)).length + (shareOf (tickN x)).1.length) = k at *
 generalize tickM x = ms at *
 generalize tickN x = y at *
 have e1 : (sendW { w with nodes := w.nodes.set P y } ms).nodes = w.nodes.set P y := rfl
 have e2 : (sendW { w with nodes := w.nodes.set P y } ms).cuts = w.cuts := rfl
 generalize sendW { w with nodes := w.nodes.set P y } ms = v at *
 obtain ⟨ns, cs, ps⟩ := v
 simp only at e1 e2
 subst e1 e2
 clear hi hr hw h hm1 hm2 hn hlen
 simp only [actB, doA, doC, doS, copyD, nodeB, nodeD, intsD, Act.cells, Wld.cells, nodesD, cutsD, msgsD, msgD, List.length_set, List.map_set] at c1 c2 c3 ⊢
 rw [zjr y] at c2 c3 ⊢
 refine zaj [] [8, 24] znw ?_
 simp -implicitDefEqProofs [zjo]
 refine zar [0, 1, 2, 3, 4] rfl (by decide) (by simp) c1 (by simp) (by simp [lentBs]) ?_
 simp -implicitDefEqProofs [framed, hp, hp', hx, hg]
 refine zaa c2 ?_
 simp -implicitDefEqProofs [-leave, hp, hp', hx, hg]
 refine zar [0, 1, 2, 3] rfl (by decide) (by simp) c3 (by simp) (by simp [lentBs]) ?_
 simp -implicitDefEqProofs [framed, -leave]

 exact leave5 (zg6 rfl) (zoc (zju 5 _) (List.all_eq_true.1 rfl)) (zmc 5 _) (zlv 5 _) (zg6 rfl)
end Go.AM
/- AM: contracts: what a node was told is noted. -/
namespace Go.AM
set_option linter.unusedSimpArgs false
set_option linter.unusedVariables false
set_option maxRecDepth 8000
set_option maxHeartbeats 0
def toldOf (key : Int) (i : Item) (has : Bool) : Told := ⟨key, has && !i.gone, if has && !i.gone then i.value else 0⟩
theorem z8j (x : Node) (key : Int) (i : Item) (has : Bool) (hs : x.small) (hl : x.log.length ≤ 64) : Den PP 131 [nodeD x, .int .i64 key, .agg i.row, .bool has] [] (.agg [.bool x.up, .int .i64 x.view.id, .ref 0 0 x.view.peers.length, .ref 1 0 x.view.passive.length, .ref 2 0 x.items.length, .ref 3 (x.log.length + 1 - 64) (x.log.length + 1 - (x.log.length + 1 - 64))])
 [⟨x.view.peers.map Peer.row, 2, .mut⟩, ⟨x.view.passive.map irow, 1, .mut⟩, ⟨x.items.map Item.row, 5, .mut⟩, ⟨(x.log ++ [toldOf key i has]).map Told.row, 3, .mut⟩] := by
 have c1 := zfg x hs
 obtain ⟨ik, ic, iw, iv, ig⟩ := i
 simp only [nodeD, Node.cells, peersD, intsD, itemsD, toldsD, Item.row, copyD, nodeB] at c1 ⊢
 have hm : (if IntKind.wrap .i64 ((x.log.length : Int) + 1 - 64) < 0 then 0 else IntKind.wrap .i64 ((x.log.length : Int) + 1 - 64)) = ((x.log.length + 1 - 64 : Nat) : Int) := by
  rw [zaq (by omega) (by omega)]; split <;> omega
 refine zaj [12] [] zza ?_
 cases has <;> cases ig
 all_goals
  simp -implicitDefEqProofs [zrs]
  refine zaa c1 ?_
  simp -implicitDefEqProofs [downTo]
 case false.false | false.true | true.true =>
  refine ⟨by simp [Fits], ?_⟩
  repeat' ((first | refine zaa (by first | exact zat _ | exact zd0 (zat _) | exact zd0 (by simpa using zat _)) ?_ | ((with_reducible first | refine zak ?_ ?_ | refine zah ?_ ?_ | refine zad ?_ ?_ | refine zae ?_ ?_) <;> intro _) | ((with_reducible first | refine zan ?_ ?_ | refine zap ?_ ?_ | refine zal ?_ ?_ | refine zac ?_ ?_ | refine zai ?_ ?_ | refine zao ?_ ?_ | refine zaf ?_ ?_ | refine zab ?_ ?_) <;> intro hq <;> (try simp at hq)) | refine zag (by omega) ?_ | refine zam (by omega) ?_) <;> simp -implicitDefEqProofs [*, downTo])
  simp -implicitDefEqProofs [minL, minF, hm]
  refine zhv (x.log.length + 1 - 64) (x.log.length + 1) (by simp; rfl) rfl (by simp [boundD, hm]) (by first | rfl | omega | (simp [boundD]; done) | (simp [boundD]; omega) | (simp; done) | (simp; omega) | (simp [*]; done) | (simp [*]; omega)) (by omega) (by first | rfl | omega | (simp [boundD]; done) | (simp [boundD]; omega) | (simp; done) | (simp; omega) | (simp [*]; done) | (simp [*]; omega)) rfl (by first | rfl | omega | (simp [boundD]; done) | (simp [boundD]; omega) | (simp; done) | (simp; omega) | (simp [*]; done) | (simp [*]; omega)) ?_
  simp -implicitDefEqProofs [toldOf, Told.row]
 case true.false =>
  repeat' apply And.intro
  all_goals try (simp [Fits]; done)
  all_goals
   repeat' ((first | refine zaa (by first | exact zat _ | exact zd0 (zat _) | exact zd0 (by simpa using zat _)) ?_ | ((with_reducible first | refine zak ?_ ?_ | refine zah ?_ ?_ | refine zad ?_ ?_ | refine zae ?_ ?_) <;> intro _) | ((with_reducible first | refine zan ?_ ?_ | refine zap ?_ ?_ | refine zal ?_ ?_ | refine zac ?_ ?_ | refine zai ?_ ?_ | refine zao ?_ ?_ | refine zaf ?_ ?_ | refine zab ?_ ?_) <;> intro hq <;> (try simp at hq)) | refine zag (by omega) ?_ | refine zam (by omega) ?_) <;> simp -implicitDefEqProofs [*, downTo])
   simp -implicitDefEqProofs [minL, minF, hm]
   refine zhv (x.log.length + 1 - 64) (x.log.length + 1) (by simp; rfl) rfl (by simp [boundD, hm]) (by first | rfl | omega | (simp [boundD]; done) | (simp [boundD]; omega) | (simp; done) | (simp; omega) | (simp [*]; done) | (simp [*]; omega)) (by omega) (by first | rfl | omega | (simp [boundD]; done) | (simp [boundD]; omega) | (simp; done) | (simp; omega) | (simp [*]; done) | (simp [*]; omega)) rfl (by first | rfl | omega | (simp [boundD]; done) | (simp [boundD]; omega) | (simp; done) | (simp; omega) | (simp [*]; done) | (simp [*]; omega)) ?_
   simp -implicitDefEqProofs [toldOf, Told.row]
end Go.AM
/- AM: chapter 20's statements: TakeTwice, TakeBest. -/
namespace Go.AM
set_option linter.unusedSimpArgs false
set_option linter.unusedVariables false
set_option maxRecDepth 8000
set_option maxHeartbeats 0
end Go.AM
/- AM: contracts: asking, answering, being told; the document's. -/
namespace Go.AM
set_option linter.unusedSimpArgs false
set_option linter.unusedVariables false
set_option maxRecDepth 8000
set_option maxHeartbeats 0
def noteD (x : Node) (pre xs : List Told) : D := .agg [.bool x.up, .int .i64 x.view.id, .ref 0 0 x.view.peers.length, .ref 1 0 x.view.passive.length, .ref 2 0 x.items.length, .ref 3 pre.length xs.length]
def noteB (x : Node) (pre xs : List Told) : List Blk := [⟨x.view.peers.map Peer.row, 2, .mut⟩, ⟨x.view.passive.map irow, 1, .mut⟩, ⟨x.items.map Item.row, 5, .mut⟩, ⟨(pre ++ xs).map Told.row, 3, .mut⟩]
def logPre (x : Node) (t : Told) : List Told := (x.log ++ [t]).take (x.log.length + 1 - 64)
def logOf (x : Node) (t : Told) : List Told := (x.log ++ [t]).drop (x.log.length + 1 - 64)
theorem z5p (x : Node) (t : Told) : (logPre x t).length = x.log.length + 1 - 64 ∧ (logOf x t).length = x.log.length + 1 - (x.log.length + 1 - 64) ∧ logPre x t ++ logOf x t = x.log ++ [t] := by
 unfold logPre logOf
 refine ⟨by simp; omega, by simp, List.take_append_drop _ _⟩
theorem z3s (x : Node) (key : Int) (i : Item) (has : Bool) (hs : x.small) (hl : x.log.length ≤ 64) : Den PP 131 [nodeD x, .int .i64 key, .agg i.row, .bool has] [] (noteD x (logPre x (toldOf key i has)) (logOf x (toldOf key i has))) (noteB x (logPre x (toldOf key i has)) (logOf x (toldOf key i has))) := by
 have := z8j x key i has hs hl
 obtain ⟨h1, h2, h3⟩ := z5p x (toldOf key i has)
 unfold noteD noteB
 rw [h1, h2, h3]
 exact this
def toB (x : Node) (m : Msg) (kind : Int) : Bool := nodeUp x && (msgMay m && (decide (m.kind = kind) && decide (m.to = x.view.id)))
theorem z8v (x : Node) (m : Msg) (kind : Int) (hs : x.small) (hl : m.ids.length ≤ cap) : Den PP 129 [.mem x.cells, .mem m.row, .int .i64 kind] [] (.bool (toB x m kind)) [] := by
 have c1 := zjp x hs
 have c2 := zm8 m hl
 unfold toB
 generalize nodeUp x = U at *
 generalize msgMay m = M at *
 simp only [nodeD, Node.cells, peersD, intsD, itemsD, toldsD, Item.row, msgD, Msg.row] at c1 c2 ⊢
 refine zaj [] [] z6k ?_
 cases U <;> cases M
 all_goals
  simp -implicitDefEqProofs [zz8]
  repeat' ((first | refine zaa (by first | exact c1 | exact c2) ?_ | ((with_reducible first | refine zak ?_ ?_ | refine zah ?_ ?_ | refine zad ?_ ?_ | refine zae ?_ ?_) <;> intro _) | ((with_reducible first | refine zan ?_ ?_ | refine zap ?_ ?_ | refine zal ?_ ?_ | refine zac ?_ ?_ | refine zai ?_ ?_ | refine zao ?_ ?_ | refine zaf ?_ ?_ | refine zab ?_ ?_) <;> intro hq <;> (try simp at hq)) | refine zag (by omega) ?_ | refine zam (by omega) ?_) <;> simp -implicitDefEqProofs [*])
 all_goals (first | (simp [*]; done) | grind)
theorem z2p {x : Node} (h : nodeUp x = true) : x.log.length ≤ 64 := (za5 h).2.2.2.1
def tellOf (x : Node) (m : Msg) : Msg := ⟨3, x.view.id, m.from_, [], m.key, (getR x.items m.key).1, (getR x.items m.key).2⟩
theorem zs9 (x : Node) (m : Msg) (hs : x.small) (hl : m.ids.length ≤ cap) (h : toB x m 2 = true) : Den PP 45 [nodeD x, msgD m] [] (.tup [.ref 0 0 1, .int .i64 0]) [⟨[tellOf x m].map Msg.row0, 11, .mut⟩] := by
 have c1 := z8v x m 2 hs hl
 have c4 := z5n x.items m.key (by have := hs.2.1; unfold cap16; omega)
 rw [h] at c1
 unfold tellOf
 generalize getR x.items m.key = r at *
 obtain ⟨⟨ik, ic, iw, iv, ig⟩, g2⟩ := r
 simp only [nodeD, Node.cells, peersD, intsD, itemsD, toldsD, Item.row, msgD, Msg.row, Msg.row0, List.map_cons, List.map_nil] at c1 c4 ⊢
 clear h
 refine zaj [] [] ztj ?_
 simp -implicitDefEqProofs [znm]
 repeat' ((first | refine zaa (by first | exact c1 | exact c4) ?_ | ((with_reducible first | refine zak ?_ ?_ | refine zah ?_ ?_ | refine zad ?_ ?_ | refine zae ?_ ?_) <;> intro _) | ((with_reducible first | refine zan ?_ ?_ | refine zap ?_ ?_ | refine zal ?_ ?_ | refine zac ?_ ?_ | refine zai ?_ ?_ | refine zao ?_ ?_ | refine zaf ?_ ?_ | refine zab ?_ ?_) <;> intro hq <;> (try simp at hq)) | refine zag (by omega) ?_ | refine zam (by omega) ?_) <;> simp -implicitDefEqProofs [*, downTo])
 repeat' apply And.intro
 all_goals repeat' ((first | ((with_reducible first | refine zak ?_ ?_ | refine zah ?_ ?_ | refine zad ?_ ?_ | refine zae ?_ ?_) <;> intro _) | ((with_reducible first | refine zan ?_ ?_ | refine zap ?_ ?_ | refine zal ?_ ?_ | refine zac ?_ ?_ | refine zai ?_ ?_ | refine zao ?_ ?_ | refine zaf ?_ ?_ | refine zab ?_ ?_) <;> intro hq <;> (try simp at hq)) | refine zag (by omega) ?_ | refine zam (by omega) ?_) <;> simp -implicitDefEqProofs [*, downTo])
def mT (m : Msg) : Told := toldOf m.key m.item m.has
theorem zyc (x : Node) (m : Msg) (hs : x.small) (hl : m.ids.length ≤ cap) (h : toB x m 3 = true) : Den PP 46 [nodeD x, msgD m] [] (.tup [noteD x (logPre x (mT m)) (logOf x (mT m)), .int .i64 0]) (noteB x (logPre x (mT m)) (logOf x (mT m))) := by
 have c1 := z8v x m 3 hs hl
 rw [h] at c1
 unfold toB at h
 simp only [Bool.and_eq_true, decide_eq_true_eq] at h
 have c5 := z3s x m.key m.item m.has hs (z2p h.1)
 clear h
 unfold mT
 generalize logPre x (toldOf m.key m.item m.has) = pre at *
 generalize logOf x (toldOf m.key m.item m.has) = xs at *
 simp only [nodeD, Node.cells, peersD, intsD, itemsD, toldsD, Item.row, msgD, Msg.row, noteD, noteB] at c1 c5 ⊢
 refine zaj [16] [] zyo ?_
 simp -implicitDefEqProofs [zro]
 repeat' ((first | refine zaa (by first | exact c1 | exact c5) ?_ | ((with_reducible first | refine zak ?_ ?_ | refine zah ?_ ?_ | refine zad ?_ ?_ | refine zae ?_ ?_) <;> intro _) | ((with_reducible first | refine zan ?_ ?_ | refine zap ?_ ?_ | refine zal ?_ ?_ | refine zac ?_ ?_ | refine zai ?_ ?_ | refine zao ?_ ?_ | refine zaf ?_ ?_ | refine zab ?_ ?_) <;> intro hq <;> (try simp at hq)) | refine zag (by omega) ?_ | refine zam (by omega) ?_) <;> simp -implicitDefEqProofs [*, downTo])
end Go.AM
/- AM: contracts: a get as an act. -/
namespace Go.AM
set_option linter.unusedSimpArgs false
set_option linter.unusedVariables false
set_option maxRecDepth 8000
set_option maxHeartbeats 0
end Go.AM
/- AM: contracts: one is heard, of a view that is lent. -/
namespace Go.AM
set_option linter.unusedSimpArgs false
set_option linter.unusedVariables false
set_option maxRecDepth 8000
set_option maxHeartbeats 0
theorem znx (xs : List Int) (y : Int) (hl : xs.length ≤ cap) : Den PP 229 [intsD xs, .int .i64 y] [] (.int .i64 (fIdx (fun x => decide (y = x)) 0 xs)) [] := by
 unfold cap at hl
 refine zaj [] [] zie ?_
 simp -implicitDefEqProofs [ze2, intsD]
 refine zb6 (xs.length + 1) ?_
 have key : ∀ (Q : Ex → St → Prop) (r : Int) (hQ1 : ∀ fr, r = -1 → Q .normal ⟨fr, []⟩) (hQ2 : ∀ fr bs, fr 4 = .int .i64 r → Q .ret ⟨fr, bs⟩) (rest : List Int) (i : Nat) (fr : Nat → D), xs.drop i = rest → i ≤ xs.length →
  fr 0 = .sl (xs.map irow) xs.length → fr 1 = .int .i64 y → fr 7 = .int .i64 xs.length → fr 8 = .int .i64 i → fIdx (fun x => decide (y = x)) i rest = r → sLoop (cf 0 [] []) 0 zb2 (blockQ 0 Q) (rest.length + 1) ⟨fr, []⟩ := by
  intro Q r hQ1 hQ2 rest
  induction rest with
  | nil =>
    intro i fr e hi h0 h1 h7 h8 hm
    refine zaz zb2.eq_1 ?_
    have hi' := zem e hi
    simp -implicitDefEqProofs [h0, h1, h7, h8, hi']
    exact hQ1 _ hm.symm
  | cons x rest ih =>
    intro i fr e hi h0 h1 h7 h8 hm
    refine zaz zb2.eq_1 ?_
    obtain ⟨hlt, hget, hd, hlen⟩ := zdq e
    have hlt' : (i : Int) < xs.length := by omega
    have hw := zav (show i ≤ 140737488355328 by omega)
    simp only [fIdx] at hm
    simp -implicitDefEqProofs [h0, h1, h7, h8, hlt', hget, irow]
    refine zad (fun h2 => ?_) (fun h2 => ?_)
    all_goals simp -implicitDefEqProofs [h2, h0, h1, h7, h8, hw]
    ·exact hQ2 _ _ (by rw [← hm]; simp [h2])
    ·exact ih (i + 1) _ hd (by omega) (by simp [h0]) (by simp [h1]) (by simp [h7]) (by simp) (by rw [← hm]; simp [h2])
 refine key _ (fIdx (fun x => decide (y = x)) 0 xs) (fun fr h => ?_) (fun fr bs h => ?_) xs 0 _ rfl (Nat.zero_le _) rfl rfl rfl rfl rfl
 ·simp -implicitDefEqProofs [h]
 ·simp -implicitDefEqProofs [h]
theorem zk9 (xs : List Int) (y : Int) (hl : xs.length ≤ cap) : Den PP 194 [intsD xs, .int .i64 y] [] (.bool (xs.contains y)) [] := by
 have c1 := znx xs y hl
 have e := z0a (fun x => decide (y = x)) xs 0
 have e2 : xs.contains y = xs.any fun x => decide (y = x) := by
  rw [Bool.eq_iff_iff]
  simp
 rw [e2]
 simp only [intsD] at c1 ⊢
 refine zaj [] [] zgs ?_
 simp -implicitDefEqProofs [zd4]
 refine zaa c1 ?_
 simp -implicitDefEqProofs [← e]
theorem zjd (v : View) (id : Int) (hl : v.passive.length ≤ cap) : Den PP 122 [.mem v.cells, .int .i64 id] [] (.bool (v.passive.contains id)) [] := by
 have c1 := zk9 v.passive id hl
 simp only [intsD, View.cells, peersD] at c1 ⊢
 generalize v.passive.contains id = B at *
 refine zaj [] [] zpn ?_
 simp -implicitDefEqProofs [zks]
 repeat' ((first | refine zaa (by first | exact c1) ?_ | ((with_reducible first | refine zak ?_ ?_ | refine zah ?_ ?_ | refine zad ?_ ?_ | refine zae ?_ ?_) <;> intro _) | ((with_reducible first | refine zan ?_ ?_ | refine zap ?_ ?_ | refine zal ?_ ?_ | refine zac ?_ ?_ | refine zai ?_ ?_ | refine zao ?_ ?_ | refine zaf ?_ ?_ | refine zab ?_ ?_) <;> intro hq <;> (try simp at hq)) | refine zag (by omega) ?_ | refine zam (by omega) ?_) <;> simp -implicitDefEqProofs [*])
theorem z1a (v : View) (h1 : v.peers.length ≤ 16) (h2 : v.passive.length ≤ 16) : Den PP 190 [.mem v.cells] [] (.bool (decide (v.peers.length + v.passive.length < 16))) [] := by
 have w : IntKind.wrap .i64 ((v.peers.length : Int) + v.passive.length) = v.peers.length + v.passive.length := zaq (by omega) (by omega)
 have e : decide (v.peers.length + v.passive.length < 16) = decide ((v.peers.length : Int) + v.passive.length < 16) := by
  rw [decide_eq_decide]; omega
 rw [e]
 simp only [View.cells, peersD, intsD]
 refine zaj [] [] zs0 ?_
 simp -implicitDefEqProofs [zni, w]
def viewBox (v : View) (p q : Nat) : Blk := ⟨[[.int .i64 v.id, .ref p 0 v.peers.length, .ref q 0 v.passive.length]], 3, .box⟩
def psB (v : View) : Blk := ⟨v.peers.map Peer.row, 2, .mut⟩
def xsB (v : View) : Blk := ⟨v.passive.map irow, 1, .mut⟩
theorem zic (v : View) (id : Int) (hv : viewMay v = true) (hp : place id = true) (hn : id ≠ v.id) : Den PP 120 [.ptr 0 0 0, .int .i64 id] [viewBox v 1 2, psB v, xsB v] (.tup [])
 (if roomV v id then [viewBox (knownV v id) 3 4, ⟨v.peers.map Peer.row, 2, .app⟩, ⟨v.passive.map irow, 1, .app⟩, psB (knownV v id), xsB (knownV v id)] else [viewBox v 1 2, psB v, xsB v]) := by
 obtain ⟨p1, p2, p3, p4⟩ := zas hv
 have c1 := zmb v id (by unfold cap; omega) (zdf p1)
 rw [ze3 p1 hp] at c1
 have c2 := zjd v id (by unfold cap; omega)
 have c3 := z1a v (by omega) (by omega)
 have c4 := zoq v.passive id (by unfold cap; omega)
 rw [show withoutP v.passive id = (v.passive.filter fun y => !decide (y = id), 0) by simp [withoutP, p2, hp]] at c4
 have c5 := zx4 v.id v.peers id (by unfold cap16; omega)
 have hk := (zhd hv hp hn).2
 have hkv : roomV v id = true → knownV v id = ⟨v.id, hearG v.id id false v.peers, v.passive.filter fun y => !decide (y = id)⟩ := by intro h; unfold knownV; rw [if_pos h]
 unfold viewBox psB xsB
 cases hr : roomV v id with
 | false =>
   clear hk hkv c4 c5
   simp only [Bool.false_eq_true, if_false]
   simp only [roomV, knowsV] at hr
   generalize (v.peers.map Peer.id).contains id = A at *
   generalize v.passive.contains id = B at *
   generalize decide (v.peers.length + v.passive.length < 16) = R at *
   simp only [View.cells, peersD, intsD] at c1 c2 c3
   clear p1 p2 p3 p4 hv hp hn
   simp only [Bool.or_eq_false_iff] at hr
   obtain ⟨⟨rfl, rfl⟩, rfl⟩ := hr
   refine zaj [27, 43] [] zkk ?_
   simp -implicitDefEqProofs [zh4]
   repeat' ((first | refine zaa (by first | exact c1 | exact c2 | exact c3) ?_ | ((with_reducible first | refine zak ?_ ?_ | refine zah ?_ ?_ | refine zad ?_ ?_ | refine zae ?_ ?_) <;> intro _) | ((with_reducible first | refine zan ?_ ?_ | refine zap ?_ ?_ | refine zal ?_ ?_ | refine zac ?_ ?_ | refine zai ?_ ?_ | refine zao ?_ ?_ | refine zaf ?_ ?_ | refine zab ?_ ?_) <;> intro hq <;> (try simp at hq)) | refine zag (by omega) ?_ | refine zam (by omega) ?_) <;> simp -implicitDefEqProofs [*, downTo])
 | true =>
   simp only [if_true]
   rw [hkv hr]
   rw [hk hr] at c5
   clear hk hkv
   simp only [roomV, knowsV] at hr
   generalize hearG v.id id false v.peers = ps at *
   generalize (v.passive.filter fun y => !decide (y = id)) = xs at *
   generalize (v.peers.map Peer.id).contains id = A at *
   generalize v.passive.contains id = B at *
   generalize decide (v.peers.length + v.passive.length < 16) = R at *
   simp only [View.cells, peersD, intsD] at c1 c2 c3 c4 c5
   clear p1 p2 p3 p4 hv hp hn
   refine zaj [27, 43] [] zkk ?_
   cases A <;> cases B <;> cases R
   all_goals try (simp at hr; done)
   all_goals
    clear hr
    simp -implicitDefEqProofs [zh4]
    repeat' ((first | refine zaa (by first | exact c1 | exact c2 | exact c3 | exact c4 | exact c5) ?_ | ((with_reducible first | refine zak ?_ ?_ | refine zah ?_ ?_ | refine zad ?_ ?_ | refine zae ?_ ?_) <;> intro _) | ((with_reducible first | refine zan ?_ ?_ | refine zap ?_ ?_ | refine zal ?_ ?_ | refine zac ?_ ?_ | refine zai ?_ ?_ | refine zao ?_ ?_ | refine zaf ?_ ?_ | refine zab ?_ ?_) <;> intro hq <;> (try simp at hq)) | refine zag (by omega) ?_ | refine zam (by omega) ?_) <;> simp -implicitDefEqProofs [*, downTo])
end Go.AM
/- AM: contracts: a greeting is taken. -/
namespace Go.AM
set_option linter.unusedSimpArgs false
set_option linter.unusedVariables false
set_option maxRecDepth 8000
set_option maxHeartbeats 0
theorem z1m {v : View} (h : 16 ≤ sizeV v) (x : Int) : tellV v x = v := by
 unfold tellV
 split
 ·rename_i hc
  simp only [Bool.and_eq_true, Bool.not_eq_true'] at hc
  apply zhx
  unfold roomV
  rw [hc.2]
  unfold sizeV at h
  simp
  omega
 ·rfl
theorem z01 {v : View} (h : 16 ≤ sizeV v) : ∀ ids : List Int, ids.foldl tellV v = v := by
 intro ids
 induction ids with
 | nil => rfl
 | cons x ids ih => rw [List.foldl_cons, z1m h, ih]
theorem z34 {ids : List Int} {i : Nat} {x : Int} (h : ids[i]? = some x) (w0 : View) : (ids.take (i + 1)).foldl tellV w0 = tellV ((ids.take i).foldl tellV w0) x := by
 rw [List.take_add_one, h]
 simp
def z8o (w : View) (bs : List Blk) : Prop := (∃ d0 d2 d3, bs = [d0, ⟨[[.int .i64 0, .nil, .nil]], 3, .box⟩, d2, d3, viewBox w 5 6, psB w, xsB w]) ∨ ∃ d0 d2 d3 d5 d6, bs = [d0, ⟨[[.int .i64 0, .nil, .nil]], 3, .box⟩, d2, d3, viewBox w 7 8, d5, d6, psB w, xsB w]
theorem zqv (v : View) (a : Int) (ids : List Int) (hs : v.small) (h : helloOk v a ids = true) (hr : roomV v a = true) : Den PP 41 [viewD v, .int .i64 a, intsD ids] [] (.tup [.agg [.int .i64 v.id, .ref 0 0 (helloV v a ids).peers.length, .ref 1 0 (helloV v a ids).passive.length], .int .i64 0]) [psB (helloV v a ids), xsB (helloV v a ids)] := by
 obtain ⟨k1, k2, k3, k4, k5⟩ := zh3 h
 have hcap : ids.length ≤ cap := by unfold cap; omega
 have c1 := zh7 v hs
 have c2 := zat a
 have c3 := zih ids hcap
 have c4 := zma v hs
 rw [k1] at c1
 rw [k2] at c2
 rw [show ids.all place = true from List.all_eq_true.2 k5] at c3
 have c5 := zic v a k1 k2 k3
 rw [if_pos hr] at c5
 have hw0 := (zhd k1 k2 k3).1
 have hid0 := zgn v a
 have hk4 : ¬ (16 : Int) < ids.length := by omega
 unfold helloV
 generalize knownV v a = w0 at *
 have key : ∀ i, viewMay ((ids.take i).foldl tellV w0) = true ∧ ((ids.take i).foldl tellV w0).id = v.id := by
  intro i
  obtain ⟨e1, e2⟩ := zwl (ids.take i) w0 hw0 (fun x hx => k5 x (List.mem_of_mem_take hx))
  exact ⟨e1, by rw [e2, hid0]⟩
 simp only [viewD, View.cells, peersD, intsD, viewBox, psB, xsB] at c1 c3 c4 c5 ⊢
 clear k1 k2 hs h hr
 refine zaj [37] [38, 60] zmk ?_
 simp -implicitDefEqProofs [zjw, hk4, k3]
 repeat' ((first | refine zaa (by first | exact c1 | exact c2 | exact c3 | exact c4) ?_ | ((with_reducible first | refine zak ?_ ?_ | refine zah ?_ ?_ | refine zad ?_ ?_ | refine zae ?_ ?_) <;> intro _) | ((with_reducible first | refine zan ?_ ?_ | refine zap ?_ ?_ | refine zal ?_ ?_ | refine zac ?_ ?_ | refine zai ?_ ?_ | refine zao ?_ ?_ | refine zaf ?_ ?_ | refine zab ?_ ?_) <;> intro hq <;> (try simp at hq)) | refine zag (by omega) ?_ | refine zam (by omega) ?_) <;> simp -implicitDefEqProofs [*, downTo, hk4, k3])
 refine zar [4, 2, 3] rfl (by decide) (by simp) c5 (by simp) (by simp [lentBs]) ?_
 simp -implicitDefEqProofs [framed]
 refine ztz ids (fun i rest => fun ⟨fr, bs⟩ => z8o ((ids.take i).foldl tellV w0) bs ∧ fr 6 = .ptr 1 0 0 ∧ fr 8 = .ptr 4 0 0 ∧ fr 40 = .sl (ids.map irow) ids.length ∧ fr 41 = .int .i64 ids.length ∧ fr 42 = .int .i64 i)
  (fun ⟨fr, bs⟩ => z8o (ids.foldl tellV w0) bs ∧ fr 6 = .ptr 1 0 0 ∧ fr 8 = .ptr 4 0 0) (fun _ => False) zgi.eq_1 ?_ ?_ ?_ ?_ ?_
 ·exact ⟨.inl ⟨_, _, _, by simp [viewBox, psB, xsB]; exact ⟨rfl, rfl, rfl⟩⟩, by simp, by simp, by simp, by simp, by simp⟩
 ·rintro i ⟨fr, bs⟩ hi ⟨hB, h6, h8, h40, h41, h42⟩
  rw [hi, List.take_length] at hB
  simp -implicitDefEqProofs [h6, h8, h40, h41, h42, hi]
  exact hB
 ·rintro i x rest ⟨fr, bs⟩ hlt hget hg hd hd2 ⟨hB, h6, h8, h40, h41, h42⟩
  obtain ⟨w, hw⟩ : ∃ w, w = (ids.take i).foldl tellV w0 := ⟨_, rfl⟩
  rw [← hw] at hB
  have hlt' : (i : Int) < ids.length := by omega
  have hwr := zav (n := i) (by omega)
  have hx := k5 x (List.mem_of_getElem? hget)
  have hkey := key i
  rw [← hw] at hkey
  obtain ⟨hm, hid⟩ := hkey
  have hnext := z34 hget w0
  rw [← hw] at hnext
  obtain ⟨p1, p2, p3, p4⟩ := zas hm
  have v1 := zmb w x (by unfold cap; omega) (zdf p1)
  rw [ze3 p1 hx] at v1
  have v2 := zjd w x (by unfold cap; omega)
  have v3 : x ≠ w.id → _ := fun hn => zic w x hm hx hn
  clear c1 c2 c3 c4 c5 key hw p1 p2 p3 p4
  obtain ⟨A, hA⟩ : ∃ A, (w.peers.map Peer.id).contains x = A := ⟨_, rfl⟩
  obtain ⟨C, hC⟩ : ∃ C, w.passive.contains x = C := ⟨_, rfl⟩
  have hkn : knowsV w x = (A || C) := by rw [← hA, ← hC]; rfl
  rw [hA] at v1
  rw [hC] at v2
  clear hA hC
  simp only [View.cells, peersD, intsD] at v1 v2
  have hr7 : List.range 7 = [0, 1, 2, 3, 4, 5, 6] := rfl
  clear hid hm
  by_cases hn : x = w.id
  ·have ht : tellV w x = w := by unfold tellV; simp [hn]
   rw [ht] at hnext
   rcases hB with ⟨d0, d2, d3, rfl⟩ | ⟨d0, d2, d3, d5, d6, rfl⟩
   ·simp -implicitDefEqProofs [h6, h8, h40, h41, h42, hlt, hlt', hget, hg, hn, hwr, viewBox, psB, xsB, irow]
    refine ⟨[], ⟨by simp, by simp, by simp⟩, ?_⟩
    unfold keepSt pickSt
    dsimp only
    try rw [hnext]
    exact ⟨.inl ⟨_, _, _, by simp [lentBs, hr7, viewBox, psB, xsB, irow]; repeat' (first | rfl | apply And.intro)⟩, by simp [h6, hr7], by simp [h8, hr7], by simp [h40], by simp [h41], by simp⟩
   ·simp -implicitDefEqProofs [h6, h8, h40, h41, h42, hlt, hlt', hget, hg, hn, hwr, viewBox, psB, xsB, irow]
    refine ⟨[7, 8], ⟨by simp, by simp, by simp⟩, ?_⟩
    unfold keepSt pickSt
    dsimp only
    try rw [hnext]
    exact ⟨.inr ⟨_, _, _, _, _, by simp [lentBs, hr7, viewBox, psB, xsB, irow]; repeat' (first | rfl | apply And.intro)⟩, by simp [h6, hr7], by simp [h8, hr7], by simp [h40], by simp [h41], by simp⟩
  ·have v4 := v3 hn
   clear v3
   cases hAC : (A || C) with
   | true =>
     have ht : tellV w x = w := by unfold tellV; simp [hkn, hAC]
     rw [ht] at hnext
     clear v4 hkn ht
     rcases hB with ⟨d0, d2, d3, rfl⟩ | ⟨d0, d2, d3, d5, d6, rfl⟩
     ·cases A <;> cases C
      all_goals try (simp at hAC; done)
      all_goals
       clear hAC
       simp -implicitDefEqProofs [h6, h8, h40, h41, h42, hlt, hlt', hget, hg, hn, hwr, viewBox, psB, xsB, irow]
       repeat' ((first | refine zaa (by first | exact v1 | exact v2) ?_ | ((with_reducible first | refine zak ?_ ?_ | refine zah ?_ ?_ | refine zad ?_ ?_ | refine zae ?_ ?_) <;> intro _) | ((with_reducible first | refine zan ?_ ?_ | refine zap ?_ ?_ | refine zal ?_ ?_ | refine zac ?_ ?_ | refine zai ?_ ?_ | refine zao ?_ ?_ | refine zaf ?_ ?_ | refine zab ?_ ?_) <;> intro hq <;> (try simp at hq)) | refine zag (by omega) ?_ | refine zam (by omega) ?_) <;> simp -implicitDefEqProofs [*, h6, h8, h40, h41, h42, hlt, hlt', hget, hg, hn, hwr, viewBox, psB, xsB, irow])
       refine ⟨[], ⟨by simp, by simp, by simp⟩, ?_⟩
       unfold keepSt pickSt
       dsimp only
       try rw [hnext]
       exact ⟨.inl ⟨_, _, _, by simp [lentBs, hr7, viewBox, psB, xsB, irow]; repeat' (first | rfl | apply And.intro)⟩, by simp [h6, hr7], by simp [h8, hr7], by simp [h40], by simp [h41], by simp⟩
     ·cases A <;> cases C
      all_goals try (simp at hAC; done)
      all_goals
       clear hAC
       simp -implicitDefEqProofs [h6, h8, h40, h41, h42, hlt, hlt', hget, hg, hn, hwr, viewBox, psB, xsB, irow]
       repeat' ((first | refine zaa (by first | exact v1 | exact v2) ?_ | ((with_reducible first | refine zak ?_ ?_ | refine zah ?_ ?_ | refine zad ?_ ?_ | refine zae ?_ ?_) <;> intro _) | ((with_reducible first | refine zan ?_ ?_ | refine zap ?_ ?_ | refine zal ?_ ?_ | refine zac ?_ ?_ | refine zai ?_ ?_ | refine zao ?_ ?_ | refine zaf ?_ ?_ | refine zab ?_ ?_) <;> intro hq <;> (try simp at hq)) | refine zag (by omega) ?_ | refine zam (by omega) ?_) <;> simp -implicitDefEqProofs [*, h6, h8, h40, h41, h42, hlt, hlt', hget, hg, hn, hwr, viewBox, psB, xsB, irow])
       refine ⟨[7, 8], ⟨by simp, by simp, by simp⟩, ?_⟩
       unfold keepSt pickSt
       dsimp only
       try rw [hnext]
       exact ⟨.inr ⟨_, _, _, _, _, by simp [lentBs, hr7, viewBox, psB, xsB, irow]; repeat' (first | rfl | apply And.intro)⟩, by simp [h6, hr7], by simp [h8, hr7], by simp [h40], by simp [h41], by simp⟩
   | false =>
     simp only [Bool.or_eq_false_iff] at hAC
     obtain ⟨rfl, rfl⟩ := hAC
     have ht : tellV w x = knownV w x := by unfold tellV; simp [hkn, hn]
     rw [ht] at hnext
     clear ht hkn
     cases hr : roomV w x with
     | false =>
       rw [zhx hr] at hnext
       rw [if_neg (by simp [hr])] at v4
       clear hr
       simp only [viewBox, psB, xsB] at v4
       rcases hB with ⟨d0, d2, d3, rfl⟩ | ⟨d0, d2, d3, d5, d6, rfl⟩
       ·simp -implicitDefEqProofs [h6, h8, h40, h41, h42, hlt, hlt', hget, hg, hn, hwr, viewBox, psB, xsB, irow]
        repeat' ((first | refine zaa (by first | exact v1 | exact v2) ?_ | ((with_reducible first | refine zak ?_ ?_ | refine zah ?_ ?_ | refine zad ?_ ?_ | refine zae ?_ ?_) <;> intro _) | ((with_reducible first | refine zan ?_ ?_ | refine zap ?_ ?_ | refine zal ?_ ?_ | refine zac ?_ ?_ | refine zai ?_ ?_ | refine zao ?_ ?_ | refine zaf ?_ ?_ | refine zab ?_ ?_) <;> intro hq <;> (try simp at hq)) | refine zag (by omega) ?_ | refine zam (by omega) ?_) <;> simp -implicitDefEqProofs [*, h6, h8, h40, h41, h42, hlt, hlt', hget, hg, hn, hwr, viewBox, psB, xsB, irow])
        refine zar [4, 5, 6] rfl (by decide) (by simp) v4 (by simp) (by simp [lentBs]) ?_
        simp -implicitDefEqProofs [framed, h6, h8, h40, h41, h42, hlt, hlt', hget, hg, hn, hwr, viewBox, psB, xsB, irow]
        refine ⟨[], ⟨by simp, by simp, by simp⟩, ?_⟩
        unfold keepSt pickSt
        dsimp only
        try rw [hnext]
        exact ⟨.inl ⟨_, _, _, by simp [lentBs, hr7, viewBox, psB, xsB, irow]; repeat' (first | rfl | apply And.intro)⟩, by simp [h6, hr7], by simp [h8, hr7], by simp [h40], by simp [h41], by simp⟩
       ·simp -implicitDefEqProofs [h6, h8, h40, h41, h42, hlt, hlt', hget, hg, hn, hwr, viewBox, psB, xsB, irow]
        repeat' ((first | refine zaa (by first | exact v1 | exact v2) ?_ | ((with_reducible first | refine zak ?_ ?_ | refine zah ?_ ?_ | refine zad ?_ ?_ | refine zae ?_ ?_) <;> intro _) | ((with_reducible first | refine zan ?_ ?_ | refine zap ?_ ?_ | refine zal ?_ ?_ | refine zac ?_ ?_ | refine zai ?_ ?_ | refine zao ?_ ?_ | refine zaf ?_ ?_ | refine zab ?_ ?_) <;> intro hq <;> (try simp at hq)) | refine zag (by omega) ?_ | refine zam (by omega) ?_) <;> simp -implicitDefEqProofs [*, h6, h8, h40, h41, h42, hlt, hlt', hget, hg, hn, hwr, viewBox, psB, xsB, irow])
        refine zar [4, 7, 8] rfl (by decide) (by simp) v4 (by simp) (by simp [lentBs]) ?_
        simp -implicitDefEqProofs [framed, h6, h8, h40, h41, h42, hlt, hlt', hget, hg, hn, hwr, viewBox, psB, xsB, irow]
        refine ⟨[7, 8], ⟨by simp, by simp, by simp⟩, ?_⟩
        unfold keepSt pickSt
        dsimp only
        try rw [hnext]
        exact ⟨.inr ⟨_, _, _, _, _, by simp [lentBs, hr7, viewBox, psB, xsB, irow]; repeat' (first | rfl | apply And.intro)⟩, by simp [h6, hr7], by simp [h8, hr7], by simp [h40], by simp [h41], by simp⟩
     | true =>
       rw [if_pos hr] at v4
       generalize knownV w x = w2 at *
       clear hr
       simp only [viewBox, psB, xsB] at v4
       rcases hB with ⟨d0, d2, d3, rfl⟩ | ⟨d0, d2, d3, d5, d6, rfl⟩
       ·simp -implicitDefEqProofs [h6, h8, h40, h41, h42, hlt, hlt', hget, hg, hn, hwr, viewBox, psB, xsB, irow]
        repeat' ((first | refine zaa (by first | exact v1 | exact v2) ?_ | ((with_reducible first | refine zak ?_ ?_ | refine zah ?_ ?_ | refine zad ?_ ?_ | refine zae ?_ ?_) <;> intro _) | ((with_reducible first | refine zan ?_ ?_ | refine zap ?_ ?_ | refine zal ?_ ?_ | refine zac ?_ ?_ | refine zai ?_ ?_ | refine zao ?_ ?_ | refine zaf ?_ ?_ | refine zab ?_ ?_) <;> intro hq <;> (try simp at hq)) | refine zag (by omega) ?_ | refine zam (by omega) ?_) <;> simp -implicitDefEqProofs [*, h6, h8, h40, h41, h42, hlt, hlt', hget, hg, hn, hwr, viewBox, psB, xsB, irow])
        refine zar [4, 5, 6] rfl (by decide) (by simp) v4 (by simp) (by simp [lentBs]) ?_
        simp -implicitDefEqProofs [framed, h6, h8, h40, h41, h42, hlt, hlt', hget, hg, hn, hwr, viewBox, psB, xsB, irow]
        refine ⟨[7, 8], ⟨by simp, by simp, by simp⟩, ?_⟩
        unfold keepSt pickSt
        dsimp only
        try rw [hnext]
        exact ⟨.inr ⟨_, _, _, _, _, by simp [lentBs, hr7, viewBox, psB, xsB, irow]; repeat' (first | rfl | apply And.intro)⟩, by simp [h6, hr7], by simp [h8, hr7], by simp [h40], by simp [h41], by simp⟩
       ·simp -implicitDefEqProofs [h6, h8, h40, h41, h42, hlt, hlt', hget, hg, hn, hwr, viewBox, psB, xsB, irow]
        repeat' ((first | refine zaa (by first | exact v1 | exact v2) ?_ | ((with_reducible first | refine zak ?_ ?_ | refine zah ?_ ?_ | refine zad ?_ ?_ | refine zae ?_ ?_) <;> intro _) | ((with_reducible first | refine zan ?_ ?_ | refine zap ?_ ?_ | refine zal ?_ ?_ | refine zac ?_ ?_ | refine zai ?_ ?_ | refine zao ?_ ?_ | refine zaf ?_ ?_ | refine zab ?_ ?_) <;> intro hq <;> (try simp at hq)) | refine zag (by omega) ?_ | refine zam (by omega) ?_) <;> simp -implicitDefEqProofs [*, h6, h8, h40, h41, h42, hlt, hlt', hget, hg, hn, hwr, viewBox, psB, xsB, irow])
        refine zar [4, 7, 8] rfl (by decide) (by simp) v4 (by simp) (by simp [lentBs]) ?_
        simp -implicitDefEqProofs [framed, h6, h8, h40, h41, h42, hlt, hlt', hget, hg, hn, hwr, viewBox, psB, xsB, irow]
        refine ⟨[9, 10], ⟨by simp, by simp, by simp⟩, ?_⟩
        unfold keepSt pickSt
        dsimp only
        try rw [hnext]
        exact ⟨.inr ⟨_, _, _, _, _, by simp [lentBs, hr7, viewBox, psB, xsB, irow]; repeat' (first | rfl | apply And.intro)⟩, by simp [h6, hr7], by simp [h8, hr7], by simp [h40], by simp [h41], by simp⟩
 ·rintro ⟨fr, bs⟩ ⟨hB, h6, h8⟩
  have hWid := (key ids.length).2
  rw [List.take_length] at hWid
  generalize ids.foldl tellV w0 = W at *
  rcases hB with ⟨d0, d2, d3, rfl⟩ | ⟨d0, d2, d3, d5, d6, rfl⟩
  ·simp -implicitDefEqProofs [h6, h8, viewBox, psB, xsB, hWid]
  ·simp -implicitDefEqProofs [h6, h8, viewBox, psB, xsB, hWid]
 ·rintro ⟨fr, bs⟩ h
  exact h.elim
theorem zp3 (v : View) (a : Int) (ids : List Int) (hs : v.small) (h : helloOk v a ids = true) (hr : roomV v a = false) : Den PP 41 [viewD v, .int .i64 a, intsD ids] [] (.tup [.agg [.int .i64 v.id, .ref 0 0 (helloV v a ids).peers.length, .ref 1 0 (helloV v a ids).passive.length], .int .i64 0]) [psB (helloV v a ids), xsB (helloV v a ids)] := by
 obtain ⟨k1, k2, k3, k4, k5⟩ := zh3 h
 have hcap : ids.length ≤ cap := by unfold cap; omega
 have hsz : 16 ≤ sizeV v := by
  unfold roomV at hr
  simp at hr
  unfold sizeV
  exact hr.2
 have hW : helloV v a ids = v := by unfold helloV; rw [zhx hr, z01 hsz]
 rw [hW]
 clear hW
 have c1 := zh7 v hs
 have c2 := zat a
 have c3 := zih ids hcap
 have c4 := zma v hs
 have hm := k1
 rw [k1] at c1
 rw [k2] at c2
 rw [show ids.all place = true from List.all_eq_true.2 k5] at c3
 have c5 := zic v a k1 k2 k3
 rw [if_neg (by simp [hr])] at c5
 have hk4 : ¬ (16 : Int) < ids.length := by omega
 simp only [viewD, View.cells, peersD, intsD, viewBox, psB, xsB] at c1 c3 c4 c5 ⊢
 clear k1 k2 hs h hr
 refine zaj [37] [38, 60] zmk ?_
 simp -implicitDefEqProofs [zjw, hk4, k3]
 repeat' ((first | refine zaa (by first | exact c1 | exact c2 | exact c3 | exact c4) ?_ | ((with_reducible first | refine zak ?_ ?_ | refine zah ?_ ?_ | refine zad ?_ ?_ | refine zae ?_ ?_) <;> intro _) | ((with_reducible first | refine zan ?_ ?_ | refine zap ?_ ?_ | refine zal ?_ ?_ | refine zac ?_ ?_ | refine zai ?_ ?_ | refine zao ?_ ?_ | refine zaf ?_ ?_ | refine zab ?_ ?_) <;> intro hq <;> (try simp at hq)) | refine zag (by omega) ?_ | refine zam (by omega) ?_) <;> simp -implicitDefEqProofs [*, downTo, hk4, k3])
 refine zar [4, 2, 3] rfl (by decide) (by simp) c5 (by simp) (by simp [lentBs]) ?_
 simp -implicitDefEqProofs [framed]
 refine ztz ids (fun i rest => fun ⟨fr, bs⟩ => (∃ d0, bs = [d0, ⟨[[.int .i64 0, .nil, .nil]], 3, .box⟩, psB v, xsB v, viewBox v 2 3]) ∧ fr 6 = .ptr 1 0 0 ∧ fr 8 = .ptr 4 0 0 ∧ fr 40 = .sl (ids.map irow) ids.length ∧ fr 41 = .int .i64 ids.length ∧ fr 42 = .int .i64 i)
  (fun ⟨fr, bs⟩ => (∃ d0, bs = [d0, ⟨[[.int .i64 0, .nil, .nil]], 3, .box⟩, psB v, xsB v, viewBox v 2 3]) ∧ fr 6 = .ptr 1 0 0 ∧ fr 8 = .ptr 4 0 0) (fun _ => False) zgi.eq_1 ?_ ?_ ?_ ?_ ?_
 ·exact ⟨⟨_, by simp [viewBox, psB, xsB]; rfl⟩, by simp, by simp, by simp, by simp, by simp⟩
 ·rintro i ⟨fr, bs⟩ hi ⟨hB, h6, h8, h40, h41, h42⟩
  simp -implicitDefEqProofs [h6, h8, h40, h41, h42, hi]
  exact hB
 ·rintro i x rest ⟨fr, bs⟩ hlt hget hg hd hd2 ⟨⟨d0, rfl⟩, h6, h8, h40, h41, h42⟩
  have hlt' : (i : Int) < ids.length := by omega
  have hwr := zav (n := i) (by omega)
  have hx := k5 x (List.mem_of_getElem? hget)
  obtain ⟨p1, p2, p3, p4⟩ := zas hm
  have v1 := zmb v x (by unfold cap; omega) (zdf p1)
  rw [ze3 p1 hx] at v1
  have v2 := zjd v x (by unfold cap; omega)
  have v3 : x ≠ v.id → _ := fun hn => zic v x hm hx hn
  clear c1 c2 c3 c4 c5 p1 p2 p3 p4
  have hroom : knowsV v x = false → roomV v x = false := by
   intro hk
   unfold roomV
   unfold sizeV at hsz
   simp [hk, hsz]
  obtain ⟨A, hA⟩ : ∃ A, (v.peers.map Peer.id).contains x = A := ⟨_, rfl⟩
  obtain ⟨C, hC⟩ : ∃ C, v.passive.contains x = C := ⟨_, rfl⟩
  have hkn : knowsV v x = (A || C) := by rw [← hA, ← hC]; rfl
  rw [hA] at v1
  rw [hC] at v2
  clear hA hC
  simp only [View.cells, peersD, intsD] at v1 v2
  have hr5 : List.range 5 = [0, 1, 2, 3, 4] := rfl
  clear hm hsz
  by_cases hn : x = v.id
  ·simp -implicitDefEqProofs [h6, h8, h40, h41, h42, hlt, hlt', hget, hg, hn, hwr, viewBox, psB, xsB, irow]
   refine ⟨[], ⟨by simp, by simp, by simp⟩, ?_⟩
   unfold keepSt pickSt
   dsimp only
   exact ⟨⟨_, by simp [lentBs, hr5, viewBox, psB, xsB, irow]; repeat' (first | rfl | apply And.intro)⟩, by simp [h6, hr5], by simp [h8, hr5], by simp [h40], by simp [h41], by simp⟩
  ·have v4 := v3 hn
   clear v3
   cases hAC : (A || C) with
   | true =>
     clear v4 hkn hroom
     cases A <;> cases C
     all_goals try (simp at hAC; done)
     all_goals
      clear hAC
      simp -implicitDefEqProofs [h6, h8, h40, h41, h42, hlt, hlt', hget, hg, hn, hwr, viewBox, psB, xsB, irow]
      repeat' ((first | refine zaa (by first | exact v1 | exact v2) ?_ | ((with_reducible first | refine zak ?_ ?_ | refine zah ?_ ?_ | refine zad ?_ ?_ | refine zae ?_ ?_) <;> intro _) | ((with_reducible first | refine zan ?_ ?_ | refine zap ?_ ?_ | refine zal ?_ ?_ | refine zac ?_ ?_ | refine zai ?_ ?_ | refine zao ?_ ?_ | refine zaf ?_ ?_ | refine zab ?_ ?_) <;> intro hq <;> (try simp at hq)) | refine zag (by omega) ?_ | refine zam (by omega) ?_) <;> simp -implicitDefEqProofs [*, h6, h8, h40, h41, h42, hlt, hlt', hget, hg, hn, hwr, viewBox, psB, xsB, irow])
      refine ⟨[], ⟨by simp, by simp, by simp⟩, ?_⟩
      unfold keepSt pickSt
      dsimp only
      exact ⟨⟨_, by simp [lentBs, hr5, viewBox, psB, xsB, irow]; repeat' (first | rfl | apply And.intro)⟩, by simp [h6, hr5], by simp [h8, hr5], by simp [h40], by simp [h41], by simp⟩
   | false =>
     rw [hAC] at hkn
     simp only [Bool.or_eq_false_iff] at hAC
     obtain ⟨rfl, rfl⟩ := hAC
     rw [if_neg (by simp [hroom hkn])] at v4
     clear hkn hroom
     simp only [viewBox, psB, xsB] at v4
     simp -implicitDefEqProofs [h6, h8, h40, h41, h42, hlt, hlt', hget, hg, hn, hwr, viewBox, psB, xsB, irow]
     repeat' ((first | refine zaa (by first | exact v1 | exact v2) ?_ | ((with_reducible first | refine zak ?_ ?_ | refine zah ?_ ?_ | refine zad ?_ ?_ | refine zae ?_ ?_) <;> intro _) | ((with_reducible first | refine zan ?_ ?_ | refine zap ?_ ?_ | refine zal ?_ ?_ | refine zac ?_ ?_ | refine zai ?_ ?_ | refine zao ?_ ?_ | refine zaf ?_ ?_ | refine zab ?_ ?_) <;> intro hq <;> (try simp at hq)) | refine zag (by omega) ?_ | refine zam (by omega) ?_) <;> simp -implicitDefEqProofs [*, h6, h8, h40, h41, h42, hlt, hlt', hget, hg, hn, hwr, viewBox, psB, xsB, irow])
     refine zar [4, 2, 3] rfl (by decide) (by simp) v4 (by simp) (by simp [lentBs]) ?_
     simp -implicitDefEqProofs [framed, h6, h8, h40, h41, h42, hlt, hlt', hget, hg, hn, hwr, viewBox, psB, xsB, irow]
     refine ⟨[], ⟨by simp, by simp, by simp⟩, ?_⟩
     unfold keepSt pickSt
     dsimp only
     exact ⟨⟨_, by simp [lentBs, hr5, viewBox, psB, xsB, irow]; repeat' (first | rfl | apply And.intro)⟩, by simp [h6, hr5], by simp [h8, hr5], by simp [h40], by simp [h41], by simp⟩
 ·rintro ⟨fr, bs⟩ ⟨⟨d0, rfl⟩, h6, h8⟩
  simp -implicitDefEqProofs [h6, h8, viewBox, psB, xsB]
 ·rintro ⟨fr, bs⟩ h
  exact h.elim
theorem z2k (v : View) (a : Int) (ids : List Int) (hs : v.small) (h : helloOk v a ids = true) : Den PP 41 [viewD v, .int .i64 a, intsD ids] [] (.tup [.agg [.int .i64 v.id, .ref 0 0 (helloV v a ids).peers.length, .ref 1 0 (helloV v a ids).passive.length], .int .i64 0]) [psB (helloV v a ids), xsB (helloV v a ids)] := by
 cases hr : roomV v a with
 | true => exact zqv v a ids hs h hr
 | false => exact zp3 v a ids hs h hr
end Go.AM
/- AM: contracts: a message that comes is handled. -/
namespace Go.AM
set_option linter.unusedSimpArgs false
set_option linter.unusedVariables false
set_option maxRecDepth 8000
set_option maxHeartbeats 0
def hBox (x : Node) (p q i l : Nat) (s : D) : Blk := ⟨[[.bool x.up, .int .i64 x.view.id, .ref p 0 x.view.peers.length, .ref q 0 x.view.passive.length, .ref i 0 x.items.length, .ref l 0 x.log.length, s]], 7, .box⟩
theorem zsn {x : Node} {m : Msg} (h : nodeUp x = true) (hm : msgMay m = true) (hk : m.kind = 0) (ht : m.to = x.view.id) : helloOk x.view m.from_ m.ids = true := by
 have hv : viewMay x.view = true := by simp only [nodeUp, nodeMay, Bool.and_eq_true] at h; grind
 simp only [msgMay, hk, if_true, Bool.and_eq_true, Bool.not_eq_true', decide_eq_false_iff_not, decide_eq_true_eq] at hm
 obtain ⟨h1, h2, h3, ⟨⟨_, h5⟩, h6⟩⟩ := hm
 simp [helloOk, hv, h1, h5, h6]
 rw [← ht]
 exact h3
theorem zs8 (x : Node) (m : Msg) (hs : x.small) (h : helloOk x.view m.from_ m.ids = true) : Den PP 87 [.ptr 0 0 0, msgD m] [hBox x 1 2 3 4 .nil, ⟨x.view.peers.map Peer.row, 2, .mut⟩, ⟨x.view.passive.map irow, 1, .mut⟩, ⟨x.items.map Item.row, 5, .mut⟩, ⟨x.log.map Told.row, 3, .mut⟩] (.tup [])
 [hBox { x with view := helloV x.view m.from_ m.ids } 5 6 3 4 .nil, ⟨x.view.peers.map Peer.row, 2, .app⟩, ⟨x.view.passive.map irow, 1, .app⟩, ⟨x.items.map Item.row, 5, .mut⟩, ⟨x.log.map Told.row, 3, .mut⟩, psB (helloV x.view m.from_ m.ids), xsB (helloV x.view m.from_ m.ids)] := by
 have c1 := z2k x.view m.from_ m.ids hs.1 h
 have hid := (zm5 h).2
 generalize helloV x.view m.from_ m.ids = w at *
 clear h
 simp only [hBox, psB, xsB, viewD, View.cells, peersD, intsD, msgD, Msg.row, hid] at c1 ⊢
 refine zaj [15] [] zh6 ?_
 simp -implicitDefEqProofs [ze1]
 repeat' ((first | refine zaa (by first | exact c1) ?_ | ((with_reducible first | refine zak ?_ ?_ | refine zah ?_ ?_ | refine zad ?_ ?_ | refine zae ?_ ?_) <;> intro _) | ((with_reducible first | refine zan ?_ ?_ | refine zap ?_ ?_ | refine zal ?_ ?_ | refine zac ?_ ?_ | refine zai ?_ ?_ | refine zao ?_ ?_ | refine zaf ?_ ?_ | refine zab ?_ ?_) <;> intro hq <;> (try simp at hq)) | refine zag (by omega) ?_ | refine zam (by omega) ?_) <;> simp -implicitDefEqProofs [*, downTo])
theorem zvw (x : Node) (m : Msg) (hs : x.small) (h : (nodeUp x && itemMay m.item) = true) : Den PP 88 [.ptr 0 0 0, msgD m] [hBox x 1 2 3 4 .nil, ⟨x.view.peers.map Peer.row, 2, .mut⟩, ⟨x.view.passive.map irow, 1, .mut⟩, ⟨x.items.map Item.row, 5, .mut⟩, ⟨x.log.map Told.row, 3, .mut⟩] (.tup [])
 [hBox (takeI x m.item) 5 6 7 8 .nil, ⟨x.view.peers.map Peer.row, 2, .app⟩, ⟨x.view.passive.map irow, 1, .app⟩, ⟨x.items.map Item.row, 5, .app⟩, ⟨x.log.map Told.row, 3, .app⟩, ⟨(takeI x m.item).view.peers.map Peer.row, 2, .mut⟩, ⟨(takeI x m.item).view.passive.map irow, 1, .mut⟩, ⟨(takeI x m.item).items.map Item.row, 5, .mut⟩, ⟨(takeI x m.item).log.map Told.row, 3, .mut⟩] := by
 have c1 := z4p x m.item hs h
 generalize takeI x m.item = y at *
 clear h
 simp only [hBox, nodeD, Node.cells, viewD, View.cells, peersD, intsD, itemsD, toldsD, Item.row, copyD, nodeB, msgD, Msg.row] at c1 ⊢
 refine zaj [12] [] zi4 ?_
 simp -implicitDefEqProofs [zfa]
 repeat' ((first | refine zaa (by first | exact c1) ?_ | ((with_reducible first | refine zak ?_ ?_ | refine zah ?_ ?_ | refine zad ?_ ?_ | refine zae ?_ ?_) <;> intro _) | ((with_reducible first | refine zan ?_ ?_ | refine zap ?_ ?_ | refine zal ?_ ?_ | refine zac ?_ ?_ | refine zai ?_ ?_ | refine zao ?_ ?_ | refine zaf ?_ ?_ | refine zab ?_ ?_) <;> intro hq <;> (try simp at hq)) | refine zag (by omega) ?_ | refine zam (by omega) ?_) <;> simp -implicitDefEqProofs [*, downTo])
theorem zyx (x : Node) (m : Msg) (hs : x.small) (hl : m.ids.length ≤ cap) (h : toB x m 2 = true) : ∃ k : Kind, k.isBox = false ∧ Den PP 89 [.ptr 0 0 0, msgD m] [hBox x 1 2 3 4 .nil, ⟨x.view.peers.map Peer.row, 2, .mut⟩, ⟨x.view.passive.map irow, 1, .mut⟩, ⟨x.items.map Item.row, 5, .mut⟩, ⟨x.log.map Told.row, 3, .mut⟩] (.tup [])
 [hBox x 1 2 3 4 (.ref 5 0 1), ⟨x.view.peers.map Peer.row, 2, k⟩, ⟨x.view.passive.map irow, 1, k⟩, ⟨x.items.map Item.row, 5, k⟩, ⟨x.log.map Told.row, 3, k⟩, ⟨[tellOf x m].map Msg.row0, 11, .mut⟩] := by
 refine ⟨.app, rfl, ?_⟩
 have c1 := zs9 x m hs hl h
 generalize tellOf x m = t at *
 clear h
 simp only [hBox, nodeD, Node.cells, viewD, View.cells, peersD, intsD, itemsD, toldsD, Item.row, copyD, nodeB, msgD, Msg.row, List.map_cons, List.map_nil] at c1 ⊢
 refine zaj [11] [] zjn ?_
 simp -implicitDefEqProofs [zfv]
 repeat' ((first | refine zaa (by first | exact c1) ?_ | ((with_reducible first | refine zak ?_ ?_ | refine zah ?_ ?_ | refine zad ?_ ?_ | refine zae ?_ ?_) <;> intro _) | ((with_reducible first | refine zan ?_ ?_ | refine zap ?_ ?_ | refine zal ?_ ?_ | refine zac ?_ ?_ | refine zai ?_ ?_ | refine zao ?_ ?_ | refine zaf ?_ ?_ | refine zab ?_ ?_) <;> intro hq <;> (try simp at hq)) | refine zag (by omega) ?_ | refine zam (by omega) ?_) <;> simp -implicitDefEqProofs [*, downTo])
theorem zvk (x : Node) (m : Msg) (hs : x.small) (hl : m.ids.length ≤ cap) (h : toB x m 3 = true) : Den PP 90 [.ptr 0 0 0, msgD m] [hBox x 1 2 3 4 .nil, ⟨x.view.peers.map Peer.row, 2, .mut⟩, ⟨x.view.passive.map irow, 1, .mut⟩, ⟨x.items.map Item.row, 5, .mut⟩, ⟨x.log.map Told.row, 3, .mut⟩] (.tup [])
 [⟨[[.bool x.up, .int .i64 x.view.id, .ref 5 0 x.view.peers.length, .ref 6 0 x.view.passive.length, .ref 7 0 x.items.length, .ref 8 (logPre x (mT m)).length (logOf x (mT m)).length, .nil]], 7, .box⟩, ⟨x.view.peers.map Peer.row, 2, .app⟩, ⟨x.view.passive.map irow, 1, .app⟩, ⟨x.items.map Item.row, 5, .app⟩, ⟨x.log.map Told.row, 3, .app⟩, ⟨x.view.peers.map Peer.row, 2, .mut⟩, ⟨x.view.passive.map irow, 1, .mut⟩, ⟨x.items.map Item.row, 5, .mut⟩, ⟨(logPre x (mT m) ++ logOf x (mT m)).map Told.row, 3, .mut⟩] := by
 have c1 := zyc x m hs hl h
 generalize logPre x (mT m) = pre at *
 generalize logOf x (mT m) = xs at *
 clear h
 simp only [hBox, nodeD, Node.cells, viewD, View.cells, peersD, intsD, itemsD, toldsD, Item.row, noteD, noteB, msgD, Msg.row] at c1 ⊢
 refine zaj [11] [] zi2 ?_
 simp -implicitDefEqProofs [zfm]
 repeat' ((first | refine zaa (by first | exact c1) ?_ | ((with_reducible first | refine zak ?_ ?_ | refine zah ?_ ?_ | refine zad ?_ ?_ | refine zae ?_ ?_) <;> intro _) | ((with_reducible first | refine zan ?_ ?_ | refine zap ?_ ?_ | refine zal ?_ ?_ | refine zac ?_ ?_ | refine zai ?_ ?_ | refine zao ?_ ?_ | refine zaf ?_ ?_ | refine zab ?_ ?_) <;> intro hq <;> (try simp at hq)) | refine zag (by omega) ?_ | refine zam (by omega) ?_) <;> simp -implicitDefEqProofs [*, downTo])
end Go.AM
/- AM: contracts: handle.Do. -/
namespace Go.AM
set_option linter.unusedSimpArgs false
set_option linter.unusedVariables false
set_option maxRecDepth 8000
set_option maxHeartbeats 0
def doB (x : Node) (m : Msg) : Bool := nodeUp x && (msgMay m && decide (m.to = x.view.id))
theorem zfj {x : Node} {m : Msg} (h : doB x m = true) : nodeUp x = true ∧ msgMay m = true ∧ m.to = x.view.id := by
 simp only [doB, Bool.and_eq_true, decide_eq_true_eq] at h
 exact h
theorem z20 {m : Msg} (h : msgMay m = true) : m.kind = 0 ∨ m.kind = 1 ∨ m.kind = 2 ∨ m.kind = 3 := by
 simp only [msgMay, Bool.and_eq_true] at h
 obtain ⟨_, _, _, h⟩ := h
 by_cases h0 : m.kind = 0
 ·exact .inl h0
 by_cases h1 : m.kind = 1
 ·exact .inr (.inl h1)
 by_cases h2 : m.kind = 2
 ·exact .inr (.inr (.inl h2))
 by_cases h3 : m.kind = 3
 ·exact .inr (.inr (.inr h3))
 simp [h0, h1, h2, h3] at h
theorem z9s {m : Msg} (h : msgMay m = true) (hk : m.kind = 1) : itemMay m.item = true := by
 simp [msgMay, hk] at h
 exact h.2.2.2.2
theorem z8z {x : Node} {m : Msg} (h : doB x m = true) {k : Int} (hk : m.kind = k) : toB x m k = true := by
 obtain ⟨h1, h2, h3⟩ := zfj h
 simp [toB, h1, h2, h3, hk]
theorem zyh (x : Node) (m : Msg) (hs : x.small) (hl : m.ids.length ≤ cap) (h : doB x m = true) (hk : m.kind = 0) : Den PP 28 [nodeD x, msgD m] [] (.tup [copyD { x with view := helloV x.view m.from_ m.ids }, .nil, .int .i64 0]) (nodeB { x with view := helloV x.view m.from_ m.ids }) := by
 have c1 := zjp x hs
 have c2 := zm8 m hl
 obtain ⟨h1, h2, h3⟩ := zfj h
 have c4 := zs8 x m hs (zsn h1 h2 hk h3)
 rw [h1] at c1
 rw [h2] at c2
 have c3 := zfg x hs
 generalize helloV x.view m.from_ m.ids = w at *
 clear h h1 h2
 simp only [hBox, psB, xsB, nodeD, Node.cells, viewD, View.cells, peersD, intsD, itemsD, toldsD, Item.row, copyD, nodeB, noteD, noteB, msgD, Msg.row, hk, h3, List.map_cons, List.map_nil] at c1 c2 c3 c4 ⊢
 refine zaj [27] [43] zgt ?_
 simp -implicitDefEqProofs [zga, h3, hk]
 repeat' ((first | refine zaa (by first | exact c1 | exact c2 | exact c3) ?_ | ((with_reducible first | refine zak ?_ ?_ | refine zah ?_ ?_ | refine zad ?_ ?_ | refine zae ?_ ?_) <;> intro _) | ((with_reducible first | refine zan ?_ ?_ | refine zap ?_ ?_ | refine zal ?_ ?_ | refine zac ?_ ?_ | refine zai ?_ ?_ | refine zao ?_ ?_ | refine zaf ?_ ?_ | refine zab ?_ ?_) <;> intro hq <;> (try simp at hq)) | refine zag (by omega) ?_ | refine zam (by omega) ?_) <;> simp -implicitDefEqProofs [*, downTo, h3, hk])
 refine zar [8, 4, 5, 6, 7] rfl (by decide) (by simp) c4 (by simp) (by simp [lentBs]) ?_
 simp -implicitDefEqProofs [framed]
 repeat' apply And.intro
 all_goals repeat' ((first | ((with_reducible first | refine zak ?_ ?_ | refine zah ?_ ?_ | refine zad ?_ ?_ | refine zae ?_ ?_) <;> intro _) | ((with_reducible first | refine zan ?_ ?_ | refine zap ?_ ?_ | refine zal ?_ ?_ | refine zac ?_ ?_ | refine zai ?_ ?_ | refine zao ?_ ?_ | refine zaf ?_ ?_ | refine zab ?_ ?_) <;> intro hq <;> (try simp at hq)) | refine zag (by omega) ?_ | refine zam (by omega) ?_) <;> simp -implicitDefEqProofs [*, downTo])
theorem zy9 (x : Node) (m : Msg) (hs : x.small) (hl : m.ids.length ≤ cap) (h : doB x m = true) (hk : m.kind = 1) : Den PP 28 [nodeD x, msgD m] [] (.tup [copyD (takeI x m.item), .nil, .int .i64 0]) (nodeB (takeI x m.item)) := by
 have c1 := zjp x hs
 have c2 := zm8 m hl
 obtain ⟨h1, h2, h3⟩ := zfj h
 have c4 := zvw x m hs (by rw [h1, z9s h2 hk]; rfl)
 rw [h1] at c1
 rw [h2] at c2
 have c3 := zfg x hs
 generalize takeI x m.item = y at *
 clear h h1 h2
 simp only [hBox, psB, xsB, nodeD, Node.cells, viewD, View.cells, peersD, intsD, itemsD, toldsD, Item.row, copyD, nodeB, noteD, noteB, msgD, Msg.row, hk, h3, List.map_cons, List.map_nil] at c1 c2 c3 c4 ⊢
 refine zaj [27] [43] zgt ?_
 simp -implicitDefEqProofs [zga, h3, hk]
 repeat' ((first | refine zaa (by first | exact c1 | exact c2 | exact c3) ?_ | ((with_reducible first | refine zak ?_ ?_ | refine zah ?_ ?_ | refine zad ?_ ?_ | refine zae ?_ ?_) <;> intro _) | ((with_reducible first | refine zan ?_ ?_ | refine zap ?_ ?_ | refine zal ?_ ?_ | refine zac ?_ ?_ | refine zai ?_ ?_ | refine zao ?_ ?_ | refine zaf ?_ ?_ | refine zab ?_ ?_) <;> intro hq <;> (try simp at hq)) | refine zag (by omega) ?_ | refine zam (by omega) ?_) <;> simp -implicitDefEqProofs [*, downTo, h3, hk])
 refine zar [8, 4, 5, 6, 7] rfl (by decide) (by simp) c4 (by simp) (by simp [lentBs]) ?_
 simp -implicitDefEqProofs [framed]
 repeat' apply And.intro
 all_goals repeat' ((first | ((with_reducible first | refine zak ?_ ?_ | refine zah ?_ ?_ | refine zad ?_ ?_ | refine zae ?_ ?_) <;> intro _) | ((with_reducible first | refine zan ?_ ?_ | refine zap ?_ ?_ | refine zal ?_ ?_ | refine zac ?_ ?_ | refine zai ?_ ?_ | refine zao ?_ ?_ | refine zaf ?_ ?_ | refine zab ?_ ?_) <;> intro hq <;> (try simp at hq)) | refine zag (by omega) ?_ | refine zam (by omega) ?_) <;> simp -implicitDefEqProofs [*, downTo])
theorem zy0 (x : Node) (m : Msg) (hs : x.small) (hl : m.ids.length ≤ cap) (h : doB x m = true) (hk : m.kind = 2) : ∃ kk : Kind, kk.isBox = false ∧ Den PP 28 [nodeD x, msgD m] [] (.tup [copyD x, .ref 4 0 1, .int .i64 0]) [⟨x.view.peers.map Peer.row, 2, kk⟩, ⟨x.view.passive.map irow, 1, kk⟩, ⟨x.items.map Item.row, 5, kk⟩, ⟨x.log.map Told.row, 3, kk⟩, ⟨[tellOf x m].map Msg.row0, 11, .mut⟩] := by
 have c1 := zjp x hs
 have c2 := zm8 m hl
 obtain ⟨h1, h2, h3⟩ := zfj h
 have c4 := zyx x m hs hl (z8z h hk)
 rw [h1] at c1
 rw [h2] at c2
 have c3 := zfg x hs
 obtain ⟨kk, hkk, c4⟩ := c4
 refine ⟨kk, hkk, ?_⟩
 generalize tellOf x m = t at *
 clear h h1 h2
 simp only [hBox, psB, xsB, nodeD, Node.cells, viewD, View.cells, peersD, intsD, itemsD, toldsD, Item.row, copyD, nodeB, noteD, noteB, msgD, Msg.row, hk, h3, List.map_cons, List.map_nil] at c1 c2 c3 c4 ⊢
 refine zaj [27] [43] zgt ?_
 cases kk <;> simp [Kind.isBox] at hkk
 all_goals
  simp -implicitDefEqProofs [zga, h3, hk]
  repeat' ((first | refine zaa (by first | exact c1 | exact c2 | exact c3) ?_ | ((with_reducible first | refine zak ?_ ?_ | refine zah ?_ ?_ | refine zad ?_ ?_ | refine zae ?_ ?_) <;> intro _) | ((with_reducible first | refine zan ?_ ?_ | refine zap ?_ ?_ | refine zal ?_ ?_ | refine zac ?_ ?_ | refine zai ?_ ?_ | refine zao ?_ ?_ | refine zaf ?_ ?_ | refine zab ?_ ?_) <;> intro hq <;> (try simp at hq)) | refine zag (by omega) ?_ | refine zam (by omega) ?_) <;> simp -implicitDefEqProofs [*, downTo, h3, hk])
  refine zar [8, 4, 5, 6, 7] rfl (by decide) (by simp) c4 (by simp) (by simp [lentBs]) ?_
  simp -implicitDefEqProofs [framed]
  repeat' apply And.intro
  all_goals repeat' ((first | ((with_reducible first | refine zak ?_ ?_ | refine zah ?_ ?_ | refine zad ?_ ?_ | refine zae ?_ ?_) <;> intro _) | ((with_reducible first | refine zan ?_ ?_ | refine zap ?_ ?_ | refine zal ?_ ?_ | refine zac ?_ ?_ | refine zai ?_ ?_ | refine zao ?_ ?_ | refine zaf ?_ ?_ | refine zab ?_ ?_) <;> intro hq <;> (try simp at hq)) | refine zag (by omega) ?_ | refine zam (by omega) ?_) <;> simp -implicitDefEqProofs [*, downTo])
theorem zw8 (x : Node) (m : Msg) (hs : x.small) (hl : m.ids.length ≤ cap) (h : doB x m = true) (hk : m.kind = 3) : Den PP 28 [nodeD x, msgD m] [] (.tup [noteD x (logPre x (mT m)) (logOf x (mT m)), .nil, .int .i64 0]) (noteB x (logPre x (mT m)) (logOf x (mT m))) := by
 have c1 := zjp x hs
 have c2 := zm8 m hl
 obtain ⟨h1, h2, h3⟩ := zfj h
 have c4 := zvk x m hs hl (z8z h hk)
 rw [h1] at c1
 rw [h2] at c2
 have c3 := zfg x hs
 generalize logPre x (mT m) = pre at *
 generalize logOf x (mT m) = xs at *
 clear h h1 h2
 simp only [hBox, psB, xsB, nodeD, Node.cells, viewD, View.cells, peersD, intsD, itemsD, toldsD, Item.row, copyD, nodeB, noteD, noteB, msgD, Msg.row, hk, h3, List.map_cons, List.map_nil] at c1 c2 c3 c4 ⊢
 refine zaj [27] [43] zgt ?_
 simp -implicitDefEqProofs [zga, h3, hk]
 repeat' ((first | refine zaa (by first | exact c1 | exact c2 | exact c3) ?_ | ((with_reducible first | refine zak ?_ ?_ | refine zah ?_ ?_ | refine zad ?_ ?_ | refine zae ?_ ?_) <;> intro _) | ((with_reducible first | refine zan ?_ ?_ | refine zap ?_ ?_ | refine zal ?_ ?_ | refine zac ?_ ?_ | refine zai ?_ ?_ | refine zao ?_ ?_ | refine zaf ?_ ?_ | refine zab ?_ ?_) <;> intro hq <;> (try simp at hq)) | refine zag (by omega) ?_ | refine zam (by omega) ?_) <;> simp -implicitDefEqProofs [*, downTo, h3, hk])
 refine zar [8, 4, 5, 6, 7] rfl (by decide) (by simp) c4 (by simp) (by simp [lentBs]) ?_
 simp -implicitDefEqProofs [framed]
 repeat' apply And.intro
 all_goals repeat' ((first | ((with_reducible first | refine zak ?_ ?_ | refine zah ?_ ?_ | refine zad ?_ ?_ | refine zae ?_ ?_) <;> intro _) | ((with_reducible first | refine zan ?_ ?_ | refine zap ?_ ?_ | refine zal ?_ ?_ | refine zac ?_ ?_ | refine zai ?_ ?_ | refine zao ?_ ?_ | refine zaf ?_ ?_ | refine zab ?_ ?_) <;> intro hq <;> (try simp at hq)) | refine zag (by omega) ?_ | refine zam (by omega) ?_) <;> simp -implicitDefEqProofs [*, downTo])
end Go.AM
/- AM: contracts: a packet delivered. -/
namespace Go.AM
set_option linter.unusedSimpArgs false
set_option linter.unusedVariables false
set_option maxRecDepth 8000
set_option maxHeartbeats 0
theorem zqx (w : Wld) (a : Act) (m : Msg) (x : Node) (hw : worldMay w = true) (h0 : 0 ≤ a.pick) (hp : a.pick ≤ 65535) (hm : w.packets[pickP w a]? = some m) (hr : MonoC (cmpN m.to) w.nodes) (hcut : (isC w.cuts m.from_ m.to).1 = false) (hi : isN m.to w.nodes = true) (hx : w.nodes[posN m.to w.nodes]? = some x) (h : doB x m = true) (hk : m.kind = 0) (hm1 : worldMay ({ nodes := w.nodes.set (posN m.to w.nodes) ({ x with view := helloV x.view m.from_ m.ids }), cuts := w.cuts, packets := leftP w (pickP w a) } : Wld) = true) (hm2 : worldMay ({ nodes := w.nodes.set (posN m.to w.nodes) ({ x with view := helloV x.view m.from_ m.ids }), cuts := w.cuts, packets := [] } : Wld) = true) :
 Den PP 60 [.ptr 0 0 0, .ptr 4 0 0] (actB w a) (.tup []) (doS ({ nodes := w.nodes.set (posN m.to w.nodes) ({ x with view := helloV x.view m.from_ m.ids }), cuts := w.cuts, packets := leftP w (pickP w a) } : Wld) (sendW ({ nodes := w.nodes.set (posN m.to w.nodes) ({ x with view := helloV x.view m.from_ m.ids }), cuts := w.cuts, packets := leftP w (pickP w a) } : Wld) []) w.packets a) := by
 have c1 := zh5 w a m (zbr hw) (zcf hw).2.2.1 h0 hp hm
 have c2 := zsm w.cuts m.from_ m.to (by have := (zbr hw).cuts; unfold cap; omega)
 have c3 := zgv { w with packets := leftP w (pickP w a) } m.to w.packets (by have := (zbr hw).nodes; unfold cap; simp only; omega) hr hi
 have c4 := zyh x m (zcv ((zbr hw).node x (List.mem_of_getElem? hx))) (by have := (zbr hw).packet m (List.mem_of_getElem? hm); unfold cap; omega) h hk
 have c5 := zgx ({ nodes := w.nodes.set (posN m.to w.nodes) ({ x with view := helloV x.view m.from_ m.ids }), cuts := w.cuts, packets := leftP w (pickP w a) } : Wld) [] w.packets hm1 hm2
 have hpp := zkz hi
 have hg : ∀ h : posN m.to w.nodes < w.nodes.length, w.nodes[posN m.to w.nodes] = x := fun h => by rw [List.getElem?_eq_getElem h] at hx; exact Option.some.inj hx
 rw [hcut] at c2
 simp only at c3
 have c5 : Den PP 151 [.ptr 0 0 0, .nil] _ _ _ := zd0 (by
  simp only [List.map_cons, List.map_nil, D.nrm]
  exact c5)
 have hid : (helloV x.view m.from_ m.ids).id = x.view.id := (zm5 (zsn (zfj h).1 (zfj h).2.1 hk (zfj h).2.2)).2
 generalize helloV x.view m.from_ m.ids = vw at *
 generalize (isC w.cuts m.from_ m.to).2 = e at *
 generalize leftP w (pickP w a) = ls at *
 generalize posN m.to w.nodes = P at *
 have hp' : (P : Int) < w.nodes.length := by omega
 have e1 : (sendW { nodes := w.nodes.set P ({ x with view := vw }), cuts := w.cuts, packets := ls } []).nodes = w.nodes.set P ({ x with view := vw }) := rfl
 have e2 : (sendW { nodes := w.nodes.set P ({ x with view := vw }), cuts := w.cuts, packets := ls } []).cuts = w.cuts := rfl
 generalize sendW { nodes := w.nodes.set P ({ x with view := vw }), cuts := w.cuts, packets := ls } [] = v at *
 obtain ⟨ns, cs, ps⟩ := v
 simp only at e1 e2
 subst e1 e2
 clear hw h0 hp hm hr hcut hi h hm1 hm2
 simp only [actB, doA, doC, doS, copyD, nodeB, noteD, noteB, nodeD, intsD, Act.cells, Wld.cells, nodesD, cutsD, msgsD, msgD, Msg.row, Msg.row0, hk, List.length_set, List.map_set, List.map_cons, List.map_nil, List.length_cons, List.length_nil, List.nil_append, List.cons_append] at c1 c2 c3 c4 c5 ⊢
 rw [zjr ({ x with view := vw })] at c5 ⊢
 try simp only at c5 ⊢
 skip
 all_goals
  refine zaj [] [14, 41, 61] zc9 ?_
  simp -implicitDefEqProofs [zcn]
  refine zar [0, 1, 2, 3, 4] rfl (by decide) (by simp) c1 (by simp) (by simp [lentBs]) ?_
  simp -implicitDefEqProofs [framed, -leave]
  refine zaa c2 ?_
  simp -implicitDefEqProofs [-leave]
  refine zar [0, 1, 2, 3, 6] rfl (by decide) (by simp) c3 (by simp) (by simp [lentBs]) ?_
  simp -implicitDefEqProofs [framed, -leave, hpp, hp', hx, hg]
  refine zaa c4 ?_
  simp -implicitDefEqProofs [-leave, hpp, hp', hx, hg]
  refine zar [0, 1, 2, 3] rfl (by decide) (by simp) c5 (by simp) (by simp [lentBs]) ?_
  simp -implicitDefEqProofs [framed, -leave]
  exact leave5 (zg6 rfl) (zoc (zju 5 _) (List.all_eq_true.1 rfl)) (zmc 5 _) (zlv 5 _) (zg6 rfl)
theorem zqz (w : Wld) (a : Act) (m : Msg) (x : Node) (hw : worldMay w = true) (h0 : 0 ≤ a.pick) (hp : a.pick ≤ 65535) (hm : w.packets[pickP w a]? = some m) (hr : MonoC (cmpN m.to) w.nodes) (hcut : (isC w.cuts m.from_ m.to).1 = false) (hi : isN m.to w.nodes = true) (hx : w.nodes[posN m.to w.nodes]? = some x) (h : doB x m = true) (hk : m.kind = 1) (hm1 : worldMay ({ nodes := w.nodes.set (posN m.to w.nodes) (takeI x m.item), cuts := w.cuts, packets := leftP w (pickP w a) } : Wld) = true) (hm2 : worldMay ({ nodes := w.nodes.set (posN m.to w.nodes) (takeI x m.item), cuts := w.cuts, packets := [] } : Wld) = true) :
 Den PP 60 [.ptr 0 0 0, .ptr 4 0 0] (actB w a) (.tup []) (doS ({ nodes := w.nodes.set (posN m.to w.nodes) (takeI x m.item), cuts := w.cuts, packets := leftP w (pickP w a) } : Wld) (sendW ({ nodes := w.nodes.set (posN m.to w.nodes) (takeI x m.item), cuts := w.cuts, packets := leftP w (pickP w a) } : Wld) []) w.packets a) := by
 have c1 := zh5 w a m (zbr hw) (zcf hw).2.2.1 h0 hp hm
 have c2 := zsm w.cuts m.from_ m.to (by have := (zbr hw).cuts; unfold cap; omega)
 have c3 := zgv { w with packets := leftP w (pickP w a) } m.to w.packets (by have := (zbr hw).nodes; unfold cap; simp only; omega) hr hi
 have c4 := zy9 x m (zcv ((zbr hw).node x (List.mem_of_getElem? hx))) (by have := (zbr hw).packet m (List.mem_of_getElem? hm); unfold cap; omega) h hk
 have c5 := zgx ({ nodes := w.nodes.set (posN m.to w.nodes) (takeI x m.item), cuts := w.cuts, packets := leftP w (pickP w a) } : Wld) [] w.packets hm1 hm2
 have hpp := zkz hi
 have hg : ∀ h : posN m.to w.nodes < w.nodes.length, w.nodes[posN m.to w.nodes] = x := fun h => by rw [List.getElem?_eq_getElem h] at hx; exact Option.some.inj hx
 rw [hcut] at c2
 simp only at c3
 have c5 : Den PP 151 [.ptr 0 0 0, .nil] _ _ _ := zd0 (by
  simp only [List.map_cons, List.map_nil, D.nrm]
  exact c5)
 generalize takeI x m.item = y at *
 generalize (isC w.cuts m.from_ m.to).2 = e at *
 generalize leftP w (pickP w a) = ls at *
 generalize posN m.to w.nodes = P at *
 have hp' : (P : Int) < w.nodes.length := by omega
 have e1 : (sendW { nodes := w.nodes.set P (y), cuts := w.cuts, packets := ls } []).nodes = w.nodes.set P (y) := rfl
 have e2 : (sendW { nodes := w.nodes.set P (y), cuts := w.cuts, packets := ls } []).cuts = w.cuts := rfl
 generalize sendW { nodes := w.nodes.set P (y), cuts := w.cuts, packets := ls } [] = v at *
 obtain ⟨ns, cs, ps⟩ := v
 simp only at e1 e2
 subst e1 e2
 clear hw h0 hp hm hr hcut hi h hm1 hm2
 simp only [actB, doA, doC, doS, copyD, nodeB, noteD, noteB, nodeD, intsD, Act.cells, Wld.cells, nodesD, cutsD, msgsD, msgD, Msg.row, Msg.row0, hk, List.length_set, List.map_set, List.map_cons, List.map_nil, List.length_cons, List.length_nil, List.nil_append, List.cons_append] at c1 c2 c3 c4 c5 ⊢
 rw [zjr (y)] at c5 ⊢
 try simp only at c5 ⊢
 skip
 all_goals
  refine zaj [] [14, 41, 61] zc9 ?_
  simp -implicitDefEqProofs [zcn]
  refine zar [0, 1, 2, 3, 4] rfl (by decide) (by simp) c1 (by simp) (by simp [lentBs]) ?_
  simp -implicitDefEqProofs [framed, -leave]
  refine zaa c2 ?_
  simp -implicitDefEqProofs [-leave]
  refine zar [0, 1, 2, 3, 6] rfl (by decide) (by simp) c3 (by simp) (by simp [lentBs]) ?_
  simp -implicitDefEqProofs [framed, -leave, hpp, hp', hx, hg]
  refine zaa c4 ?_
  simp -implicitDefEqProofs [-leave, hpp, hp', hx, hg]
  refine zar [0, 1, 2, 3] rfl (by decide) (by simp) c5 (by simp) (by simp [lentBs]) ?_
  simp -implicitDefEqProofs [framed, -leave]
  exact leave5 (zg6 rfl) (zoc (zju 5 _) (List.all_eq_true.1 rfl)) (zmc 5 _) (zlv 5 _) (zg6 rfl)
theorem zqe (w : Wld) (a : Act) (m : Msg) (x : Node) (hw : worldMay w = true) (h0 : 0 ≤ a.pick) (hp : a.pick ≤ 65535) (hm : w.packets[pickP w a]? = some m) (hr : MonoC (cmpN m.to) w.nodes) (hcut : (isC w.cuts m.from_ m.to).1 = false) (hi : isN m.to w.nodes = true) (hx : w.nodes[posN m.to w.nodes]? = some x) (h : doB x m = true) (hk : m.kind = 2) (hm1 : worldMay ({ nodes := w.nodes.set (posN m.to w.nodes) (x), cuts := w.cuts, packets := leftP w (pickP w a) } : Wld) = true) (hm2 : worldMay ({ nodes := w.nodes.set (posN m.to w.nodes) (x), cuts := w.cuts, packets := [tellOf x m] } : Wld) = true) :
 Den PP 60 [.ptr 0 0 0, .ptr 4 0 0] (actB w a) (.tup []) (doS ({ nodes := w.nodes.set (posN m.to w.nodes) (x), cuts := w.cuts, packets := leftP w (pickP w a) } : Wld) (sendW ({ nodes := w.nodes.set (posN m.to w.nodes) (x), cuts := w.cuts, packets := leftP w (pickP w a) } : Wld) [tellOf x m]) w.packets a) := by
 have c1 := zh5 w a m (zbr hw) (zcf hw).2.2.1 h0 hp hm
 have c2 := zsm w.cuts m.from_ m.to (by have := (zbr hw).cuts; unfold cap; omega)
 have c3 := zgv { w with packets := leftP w (pickP w a) } m.to w.packets (by have := (zbr hw).nodes; unfold cap; simp only; omega) hr hi
 have c4 := zy0 x m (zcv ((zbr hw).node x (List.mem_of_getElem? hx))) (by have := (zbr hw).packet m (List.mem_of_getElem? hm); unfold cap; omega) h hk
 have c5 := zgx ({ nodes := w.nodes.set (posN m.to w.nodes) (x), cuts := w.cuts, packets := leftP w (pickP w a) } : Wld) [tellOf x m] w.packets hm1 hm2
 have hpp := zkz hi
 have hg : ∀ h : posN m.to w.nodes < w.nodes.length, w.nodes[posN m.to w.nodes] = x := fun h => by rw [List.getElem?_eq_getElem h] at hx; exact Option.some.inj hx
 rw [hcut] at c2
 simp only at c3
 obtain ⟨kk, hkk, c4⟩ := c4
 have c5 : Den PP 151 [.ptr 0 0 0, .sl [(tellOf x m).row0] 1] _ _ _ := zd0 (by
  have hn := zp0 [tellOf x m]
  simp only [List.map_cons, List.map_nil] at hn
  simp only [List.map_cons, List.map_nil, D.nrm, hn]
  exact c5)
 generalize tellOf x m = t at *
 generalize (isC w.cuts m.from_ m.to).2 = e at *
 generalize leftP w (pickP w a) = ls at *
 generalize posN m.to w.nodes = P at *
 have hp' : (P : Int) < w.nodes.length := by omega
 have e1 : (sendW { nodes := w.nodes.set P (x), cuts := w.cuts, packets := ls } [t]).nodes = w.nodes.set P (x) := rfl
 have e2 : (sendW { nodes := w.nodes.set P (x), cuts := w.cuts, packets := ls } [t]).cuts = w.cuts := rfl
 generalize sendW { nodes := w.nodes.set P (x), cuts := w.cuts, packets := ls } [t] = v at *
 obtain ⟨ns, cs, ps⟩ := v
 simp only at e1 e2
 subst e1 e2
 clear hw h0 hp hm hr hcut hi h hm1 hm2
 simp only [actB, doA, doC, doS, copyD, nodeB, noteD, noteB, nodeD, intsD, Act.cells, Wld.cells, nodesD, cutsD, msgsD, msgD, Msg.row, Msg.row0, hk, List.length_set, List.map_set, List.map_cons, List.map_nil, List.length_cons, List.length_nil, List.nil_append, List.cons_append] at c1 c2 c3 c4 c5 ⊢
 rw [zjr (x)] at c5 ⊢
 try simp only at c5 ⊢
 cases kk <;> simp [Kind.isBox] at hkk
 all_goals
  refine zaj [] [14, 41, 61] zc9 ?_
  simp -implicitDefEqProofs [zcn]
  refine zar [0, 1, 2, 3, 4] rfl (by decide) (by simp) c1 (by simp) (by simp [lentBs]) ?_
  simp -implicitDefEqProofs [framed, -leave]
  refine zaa c2 ?_
  simp -implicitDefEqProofs [-leave]
  refine zar [0, 1, 2, 3, 6] rfl (by decide) (by simp) c3 (by simp) (by simp [lentBs]) ?_
  simp -implicitDefEqProofs [framed, -leave, hpp, hp', hx, hg]
  refine zaa c4 ?_
  simp -implicitDefEqProofs [-leave, hpp, hp', hx, hg]
  refine zar [0, 1, 2, 3] rfl (by decide) (by simp) c5 (by simp) (by simp [lentBs]) ?_
  simp -implicitDefEqProofs [framed, -leave]
  exact leave5 (zg6 rfl) (zoc (zju 5 _) (List.all_eq_true.1 rfl)) (zmc 5 _) (zlv 5 _) (zg6 rfl)
theorem zq0 (w : Wld) (a : Act) (m : Msg) (x : Node) (hw : worldMay w = true) (h0 : 0 ≤ a.pick) (hp : a.pick ≤ 65535) (hm : w.packets[pickP w a]? = some m) (hr : MonoC (cmpN m.to) w.nodes) (hcut : (isC w.cuts m.from_ m.to).1 = false) (hi : isN m.to w.nodes = true) (hx : w.nodes[posN m.to w.nodes]? = some x) (h : doB x m = true) (hk : m.kind = 3) (hm1 : worldMay ({ nodes := w.nodes.set (posN m.to w.nodes) ({ x with log := logOf x (mT m) }), cuts := w.cuts, packets := leftP w (pickP w a) } : Wld) = true) (hm2 : worldMay ({ nodes := w.nodes.set (posN m.to w.nodes) ({ x with log := logOf x (mT m) }), cuts := w.cuts, packets := [] } : Wld) = true) :
 Den PP 60 [.ptr 0 0 0, .ptr 4 0 0] (actB w a) (.tup []) (doS ({ nodes := w.nodes.set (posN m.to w.nodes) ({ x with log := logOf x (mT m) }), cuts := w.cuts, packets := leftP w (pickP w a) } : Wld) (sendW ({ nodes := w.nodes.set (posN m.to w.nodes) ({ x with log := logOf x (mT m) }), cuts := w.cuts, packets := leftP w (pickP w a) } : Wld) []) w.packets a) := by
 have c1 := zh5 w a m (zbr hw) (zcf hw).2.2.1 h0 hp hm
 have c2 := zsm w.cuts m.from_ m.to (by have := (zbr hw).cuts; unfold cap; omega)
 have c3 := zgv { w with packets := leftP w (pickP w a) } m.to w.packets (by have := (zbr hw).nodes; unfold cap; simp only; omega) hr hi
 have c4 := zw8 x m (zcv ((zbr hw).node x (List.mem_of_getElem? hx))) (by have := (zbr hw).packet m (List.mem_of_getElem? hm); unfold cap; omega) h hk
 have c5 := zgx ({ nodes := w.nodes.set (posN m.to w.nodes) ({ x with log := logOf x (mT m) }), cuts := w.cuts, packets := leftP w (pickP w a) } : Wld) [] w.packets hm1 hm2
 have hpp := zkz hi
 have hg : ∀ h : posN m.to w.nodes < w.nodes.length, w.nodes[posN m.to w.nodes] = x := fun h => by rw [List.getElem?_eq_getElem h] at hx; exact Option.some.inj hx
 rw [hcut] at c2
 simp only at c3
 have c5 : Den PP 151 [.ptr 0 0 0, .nil] _ _ _ := zd0 (by
  simp only [List.map_cons, List.map_nil, D.nrm]
  exact c5)
 generalize logPre x (mT m) = pre at *
 generalize logOf x (mT m) = ys at *
 generalize (isC w.cuts m.from_ m.to).2 = e at *
 generalize leftP w (pickP w a) = ls at *
 generalize posN m.to w.nodes = P at *
 have hp' : (P : Int) < w.nodes.length := by omega
 have e1 : (sendW { nodes := w.nodes.set P ({ x with log := ys }), cuts := w.cuts, packets := ls } []).nodes = w.nodes.set P ({ x with log := ys }) := rfl
 have e2 : (sendW { nodes := w.nodes.set P ({ x with log := ys }), cuts := w.cuts, packets := ls } []).cuts = w.cuts := rfl
 generalize sendW { nodes := w.nodes.set P ({ x with log := ys }), cuts := w.cuts, packets := ls } [] = v at *
 obtain ⟨ns, cs, ps⟩ := v
 simp only at e1 e2
 subst e1 e2
 clear hw h0 hp hm hr hcut hi h hm1 hm2
 simp only [actB, doA, doC, doS, copyD, nodeB, noteD, noteB, nodeD, intsD, Act.cells, Wld.cells, nodesD, cutsD, msgsD, msgD, Msg.row, Msg.row0, hk, List.length_set, List.map_set, List.map_cons, List.map_nil, List.length_cons, List.length_nil, List.nil_append, List.cons_append] at c1 c2 c3 c4 c5 ⊢
 rw [zjr ({ x with log := ys })] at c5 ⊢
 try simp only at c5 ⊢
 skip
 all_goals
  refine zaj [] [14, 41, 61] zc9 ?_
  simp -implicitDefEqProofs [zcn]
  refine zar [0, 1, 2, 3, 4] rfl (by decide) (by simp) c1 (by simp) (by simp [lentBs]) ?_
  simp -implicitDefEqProofs [framed, -leave]
  refine zaa c2 ?_
  simp -implicitDefEqProofs [-leave]
  refine zar [0, 1, 2, 3, 6] rfl (by decide) (by simp) c3 (by simp) (by simp [lentBs]) ?_
  simp -implicitDefEqProofs [framed, -leave, hpp, hp', hx, hg]
  refine zaa c4 ?_
  simp -implicitDefEqProofs [-leave, hpp, hp', hx, hg]
  refine zar [0, 1, 2, 3] rfl (by decide) (by simp) c5 (by simp) (by simp [lentBs]) ?_
  simp -implicitDefEqProofs [framed, -leave]
  exact leave5 (zg6 rfl) (zoc (zju 5 _) (List.all_eq_true.1 rfl)) (zmc 5 _) (zlv 5 _) (zg6 rfl)
end Go.AM
/- AM: contracts: a node that starts. -/
namespace Go.AM
set_option linter.unusedSimpArgs false
set_option linter.unusedVariables false
set_option maxRecDepth 8000
set_option maxHeartbeats 0
end Go.AM
/- AM: contracts: act.Do. -/
namespace Go.AM
set_option linter.unusedSimpArgs false
set_option linter.unusedVariables false
set_option maxRecDepth 8000
set_option maxHeartbeats 0
theorem z4k (w : Wld) (a : Act) (hi : a.ids.length ≤ cap) (hw : worldMay w = true) (h : mayA w a = true) (hk : a.kind = 0) (u v : Wld) (qs : List Msg) (hd : Den PP 59 [.ptr 0 0 0, .ptr 4 0 0] (actB w a) (.tup []) (doS u v qs a)) :
 Den PP 20 [wldD w, actD a] [] (.tup [.agg [nodesD v.nodes, cutsD v.cuts, msgsD v.packets], .int .i64 0]) [] := by
 have t := zbr hw
 have c1 := zhu w t.small
 have c2 := zj5 w t
 have c3 := zz1 w a (by have := t.nodes; unfold cap; omega) (fun id => zhe (zcf hw).1 id) hi
 rw [hw] at c1
 rw [h] at c3
 clear hw h t hi
 suffices hh : Den PP 20 [wldD w, actD a] [] (.tup [.agg [nodesD v.nodes, cutsD v.cuts, msgsD v.packets], .int .i64 0]) [] by
  have := zm2 hh
  simpa [D.freeze, D.mapR, mapRL, frzRef, nodesD, cutsD, msgsD] using this
 simp only [actB, doA, doC, doS, wldD, actD, Act.cells, Wld.cells, nodesD, cutsD, msgsD, wldR, wldB, intsD, hk] at c1 c2 c3 hd ⊢
 refine zaj [13] [46] zuz ?_
 simp -implicitDefEqProofs [zti]
 refine zaa c1 ?_
 simp -implicitDefEqProofs
 refine zaa c2 ?_
 simp -implicitDefEqProofs
 refine zaa c3 ?_
 simp -implicitDefEqProofs
 refine zar [6, 3, 4, 5, 1] rfl (by decide) (by simp) hd (by simp) (by simp [lentBs]) ?_
 simp -implicitDefEqProofs [framed]
theorem z4i (w : Wld) (a : Act) (hi : a.ids.length ≤ cap) (hw : worldMay w = true) (h : mayA w a = true) (hk : a.kind = 1) (u v : Wld) (qs : List Msg) (hd : Den PP 60 [.ptr 0 0 0, .ptr 4 0 0] (actB w a) (.tup []) (doS u v qs a)) :
 Den PP 20 [wldD w, actD a] [] (.tup [.agg [nodesD v.nodes, cutsD v.cuts, msgsD v.packets], .int .i64 0]) [] := by
 have t := zbr hw
 have c1 := zhu w t.small
 have c2 := zj5 w t
 have c3 := zz1 w a (by have := t.nodes; unfold cap; omega) (fun id => zhe (zcf hw).1 id) hi
 rw [hw] at c1
 rw [h] at c3
 clear hw h t hi
 suffices hh : Den PP 20 [wldD w, actD a] [] (.tup [.agg [nodesD v.nodes, cutsD v.cuts, msgsD v.packets], .int .i64 0]) [] by
  have := zm2 hh
  simpa [D.freeze, D.mapR, mapRL, frzRef, nodesD, cutsD, msgsD] using this
 simp only [actB, doA, doC, doS, wldD, actD, Act.cells, Wld.cells, nodesD, cutsD, msgsD, wldR, wldB, intsD, hk] at c1 c2 c3 hd ⊢
 refine zaj [13] [46] zuz ?_
 simp -implicitDefEqProofs [zti]
 refine zaa c1 ?_
 simp -implicitDefEqProofs
 refine zaa c2 ?_
 simp -implicitDefEqProofs
 refine zaa c3 ?_
 simp -implicitDefEqProofs
 refine zar [6, 3, 4, 5, 1] rfl (by decide) (by simp) hd (by simp) (by simp [lentBs]) ?_
 simp -implicitDefEqProofs [framed]
end Go.AM
/- AM: chapter 17's statements: WriteNewer, WriteOther. -/
namespace Go.AM
set_option linter.unusedSimpArgs false
set_option linter.unusedVariables false
set_option maxRecDepth 8000
set_option maxHeartbeats 0
end Go.AM
/- Plain law: cuts among eight places, in any row. -/
namespace Go.AM
set_option linter.unusedSimpArgs false
set_option linter.unusedVariables false

end Go.AM
/- AM: plain: what keeps a world such as may be. -/
namespace Go.AM
set_option linter.unusedSimpArgs false
set_option linter.unusedVariables false
def idsN (xs : List Node) : List Int := xs.map fun x => x.view.id
theorem ze7 {xs : List Node} {i : Int} : i ∈ idsN xs ↔ ∃ x ∈ xs, x.view.id = i := List.mem_map
theorem zw9 {xs : List Node} {id : Int} (h : isN id xs = true) : ∃ x, xs[posN id xs]? = some x ∧ x.view.id = id := by
 obtain ⟨_, x, hx, hc⟩ := zn3 h
 exact ⟨x, hx, (zlp _ _).1 hc⟩
theorem qbd {xs : List Node} (h : xs.Pairwise (fun x y => x.view.id < y.view.id)) {id : Int} (hi : id ∈ idsN xs) : isN id xs = true := by
 obtain ⟨x, hx, rfl⟩ := ze7.1 hi
 obtain ⟨j, hj, hxj⟩ := List.getElem_of_mem hx
 have hxj' : xs[j]? = some x := by rw [List.getElem?_eq_getElem hj, hxj]
 have hcx : cmpN x.view.id x = 0 := (zlp _ _).2 rfl
 have hle : posC (cmpN x.view.id) xs ≤ j := by
  apply Classical.byContradiction
  intro hn
  have := zsi (cmpN x.view.id) xs j x (by omega) hxj'
  omega
 have hlt : posC (cmpN x.view.id) xs < xs.length := by omega
 obtain ⟨y, hy⟩ : ∃ y, xs[posC (cmpN x.view.id) xs]? = some y := ⟨_, List.getElem?_eq_getElem hlt⟩
 have hy0 := z5e (cmpN x.view.id) xs y hy
 have : y = x := by
  rcases Nat.lt_or_ge (posC (cmpN x.view.id) xs) j with h1 | h1
  ·obtain ⟨hl, rfl⟩ := List.getElem?_eq_some_iff.1 hy
   have := List.pairwise_iff_getElem.1 h _ _ hl hj h1
   rw [hxj] at this
   have h2 : cmpN x.view.id (xs[posC (cmpN x.view.id) xs]) < 0 := (zj3 _ _).2 this
   omega
  ·have : posC (cmpN x.view.id) xs = j := by omega
   rw [this, hxj'] at hy
   exact (Option.some.inj hy).symm
 subst this
 show (xs[posC (cmpN y.view.id) xs]?).any _ = true
 rw [hy]
 simp [hcx]
theorem zte {xs : List Node} (h : nodesMay xs = true) {id : Int} : isN id xs = true ↔ id ∈ idsN xs := by
 constructor
 ·intro hi
  obtain ⟨x, hx, he⟩ := zw9 hi
  exact ze7.2 ⟨x, List.mem_of_getElem? hx, he⟩
 ·exact qbd (zbm h).2.1
theorem z09 : ∀ (xs : List Node) (q : Option Int), (∀ x ∈ xs, nodeMay x = true ∧ ∀ y, q = some y → y < x.view.id) → xs.Pairwise (fun x y => x.view.id < y.view.id) → nodesOk q xs = true := by
 intro xs
 induction xs with
 | nil => intro q _ _; rfl
 | cons x xs ih =>
   intro q h hp
   rw [List.pairwise_cons] at hp
   simp only [nodesOk, Bool.and_eq_true]
   refine ⟨(h x (by simp)).1, ?_, ih _ (fun y hy => ⟨(h y (by simp [hy])).1, fun z hz => ?_⟩) hp.2⟩
   ·cases q with
    | none => rfl
    | some y => simpa using (h x (by simp)).2 y rfl
   ·cases hz
    exact hp.1 y hy
theorem zy1 {xs : List Node} (h1 : ∀ x ∈ xs, nodeMay x = true) (h2 : xs.Pairwise (fun x y => x.view.id < y.view.id)) (h3 : 1 ≤ xs.length) (h4 : xs.length ≤ 8) : nodesMay xs = true := by
 simp only [nodesMay, Bool.and_eq_true, decide_eq_true_eq]
 exact ⟨z09 xs none (fun x hx => ⟨h1 x hx, fun y hy => by cases hy⟩) h2, h3, h4⟩
theorem zlr {xs : List Node} {P : Nat} {x y : Node} (hx : xs[P]? = some x) (hid : y.view.id = x.view.id) : idsN (xs.set P y) = idsN xs := by
 unfold idsN
 rw [List.map_set, hid]
 apply List.ext_getElem?
 intro j
 rw [List.getElem?_set]
 split
 ·rename_i hij
  subst hij
  have hlt := (List.getElem?_eq_some_iff.1 hx).1
  have he : xs[P] = x := by rw [List.getElem?_eq_getElem hlt] at hx; exact Option.some.inj hx
  simp [hlt, he]
 ·rfl
theorem zmp {α : Type} {xs : List α} {P : Nat} {y z : α} (h : z ∈ xs.set P y) : z = y ∨ z ∈ xs := by
 rcases List.mem_or_eq_of_mem_set h with h | h
 ·exact .inr h
 ·exact .inl h
theorem zvu {xs : List Node} {P : Nat} {x y : Node} (h : nodesMay xs = true) (hx : xs[P]? = some x) (hy : nodeMay y = true) (hid : y.view.id = x.view.id) : nodesMay (xs.set P y) = true := by
 obtain ⟨h1, h2, h3, h4⟩ := zbm h
 refine zy1 (fun z hz => ?_) ?_ (by simpa using h3) (by simpa using h4)
 ·rcases zmp hz with rfl | hz
  ·exact hy
  ·exact h1 z hz
 ·have e := zlr hx hid
  unfold idsN at e
  rw [← List.pairwise_map (f := fun x : Node => x.view.id) (R := fun a b => a < b)] at h2 ⊢
  rw [e]
  exact h2
theorem qcf {ns : List Node} {cs : List Cut} {ps : List Msg} (hn : nodesMay ns = true) (hc : cutsMay cs = true) (hl : ps.length ≤ 512) (h1 : ∀ x ∈ ns, ∀ i ∈ namedN x, i ∈ idsN ns) (h2 : ∀ c ∈ cs, ∀ i ∈ namedC c, i ∈ idsN ns) (h3 : ∀ m ∈ ps, msgMay m = true ∧ ∀ i ∈ namedM m, i ∈ idsN ns) : worldMay ⟨ns, cs, ps⟩ = true := by
 have hq : queueMay ps = true := by
  simp only [queueMay, Bool.and_eq_true, decide_eq_true_eq, Bool.not_eq_true']
  refine ⟨hl, List.any_eq_false.2 fun m hm => ?_⟩
  simp [oddM, (h3 m hm).1]
 simp only [worldMay, Bool.and_eq_true, Bool.not_eq_true']
 refine ⟨hn, hc, hq, List.any_eq_false.2 fun i hi => ?_⟩
 have : i ∈ idsN ns := by
  simp only [namedW, List.mem_append, List.mem_flatMap] at hi
  rcases hi with (⟨x, hx, hi⟩ | ⟨c, hc, hi⟩) | ⟨m, hm, hi⟩
  ·exact h1 x hx i hi
  ·exact h2 c hc i hi
  ·exact (h3 m hm).2 i hi
 simp [(zte hn).2 this]
structure May (w : Wld) : Prop where
 nodes : nodesMay w.nodes = true
 cuts : cutsMay w.cuts = true
 len : w.packets.length ≤ 512
 inN : ∀ x ∈ w.nodes, ∀ i ∈ namedN x, i ∈ idsN w.nodes
 inC : ∀ c ∈ w.cuts, ∀ i ∈ namedC c, i ∈ idsN w.nodes
 inM : ∀ m ∈ w.packets, msgMay m = true ∧ ∀ i ∈ namedM m, i ∈ idsN w.nodes
theorem zfo {w : Wld} : worldMay w = true ↔ May w := by
 constructor
 ·intro h
  obtain ⟨h1, h2, h3, h4⟩ := zcf h
  obtain ⟨q1, q2⟩ := zkr h3
  have key : ∀ i ∈ namedW w, i ∈ idsN w.nodes := fun i hi => (zte h1).1 (h4 i hi)
  refine ⟨h1, h2, q1, fun x hx i hi => key i ?_, fun c hc i hi => key i ?_, fun m hm => ⟨q2 m hm, fun i hi => key i ?_⟩⟩
  ·simp only [namedW, List.mem_append, List.mem_flatMap]; exact .inl (.inl ⟨x, hx, hi⟩)
  ·simp only [namedW, List.mem_append, List.mem_flatMap]; exact .inl (.inr ⟨c, hc, hi⟩)
  ·simp only [namedW, List.mem_append, List.mem_flatMap]; exact .inr ⟨m, hm, hi⟩
 ·intro h
  exact qcf h.nodes h.cuts h.len h.inN h.inC h.inM
theorem May.node {w : Wld} (h : May w) {x : Node} (hx : x ∈ w.nodes) : nodeMay x = true := (zbm h.nodes).1 x hx
theorem May.place {w : Wld} (h : May w) {i : Int} (hi : i ∈ idsN w.nodes) : AM.place i = true := by
 obtain ⟨x, hx, rfl⟩ := ze7.1 hi
 exact zcc (zf5 (h.node hx)).2.1
theorem May.set {w : Wld} (h : May w) {P : Nat} {x y : Node} (hx : w.nodes[P]? = some x) (hy : nodeMay y = true) (hid : y.view.id = x.view.id) (hn : ∀ i ∈ namedN y, i ∈ idsN w.nodes) {ps : List Msg} (hl : ps.length ≤ 512) (hm : ∀ m ∈ ps, msgMay m = true ∧ ∀ i ∈ namedM m, i ∈ idsN w.nodes) : May ⟨w.nodes.set P y, w.cuts, ps⟩ := by
 have e := zlr hx hid
 refine ⟨zvu h.nodes hx hy hid, h.cuts, hl, ?_, ?_, ?_⟩
 ·intro z hz i hi
  show i ∈ idsN (w.nodes.set P y)
  rw [e]
  rcases zmp hz with rfl | hz
  ·exact hn i hi
  ·exact h.inN z hz i hi
 ·intro c hc i hi
  show i ∈ idsN (w.nodes.set P y)
  rw [e]
  exact h.inC c hc i hi
 ·intro m hmm
  refine ⟨(hm m hmm).1, fun i hi => ?_⟩
  show i ∈ idsN (w.nodes.set P y)
  rw [e]
  exact (hm m hmm).2 i hi
theorem May.send {w : Wld} (h : May w) {ms : List Msg} (hm : ∀ m ∈ ms, msgMay m = true ∧ ∀ i ∈ namedM m, i ∈ idsN w.nodes) : May (sendW w ms) := by
 refine ⟨h.nodes, h.cuts, ?_, h.inN, h.inC, fun m hmm => ?_⟩
 ·have := h.len
  simp [sendW]; omega
 ·rcases List.mem_append.1 hmm with h1 | h1
  ·exact h.inM m h1
  ·exact hm m (List.mem_of_mem_take h1)
end Go.AM
/- AM: plain: whom a view names. -/
namespace Go.AM
set_option linter.unusedSimpArgs false
set_option linter.unusedVariables false
def namesV (v : View) : List Int := v.peers.map Peer.id ++ v.passive
theorem zch {v : View} {y : Int} : y ∈ namesV v ↔ (∃ q ∈ v.peers, q.id = y) ∨ y ∈ v.passive := by
 simp [namesV]
theorem zff (v : View) (x : Int) : (∀ y, y ∈ namesV (knownV v x) → y = x ∨ y ∈ namesV v) ∧ ∀ y, y ∈ namesV v → y ∈ namesV (knownV v x) := by
 cases hr : roomV v x with
 | false => rw [zhx hr]; exact ⟨fun y h => .inr h, fun y h => h⟩
 | true =>
   constructor
   ·intro y hy
    rcases zch.1 hy with ⟨q, hq, rfl⟩ | hy
    ·rcases (zcm hr q).1 hq with rfl | ⟨hq, _⟩
     ·exact .inl rfl
     ·exact .inr (zch.2 (.inl ⟨q, hq, rfl⟩))
    ·exact .inr (zch.2 (.inr ((zg4 hr y).1 hy).1))
   ·intro y hy
    by_cases hyx : y = x
    ·subst hyx
     exact zch.2 (.inl ⟨⟨y, 0⟩, (zcm hr _).2 (.inl rfl), rfl⟩)
    ·rcases zch.1 hy with ⟨q, hq, rfl⟩ | hy
     ·exact zch.2 (.inl ⟨q, (zcm hr q).2 (.inr ⟨hq, hyx⟩), rfl⟩)
     ·exact zch.2 (.inr ((zg4 hr y).2 ⟨hy, hyx⟩))
theorem zod (v : View) (x : Int) : (∀ y, y ∈ namesV (tellV v x) → y = x ∨ y ∈ namesV v) ∧ ∀ y, y ∈ namesV v → y ∈ namesV (tellV v x) := by
 unfold tellV
 split
 ·exact zff v x
 ·exact ⟨fun y h => .inr h, fun y h => h⟩
theorem zzf : ∀ (ids : List Int) (v : View), (∀ y, y ∈ namesV (ids.foldl tellV v) → y ∈ ids ∨ y ∈ namesV v) ∧ ∀ y, y ∈ namesV v → y ∈ namesV (ids.foldl tellV v) := by
 intro ids
 induction ids with
 | nil => intro v; exact ⟨fun y h => .inr h, fun y h => h⟩
 | cons x ids ih =>
   intro v
   obtain ⟨a, b⟩ := ih (tellV v x)
   obtain ⟨c, d⟩ := zod v x
   refine ⟨fun y hy => ?_, fun y hy => b y (d y hy)⟩
   rcases a y hy with h | h
   ·exact .inl (by simp [h])
   ·rcases c y h with rfl | h
    ·exact .inl (by simp)
    ·exact .inr h
theorem zus (v : View) (x : Int) (ids : List Int) : (∀ y, y ∈ namesV (helloV v x ids) → y = x ∨ y ∈ ids ∨ y ∈ namesV v) ∧ ∀ y, y ∈ namesV v → y ∈ namesV (helloV v x ids) := by
 obtain ⟨a, b⟩ := zzf ids (knownV v x)
 obtain ⟨c, d⟩ := zff v x
 refine ⟨fun y hy => ?_, fun y hy => b y (d y hy)⟩
 rcases a y hy with h | h
 ·exact .inr (.inl h)
 ·rcases c y h with h | h
  ·exact .inl h
  ·exact .inr (.inr h)
theorem zf7 {v : View} (h : viewMay v = true) (y : Int) : y ∈ namesV (ageV v) ↔ y ∈ namesV v := by
 obtain ⟨_, _, h3⟩ := zhf h
 rw [zch, zch, h3]
 constructor
 ·rintro (⟨q, hq, rfl⟩ | hy | hy)
  ·obtain ⟨p, hp, _, rfl⟩ := zsk hq
   exact .inl ⟨p, hp, rfl⟩
  ·exact .inr hy
  ·obtain ⟨p, hp, _, rfl⟩ := zop hy
   exact .inl ⟨p, hp, rfl⟩
 ·rintro (⟨p, hp, rfl⟩ | hy)
  ·by_cases hm : p.missed + 1 = 3
   ·exact .inr (.inr (List.mem_map.2 ⟨p, List.mem_filter.2 ⟨hp, by simpa using hm⟩, rfl⟩))
   ·exact .inl ⟨⟨p.id, p.missed + 1⟩, List.mem_map.2 ⟨p, List.mem_filter.2 ⟨hp, by simpa using hm⟩, rfl⟩, rfl⟩
  ·exact .inr (.inl hy)
end Go.AM
/- AM: what an act makes of a world: it stays one that may be; nodes forget nothing. -/
namespace Go.AM
set_option linter.unusedSimpArgs false
set_option linter.unusedVariables false
set_option maxRecDepth 8000
set_option maxHeartbeats 0
def Better (is js : List Item) : Prop := ∀ i ∈ is, ∃ j, getS js i.key = some j ∧ bestI i j = j
structure NRel (x y : Node) : Prop where
 id : y.view.id = x.view.id
 items : x.up = true → y.up = true → Better x.items y.items
 names : x.up = true → y.up = true → ∀ n ∈ namesV x.view, n ∈ namesV y.view
theorem zxj {is : List Item} (h : storeMay is = true) : Better is is := fun i hi => ⟨i, z7t ((zdn is).1 h).2.1 hi, z1l i⟩
def LoneN (x : Node) : Prop := x.view.peers = [] ∧ x.view.passive = []
def Lonely (w : Wld) : Prop := w.packets = [] ∧ w.cuts = [] ∧ ∀ x ∈ w.nodes, LoneN x
structure Step (w : Wld) (a : Act) (v : Wld) : Prop where
 len : v.nodes.length = w.nodes.length
 rel : ∀ (k : Nat) (x y : Node), w.nodes[k]? = some x → v.nodes[k]? = some y → NRel x y
 lone : a.kind ≠ 4 → a.kind ≠ 5 → a.kind ≠ 7 → Lonely w → Lonely v ∧ ∀ k, k ≠ posN a.node w.nodes → v.nodes[k]? = w.nodes[k]?
theorem zha {x : Node} (h : nodeUp x = true) : nodeMay x = true := by
 simp only [nodeUp, Bool.and_eq_true] at h
 exact h.2
theorem z99 {is : List Item} (h : storeMay is = true) (k : Int) : (getR is k = (zeroItem, false)) ∨ ∃ i ∈ is, i.key = k ∧ itemMay i = true ∧ getR is k = (i, true) := by
 rw [z48 h]
 cases hg : getS is k with
 | none => exact .inl rfl
 | some i =>
   obtain ⟨h1, h2⟩ := z7k hg
   exact .inr ⟨i, h2, h1, ((zdn is).1 h).1 i h2, rfl⟩
theorem z5u {key : Int} {i : Item} {has : Bool} (hk : byte key = true) (h : has = true → itemMay i = true) : toldOdd (toldOf key i has) = false := by
 unfold toldOdd toldOf
 cases hh : (has && !i.gone) with
 | false => simp [hk]; rfl
 | true =>
   simp only [Bool.and_eq_true] at hh
   have := h hh.1
   simp only [itemMay, Bool.and_eq_true] at this
   simp [hk, this.1.1.2]
theorem z67 {x : Node} {t : Told} (h : x.log.length ≤ 64) (h1 : x.log.any toldOdd = false) (h2 : toldOdd t = false) : (logOf x t).length ≤ 64 ∧ (logOf x t).any toldOdd = false := by
 obtain ⟨l1, l2, _⟩ := z5p x t
 refine ⟨by omega, List.any_eq_false.2 fun u hu => ?_⟩
 have hu : u ∈ x.log ++ [t] := List.mem_of_mem_drop hu
 rcases List.mem_append.1 hu with hu | hu
 ·exact List.any_eq_false.1 h1 u hu
 ·rw [List.mem_singleton.1 hu]; simp [h2]
theorem z8k {w : Wld} {p : Nat} {u : Msg} (h : u ∈ leftP w p) : u ∈ w.packets := by
 rcases List.mem_append.1 h with h | h
 ·exact List.mem_of_mem_take h
 ·exact List.mem_of_mem_drop h
theorem z5c {v : View} (h : viewMay v = true) {to : Int} (ht : to ∈ greetV v) : msgMay (greetM v to) = true ∧ ∀ i ∈ namedM (greetM v to), i = v.id ∨ i ∈ namesV v := by
 obtain ⟨h1, h2, h3, h4⟩ := zas h
 have hpl := zc0 h1
 have hto : place to = true ∧ to ≠ v.id := by
  rcases List.mem_append.1 ht with h5 | h5
  ·obtain ⟨q, hq, rfl⟩ := List.mem_map.1 h5
   exact ⟨(hpl q hq).1, z3g h hq⟩
  ·exact ⟨zcy h2 to h5, (h4 to h5).1⟩
 constructor
 ·have hall : (v.peers.map Peer.id).all place = true := by
   rw [List.all_eq_true]
   intro y hy
   obtain ⟨q, hq, rfl⟩ := List.mem_map.1 hy
   exact (hpl q hq).1
  have hl := zvm h1
  simp [msgMay, greetM, zcc h, hto.1, Ne.symm hto.2, hl]
  intro q hq
  exact (hpl q hq).1
 ·intro i hi
  simp only [namedM, greetM, List.mem_cons] at hi
  rcases hi with rfl | rfl | hi
  ·exact .inl rfl
  ·exact .inr ht
  ·exact .inr (List.mem_append.2 (.inl hi))
theorem z8i {x : Node} (h : nodeUp x = true) {m : Msg} (hm : m ∈ (shareOf x).1) : msgMay m = true ∧ ∀ i ∈ namedM m, i = x.view.id ∨ i ∈ namesV x.view := by
 obtain ⟨p1, p2, p3, p4, p5⟩ := za5 h
 unfold shareOf at hm
 rw [if_pos h] at hm
 obtain ⟨i, hi, hs⟩ := List.mem_filterMap.1 hm
 have hmay := ((zdn _).1 p3).1 i hi
 have hkey : place i.key = true := by
  simp only [itemMay, Bool.and_eq_true] at hmay
  exact hmay.1.1.1
 have hown := z07 p2 hkey
 unfold shareOne at hs
 have hto : ∀ t, t = (if (ownerV x.view i.key).1 = x.view.id then (succV x.view).1 else (ownerV x.view i.key).1) → t ≠ x.view.id → ∃ q ∈ x.view.peers, q.id = t := by
  rintro t rfl hne
  rw [hown]
  simp only
  rw [hown] at hne
  simp only at hne
  split
  ·rename_i h1
   rw [if_pos h1] at hne
   unfold succV at hne ⊢
   rw [if_pos p2] at hne ⊢
   cases hps : x.view.peers with
   | nil => rw [hps] at hne; exact absurd rfl hne
   | cons p ps => exact ⟨p, by simp, rfl⟩
  ·rename_i h1
   rcases z93 x.view i.key with h2 | h2
   ·exact absurd h2 h1
   ·exact h2
 generalize (if (ownerV x.view i.key).1 = x.view.id then (succV x.view).1 else (ownerV x.view i.key).1) = t at *
 by_cases hc : t = x.view.id
 ·rw [if_pos hc] at hs; cases hs
 ·rw [if_neg hc] at hs
  cases hs
  obtain ⟨q, hq, hqt⟩ := hto t rfl hc
  have hqp := (zc0 (zas p2).1 q hq).1
  rw [hqt] at hqp
  constructor
  ·simp [msgMay, zcc p2, hqp, Ne.symm hc, hmay]
  ·intro j hj
   simp only [namedM, List.mem_cons, List.not_mem_nil, or_false] at hj
   rcases hj with rfl | rfl
   ·exact .inl rfl
   ·exact .inr (zch.2 (.inl ⟨q, hq, hqt⟩))
theorem z7l {x : Node} (h : nodeUp x = true) : nodeUp (tickN x) = true ∧ (tickM x).length ≤ 512 ∧ ∀ m ∈ tickM x, msgMay m = true ∧ ∀ i ∈ namedM m, i = x.view.id ∨ i ∈ namesV x.view := by
 obtain ⟨p1, p2, p3, p4, p5⟩ := za5 h
 obtain ⟨v1, v2, v3⟩ := zhf p2
 obtain ⟨l1, l2, l3, l4⟩ := zg2 h
 have hu : nodeUp (tickN x) = true := zjb p1 v1 p3 p4 p5
 refine ⟨hu, ?_, fun m hm => ?_⟩
 ·have h1 : (shareOf (tickN x)).1.length ≤ x.items.length := by
   unfold shareOf
   rw [hu]
   exact List.length_filterMap_le ..
  have h2 := (zas v1).2.2.1
  simp [tickM, greetV]
  omega
 ·rcases List.mem_append.1 hm with hm | hm
  ·obtain ⟨to, ht, rfl⟩ := List.mem_map.1 hm
   obtain ⟨a, b⟩ := z5c v1 ht
   refine ⟨a, fun i hi => ?_⟩
   rcases b i hi with rfl | hi
   ·exact .inl rfl
   ·exact .inr ((zf7 p2 i).1 hi)
  ·obtain ⟨a, b⟩ := z8i hu hm
   refine ⟨a, fun i hi => ?_⟩
   rcases b i hi with rfl | hi
   ·exact .inl rfl
   ·exact .inr ((zf7 p2 i).1 hi)
end Go.AM
/- AM: every act: the world that it makes may be, and its nodes forget nothing. -/
namespace Go.AM
set_option linter.unusedSimpArgs false
set_option linter.unusedVariables false
set_option maxRecDepth 8000
set_option maxHeartbeats 0
end Go.AM
/- AM: every act, the rest: a get, a packet delivered. -/
namespace Go.AM
set_option linter.unusedSimpArgs false
set_option linter.unusedVariables false
set_option maxRecDepth 8000
set_option maxHeartbeats 0
theorem z9z {x : Node} {t : Told} (hu : nodeUp x = true) (ht : toldOdd t = false) : nodeMay { x with log := logOf x t } = true ∧ NRel x { x with log := logOf x t } := by
 obtain ⟨h1, h2, h3, h4, h5⟩ := za5 hu
 obtain ⟨l1, l2⟩ := z67 h4 h5 ht
 exact ⟨zha (zjb h1 h2 h3 l1 l2), ⟨rfl, fun _ _ => zxj h3, fun _ _ n hn => hn⟩⟩
end Go.AM
/- AM: plain: whom nodes know, round by round. -/
namespace Go.AM
set_option linter.unusedSimpArgs false
set_option linter.unusedVariables false
def Pk (v : View) (n k : Int) : Prop := ∃ q ∈ v.peers, q.id = n ∧ q.missed ≤ k
theorem Pk.name {v : View} {n k : Int} (h : Pk v n k) : n ∈ namesV v := by
 obtain ⟨q, hq, he, _⟩ := h
 exact zch.2 (.inl ⟨q, hq, he⟩)
theorem Pk.le {v : View} {n k l : Int} (h : Pk v n k) (hl : k ≤ l) : Pk v n l := by
 obtain ⟨q, hq, he, hm⟩ := h
 exact ⟨q, hq, he, by omega⟩
def Kn (w : Wld) (i j : Int) : Prop := ∃ x ∈ w.nodes, x.view.id = i ∧ j ∈ namesV x.view
def Fr (w : Wld) (i j k : Int) : Prop := ∃ x ∈ w.nodes, x.view.id = i ∧ Pk x.view j k
theorem Fr.kn {w : Wld} {i j k : Int} (h : Fr w i j k) : Kn w i j := by
 obtain ⟨x, hx, he, hp⟩ := h
 exact ⟨x, hx, he, hp.name⟩
structure Brings (w v : Wld) : Prop where
 keeps : ∀ i j, Kn w i j → Kn v i j
 back : ∀ i j, Kn w i j → Fr v j i 0
 tells : ∀ i j k, Kn w i j → Fr w i k 1 → k ≠ j → Kn v j k
 fresh : w.packets = [] → ∀ i j, Kn v i j → Kn w i j ∨ Fr v i j 0
 stays : ∀ i j, Fr w i j 0 → Fr v i j 1
def Near (w : Wld) (i j : Int) : Prop := i = j ∨ Kn w i j ∨ Kn w j i
theorem Near.symm {w : Wld} {i j : Int} (h : Near w i j) : Near w j i := by
 rcases h with h | h | h
 ·exact .inl h.symm
 ·exact .inr (.inr h)
 ·exact .inr (.inl h)
def Dist (w : Wld) : Nat → Int → Int → Prop
 | 0, i, j => i = j
 | d + 1, i, j => ∃ m, Dist w d i m ∧ Near w m j
theorem Dist.one {w : Wld} {i j : Int} : Dist w 1 i j ↔ Near w i j := by
 constructor
 ·rintro ⟨m, rfl, h⟩; exact h
 ·intro h; exact ⟨i, rfl, h⟩
theorem Dist.step {w : Wld} {d : Nat} {i m j : Int} (h1 : Near w i m) : Dist w d m j → Dist w (d + 1) i j := by
 induction d generalizing j with
 | zero => rintro rfl; exact Dist.one.2 h1
 | succ d ih => rintro ⟨z, hz, hn⟩; exact ⟨z, ih hz, hn⟩
theorem Dist.symm {w : Wld} : ∀ {d : Nat} {i j : Int}, Dist w d i j → Dist w d j i := by
 intro d
 induction d with
 | zero => intro i j h; exact Eq.symm h
 | succ d ih =>
   rintro i j ⟨m, hm, hn⟩
   exact Dist.step hn.symm (ih hm)
theorem Dist.split {w : Wld} {a b : Nat} {i j : Int} (h : Dist w (a + b) i j) : ∃ m, Dist w a i m ∧ Dist w b m j := by
 induction b generalizing j with
 | zero => exact ⟨j, h, rfl⟩
 | succ b ih =>
   obtain ⟨z, hz, hn⟩ := h
   obtain ⟨m, h1, h2⟩ := ih hz
   exact ⟨m, h1, z, h2, hn⟩
theorem Dist.more {w : Wld} {d : Nat} {i j : Int} (h : Dist w d i j) : Dist w (d + 1) i j := ⟨j, h, .inl rfl⟩
theorem Dist.le {w : Wld} {d e : Nat} {i j : Int} (h : Dist w d i j) (hl : d ≤ e) : Dist w e i j := by
 induction e with
 | zero =>
   obtain rfl : d = 0 := by omega
   exact h
 | succ e ih =>
   by_cases he : d = e + 1
   ·subst he; exact h
   ·exact (ih (by omega)).more
theorem zx2 {α : Type} {p q : α → Bool} : ∀ (xs : List α), (∀ x ∈ xs, p x = true → q x = true) → (∃ x ∈ xs, q x = true ∧ p x = false) → (xs.filter p).length + 1 ≤ (xs.filter q).length := by
 intro xs
 induction xs with
 | nil => rintro _ ⟨x, hx, _⟩; cases hx
 | cons x xs ih =>
   intro h1 h2
   have hle : ∀ (ys : List α), (∀ x ∈ ys, p x = true → q x = true) → (ys.filter p).length ≤ (ys.filter q).length := by
    intro ys
    induction ys with
    | nil => intro _; simp
    | cons y ys ih2 =>
      intro h
      have i2 := ih2 fun z hz => h z (by simp [hz])
      have hy := h y (by simp)
      simp only [List.filter_cons]
      cases hp : p y with
      | false => cases hq : q y <;> simp <;> omega
      | true => rw [hy hp]; simp; omega
   have hl := hle xs fun z hz => h1 z (by simp [hz])
   obtain ⟨z, hz, hq, hp⟩ := h2
   rcases List.mem_cons.1 hz with rfl | hz
   ·simp only [List.filter_cons, hq, hp]; simp; omega
   ·have i2 := ih (fun y hy => h1 y (by simp [hy])) ⟨z, hz, hq, hp⟩
    have hx := h1 x (by simp)
    simp only [List.filter_cons]
    cases hpx : p x with
    | false => cases hqx : q x <;> simp <;> omega
    | true => rw [hx hpx]; simp; omega
open Classical in
theorem z7v {w : Wld} {S : List Int} {i : Int} (hi : i ∈ S) (hS : ∀ a b, Near w a b → a ∈ S → b ∈ S) : ∀ d, (∀ j, Dist w (d + 1) i j → Dist w d i j) ∨ d + 1 ≤ (S.filter fun j => decide (Dist w d i j)).length := by
 have hin : ∀ d j, Dist w d i j → j ∈ S := by
  intro d
  induction d with
  | zero => rintro j rfl; exact hi
  | succ d ih => rintro j ⟨m, hm, hn⟩; exact hS m j hn (ih m hm)
 intro d
 induction d with
 | zero =>
   right
   have : i ∈ S.filter fun j => decide (Dist w 0 i j) := List.mem_filter.2 ⟨hi, by simp [Dist]⟩
   have := List.length_pos_of_mem this
   omega
 | succ d ih =>
   rcases ih with h | h
   ·left
    rintro j ⟨m, hm, hn⟩
    exact ⟨m, h m hm, hn⟩
   ·by_cases hc : ∀ j, Dist w (d + 1) i j → Dist w d i j
    ·left
     rintro j ⟨m, hm, hn⟩
     exact ⟨m, hc m hm, hn⟩
    ·right
     have : ∃ j, Dist w (d + 1) i j ∧ ¬ Dist w d i j := by
      apply Classical.byContradiction
      intro hn
      exact hc fun j hj => Classical.byContradiction fun hh => hn ⟨j, hj, hh⟩
     obtain ⟨j, h1, h2⟩ := this
     have := zx2 (p := fun j => decide (Dist w d i j)) (q := fun j => decide (Dist w (d + 1) i j)) S (fun x _ hx => by simpa using (Dist.more (by simpa using hx))) ⟨j, hin _ _ h1, by simpa using h1, by simpa using h2⟩
     omega
theorem z8a {w : Wld} {S : List Int} {i : Int} (hi : i ∈ S) (hS : ∀ a b, Near w a b → a ∈ S → b ∈ S) (hl : S.length ≤ 8) {d : Nat} {j : Int} (h : Dist w d i j) : Dist w 8 i j := by
 rcases z7v hi hS 8 with h8 | h8
 ·have : ∀ e, ∀ j, Dist w (8 + e) i j → Dist w 8 i j := by
   intro e
   induction e with
   | zero => intro j h; exact h
   | succ e ih =>
     rintro j ⟨m, hm, hn⟩
     exact h8 j ⟨m, ih m hm, hn⟩
  by_cases hd : d ≤ 8
  ·exact h.le hd
  ·obtain ⟨e, rfl⟩ : ∃ e, d = 8 + e := ⟨d - 8, by omega⟩
   exact this e j h
 ·have := List.length_filter_le (fun j => @decide (Dist w 8 i j) (Classical.propDecidable _)) S
  omega
structure Rounds (s : Nat → Wld) (n : Nat) : Prop where
 brings : ∀ t, t < n → Brings (s t) (s (t + 1))
 empty : ∀ t, t < n → (s (t + 1)).packets = []
def KK (s : Nat → Wld) (t d : Nat) : Prop := ∀ i j, Dist (s 0) d i j → i ≠ j → Kn (s t) i j
def FF (s : Nat → Wld) (t d : Nat) : Prop := ∀ i j, Dist (s 0) d i j → i ≠ j → Fr (s t) i j 0
theorem z9k {s : Nat → Wld} {n t d : Nat} (h : Rounds s n) (ht : t < n) (hk : KK s t d) : KK s (t + 1) d := fun i j hd hn => (h.brings t ht).keeps i j (hk i j hd hn)
theorem ztr {s : Nat → Wld} {n t d : Nat} (h : Rounds s n) (ht : t < n) (hk : KK s t d) : FF s (t + 1) d := fun i j hd hn => (h.brings t ht).back j i (hk j i hd.symm (Ne.symm hn))
theorem zzs {s : Nat → Wld} {n t a b : Nat} (h : Rounds s n) (ht : t < n) (hk : KK s t a) (hf : FF s t b) : KK s (t + 1) (a + b) := by
 intro j k hd hn
 have hb := h.brings t ht
 obtain ⟨i, h1, h2⟩ := hd.split
 by_cases e1 : j = i
 ·subst e1; exact hb.keeps _ _ (hf _ _ h2 hn).kn
 ·by_cases e2 : i = k
  ·subst e2; exact hb.keeps _ _ (hk _ _ h1 hn)
  ·have f := hf i k h2 e2
   obtain ⟨x, hx, he, hp⟩ := f
   exact hb.tells i j k (hk i j h1.symm (Ne.symm e1)) ⟨x, hx, he, hp.le (by omega)⟩ (Ne.symm hn)
theorem qbt {s : Nat → Wld} {n : Nat} (h : Rounds s n) (hn : 0 < n) : KK s 1 1 := by
 intro i j hd hne
 have hb := h.brings 0 hn
 rcases Dist.one.1 hd with h1 | h1 | h1
 ·exact absurd h1 hne
 ·exact hb.keeps _ _ h1
 ·exact (hb.back _ _ h1).kn
theorem qbm {s : Nat → Wld} {n : Nat} (h : Rounds s n) (hn : 6 ≤ n) : KK s 6 8 := by
 have k1 := qbt h (by omega)
 have k2 := z9k h (show 1 < n by omega) k1
 have f2 := ztr h (show 1 < n by omega) k1
 have k3 := zzs h (show 2 < n by omega) k2 f2
 have f3 := ztr h (show 2 < n by omega) k2
 have k4 := zzs h (show 3 < n by omega) k3 f3
 have f4 := ztr h (show 3 < n by omega) k3
 have k5 := zzs h (show 4 < n by omega) k4 f4
 have f5 := ztr h (show 4 < n by omega) k4
 exact zzs h (show 5 < n by omega) k5 f5
def FullW (S : List Int) (w : Wld) : Prop := ∀ i ∈ S, ∀ j ∈ S, i ≠ j → Fr w i j 1
theorem z8b {s : Nat → Wld} {n : Nat} (h : Rounds s n) (hn : 6 ≤ n) {S : List Int} (hc : ∀ i ∈ S, ∀ j ∈ S, Dist (s 0) 8 i j) : FullW S (s 6) := by
 intro i hi j hj hne
 have k6 := qbm h hn i j (hc i hi j hj) hne
 have b4 := h.brings 4 (by omega)
 have b5 := h.brings 5 (by omega)
 have wk : ∀ w, Fr w i j 0 → Fr w i j 1 := by
  rintro w ⟨x, hx, he, hp⟩
  exact ⟨x, hx, he, hp.le (by omega)⟩
 rcases b5.fresh (h.empty 4 (by omega)) i j k6 with k5 | f
 ·rcases b4.fresh (h.empty 3 (by omega)) i j k5 with k4 | f
  ·exact wk _ (b5.back _ _ (b4.back _ _ k4).kn)
  ·exact b5.stays _ _ f
 ·exact wk _ f
theorem z5t {w v : Wld} {S : List Int} (h : Brings w v) (hf : FullW S w) : FullW S v := by
 intro i hi j hj hne
 obtain ⟨x, hx, he, hp⟩ := h.back _ _ (hf j hj i hi (Ne.symm hne)).kn
 exact ⟨x, hx, he, hp.le (by omega)⟩
end Go.AM
/- AM: plain: what a greeting and a tick bring. -/
namespace Go.AM
set_option linter.unusedSimpArgs false
set_option linter.unusedVariables false
theorem zpd {α : Type} [DecidableEq α] : ∀ (xs ys : List α), xs.Nodup → (∀ x ∈ xs, x ∈ ys) → xs.length ≤ ys.length := by
 intro xs
 induction xs with
 | nil => intro ys _ _; simp
 | cons x xs ih =>
   intro ys hn hs
   rw [List.nodup_cons] at hn
   have hx := hs x (by simp)
   have := ih (ys.erase x) hn.2 fun y hy => (List.mem_erase_of_ne (fun e => hn.1 (by rw [← e]; exact hy))).2 (hs y (by simp [hy]))
   rw [List.length_erase_of_mem hx] at this
   have := List.length_pos_of_mem hx
   simp; omega
theorem zww {v : View} (h : viewMay v = true) : (namesV v).Nodup := by
 obtain ⟨h1, h2, h3, h4⟩ := zas h
 refine List.nodup_append.2 ⟨?_, ?_, ?_⟩
 ·unfold List.Nodup
  rw [List.pairwise_map]
  refine (zbi.1 h1).2.2.2.imp ?_
  intro a b hab he
  rw [he] at hab
  omega
 ·exact ((zb1 _).1 h2).1.imp fun hab e => by omega
 ·rintro a ha b hb rfl
  exact (h4 a hb).2 ha
def Among (S : List Int) (v : View) : Prop := viewMay v = true ∧ ∀ n ∈ namesV v, n ∈ S
theorem zr7 {S : List Int} {v : View} (hl : S.length ≤ 8) (h : Among S v) (x : Int) : roomV v x = true := by
 have := zpd _ _ (zww h.1) h.2
 unfold roomV
 have e : v.peers.length + v.passive.length = (namesV v).length := by simp [namesV]
 rw [e, decide_eq_true (show (namesV v).length < 16 by omega)]
 simp
structure Grows (v u : View) : Prop where
 id : u.id = v.id
 names : ∀ n ∈ namesV v, n ∈ namesV u
 peers : ∀ n k, 0 ≤ k → Pk v n k → Pk u n k
 new : ∀ n ∈ namesV u, n ∈ namesV v ∨ Pk u n 0
theorem Grows.refl (v : View) : Grows v v := ⟨rfl, fun _ h => h, fun _ _ _ h => h, fun _ h => .inl h⟩
theorem Grows.trans {a b c : View} (h : Grows a b) (g : Grows b c) : Grows a c := by
 refine ⟨g.id.trans h.id, fun n hn => g.names n (h.names n hn), fun n k hk hp => g.peers n k hk (h.peers n k hk hp), fun n hn => ?_⟩
 rcases g.new n hn with h1 | h1
 ·rcases h.new n h1 with h2 | h2
  ·exact .inl h2
  ·exact .inr (g.peers n 0 (by omega) h2)
 ·exact .inr h1
theorem znu (v : View) (x : Int) : Grows v (knownV v x) := by
 cases hr : roomV v x with
 | false => rw [zhx hr]; exact .refl v
 | true =>
   refine ⟨zgn v x, (zff v x).2, fun n k hk => ?_, fun n hn => ?_⟩
   ·rintro ⟨q, hq, rfl, hm⟩
    by_cases he : q.id = x
    ·exact ⟨⟨x, 0⟩, (zcm hr _).2 (.inl rfl), he.symm, hk⟩
    ·exact ⟨q, (zcm hr _).2 (.inr ⟨hq, he⟩), rfl, hm⟩
   ·rcases (zff v x).1 n hn with rfl | h
    ·exact .inr ⟨⟨n, 0⟩, (zcm hr _).2 (.inl rfl), rfl, by simp⟩
    ·exact .inl h
theorem zy8 (v : View) (x : Int) : Grows v (tellV v x) := by
 unfold tellV
 split
 ·exact znu v x
 ·exact .refl v
theorem zk8 : ∀ (ids : List Int) (v : View), Grows v (ids.foldl tellV v) := by
 intro ids
 induction ids with
 | nil => intro v; exact .refl v
 | cons x ids ih => intro v; exact (zy8 v x).trans (ih (tellV v x))
theorem znh (v : View) (a : Int) (ids : List Int) : Grows v (helloV v a ids) := (znu v a).trans (zk8 ids _)
theorem z1k {S : List Int} (hl : S.length ≤ 8) : ∀ (ids : List Int) (v : View), Among S v → (∀ x ∈ ids, place x = true ∧ x ∈ S) → ∀ k ∈ ids, k ≠ v.id → k ∈ namesV (ids.foldl tellV v) := by
 intro ids
 induction ids with
 | nil => intro v _ _ k hk; cases hk
 | cons x ids ih =>
   intro v hv hp k hk hn
   have hA : Among S (tellV v x) := ⟨zu3 hv.1 (hp x (by simp)).1, fun n hn => by
    rcases (zod v x).1 n hn with rfl | h
    ·exact (hp n (by simp)).2
    ·exact hv.2 n h⟩
   by_cases hkx : k = x
   ·subst hkx
    refine (zk8 ids _).names k ?_
    unfold tellV
    cases hkn : knowsV v k with
    | true =>
      rw [if_neg (by simp)]
      exact zch.2 (by simpa using (zrh v k).1 hkn)
    | false =>
      rw [if_pos (by simp [hn])]
      exact zch.2 (.inl ⟨⟨k, 0⟩, (zcm (zr7 hl hv k) _).2 (.inl rfl), rfl⟩)
   ·rcases List.mem_cons.1 hk with e | hk
    ·exact absurd e hkx
    ·exact ih _ hA (fun y hy => hp y (by simp [hy])) k hk (by rw [z0i]; exact hn)
theorem zyf {S : List Int} (hl : S.length ≤ 8) {v : View} {a : Int} {ids : List Int} (h : Among S v) (hp : place a = true) (ha : a ∈ S) (hne : a ≠ v.id) (hi : ∀ x ∈ ids, place x = true ∧ x ∈ S) :
 Pk (helloV v a ids) a 0 ∧ ∀ k ∈ ids, k ≠ v.id → k ∈ namesV (helloV v a ids) := by
 have hr := zr7 hl h a
 have hA : Among S (knownV v a) := ⟨(zhd h.1 hp hne).1, fun n hn => by
  rcases (zff v a).1 n hn with rfl | h2
  ·exact ha
  ·exact h.2 n h2⟩
 refine ⟨(zk8 ids _).peers a 0 (by omega) ⟨⟨a, 0⟩, (zcm hr _).2 (.inl rfl), rfl, by simp⟩, fun k hk hn => ?_⟩
 exact z1k hl ids _ hA hi k hk (by rw [zgn]; exact hn)
theorem z45 {v : View} {n k : Int} (h : Pk v n k) (hk : k ≤ 1) : Pk (ageV v) n (k + 1) := by
 obtain ⟨q, hq, rfl, hm⟩ := h
 refine ⟨⟨q.id, q.missed + 1⟩, ?_, rfl, by show q.missed + 1 ≤ k + 1; omega⟩
 exact List.mem_map.2 ⟨q, List.mem_filter.2 ⟨hq, by simp; omega⟩, rfl⟩
theorem zv5 {v : View} (h : viewMay v = true) {j : Int} (hj : j ∈ namesV v) : j ∈ greetV (ageV v) := (zf7 h j).2 hj
end Go.AM
/- AM: acts in a world in which all are up and nothing is cut, told exactly. -/
namespace Go.AM
set_option linter.unusedSimpArgs false
set_option linter.unusedVariables false
set_option maxRecDepth 8000
set_option maxHeartbeats 0
structure Fine (S : List Int) (w : Wld) : Prop where
 may : May w
 up : ∀ x ∈ w.nodes, x.up = true
 cuts : w.cuts = []
 ids : idsN w.nodes = S
theorem Fine.node {S : List Int} {w : Wld} (h : Fine S w) {x : Node} (hx : x ∈ w.nodes) : nodeUp x = true := by
 simp only [nodeUp, Bool.and_eq_true]
 exact ⟨h.up x hx, h.may.node hx⟩
theorem Fine.len {S : List Int} {w : Wld} (h : Fine S w) : w.nodes.length = S.length := by rw [← h.ids]; simp [idsN]
theorem Fine.few {S : List Int} {w : Wld} (h : Fine S w) : S.length ≤ 8 := by rw [← h.len]; exact (zbm h.may.nodes).2.2.2
theorem Fine.pair {S : List Int} {w : Wld} (h : Fine S w) : w.nodes.Pairwise (fun x y => x.view.id < y.view.id) := (zbm h.may.nodes).2.1
theorem zz3 {ns : List Node} (h : ns.Pairwise (fun x y => x.view.id < y.view.id)) {P Q : Nat} {x y : Node} (hx : ns[P]? = some x) (hy : ns[Q]? = some y) (he : x.view.id = y.view.id) : P = Q := by
 obtain ⟨h1, rfl⟩ := List.getElem?_eq_some_iff.1 hx
 obtain ⟨h2, rfl⟩ := List.getElem?_eq_some_iff.1 hy
 rw [List.pairwise_iff_getElem] at h
 rcases Nat.lt_trichotomy P Q with hl | hl | hl
 ·have := h P Q h1 h2 hl; omega
 ·exact hl
 ·have := h Q P h2 h1 hl; omega
theorem zwo {ns : List Node} (h : ns.Pairwise (fun x y => x.view.id < y.view.id)) {x y : Node} (hx : x ∈ ns) (hy : y ∈ ns) (he : x.view.id = y.view.id) : x = y := by
 obtain ⟨P, hP⟩ := List.getElem?_of_mem hx
 obtain ⟨Q, hQ⟩ := List.getElem?_of_mem hy
 have := zz3 h hP hQ he
 subst this
 rw [hP] at hQ
 exact Option.some.inj hQ
def TurnM (x : Node) (m : Msg) (y : Node) (ms : List Msg) : Prop :=
 (m.kind = 0 ∧ y = { x with view := helloV x.view m.from_ m.ids } ∧ ms = []) ∨ (m.kind = 1 ∧ y = takeI x m.item ∧ ms = []) ∨
   (m.kind = 2 ∧ y = x ∧ ms = [tellOf x m]) ∨ (m.kind = 3 ∧ y = { x with log := logOf x (mT m) } ∧ ms = [])
def Del (S : List Int) (w v : Wld) : Prop :=
 Fine S v ∧ ∃ (m : Msg) (ps : List Msg) (P : Nat) (x y : Node) (ms : List Msg), w.packets = m :: ps ∧ w.nodes[P]? = some x ∧ x.view.id = m.to ∧ msgMay m = true ∧ (∀ i ∈ namedM m, i ∈ S) ∧ TurnM x m y ms ∧ v = ⟨w.nodes.set P y, [], ps ++ ms⟩
def delA : Act := ⟨1, 0, 0, 0, [], 0, 0⟩
def tickA (id : Int) : Act := ⟨0, id, 0, 0, [], 0, 0⟩
def Tik (S : List Int) (P : Nat) (w v : Wld) : Prop := Fine S v ∧ ∃ x, w.nodes[P]? = some x ∧ v = sendW ⟨w.nodes.set P (tickN x), [], w.packets⟩ (tickM x)
theorem z9a (a b : Int) : (isC [] a b).1 = false := by
 unfold isC
 split <;> simp
theorem z0m {S : List Int} {w : Wld} (h : Fine S w) {P : Nat} {x y : Node} (hx : w.nodes[P]? = some x) (hu : y.up = true) (hid : y.view.id = x.view.id) {ps : List Msg} (hm : May ⟨w.nodes.set P y, w.cuts, ps⟩) : Fine S ⟨w.nodes.set P y, [], ps⟩ := by
 refine ⟨by rw [h.cuts] at hm; exact hm, fun z hz => ?_, rfl, ?_⟩
 ·rcases zmp hz with rfl | hz
  ·exact hu
  ·exact h.up z hz
 ·show idsN (w.nodes.set P y) = S
  rw [zlr hx hid, h.ids]
theorem z9c {S : List Int} {w : Wld} (hF : Fine S w) (hne : w.packets ≠ []) : ∃ v, Den PP 20 [wldD w, actD delA] [] (.tup [wldD v, .int .i64 0]) [] ∧ Del S w v := by
 have hM := hF.may
 have hw := zfo.2 hM
 have h : mayA w delA = true := rfl
 have hi : delA.ids.length ≤ cap := by simp [delA, cap]
 have h0 : (0 : Int) ≤ delA.pick := by simp [delA]
 have hp : delA.pick ≤ 65535 := by simp [delA]
 obtain ⟨m, ps, hps⟩ : ∃ m ps, w.packets = m :: ps := by
  cases hc : w.packets with
  | nil => exact absurd hc hne
  | cons m ps => exact ⟨m, ps, rfl⟩
 have hpp : pickP w delA = 0 := by simp [pickP, delA]
 have hleft : leftP w 0 = ps := by simp [leftP, hps]
 have hm : w.packets[pickP w delA]? = some m := by rw [hpp, hps]; rfl
 obtain ⟨mm, hnm⟩ := hM.inM m (List.mem_of_getElem? hm)
 have hto : m.to ∈ idsN w.nodes := hnm m.to (by simp [namedM])
 have hn := (zte hM.nodes).2 hto
 obtain ⟨x, hx, hid⟩ := zw9 hn
 have hr := zhe hM.nodes m.to
 have hxm := List.mem_of_getElem? hx
 have hlen := hM.len
 rw [hps, List.length_cons] at hlen
 have hlm : ∀ u ∈ leftP w (pickP w delA), msgMay u = true ∧ ∀ i ∈ namedM u, i ∈ idsN w.nodes := fun u hu => hM.inM u (z8k hu)
 have hcut : (isC w.cuts m.from_ m.to).1 = false := by rw [hF.cuts]; exact z9a _ _
 have hu := hF.node hxm
 have hb : doB x m = true := by simp [doB, hu, mm, hid]
 have hmt : m.to = x.view.id := hid.symm
 obtain ⟨p1, p2, p3, p4, p5⟩ := za5 hu
 have fin : ∀ (y : Node) (ms : List Msg), nodeMay y = true → y.up = true → y.view.id = x.view.id → (∀ i ∈ namedN y, i ∈ idsN w.nodes) → (∀ u ∈ ms, msgMay u = true ∧ ∀ i ∈ namedM u, i ∈ idsN w.nodes) → ms.length ≤ 1 → TurnM x m y ms →
  (worldMay ⟨w.nodes.set (posN m.to w.nodes) y, w.cuts, leftP w (pickP w delA)⟩ = true → worldMay ⟨w.nodes.set (posN m.to w.nodes) y, w.cuts, ms⟩ = true →
    Den PP 60 [.ptr 0 0 0, .ptr 4 0 0] (actB w delA) (.tup []) (doS ⟨w.nodes.set (posN m.to w.nodes) y, w.cuts, leftP w (pickP w delA)⟩ (sendW ⟨w.nodes.set (posN m.to w.nodes) y, w.cuts, leftP w (pickP w delA)⟩ ms) w.packets delA)) →
  ∃ v, Den PP 20 [wldD w, actD delA] [] (.tup [wldD v, .int .i64 0]) [] ∧ Del S w v := by
  intro y ms hy hyu hid2 hny hms hml ht hd
  rw [hpp, hleft] at hd hlm
  have q1 := hM.set hx hy hid2 hny (ps := ps) (by omega) hlm
  have q2 := hM.set hx hy hid2 hny (ps := ms) (by omega) hms
  have e := zlr (y := y) hx hid2
  have q3 := q1.send (ms := ms) (fun u hu => ⟨(hms u hu).1, fun i hi => by show i ∈ idsN (w.nodes.set _ _); rw [e]; exact (hms u hu).2 i hi⟩)
  have es : sendW ⟨w.nodes.set (posN m.to w.nodes) y, w.cuts, ps⟩ ms = ⟨w.nodes.set (posN m.to w.nodes) y, w.cuts, ps ++ ms⟩ := by
   unfold sendW
   simp only
   rw [List.take_of_length_le (by omega)]
  rw [es] at hd q3
  have hf := z0m hF hx hyu hid2 q3
  refine ⟨⟨w.nodes.set (posN m.to w.nodes) y, w.cuts, ps ++ ms⟩, z4i w delA hi hw h rfl _ _ _ (hd (zfo.2 q1) (zfo.2 q2)), ?_⟩
  rw [hF.cuts]
  exact ⟨hf, m, ps, _, x, y, ms, hps, hx, hid, mm, fun i hi => by rw [← hF.ids]; exact hnm i hi, ht, rfl⟩
 have hnx : ∀ i ∈ namedN x, i ∈ idsN w.nodes := hM.inN x hxm
 rcases z20 mm with hkm | hkm | hkm | hkm
 ·have hok := zsn hu mm hkm hmt
  obtain ⟨v1, v2⟩ := zm5 hok
  obtain ⟨n1, n2⟩ := zus x.view m.from_ m.ids
  refine fin { x with view := helloV x.view m.from_ m.ids } [] (zha (zjb p1 v1 p3 p4 p5)) p1 v2 (fun i hi => ?_) (by simp) (by simp) (.inl ⟨hkm, rfl, rfl⟩) (zqx w delA m x hw h0 hp hm hr hcut hn hx hb hkm)
  rcases n1 i hi with rfl | hi | hi
  ·exact hnm m.from_ (by simp [namedM])
  ·exact hnm i (by simp [namedM, hi])
  ·exact hnx i hi
 ·have hvw : (takeI x m.item).view = x.view ∧ (takeI x m.item).up = x.up := by unfold takeI; split <;> exact ⟨rfl, rfl⟩
  refine fin (takeI x m.item) [] (zha (z77 hu)) (hvw.2.trans p1) (by rw [hvw.1]) (fun i hi => ?_) (by simp) (by simp) (.inr (.inl ⟨hkm, rfl, rfl⟩)) (zqz w delA m x hw h0 hp hm hr hcut hn hx hb hkm)
  have hi : i ∈ namesV (takeI x m.item).view := hi
  rw [hvw.1] at hi
  exact hnx i hi
 ·refine fin x [tellOf x m] (hM.node hxm) p1 rfl hnx (fun u hu' => ?_) (by simp) (.inr (.inr (.inl ⟨hkm, rfl, rfl⟩))) (zqe w delA m x hw h0 hp hm hr hcut hn hx hb hkm)
  rw [List.mem_singleton.1 hu']
  have mm' := mm
  simp [msgMay, hkm] at mm'
  obtain ⟨f1, f2, f3, ⟨⟨_, f4⟩, _⟩, _⟩ := mm'
  have hne : ¬ x.view.id = m.from_ := fun e => f3 (by rw [hmt]; exact e.symm)
  constructor
  ·rw [hmt] at f2
   rcases z99 p3 m.key with e | ⟨i, _, hik, hi, e⟩
   ·simp [msgMay, tellOf, e, f1, f2, f4, hne]
   ·simp [msgMay, tellOf, e, f1, f2, f4, hne, hi, hik]
  ·intro i hi
   simp only [namedM, tellOf, List.mem_cons, List.not_mem_nil, or_false] at hi
   rcases hi with rfl | rfl
   ·exact ze7.2 ⟨x, hxm, rfl⟩
   ·exact hnm m.from_ (by simp [namedM])
 ·have ht : toldOdd (mT m) = false := by
   have mm' := mm
   simp [msgMay, hkm] at mm'
   obtain ⟨_, _, _, ⟨_, f4⟩, f5⟩ := mm'
   refine z5u f4 fun hh => ?_
   rw [hh] at f5
   simp at f5
   exact f5.1
  obtain ⟨l1, l2⟩ := z9z hu ht
  exact fin { x with log := logOf x (mT m) } [] l1 p1 rfl hnx (by simp) (by simp) (.inr (.inr (.inr ⟨hkm, rfl, rfl⟩))) (zq0 w delA m x hw h0 hp hm hr hcut hn hx hb hkm)
theorem z7n {S : List Int} {w : Wld} (hF : Fine S w) {P : Nat} {x : Node} (hx : w.nodes[P]? = some x) : ∃ v, Den PP 20 [wldD w, actD (tickA x.view.id)] [] (.tup [wldD v, .int .i64 0]) [] ∧ Tik S P w v := by
 have hM := hF.may
 have hw := zfo.2 hM
 have hxm := List.mem_of_getElem? hx
 have hn : isN x.view.id w.nodes = true := (zte hM.nodes).2 (ze7.2 ⟨x, hxm, rfl⟩)
 have h : mayA w (tickA x.view.id) = true := by
  unfold mayA tickA
  simp [hn]
 have hi : (tickA x.view.id).ids.length ≤ cap := by simp [tickA, cap]
 obtain ⟨x', hx', hid⟩ := zw9 hn
 have hpos : P = posN x.view.id w.nodes := zz3 hF.pair hx hx' hid.symm
 have hr := zhe hM.nodes x.view.id
 have hu := hF.node hxm
 obtain ⟨t1, t2, t3⟩ := z7l hu
 have hv := (za5 hu).2.1
 have hin : ∀ i, i = x.view.id ∨ i ∈ namesV x.view → i ∈ idsN w.nodes := by
  rintro i (rfl | hi)
  ·exact ze7.2 ⟨x, hxm, rfl⟩
  ·exact hM.inN x hxm i hi
 have hn1 : ∀ i ∈ namedN (tickN x), i ∈ idsN w.nodes := fun i hi => hin i (.inr ((zf7 hv i).1 hi))
 have hms : ∀ m ∈ tickM x, msgMay m = true ∧ ∀ i ∈ namedM m, i ∈ idsN w.nodes := fun m hm => ⟨(t3 m hm).1, fun i hi => hin i ((t3 m hm).2 i hi)⟩
 have m1 := hM.set hx (zha t1) rfl hn1 hM.len hM.inM
 have m2 := hM.set hx (zha t1) rfl hn1 t2 hms
 have e := zlr (y := tickN x) hx rfl
 have ms := m1.send (ms := tickM x) fun m hm => ⟨(hms m hm).1, fun i hi => by show i ∈ idsN (w.nodes.set _ _); rw [e]; exact (hms m hm).2 i hi⟩
 have hf : Fine S (sendW ⟨w.nodes.set P (tickN x), w.cuts, w.packets⟩ (tickM x)) := by
  have := z0m hF hx (za5 t1).1 rfl (ps := (sendW ⟨w.nodes.set P (tickN x), w.cuts, w.packets⟩ (tickM x)).packets) ms
  unfold sendW at this ⊢
  rw [hF.cuts]
  exact this
 have hxp := hx
 rw [hpos] at hxp m1 m2
 have hd := z3r w (tickA x.view.id) x (zbr hw) hr hn hxp hu (zfo.2 m1) (zfo.2 m2)
 rw [show posN (tickA x.view.id).node w.nodes = P from hpos.symm] at hd
 refine ⟨_, z4k w (tickA x.view.id) hi hw h rfl _ _ _ hd, hf, x, hx, ?_⟩
 rw [hF.cuts]
end Go.AM
/- AM: plain: deliveries, ticks, rounds. -/
namespace Go.AM
set_option linter.unusedSimpArgs false
set_option linter.unusedVariables false
set_option maxRecDepth 8000
set_option maxHeartbeats 0
def potM (m : Msg) : Nat := if m.kind = 2 then 2 else 1
def pot : List Msg → Nat
 | [] => 0
 | m :: ms => potM m + pot ms
theorem z2i : ∀ (a b : List Msg), pot (a ++ b) = pot a + pot b := by
 intro a
 induction a with
 | nil => intro b; simp [pot]
 | cons m a ih => intro b; simp [pot, ih]; omega
theorem z8w : ∀ (a : List Msg), a.length ≤ pot a ∧ pot a ≤ 2 * a.length := by
 intro a
 induction a with
 | nil => simp [pot]
 | cons m a ih =>
   have : 1 ≤ potM m ∧ potM m ≤ 2 := by unfold potM; split <;> omega
   simp [pot]; omega
theorem z9i {S : List Int} {w v : Wld} (h : Del S w v) : pot v.packets + 1 = pot w.packets := by
 obtain ⟨hf, m, ps, P, x, y, ms, h1, h2, h3, h4, h5, h6, rfl⟩ := h
 rw [h1]
 show pot (ps ++ ms) + 1 = potM m + pot ps
 rw [z2i]
 rcases h6 with ⟨hk, -, rfl⟩ | ⟨hk, -, rfl⟩ | ⟨hk, -, rfl⟩ | ⟨hk, -, rfl⟩
 ·simp [pot, potM, hk]; omega
 ·simp [pot, potM, hk]; omega
 ·simp [pot, potM, hk, tellOf]; omega
 ·simp [pot, potM, hk]; omega
inductive Dels (S : List Int) : Wld → Wld → Prop
 | refl {w : Wld} : Fine S w → Dels S w w
 | snoc {w u v : Wld} : Dels S w u → Del S u v → Dels S w v
theorem Dels.fine {S : List Int} {w v : Wld} (h : Dels S w v) : Fine S v := by
 cases h with
 | refl h => exact h
 | snoc _ h => exact h.1
theorem z5b {S : List Int} {w v : Wld} (h : Dels S w v) : w.packets = [] → v = w := by
 induction h with
 | refl _ => intro _; rfl
 | snoc h1 h2 ih =>
   intro he
   have e := ih he
   subst e
   obtain ⟨_, m, ps, _, _, _, _, hp, _⟩ := h2
   rw [he] at hp
   cases hp
structure PairW (R : Node → Node → Prop) (w v : Wld) : Prop where
 len : v.nodes.length = w.nodes.length
 rel : ∀ (k : Nat) (x y : Node), w.nodes[k]? = some x → v.nodes[k]? = some y → R x y
theorem z5r {R : Node → Node → Prop} (hr : ∀ x, R x x) (w : Wld) : PairW R w w := ⟨rfl, fun k x y hx hy => by rw [hx] at hy; cases hy; exact hr x⟩
theorem z2l {R : Node → Node → Prop} (ht : ∀ x y z, R x y → R y z → R x z) {a b c : Wld} (h : PairW R a b) (g : PairW R b c) : PairW R a c := by
 refine ⟨g.len.trans h.len, fun k x z hx hz => ?_⟩
 have hk := (List.getElem?_eq_some_iff.1 hx).1
 obtain ⟨y, hy⟩ : ∃ y, b.nodes[k]? = some y := ⟨_, List.getElem?_eq_getElem (by rw [h.len]; exact hk)⟩
 exact ht _ _ _ (h.rel k x y hx hy) (g.rel k y z hy hz)
theorem zz2 {R : Node → Node → Prop} (hr : ∀ x, R x x) {w : Wld} {P : Nat} {x y : Node} (hx : w.nodes[P]? = some x) (h : R x y) {cs : List Cut} {ps : List Msg} : PairW R w ⟨w.nodes.set P y, cs, ps⟩ := by
 refine ⟨by simp, fun k u z hu hz => ?_⟩
 have hlt := (List.getElem?_eq_some_iff.1 hx).1
 simp only [List.getElem?_set] at hz
 by_cases hk : P = k
 ·subst hk
  rw [if_pos rfl, if_pos hlt] at hz
  cases hz
  rw [hx] at hu
  cases hu
  exact h
 ·rw [if_neg hk, hu] at hz
  cases hz
  exact hr u
theorem z5d {R : Node → Node → Prop} (hr : ∀ x, R x x) (ht : ∀ x y z, R x y → R y z → R x z) (hs : ∀ x m y ms, TurnM x m y ms → R x y) {S : List Int} {w v : Wld} (h : Dels S w v) : PairW R w v := by
 induction h with
 | refl _ => exact z5r hr _
 | snoc h1 h2 ih =>
   obtain ⟨_, m, ps, P, x, y, ms, _, hx, _, _, _, h6, rfl⟩ := h2
   exact z2l ht ih (zz2 hr hx (hs _ _ _ _ h6))
theorem z0o (x : Node) (i : Item) : (takeI x i).view = x.view := by unfold takeI; split <;> rfl
def GrowN (x y : Node) : Prop := Grows x.view y.view
theorem zr9 {x y : Node} {m : Msg} {ms : List Msg} (h : TurnM x m y ms) : GrowN x y := by
 rcases h with ⟨-, rfl, -⟩ | ⟨-, rfl, -⟩ | ⟨-, rfl, -⟩ | ⟨-, rfl, -⟩
 ·exact znh _ _ _
 ·unfold GrowN; rw [z0o]; exact .refl _
 ·exact .refl _
 ·exact .refl _
theorem zvt {S : List Int} {w v : Wld} (h : Dels S w v) : PairW GrowN w v := z5d (R := GrowN) (fun x => Grows.refl _) (fun x y z h g => Grows.trans h g) (fun x m y ms h => zr9 h) h
theorem z0c {R : Node → Node → Prop} {w v : Wld} (h : PairW R w v) {x : Node} (hx : x ∈ w.nodes) : ∃ y ∈ v.nodes, R x y := by
 obtain ⟨k, hk, rfl⟩ := List.getElem_of_mem hx
 have hk' : k < v.nodes.length := by rw [h.len]; exact hk
 exact ⟨v.nodes[k], List.getElem_mem hk', h.rel k _ _ (List.getElem?_eq_getElem hk) (List.getElem?_eq_getElem hk')⟩
theorem z6v {R : Node → Node → Prop} {w v : Wld} (h : PairW R w v) {y : Node} (hy : y ∈ v.nodes) : ∃ x ∈ w.nodes, R x y := by
 obtain ⟨k, hk, rfl⟩ := List.getElem_of_mem hy
 have hk' : k < w.nodes.length := by rw [← h.len]; exact hk
 exact ⟨w.nodes[k], List.getElem_mem hk', h.rel k _ _ (List.getElem?_eq_getElem hk') (List.getElem?_eq_getElem hk)⟩
theorem zpm {w v : Wld} (h : PairW GrowN w v) {i j : Int} (hk : Kn w i j) : Kn v i j := by
 obtain ⟨x, hx, he, hj⟩ := hk
 obtain ⟨y, hy, hr⟩ := z0c h hx
 exact ⟨y, hy, hr.id.trans he, hr.names j hj⟩
theorem zts {w v : Wld} (h : PairW GrowN w v) {i j k : Int} (h0 : 0 ≤ k) (hk : Fr w i j k) : Fr v i j k := by
 obtain ⟨x, hx, he, hj⟩ := hk
 obtain ⟨y, hy, hr⟩ := z0c h hx
 exact ⟨y, hy, hr.id.trans he, hr.peers j k h0 hj⟩
theorem z6p {w v : Wld} (h : PairW GrowN w v) {i j : Int} (hk : Kn v i j) : Kn w i j ∨ Fr v i j 0 := by
 obtain ⟨y, hy, he, hj⟩ := hk
 obtain ⟨x, hx, hr⟩ := z6v h hy
 rcases hr.new j hj with h1 | h1
 ·exact .inl ⟨x, hx, hr.id.symm.trans he, h1⟩
 ·exact .inr ⟨y, hy, he, h1⟩
def Heard (m : Msg) (w : Wld) : Prop := Fr w m.to m.from_ 0 ∧ ∀ k ∈ m.ids, k ≠ m.to → Kn w m.to k
theorem z4x {S : List Int} {u v : Wld} (hu : Fine S u) (h : Del S u v) {m : Msg} (hk : m.kind = 0) (hm : m ∈ u.packets) : m ∈ v.packets ∨ Heard m v := by
 obtain ⟨hf, m0, ps, P, x, y, ms, h1, h2, h3, h4, h5, h6, rfl⟩ := h
 rw [h1] at hm
 rcases List.mem_cons.1 hm with rfl | hm
 ·right
  rcases h6 with ⟨_, rfl, _⟩ | ⟨h7, _⟩ | ⟨h7, _⟩ | ⟨h7, _⟩
  ·have hx := List.mem_of_getElem? h2
   have hlt := (List.getElem?_eq_some_iff.1 h2).1
   have hA : Among S x.view := ⟨(za5 (hu.node hx)).2.1, fun n hn => by rw [← hu.ids]; exact hu.may.inN x hx n hn⟩
   have mm := h4
   simp only [msgMay, hk, if_true, Bool.and_eq_true, Bool.not_eq_true', decide_eq_false_iff_not, decide_eq_true_eq, List.all_eq_true] at mm
   obtain ⟨k1, k2, k3, ⟨⟨_, k5⟩, k6⟩⟩ := mm
   have key := zyf hu.few hA k1 (h5 _ (by simp [namedM])) (fun e => k3 (e.trans h3)) (ids := m.ids) (fun z hz => ⟨k5 z hz, h5 z (by simp [namedM, hz])⟩)
   have hmem : ({ x with view := helloV x.view m.from_ m.ids } : Node) ∈ u.nodes.set P { x with view := helloV x.view m.from_ m.ids } := List.mem_iff_getElem?.2 ⟨P, by rw [List.getElem?_set]; simp [hlt]⟩
   have hid : (helloV x.view m.from_ m.ids).id = m.to := by rw [(znh x.view m.from_ m.ids).id]; exact h3
   exact ⟨⟨_, hmem, hid, key.1⟩, fun z hz hne => ⟨_, hmem, hid, key.2 z hz (by rw [h3]; exact hne)⟩⟩
  ·omega
  ·omega
  ·omega
 ·left
  show m ∈ ps ++ ms
  simp [hm]
theorem z2y {w v : Wld} (h : PairW GrowN w v) {m : Msg} (hm : Heard m w) : Heard m v := ⟨zts h (by omega) hm.1, fun k hk hn => zpm h (hm.2 k hk hn)⟩
theorem z22 {S : List Int} {w v : Wld} (h : Dels S w v) {m : Msg} (hk : m.kind = 0) (hm : m ∈ w.packets) : m ∈ v.packets ∨ Heard m v := by
 induction h with
 | refl _ => exact .inl hm
 | snoc h1 h2 ih =>
   rcases ih with h3 | h3
   ·exact z4x h1.fine h2 hk h3
   ·obtain ⟨hf, m0, ps, P, x, y, ms, _, g2, _, _, _, g6, rfl⟩ := h2
    exact .inr (z2y (zz2 (fun x => Grows.refl _) g2 (zr9 g6)) h3)
def tickW (w : Wld) : Wld := ⟨w.nodes.map tickN, [], w.nodes.flatMap tickM⟩
def Rnd (S : List Int) (w v : Wld) : Prop := ∃ a, Dels S w a ∧ a.packets = [] ∧ Dels S (tickW a) v ∧ v.packets = []
theorem z3m {w : Wld} {S : List Int} (hF : Fine S w) (i j : Int) : Kn (tickW w) i j ↔ Kn w i j := by
 constructor
 ·rintro ⟨y, hy, he, hj⟩
  obtain ⟨x, hx, rfl⟩ := List.mem_map.1 hy
  exact ⟨x, hx, he, (zf7 (za5 (hF.node hx)).2.1 j).1 hj⟩
 ·rintro ⟨x, hx, he, hj⟩
  exact ⟨tickN x, List.mem_map.2 ⟨x, hx, rfl⟩, he, (zf7 (za5 (hF.node hx)).2.1 j).2 hj⟩
theorem qaf {w : Wld} {i j k : Int} (hk : k ≤ 1) (h : Fr w i j k) : Fr (tickW w) i j (k + 1) := by
 obtain ⟨x, hx, he, hj⟩ := h
 exact ⟨tickN x, List.mem_map.2 ⟨x, hx, rfl⟩, he, z45 hj hk⟩
theorem zzj {S : List Int} {w : Wld} (hF : Fine S w) {x : Node} (hx : x ∈ w.nodes) {j : Int} (hj : j ∈ namesV x.view) : greetM (ageV x.view) j ∈ (tickW w).packets := by
 refine List.mem_flatMap.2 ⟨x, hx, List.mem_append.2 (.inl (List.mem_map.2 ⟨j, ?_, rfl⟩))⟩
 exact zv5 (za5 (hF.node hx)).2.1 hj
theorem zsa {S : List Int} {w v : Wld} (h : Rnd S w v) : Brings w v := by
 obtain ⟨a, h1, h2, h3, h4⟩ := h
 have ha := h1.fine
 have g1 := zvt h1
 have g3 := zvt h3
 have hear : ∀ x ∈ a.nodes, ∀ j ∈ namesV x.view, Heard (greetM (ageV x.view) j) v := by
  intro x hx j hj
  rcases z22 h3 (m := greetM (ageV x.view) j) rfl (zzj ha hx hj) with h5 | h5
  ·rw [h4] at h5; cases h5
  ·exact h5
 refine ⟨fun i j hk => ?_, fun i j hk => ?_, fun i j k hk hf hn => ?_, fun he i j hk => ?_, fun i j hf => ?_⟩
 ·exact zpm g3 ((z3m ha i j).2 (zpm g1 hk))
 ·obtain ⟨x, hx, rfl, hj⟩ := zpm g1 hk
  exact (hear x hx j hj).1
 ·obtain ⟨x, hx, rfl, hj⟩ := zpm g1 hk
  obtain ⟨x', hx', he, hp⟩ := zts g1 (by omega) hf
  obtain rfl := zwo ha.pair hx hx' he.symm
  have hp2 := z45 hp (by omega)
  obtain ⟨q, hq, rfl, _⟩ := hp2
  exact (hear x hx j hj).2 q.id (List.mem_map.2 ⟨q, hq, rfl⟩) hn
 ·have := z5b h1 he
  subst this
  rcases z6p g3 hk with h5 | h5
  ·exact .inl ((z3m ha i j).1 h5)
  ·exact .inr h5
 ·exact zts g3 (by omega) (qaf (by omega) (zts g1 (by omega) hf))
theorem zj0 {S : List Int} {w v : Wld} (h : Rnd S w v) : Fine S v ∧ v.packets = [] := by
 obtain ⟨a, _, _, h3, h4⟩ := h
 exact ⟨h3.fine, h4⟩
inductive Rnds (S : List Int) : Nat → Wld → Wld → Prop
 | zero {w : Wld} : Fine S w → Rnds S 0 w w
 | succ {n : Nat} {w u v : Wld} : Rnds S n w u → Rnd S u v → Rnds S (n + 1) w v
theorem Rnds.fine {S : List Int} {n : Nat} {w v : Wld} (h : Rnds S n w v) : Fine S v := by
 cases h with
 | zero h => exact h
 | succ _ h => exact (zj0 h).1
theorem Rnds.packets {S : List Int} {n : Nat} {w v : Wld} (h : Rnds S n w v) (hn : 0 < n) : v.packets = [] := by
 cases h with
 | zero h => omega
 | succ _ h => exact (zj0 h).2
theorem z7z {S : List Int} {n : Nat} {w v : Wld} (h : Rnds S n w v) : ∃ s : Nat → Wld, s 0 = w ∧ s n = v ∧ ∀ t, t < n → Rnd S (s t) (s (t + 1)) := by
 induction h with
 | zero h => exact ⟨fun _ => _, rfl, rfl, fun t ht => by omega⟩
 | @succ n w u v h1 h2 ih =>
   obtain ⟨s, e1, e2, e3⟩ := ih
   refine ⟨fun t => if t ≤ n then s t else v, by simp [e1], if_neg (by omega), fun t ht => ?_⟩
   simp only
   by_cases hn : t = n
   ·subst hn
    rw [if_pos (Nat.le_refl _), if_neg (by omega), e2]
    exact h2
   ·rw [if_pos (by omega), if_pos (by omega)]
    exact e3 t (by omega)
theorem z2f {S : List Int} {s : Nat → Wld} {n : Nat} (h : ∀ t, t < n → Rnd S (s t) (s (t + 1))) : Rounds s n := ⟨fun t ht => zsa (h t ht), fun t ht => (zj0 (h t ht)).2⟩
theorem z3y {S : List Int} {w v : Wld} (h : Rnds S 6 w v) (hc : ∀ i ∈ S, ∀ j ∈ S, Dist w 8 i j) : FullW S v := by
 obtain ⟨s, e1, e2, e3⟩ := z7z h
 subst e1 e2
 exact z8b (z2f e3) (Nat.le_refl _) hc
end Go.AM
/- AM: contracts: the document's answer to what world may be. -/
namespace Go.AM
set_option linter.unusedSimpArgs false
set_option linter.unusedVariables false
set_option maxRecDepth 8000
set_option maxHeartbeats 0
def hasN (id : Int) (x : Node) : Bool := decide (x.view.id = id)
def allN (ns : List Node) (ids : List Int) : Bool := ids.all fun i => ns.any (hasN i)
theorem zz4 {ns : List Node} {id : Int} : ns.any (hasN id) = true ↔ id ∈ idsN ns := by
 simp [hasN, idsN]
theorem zrw (ns : List Node) (id : Int) (hl : ns.length ≤ cap) : Den PP 18 [nodesD ns, .int .i64 id] [] (.int .i64 (gIdx (hasN id) 0 ns)) [] := by
 obtain ⟨A, hA⟩ : ∃ A, gIdx (hasN id) 0 ns = A := ⟨_, rfl⟩
 unfold cap at hl
 refine zaj [] [] zm9 ?_
 simp -implicitDefEqProofs [zil, nodesD, hA]
 refine zax ns (fun i rest => fun ⟨fr, bs⟩ => bs = [] ∧ fr 0 = nodesD ns ∧ fr 1 = .int .i64 id ∧ fr 5 = .int .i64 i ∧ gIdx (hasN id) i rest = A)
  (fun ⟨fr, bs⟩ => bs = [] ∧ A = -1) (fun ⟨fr, bs⟩ => fr 4 = .int .i64 A) zgg.eq_1 ?_ ?_ ?_ ?_ ?_
 ·exact ⟨rfl, rfl, rfl, rfl, hA⟩
 ·rintro i ⟨fr, bs⟩ hi ⟨rfl, h0, h1, h5, he⟩
  simp -implicitDefEqProofs [h0, h1, h5, hi, nodesD]
  simpa [gIdx] using he.symm
 ·rintro i a rest ⟨fr, bs⟩ hlt hget hg hd hd2 ⟨rfl, h0, h1, h5, he⟩
  have hlt' : (i : Int) < ns.length := by omega
  have hw := zav (n := i) (by omega)
  simp only [gIdx] at he
  by_cases ha : a.view.id = id
  ·have hh : hasN id a = true := by simp [hasN, ha]
   rw [if_pos hh] at he
   simp -implicitDefEqProofs [h0, h1, h5, hlt, hlt', hget, hg, nodesD, Node.cells, peersD, intsD, itemsD, toldsD, ha]
   exact he
  ·have hh : ¬ hasN id a = true := by simp [hasN, ha]
   rw [if_neg hh] at he
   simp -implicitDefEqProofs [h0, h1, h5, hlt, hlt', hget, hg, nodesD, Node.cells, peersD, intsD, itemsD, toldsD, ha]
   exact ⟨zaq (by omega) (by omega), he⟩
 ·rintro ⟨fr, bs⟩ ⟨rfl, h1⟩
  simp -implicitDefEqProofs [h1]
 ·rintro ⟨fr, bs⟩ h
  simp -implicitDefEqProofs [h]
theorem zug (ns : List Node) (id : Int) : decide (gIdx (hasN id) 0 ns < 0) = !ns.any (hasN id) := by
 rw [← zs4 (hasN id) ns 0]
 by_cases h : 0 ≤ gIdx (hasN id) 0 ns
 ·simp [h]
 ·simp [h]; omega
theorem zyi (ns : List Node) (ids : List Int) (hl : ns.length ≤ cap) (hi : ids.length ≤ cap) : Den PP 72 [nodesD ns, intsD ids] [] (.bool (allN ns ids)) [] := by
 obtain ⟨A, hA⟩ : ∃ A, allN ns ids = A := ⟨_, rfl⟩
 unfold allN at hA
 unfold allN
 rw [hA]
 refine zaj [] [] zlm ?_
 simp -implicitDefEqProofs [zhk, nodesD, intsD]
 refine zax ids (fun i rest => fun ⟨fr, bs⟩ => bs = [] ∧ fr 0 = nodesD ns ∧ fr 1 = intsD ids ∧ fr 5 = .int .i64 i ∧ (rest.all fun i => ns.any (hasN i)) = A)
  (fun ⟨fr, bs⟩ => bs = [] ∧ A = true) (fun ⟨fr, bs⟩ => fr 4 = .bool false ∧ A = false) zfr.eq_1 ?_ ?_ ?_ ?_ ?_
 ·exact ⟨rfl, rfl, rfl, rfl, hA⟩
 ·rintro i ⟨fr, bs⟩ hi ⟨rfl, h0, h1, h5, he⟩
  simp -implicitDefEqProofs [h0, h1, h5, hi, intsD]
  simpa using he.symm
 ·rintro i a rest ⟨fr, bs⟩ hlt hget hg hd hd2 ⟨rfl, h0, h1, h5, he⟩
  unfold cap at hi
  have hlt' : (i : Int) < ids.length := by omega
  have hw : IntKind.wrap .i64 ((i : Int) + 1) = (i : Int) + 1 := zaq (by omega) (by omega)
  have c1 := zrw ns a hl
  have c2 := zug ns a
  rw [List.all_cons] at he
  generalize gIdx (hasN a) 0 ns = G at *
  generalize ns.any (hasN a) = B at *
  clear hA
  simp only [nodesD] at c1
  simp -implicitDefEqProofs [h0, h1, h5, hlt, hlt', hget, hg, nodesD, intsD, irow]
  refine zaa c1 ?_
  simp -implicitDefEqProofs [c2]
  cases B
  ·simp -implicitDefEqProofs
   simpa using he.symm
  ·simp -implicitDefEqProofs [h0, h1, h5, nodesD, intsD, hw]
   simpa using he
 ·rintro ⟨fr, bs⟩ ⟨rfl, h1⟩
  simp -implicitDefEqProofs [h1]
 ·rintro ⟨fr, bs⟩ ⟨h, h1⟩
  simp -implicitDefEqProofs [h, h1]
theorem zt7 (ms : List Msg) (hl : ms.length ≤ cap16) (hi : ∀ m ∈ ms, m.ids.length ≤ cap) : Den PP 161 [msgsD ms] [] (.bool (ms.all msgMay && decide (ms.length ≤ 512))) [] := by
 obtain ⟨A, hA⟩ : ∃ A, ms.all msgMay = A := ⟨_, rfl⟩
 rw [hA]
 unfold cap16 at hl
 refine zaj [] [] ziy ?_
 simp -implicitDefEqProofs [zfi, msgsD]
 refine zax ms (fun i rest => fun ⟨fr, bs⟩ => bs = [] ∧ fr 0 = msgsD ms ∧ fr 3 = .int .i64 i ∧ rest.all msgMay = A)
  (fun ⟨fr, bs⟩ => bs = [] ∧ fr 0 = msgsD ms ∧ A = true) (fun ⟨fr, bs⟩ => fr 2 = .bool false ∧ A = false) zef.eq_1 ?_ ?_ ?_ ?_ ?_
 ·exact ⟨rfl, rfl, rfl, hA⟩
 ·rintro i ⟨fr, bs⟩ hi ⟨rfl, h0, h3, he⟩
  simp -implicitDefEqProofs [h0, h3, hi, msgsD]
  simpa using he.symm
 ·rintro i a rest ⟨fr, bs⟩ hlt hget hg hd hd2 ⟨rfl, h0, h3, he⟩
  have hlt' : (i : Int) < ms.length := by omega
  have hw : IntKind.wrap .i64 ((i : Int) + 1) = (i : Int) + 1 := zaq (by omega) (by omega)
  have c1 := z3b a (hi a (List.mem_of_getElem? hget))
  rw [List.all_cons] at he
  clear hi hA
  generalize msgMay a = B at *
  simp only [msgD, Msg.row, intsD] at c1
  simp -implicitDefEqProofs [h0, h3, hlt, hlt', hget, hg, msgsD, Msg.row, intsD]
  refine zaa c1 ?_
  simp -implicitDefEqProofs
  cases B
  ·simp -implicitDefEqProofs
   simpa using he.symm
  ·simp -implicitDefEqProofs [h0, h3, msgsD, hw]
   simpa using he
 ·rintro ⟨fr, bs⟩ ⟨rfl, h0, h1⟩
  simp -implicitDefEqProofs [h0, h1, msgsD]
  constructor <;> intro <;> omega
 ·rintro ⟨fr, bs⟩ ⟨h, h1⟩
  simp -implicitDefEqProofs [h, h1]
def packIn (ns : List Node) (m : Msg) : Bool := ns.any (hasN m.from_) && (ns.any (hasN m.to) && allN ns m.ids)
theorem zq3 (ns : List Node) (ms : List Msg) (hn : ns.length ≤ cap) (hl : ms.length ≤ cap16) (hi : ∀ m ∈ ms, m.ids.length ≤ cap) : Den PP 75 [nodesD ns, msgsD ms] [] (.bool (ms.all (packIn ns) && (ms.all msgMay && decide (ms.length ≤ 512)))) [] := by
 have c0 := zt7 ms hl hi
 generalize (ms.all msgMay && decide (ms.length ≤ 512)) = Q at *
 obtain ⟨A, hA⟩ : ∃ A, ms.all (packIn ns) = A := ⟨_, rfl⟩
 rw [hA]
 unfold cap16 at hl
 simp only [msgsD] at c0
 refine zaj [] [] zg9 ?_
 simp -implicitDefEqProofs [zeh, msgsD]
 refine zax ms (fun i rest => fun ⟨fr, bs⟩ => bs = [] ∧ fr 0 = nodesD ns ∧ fr 1 = msgsD ms ∧ fr 5 = .int .i64 i ∧ rest.all (packIn ns) = A)
  (fun ⟨fr, bs⟩ => bs = [] ∧ fr 1 = msgsD ms ∧ A = true) (fun ⟨fr, bs⟩ => fr 4 = .bool false ∧ A = false) zdk.eq_1 ?_ ?_ ?_ ?_ ?_
 ·exact ⟨rfl, rfl, rfl, rfl, hA⟩
 ·rintro i ⟨fr, bs⟩ hi ⟨rfl, h0, h1, h5, he⟩
  simp -implicitDefEqProofs [h0, h1, h5, hi, msgsD]
  simpa using he.symm
 ·rintro i a rest ⟨fr, bs⟩ hlt hget hg hd hd2 ⟨rfl, h0, h1, h5, he⟩
  have hlt' : (i : Int) < ms.length := by omega
  have hw : IntKind.wrap .i64 ((i : Int) + 1) = (i : Int) + 1 := zaq (by omega) (by omega)
  have c1 := zrw ns a.from_ hn
  have c2 := zug ns a.from_
  have c3 := zrw ns a.to hn
  have c4 := zug ns a.to
  have c5 := zyi ns a.ids hn (hi a (List.mem_of_getElem? hget))
  rw [List.all_cons] at he
  rw [show packIn ns a = (ns.any (hasN a.from_) && (ns.any (hasN a.to) && allN ns a.ids)) from rfl] at he
  clear hi hA
  generalize gIdx (hasN a.from_) 0 ns = G at *
  generalize gIdx (hasN a.to) 0 ns = G2 at *
  generalize ns.any (hasN a.from_) = B at *
  generalize ns.any (hasN a.to) = B2 at *
  generalize allN ns a.ids = B3 at *
  simp only [nodesD, intsD] at c1 c3 c5
  simp -implicitDefEqProofs [h0, h1, h5, hlt, hlt', hget, hg, nodesD, msgsD, Msg.row, intsD]
  refine zaa c1 ?_
  simp -implicitDefEqProofs [c2]
  cases B
  ·simp -implicitDefEqProofs
   simpa using he.symm
  ·simp -implicitDefEqProofs [h0, h1, h5, hlt, hlt', hget, hg, nodesD, msgsD, Msg.row, intsD]
   refine zaa c3 ?_
   simp -implicitDefEqProofs [c4]
   cases B2
   ·simp -implicitDefEqProofs
    simpa using he.symm
   ·simp -implicitDefEqProofs [h0, h1, h5, hlt, hlt', hget, hg, nodesD, msgsD, Msg.row, intsD]
    refine zaa c5 ?_
    simp -implicitDefEqProofs
    cases B3
    ·simp -implicitDefEqProofs
     simpa using he.symm
    ·simp -implicitDefEqProofs [h0, h1, h5, nodesD, msgsD, hw]
     simpa using he
 ·rintro ⟨fr, bs⟩ ⟨rfl, h0, h1⟩
  simp -implicitDefEqProofs [h0, h1, msgsD]
  refine zaa c0 ?_
  simp -implicitDefEqProofs
 ·rintro ⟨fr, bs⟩ ⟨h, h1⟩
  simp -implicitDefEqProofs [h, h1]
def prevM (xs : List Node) (i : Nat) : Option Int := if i = 0 then none else (xs[i - 1]?).map fun x => x.view.id
def refNodes (ns : List Node) : Option Int → List Node → Bool
 | _, [] => true
 | q, x :: xs => nodeMay x && (q.all (fun y => decide (y < x.view.id)) && (allN ns (x.view.peers.map Peer.id) && (allN ns x.view.passive && refNodes ns (some x.view.id) xs)))
def cutIn (ns : List Node) (c : Cut) : Bool := ns.any (hasN c.a) && ns.any (hasN c.b)
def refWld (w : Wld) : Bool := refNodes w.nodes none w.nodes && (w.cuts.all (cutIn w.nodes) && (decide (1 ≤ w.nodes.length) && (decide (w.nodes.length ≤ 8) && (cutsMay w.cuts && (w.packets.all (packIn w.nodes) && (w.packets.all msgMay && decide (w.packets.length ≤ 512)))))))
theorem zvy (ns : List Node) : ∀ (xs : List Node) (q : Option Int), refNodes ns q xs = true ↔ nodesOk q xs = true ∧ ∀ x ∈ xs, ∀ i ∈ namedN x, i ∈ idsN ns := by
 intro xs
 induction xs with
 | nil => intro q; simp [refNodes, nodesOk]
 | cons x xs ih =>
   intro q
   simp only [refNodes, nodesOk, Bool.and_eq_true, ih]
   have key : (allN ns (x.view.peers.map Peer.id) = true ∧ allN ns x.view.passive = true) ↔ ∀ i ∈ namedN x, i ∈ idsN ns := by
    simp only [allN, List.all_eq_true, zz4, namedN, List.mem_append]
    constructor
    ·rintro ⟨h1, h2⟩ i (h | h)
     ·exact h1 i h
     ·exact h2 i h
    ·intro h
     exact ⟨fun i hi => h i (.inl hi), fun i hi => h i (.inr hi)⟩
   constructor
   ·rintro ⟨h1, h2, h3, h4, h5, h6⟩
    refine ⟨⟨h1, h2, h5⟩, fun y hy => ?_⟩
    rcases List.mem_cons.1 hy with rfl | hy
    ·exact key.1 ⟨h3, h4⟩
    ·exact h6 y hy
   ·rintro ⟨⟨h1, h2, h3⟩, h4⟩
    obtain ⟨a, b⟩ := key.2 (h4 x (by simp))
    exact ⟨h1, h2, a, b, h3, fun y hy => h4 y (by simp [hy])⟩
theorem z4v (w : Wld) : refWld w = worldMay w := by
 rw [Bool.eq_iff_iff, zfo]
 simp only [refWld, Bool.and_eq_true, decide_eq_true_eq, zvy, List.all_eq_true, cutIn, packIn, zz4, allN]
 constructor
 ·rintro ⟨⟨h1, h2⟩, h3, h4, h5, h6, h7, h8, h9⟩
  refine ⟨by simp [nodesMay, h1, h4, h5], h6, h9, h2, fun c hc i hi => ?_, fun m hm => ⟨h8 m hm, fun i hi => ?_⟩⟩
  ·simp only [namedC, List.mem_cons, List.not_mem_nil, or_false] at hi
   rcases hi with rfl | rfl
   ·exact (h3 c hc).1
   ·exact (h3 c hc).2
  ·simp only [namedM, List.mem_cons] at hi
   rcases hi with rfl | rfl | hi
   ·exact (h7 m hm).1
   ·exact (h7 m hm).2.1
   ·exact (h7 m hm).2.2 i hi
 ·intro h
  have hn := h.nodes
  simp only [nodesMay, Bool.and_eq_true, decide_eq_true_eq] at hn
  refine ⟨⟨hn.1, h.inN⟩, fun c hc => ⟨h.inC c hc _ (by simp [namedC]), h.inC c hc _ (by simp [namedC])⟩, hn.2.1, hn.2.2, h.cuts, fun m hm => ⟨(h.inM m hm).2 _ (by simp [namedM]), (h.inM m hm).2 _ (by simp [namedM]), fun i hi => (h.inM m hm).2 i (by simp [namedM, hi])⟩, fun m hm => (h.inM m hm).1, h.len⟩
theorem zne (w : Wld) (hs : w.small) : Den PP 22 [wldD w] [] (.bool (worldMay w)) [] := by
 rw [← z4v]
 obtain ⟨ns, cs, ps⟩ := w
 obtain ⟨s1, s2, s3, s4, s5⟩ := hs
 simp only at s1 s2 s3 s4 s5
 have hn : ns.length ≤ cap := by unfold cap16 at s1; unfold cap; omega
 have c1 := zwx cs s3
 have c2 := zq3 ns ps hn s4 s5
 unfold refWld
 simp only
 generalize (ps.all (packIn ns) && (ps.all msgMay && decide (ps.length ≤ 512))) = PQ at *
 generalize cutsMay cs = CM at *
 obtain ⟨A, hA⟩ : ∃ A, refNodes ns none ns = A := ⟨_, rfl⟩
 obtain ⟨B, hB⟩ : ∃ B, cs.all (cutIn ns) = B := ⟨_, rfl⟩
 rw [hA, hB]
 unfold cap16 at s1
 unfold cap at s3
 simp only [wldD, Wld.cells, nodesD, cutsD, msgsD] at c1 c2 ⊢
 refine zaj [] [] zib ?_
 simp -implicitDefEqProofs [zey]
 refine zax ns (fun i rest => fun ⟨fr, bs⟩ => bs = [⟨[[.sl (ns.map Node.cells) ns.length, .sl (cs.map Cut.row) cs.length, .sl (ps.map Msg.row) ps.length]], 3, .box⟩] ∧ fr 1 = .ptr 0 0 0 ∧ fr 3 = .int .i64 i ∧ refNodes ns (prevM ns i) rest = A)
  (fun ⟨fr, bs⟩ => bs = [⟨[[.sl (ns.map Node.cells) ns.length, .sl (cs.map Cut.row) cs.length, .sl (ps.map Msg.row) ps.length]], 3, .box⟩] ∧ fr 1 = .ptr 0 0 0 ∧ A = true) (fun ⟨fr, bs⟩ => fr 2 = .bool false ∧ A = false) zd5.eq_1 ?_ ?_ ?_ ?_ ?_
 ·exact ⟨rfl, rfl, rfl, hA⟩
 ·rintro i ⟨fr, bs⟩ hi ⟨rfl, h1, h3, he⟩
  simp -implicitDefEqProofs [h1, h3, hi]
  simpa [refNodes] using he.symm
 ·rintro i a rest ⟨fr, bs⟩ hlt hget hg hd hd2 ⟨rfl, h1, h3, he⟩
  have hlt' : (i : Int) < ns.length := by omega
  have hw : IntKind.wrap .i64 ((i : Int) + 1) = (i : Int) + 1 := zaq (by omega) (by omega)
  have hsm := s2 a (List.mem_of_getElem? hget)
  have k1 := zys a hsm
  have k2 := zol a.view.peers hsm.1.1
  have k3 := zyi ns (a.view.peers.map Peer.id) hn (by have := hsm.1.1; unfold cap16 at this; unfold cap; simp; omega)
  have k4 := zyi ns a.view.passive hn hsm.1.2
  simp only [refNodes] at he
  have hp : prevM ns (i + 1) = some a.view.id := by simp [prevM, hget]
  rw [hp]
  clear hp s2 s5 hA hB hsm c1 c2
  generalize nodeMay a = M at *
  generalize allN ns (a.view.peers.map Peer.id) = X at *
  generalize allN ns a.view.passive = Y at *
  simp only [nodeD, Node.cells, peersD, intsD, itemsD, toldsD, nodesD, List.map_map, Function.comp_def, List.length_map] at k1 k2 k3 k4
  cases i with
  | zero =>
    simp [prevM] at he
    simp -implicitDefEqProofs [h1, h3, hlt, hlt', hget, hg, Node.cells, peersD, intsD, itemsD, toldsD]
    refine zaa k1 ?_
    simp -implicitDefEqProofs
    cases M
    ·simp -implicitDefEqProofs
     simpa using he.symm
    ·simp -implicitDefEqProofs [h1, h3, hlt, hlt', hget, hg, Node.cells, peersD, intsD, itemsD, toldsD]
     refine zaa k2 ?_
     simp -implicitDefEqProofs [downTo]
     refine zaa k3 ?_
     simp -implicitDefEqProofs
     cases X
     ·simp -implicitDefEqProofs
      simpa using he.symm
     ·simp -implicitDefEqProofs [h1, h3, hlt, hlt', hget, hg, Node.cells, peersD, intsD, itemsD, toldsD]
      refine zaa k4 ?_
      simp -implicitDefEqProofs
      cases Y
      ·simp -implicitDefEqProofs
       simpa using he.symm
      ·simp -implicitDefEqProofs [h1, h3, hw]
       exact ⟨zaq (by omega) (by omega), by simpa using he⟩
  | succ j =>
    have hj : j < ns.length := by omega
    have hj' : (j : Int) < ns.length := by omega
    have hlt3 : (j : Int) + 1 < ns.length := by omega
    have h0j : (0 : Int) ≤ (j : Int) + 1 := by omega
    have h0k : ¬ (j : Int) + 1 ≤ 0 := by omega
    have h0l : (0 : Int) < (j : Int) + 1 := by omega
    have hjw : IntKind.wrap .i64 (j : Int) = j := zaq (by omega) (by omega)
    obtain ⟨q, hqj⟩ : ∃ q, ns[j] = q := ⟨_, rfl⟩
    have hpj : prevM ns (j + 1) = some q.view.id := by simp [prevM, hj, hqj]
    rw [hpj] at he
    simp at he
    simp -implicitDefEqProofs [h1, h3, hlt, hlt', hlt3, h0j, h0k, h0l, hget, hg, Node.cells, peersD, intsD, itemsD, toldsD]
    refine zaa k1 ?_
    simp -implicitDefEqProofs
    cases M
    ·simp -implicitDefEqProofs
     simpa using he.symm
    ·simp -implicitDefEqProofs [h1, h3, hlt, hlt', hlt3, h0j, h0k, h0l, hget, hg, hj, hj', hjw, hqj, Node.cells, peersD, intsD, itemsD, toldsD]
     by_cases hlq : q.view.id < a.view.id
     ·have hlq2 : ¬ a.view.id ≤ q.view.id := by omega
      simp -implicitDefEqProofs [h1, h3, hlt, hlt', hlt3, h0j, h0k, h0l, hget, hg, hlq, hlq2, Node.cells, peersD, intsD, itemsD, toldsD]
      refine zaa k2 ?_
      simp -implicitDefEqProofs [downTo]
      refine zaa k3 ?_
      simp -implicitDefEqProofs
      cases X
      ·simp -implicitDefEqProofs
       simpa [hlq] using he.symm
      ·simp -implicitDefEqProofs [h1, h3, hlt, hlt', hlt3, h0j, h0k, h0l, hget, hg, Node.cells, peersD, intsD, itemsD, toldsD]
       refine zaa k4 ?_
       simp -implicitDefEqProofs
       cases Y
       ·simp -implicitDefEqProofs
        simpa [hlq] using he.symm
       ·simp -implicitDefEqProofs [h1, h3, hw]
        exact ⟨zaq (by omega) (by omega), by simpa [hlq] using he⟩
     ·have hlq2 : a.view.id ≤ q.view.id := by omega
      simp -implicitDefEqProofs [hlq, hlq2]
      simpa [hlq] using he.symm
 ·rintro ⟨fr, bs⟩ ⟨rfl, h1, hAt⟩
  clear hA s2
  simp -implicitDefEqProofs [h1]
  refine zax cs (fun i rest => fun ⟨fr, bs⟩ => bs = [⟨[[.sl (ns.map Node.cells) ns.length, .sl (cs.map Cut.row) cs.length, .sl (ps.map Msg.row) ps.length]], 3, .box⟩] ∧ fr 1 = .ptr 0 0 0 ∧ fr 5 = .int .i64 i ∧ rest.all (cutIn ns) = B)
   (fun ⟨fr, bs⟩ => bs = [⟨[[.sl (ns.map Node.cells) ns.length, .sl (cs.map Cut.row) cs.length, .sl (ps.map Msg.row) ps.length]], 3, .box⟩] ∧ fr 1 = .ptr 0 0 0 ∧ B = true) (fun ⟨fr, bs⟩ => fr 2 = .bool false ∧ B = false) zd3.eq_1 ?_ ?_ ?_ ?_ ?_
  ·exact ⟨by first | rfl | simp, by simp [h1], rfl, hB⟩
  ·rintro i ⟨fr, bs⟩ hi ⟨rfl, h1, h5, he⟩
   simp -implicitDefEqProofs [h1, h5, hi]
   simpa using he.symm
  ·rintro i a rest ⟨fr, bs⟩ hlt hget hg hd hd2 ⟨rfl, h1, h5, he⟩
   have hlt' : (i : Int) < cs.length := by omega
   have hw : IntKind.wrap .i64 ((i : Int) + 1) = (i : Int) + 1 := zaq (by omega) (by omega)
   have k1 := zrw ns a.a hn
   have k2 := zug ns a.a
   have k3 := zrw ns a.b hn
   have k4 := zug ns a.b
   rw [List.all_cons, show cutIn ns a = (ns.any (hasN a.a) && ns.any (hasN a.b)) from rfl] at he
   clear hB c1 c2 s5
   generalize gIdx (hasN a.a) 0 ns = G at *
   generalize gIdx (hasN a.b) 0 ns = G2 at *
   generalize ns.any (hasN a.a) = X at *
   generalize ns.any (hasN a.b) = Y at *
   simp only [nodesD] at k1 k3
   simp -implicitDefEqProofs [h1, h5, hlt, hlt', hget, hg, Cut.row]
   refine zaa k1 ?_
   simp -implicitDefEqProofs [k2]
   cases X
   ·simp -implicitDefEqProofs
    simpa using he.symm
   ·simp -implicitDefEqProofs [h1, h5, hlt, hlt', hget, hg, Cut.row]
    refine zaa k3 ?_
    simp -implicitDefEqProofs [k4]
    cases Y
    ·simp -implicitDefEqProofs
     simpa using he.symm
    ·simp -implicitDefEqProofs [h1, h5, hw]
     simpa using he
  ·rintro ⟨fr, bs⟩ ⟨rfl, h1, hBt⟩
   clear hB s5
   subst hAt hBt
   simp -implicitDefEqProofs [h1]
   repeat' ((first | refine zaa (by first | exact c1 | exact c2) ?_ | ((with_reducible first | refine zak ?_ ?_ | refine zah ?_ ?_ | refine zad ?_ ?_ | refine zae ?_ ?_) <;> intro _) | ((with_reducible first | refine zan ?_ ?_ | refine zap ?_ ?_ | refine zal ?_ ?_ | refine zac ?_ ?_ | refine zai ?_ ?_ | refine zao ?_ ?_ | refine zaf ?_ ?_ | refine zab ?_ ?_) <;> intro hq <;> (try simp at hq)) | refine zag (by omega) ?_ | refine zam (by omega) ?_) <;> simp -implicitDefEqProofs [*])
   all_goals grind
  ·rintro ⟨fr, bs⟩ ⟨h, h1⟩
   simp -implicitDefEqProofs [h, h1]
 ·rintro ⟨fr, bs⟩ ⟨h, h1⟩
  simp -implicitDefEqProofs [h, h1]
end Go.AM
/- AM: worlds, acts handed in. -/
namespace Go.AM
set_option linter.unusedSimpArgs false
set_option linter.unusedVariables false
set_option maxRecDepth 8000
set_option maxHeartbeats 0
def Msg.tame (m : Msg) : Prop := m.ids.length * 8 ≤ 140737488351232 ∧ (∀ x ∈ m.ids, in64 x) ∧ in64 m.kind ∧ in64 m.from_ ∧ in64 m.to ∧ in64 m.key ∧ m.item.tame
theorem Msg.tame.ids {m : Msg} (h : m.tame) : m.ids.length ≤ cap := by
 have := h.1
 unfold cap
 omega
theorem z69 {n : Nat} {cs : List D} (h : Tell TT (n + 4) 68 cs) : ∃ m : Msg, cs = m.row ∧ m.tame := by
 unfold Tell at h
 simp [Tell.TellFs] at h
 obtain ⟨a, r1, rfl, h1, b, r2, rfl, h2, c, r3, rfl, h3, d, r4, rfl, h4, e, r5, rfl, h5, f, g, rfl, h6, h7⟩ := h
 obtain ⟨k, rfl, hk⟩ := zcr h1
 obtain ⟨u, rfl, hu⟩ := zcr h2
 obtain ⟨v, rfl, hv⟩ := zcr h3
 obtain ⟨is, rfl, h8, h9⟩ := zps h4
 obtain ⟨w, rfl, hw⟩ := zcr h5
 obtain ⟨i, rfl, hi⟩ := zoa h6
 obtain ⟨b, rfl⟩ := zjk h7
 exact ⟨⟨k, u, v, is, w, i, b⟩, rfl, h8, h9, hk, hu, hv, hw, hi⟩
theorem z6u {n : Nat} {cs : List D} (h : Tell TT (n + 2) 121 cs) : ∃ c : Cut, cs = c.row ∧ in64 c.a ∧ in64 c.b := by
 unfold Tell at h
 simp [Tell.TellFs] at h
 obtain ⟨a, b, rfl, h1, h2⟩ := h
 obtain ⟨x, rfl, hx⟩ := zcr h1
 obtain ⟨u, rfl, hu⟩ := zcr h2
 exact ⟨⟨x, u⟩, rfl, hx, hu⟩
theorem z5a {n : Nat} {cs : List D} (h : Tell TT (n + 3) 23 cs) : ∃ ts : List Cut, cs = [cutsD ts] ∧ ts.length * 16 ≤ 140737488351232 ∧ ∀ t ∈ ts, in64 t.a ∧ in64 t.b := by
 unfold Tell at h
 simp at h
 obtain ⟨rows, rfl, hl, hr⟩ := h
 obtain ⟨xs, rfl, hx⟩ := zlb (f := Cut.row) (Q := fun t => in64 t.a ∧ in64 t.b) rows fun r h => z6u (hr r h)
 exact ⟨xs, by simp [cutsD], by simpa using hl, hx⟩
theorem z4s {n : Nat} {cs : List D} (h : Tell TT (n + 5) 24 cs) : ∃ ms : List Msg, cs = [msgsD ms] ∧ ms.length * 104 ≤ 140737488351232 ∧ ∀ m ∈ ms, m.tame := by
 unfold Tell at h
 simp at h
 obtain ⟨rows, rfl, hl, hr⟩ := h
 obtain ⟨xs, rfl, hx⟩ := zlb (f := Msg.row) (Q := Msg.tame) rows fun r h => z69 (hr r h)
 exact ⟨xs, by simp [msgsD], by simpa using hl, hx⟩
theorem z2s {n : Nat} {cs : List D} (h : Tell TT (n + 6) 22 cs) : ∃ xs : List Node, cs = [nodesD xs] ∧ xs.length * 112 ≤ 140737488351232 ∧ ∀ x ∈ xs, x.tame := by
 unfold Tell at h
 simp at h
 obtain ⟨rows, rfl, hl, hr⟩ := h
 obtain ⟨xs, rfl, hx⟩ := zlb (f := Node.cells) (Q := Node.tame) rows fun r h => zuy (hr r h)
 exact ⟨xs, by simp [nodesD], by simpa using hl, hx⟩
theorem z5y {n : Nat} {d : D} (h : TellArg TT (n + 7) 26 d) : ∃ w : Wld, d = wldD w ∧ w.small := by
 simp [TellArg] at h
 obtain ⟨cs, rfl, h⟩ := h
 unfold Tell at h
 simp [Tell.TellFs] at h
 obtain ⟨a, r1, rfl, h1, b, c, rfl, h2, h3⟩ := h
 obtain ⟨ns, rfl, l1, t1⟩ := z2s h1
 obtain ⟨ks, rfl, l2, t2⟩ := z5a h2
 obtain ⟨ps, rfl, l3, t3⟩ := z4s h3
 exact ⟨⟨ns, ks, ps⟩, rfl, by show ns.length ≤ cap16; unfold cap16; omega, fun x hx => (t1 x hx).small, by show ks.length ≤ cap; unfold cap; omega, by show ps.length ≤ cap16; unfold cap16; omega, fun m hm => (t3 m hm).ids⟩
end Go.AM
/- AM: the statement TopKnown. -/
namespace Go.AM
set_option linter.unusedSimpArgs false
set_option linter.unusedVariables false
set_option maxRecDepth 8000
set_option maxHeartbeats 0
theorem zzo {α : Type} {us : List α} {i : Nat} {a : α} (h : us[i]? = some a) : ∀ hl : i < us.length, us[i] = a := fun hl => by
 rw [List.getElem?_eq_getElem hl] at h
 exact Option.some.inj h
theorem z3j (v : View) (h : viewMay v = true) : Den PP 24 [viewD v] [] (.ref 0 0 (namesV v).length) [⟨(namesV v).map irow, 1, .mut⟩] := by
 obtain ⟨m1, m2, m3, m4⟩ := zas h
 have c1 := zol v.peers (by unfold cap16; omega)
 unfold namesV
 clear m1 m2 m4 h
 simp only [viewD, View.cells, peersD, intsD, List.map_append, List.length_append, List.length_map, List.map_map, Function.comp_def] at c1 ⊢
 refine zaj [6] [] zlf ?_
 simp -implicitDefEqProofs [zhn]
 refine zaa c1 ?_
 simp -implicitDefEqProofs
 refine zag ⟨by omega, by omega⟩ ?_
 simp -implicitDefEqProofs
def wldL (w : Wld) : List D := [.sl (w.nodes.map Node.cells) w.nodes.length, .sl (w.cuts.map Cut.row) w.cuts.length, .sl (w.packets.map Msg.row) w.packets.length]
end Go.AM
/- AM: contracts: rounds. -/
namespace Go.AM
set_option linter.unusedSimpArgs false
set_option linter.unusedVariables false
set_option maxRecDepth 8000
set_option maxHeartbeats 0
theorem z35 {P : Program} {f : Nat} {a b : D} {bs : List Blk} {r : D} {bs' : List Blk} (h : Den P f [a, b.nrm] bs r bs') : Den P f [a, b] bs r bs' := by
 refine ⟨h.1, fun w M0 ρ vals hM hS hs ha => h.2 w M0 ρ vals hM hS (by simpa using hs) ?_⟩
 intro i v d hv hd
 match i with
 | 0 => exact ha 0 v d hv (by simpa using hd)
 | 1 =>
   simp at hd
   subst hd
   exact (ha 1 v b hv (by simp)).nrm
 | i + 2 => simp at hd
theorem z8c {S : List Int} {w : Wld} (hF : Fine S w) (hne : w.packets ≠ []) : ∃ v, Den PP 20 [.agg (wldL w), .agg [.int .i64 1, .int .i64 0, .int .i64 0, .int .i64 0, .nil, .int .i64 0, .int .i64 0]] [] (.tup [.agg (wldL v), .int .i64 0]) [] ∧ Del S w v := by
 obtain ⟨v, h1, h2⟩ := z9c hF hne
 exact ⟨v, z35 h1, h2⟩
theorem z49 {S : List Int} {w : Wld} (hF : Fine S w) {P : Nat} {x : Node} (hx : w.nodes[P]? = some x) : ∃ v, Den PP 20 [.agg (wldL w), .agg [.int .i64 0, .int .i64 x.view.id, .int .i64 0, .int .i64 0, .nil, .int .i64 0, .int .i64 0]] [] (.tup [.agg (wldL v), .int .i64 0]) [] ∧ Tik S P w v := by
 obtain ⟨v, h1, h2⟩ := z7n hF hx
 exact ⟨v, z35 h1, h2⟩
def DelC (w v : Wld) : Prop := Den PP 20 [.agg (wldL w), .agg [.int .i64 1, .int .i64 0, .int .i64 0, .int .i64 0, .nil, .int .i64 0, .int .i64 0]] [] (.tup [.agg (wldL v), .int .i64 0]) []
theorem z7r {S : List Int} : ∀ (n : Nat) (w : Wld), pot w.packets ≤ n → Fine S w → ∃ (s : Nat → Wld) (k : Nat), s 0 = w ∧ k ≤ n ∧ (∀ i, i < k → (s i).packets ≠ [] ∧ DelC (s i) (s (i + 1)) ∧ Del S (s i) (s (i + 1))) ∧ (s k).packets = [] := by
 intro n
 induction n with
 | zero =>
   intro w hp hF
   refine ⟨fun _ => w, 0, rfl, Nat.le_refl _, fun i hi => by omega, ?_⟩
   have := (z8w w.packets).1
   show w.packets = []
   exact List.eq_nil_of_length_eq_zero (by omega)
 | succ n ih =>
   intro w hp hF
   by_cases he : w.packets = []
   ·exact ⟨fun _ => w, 0, rfl, by omega, fun i hi => by omega, he⟩
   ·obtain ⟨v, h1, h2⟩ := z8c hF he
    have := z9i h2
    obtain ⟨s, k, e1, e2, e3, e4⟩ := ih v (by omega) h2.1
    refine ⟨fun i => match i with | 0 => w | i + 1 => s i, k + 1, rfl, by omega, fun i hi => ?_, e4⟩
    match i with
    | 0 => simp only [e1]; exact ⟨he, h1, h2⟩
    | i + 1 => exact e3 i (by omega)
theorem z6d {S : List Int} {s : Nat → Wld} {k : Nat} (h0 : Fine S (s 0)) (h : ∀ i, i < k → Del S (s i) (s (i + 1))) : ∀ i, i ≤ k → Dels S (s 0) (s i) := by
 intro i
 induction i with
 | zero => intro _; exact .refl h0
 | succ i ih => intro hi; exact .snoc (ih (by omega)) (h i (by omega))
theorem zkn {S : List Int} (w : Wld) (hF : Fine S w) : ∃ v, Den PP 70 [.agg (wldL w)] [] (.agg (wldL v)) [] ∧ Dels S w v ∧ v.packets = [] := by
 have hl := hF.may.len
 have hpot := (z8w w.packets).2
 obtain ⟨s, k, e1, e2, e3, e4⟩ := z7r 1024 w (by omega) hF
 refine ⟨s k, ?_, by have := z6d (k := k) (by rw [e1]; exact hF) (fun i hi => (e3 i hi).2.2) k (Nat.le_refl _); rw [e1] at this; exact this, e4⟩
 subst e1
 clear hF hl hpot
 refine zaj [] [] zmq ?_
 simp -implicitDefEqProofs [ziv, wldL]
 refine zde k (fun n ⟨fr, bs⟩ => ∃ i, i + n = k ∧ bs = [⟨[wldL (s i)], 3, .box⟩, ⟨[[.nil, .nil, .nil]], 3, .box⟩] ∧ fr 1 = .ptr 0 0 0 ∧ fr 2 = .ptr 1 0 0 ∧ fr 3 = .int .i64 i)
  (fun ⟨fr, bs⟩ => bs = [⟨[wldL (s k)], 3, .box⟩, ⟨[[.nil, .nil, .nil]], 3, .box⟩] ∧ fr 1 = .ptr 0 0 0 ∧ fr 2 = .ptr 1 0 0) (fun _ => False) zgb.eq_1 ?_ ?_ ?_ ?_ ?_
 ·exact ⟨0, by omega, rfl, rfl, rfl, rfl⟩
 ·rintro ⟨fr, bs⟩ ⟨i, hi, rfl, h1, h2, h3⟩
  obtain rfl : i = k := by omega
  by_cases hk : (i : Int) < 1024
  ·simp -implicitDefEqProofs [h1, h2, h3, hk, wldL, e4]
  ·simp -implicitDefEqProofs [h1, h2, h3, hk, wldL, e4]
 ·rintro n ⟨fr, bs⟩ ⟨i, hi, rfl, h1, h2, h3⟩
  obtain ⟨g1, g2, g3⟩ := e3 i (by omega)
  have hk : (i : Int) < 1024 := by omega
  have hpos : 0 < (s i).packets.length := List.length_pos_iff.2 g1
  have hpos' : (0 : Int) < (s i).packets.length := by omega
  have hw : IntKind.wrap .i64 ((i : Int) + 1) = (i : Int) + 1 := zaq (by omega) (by omega)
  unfold DelC at g2
  simp only [wldL] at g2
  simp -implicitDefEqProofs [h1, h2, h3, hk, hpos, hpos', wldL]
  refine zaa g2 ?_
  simp -implicitDefEqProofs [h1, h2, h3, hw]
  exact ⟨i + 1, by omega, by simp, by simp⟩
 ·rintro ⟨fr, bs⟩ ⟨rfl, h1, h2⟩
  simp -implicitDefEqProofs [h1, h2, wldL]
 ·rintro ⟨fr, bs⟩ h
  exact h.elim
def tickTo (a : Wld) (i : Nat) : Wld := ⟨(a.nodes.take i).map tickN ++ a.nodes.drop i, [], (a.nodes.take i).flatMap tickM⟩
theorem zv8 {x : Node} (h : nodeUp x = true) : (tickM x).length ≤ 32 := by
 obtain ⟨p1, p2, p3, p4, p5⟩ := za5 h
 obtain ⟨v1, v2, v3⟩ := zhf p2
 have l2 := (zas p2).2.2.1
 obtain ⟨l3, l4, l5, l6⟩ := zg2 h
 have h1 : (shareOf (tickN x)).1.length ≤ 16 := by
  unfold shareOf
  split
  ·exact Nat.le_trans (List.length_filterMap_le _ _) l5
  ·simp
 unfold tickM
 rw [List.length_append, List.length_map]
 have h2 : (greetV (ageV x.view)).length = (ageV x.view).peers.length + (ageV x.view).passive.length := by simp [greetV]
 omega
theorem zw6 {S : List Int} {a v : Wld} {i : Nat} (ha : Fine S a) (h : Tik S i (tickTo a i) v) (hi : i < a.nodes.length) : v = tickTo a (i + 1) := by
 obtain ⟨hf, x, hx, rfl⟩ := h
 have hn := ha.few
 have hl := ha.len
 have e1 : (tickTo a i).nodes[i]? = a.nodes[i]? := by
  unfold tickTo
  simp only
  rw [List.getElem?_append_right (by simp; omega)]
  simp [show min i a.nodes.length = i by omega]
 rw [e1] at hx
 have ht : a.nodes.take (i + 1) = a.nodes.take i ++ [x] := by rw [List.take_add_one, hx]; rfl
 have hd : a.nodes.drop i = x :: a.nodes.drop (i + 1) := by
  rw [List.drop_eq_getElem_cons hi]
  rw [List.getElem?_eq_getElem hi] at hx
  rw [Option.some.inj hx]
 have hlen : ((a.nodes.take i).flatMap tickM).length ≤ (a.nodes.take i).length * 32 := zif _ fun y hy => zv8 (ha.node (List.mem_of_mem_take hy))
 have hlx := zv8 (ha.node (List.mem_of_getElem? hx))
 have hti : (a.nodes.take i).length = i := by rw [List.length_take]; omega
 unfold sendW tickTo
 simp only
 rw [ht, hd]
 congr 1
 ·rw [List.set_append_right _ _ (by rw [List.length_map, hti]; exact Nat.le_refl _), List.length_map, hti]
  simp
 ·have e3 : (tickM x).take (512 - ((a.nodes.take i).flatMap tickM).length) = tickM x := List.take_of_length_le (by rw [hti] at hlen; omega)
  rw [e3]
  simp
def TickC (x : Node) (w v : Wld) : Prop := Den PP 20 [.agg (wldL w), .agg [.int .i64 0, .int .i64 x.view.id, .int .i64 0, .int .i64 0, .nil, .int .i64 0, .int .i64 0]] [] (.tup [.agg (wldL v), .int .i64 0]) []
theorem z47 {S : List Int} {a : Wld} (ha : Fine S a) (he : a.packets = []) : ∀ i, i ≤ a.nodes.length → Fine S (tickTo a i) ∧ ∀ j, j < i → ∃ x, (tickTo a j).nodes[j]? = some x ∧ (tickTo a j).nodes.length = a.nodes.length ∧ TickC x (tickTo a j) (tickTo a (j + 1)) := by
 intro i
 induction i with
 | zero =>
   intro _
   have : tickTo a 0 = a := by
    obtain ⟨ns, cs, ps⟩ := a
    have hc := ha.cuts
    simp only at hc he
    subst hc he
    rfl
   rw [this]
   exact ⟨ha, fun j hj => by omega⟩
 | succ i ih =>
   intro hi
   obtain ⟨h1, h2⟩ := ih (by omega)
   have hl : (tickTo a i).nodes.length = a.nodes.length := by unfold tickTo; simp; omega
   obtain ⟨x, hx⟩ : ∃ x, (tickTo a i).nodes[i]? = some x := ⟨_, List.getElem?_eq_getElem (by omega)⟩
   obtain ⟨v, c1, c2⟩ := z49 h1 hx
   have hv := zw6 ha c2 (by omega)
   subst hv
   refine ⟨c2.1, fun j hj => ?_⟩
   by_cases hji : j = i
   ·subst hji
    exact ⟨x, hx, hl, c1⟩
   ·exact h2 j (by omega)
theorem zrn (a : Wld) : tickTo a a.nodes.length = tickW a := by simp [tickTo, tickW]
theorem zzd (w : Wld) (h : w.tiny) : Den PP 57 [.agg (wldL w)] [] (.agg (wldL w)) [] := by
 have h := zm2 (zj5 w h)
 have e : (D.agg (wldR w 0 1 2)).freeze (wldB w) = .agg (wldL w) := by
  simp [wldR, wldB, wldL, D.freeze]
 rw [e] at h
 exact h
theorem zwn {S : List Int} (w : Wld) (hF : Fine S w) : ∃ v, Den PP 21 [.agg (wldL w)] [] (.tup [.agg (wldL v), .int .i64 0]) [] ∧ Rnd S w v := by
 have hw := zfo.2 hF.may
 have c1 := zhu w (zbr hw).small
 rw [hw] at c1
 have c2 := zzd w (zbr hw)
 obtain ⟨a, c3, ha, he⟩ := zkn w hF
 have hT := z47 ha.fine he a.nodes.length (Nat.le_refl _)
 have hfn : Fine S (tickW a) := by have := hT.1; rw [zrn] at this; exact this
 obtain ⟨v, c4, hv, hve⟩ := zkn (tickW a) hfn
 rw [← zrn] at c4
 refine ⟨v, ?_, a, ha, he, hv, hve⟩
 have hlen8 : a.nodes.length ≤ 8 := by rw [ha.fine.len]; exact ha.fine.few
 have hpath := hT.2
 have hcuts := ha.fine.cuts
 have hpacks := he
 clear hT hfn hv hve ha he hF hw
 simp only [wldD, Wld.cells, nodesD, cutsD, msgsD, wldL] at c1 c2 c3 c4 ⊢
 refine zaj [] [] zp9 ?_
 simp -implicitDefEqProofs [zkl, wldL]
 refine zaa c1 ?_
 simp -implicitDefEqProofs
 refine zaa c2 ?_
 simp -implicitDefEqProofs
 refine zaa c3 ?_
 simp -implicitDefEqProofs
 have e0 : tickTo a 0 = ⟨a.nodes, [], []⟩ := rfl
 refine zde a.nodes.length (fun n ⟨fr, bs⟩ => ∃ i, i + n = a.nodes.length ∧ bs = [⟨[wldL w], 3, .box⟩, ⟨[[.nil, .nil, .nil]], 3, .box⟩, ⟨[wldL (tickTo a i)], 3, .box⟩] ∧ fr 2 = .ptr 1 0 0 ∧ fr 3 = .int .i64 0 ∧ fr 4 = .ptr 2 0 0 ∧ fr 15 = .int .i64 a.nodes.length ∧ fr 16 = .int .i64 i)
  (fun ⟨fr, bs⟩ => bs = [⟨[wldL w], 3, .box⟩, ⟨[[.nil, .nil, .nil]], 3, .box⟩, ⟨[wldL (tickTo a a.nodes.length)], 3, .box⟩] ∧ fr 2 = .ptr 1 0 0 ∧ fr 3 = .int .i64 0 ∧ fr 4 = .ptr 2 0 0) (fun _ => False) zhp.eq_1 ?_ ?_ ?_ ?_ ?_
 ·refine ⟨0, by omega, ?_, rfl, rfl, rfl, rfl, rfl⟩
  rw [e0]
  simp [wldL, hcuts, hpacks]
 ·rintro ⟨fr, bs⟩ ⟨i, hi, rfl, h2, h3, h4, h15, h16⟩
  obtain rfl : i = a.nodes.length := by omega
  simp -implicitDefEqProofs [h2, h3, h4, h15, h16, wldL]
 ·rintro n ⟨fr, bs⟩ ⟨i, hi, rfl, h2, h3, h4, h15, h16⟩
  obtain ⟨x, hx, hl, g⟩ := hpath i (by omega)
  have hlt : i < a.nodes.length := by omega
  have hlt' : (i : Int) < a.nodes.length := by omega
  have hw : IntKind.wrap .i64 ((i : Int) + 1) = (i : Int) + 1 := zaq (by omega) (by omega)
  have hgx := zzo hx
  unfold TickC at g
  simp only [wldL, hl] at g
  obtain ⟨u', hu'⟩ : ∃ u', u' = tickTo a (i + 1) := ⟨_, rfl⟩
  rw [← hu'] at g
  generalize tickTo a i = u at *
  simp -implicitDefEqProofs [h2, h3, h4, h15, h16, hlt, hlt', hx, hgx, hl, wldL, Node.cells, peersD, intsD, itemsD, toldsD]
  refine zaa g ?_
  simp -implicitDefEqProofs [h2, h3, h4, h15, h16, hw]
  refine ⟨i + 1, by omega, ?_⟩
  subst hu'
  simp [wldL]
 ·rintro ⟨fr, bs⟩ ⟨rfl, h2, h3, h4⟩
  simp -implicitDefEqProofs [h2, h3, h4, wldL]
  refine zaa c4 ?_
  simp -implicitDefEqProofs [h2, h3, h4]
 ·rintro ⟨fr, bs⟩ h
  exact h.elim
end Go.AM
/- AM: contracts: many rounds. -/
namespace Go.AM
set_option linter.unusedSimpArgs false
set_option linter.unusedVariables false
set_option maxRecDepth 8000
set_option maxHeartbeats 0
def RoundC (w v : Wld) : Prop := Den PP 21 [.agg (wldL w)] [] (.tup [.agg (wldL v), .int .i64 0]) []
theorem z79 {S : List Int} (w : Wld) (hF : Fine S w) : ∀ n : Nat, ∃ s : Nat → Wld, s 0 = w ∧ ∀ i, i < n → RoundC (s i) (s (i + 1)) ∧ Rnd S (s i) (s (i + 1)) := by
 intro n
 induction n with
 | zero => exact ⟨fun _ => w, rfl, fun i hi => by omega⟩
 | succ n ih =>
   obtain ⟨s, e1, e2⟩ := ih
   have hf : Fine S (s n) := by
    cases n with
    | zero => rw [e1]; exact hF
    | succ n => exact (zj0 (e2 n (by omega)).2).1
   obtain ⟨v, c1, c2⟩ := zwn (s n) hf
   refine ⟨fun i => if i ≤ n then s i else v, by simp [e1], fun i hi => ?_⟩
   simp only
   by_cases hn : i = n
   ·subst hn
    rw [if_pos (Nat.le_refl _), if_neg (by omega)]
    exact ⟨c1, c2⟩
   ·rw [if_pos (by omega), if_pos (by omega)]
    exact e2 i (by omega)
theorem z6q {S : List Int} {s : Nat → Wld} (h0 : Fine S (s 0)) : ∀ n, (∀ t, t < n → Rnd S (s t) (s (t + 1))) → Rnds S n (s 0) (s n) := by
 intro n
 induction n with
 | zero => intro _; exact .zero h0
 | succ n ih => intro h; exact .succ (ih fun t ht => h t (by omega)) (h n (by omega))
theorem zru {S : List Int} (w : Wld) (hF : Fine S w) (n : Nat) (hn : n ≤ 1000) : ∃ v, Den PP 13 [.agg (wldL w), .int .i64 n] [] (.tup [.agg (wldL v), .bool true]) [] ∧ Rnds S n w v := by
 obtain ⟨s, e1, e2⟩ := z79 w hF n
 have hr := z6q (s := s) (by rw [e1]; exact hF) n fun t ht => (e2 t ht).2
 rw [e1] at hr
 refine ⟨s n, ?_, hr⟩
 have key : ∀ i, i < n → RoundC (s i) (s (i + 1)) ∧ (s (i + 1)).nodes.length = (s i).nodes.length ∧ worldMay (s (i + 1)) = true := by
  intro i hi
  obtain ⟨c1, c2⟩ := e2 i hi
  have f2 := (zj0 c2).1
  have f1 : Fine S (s i) := by
   cases i with
   | zero => rw [e1]; exact hF
   | succ i => exact (zj0 (e2 i (by omega)).2).1
  exact ⟨c1, by rw [f2.len, f1.len], zfo.2 f2.may⟩
 subst e1
 clear hF hr e2
 simp only [wldL]
 refine zaj [] [] zky ?_
 simp -implicitDefEqProofs [zgy]
 refine zde n (fun m ⟨fr, bs⟩ => ∃ i, i + m = n ∧ bs = [⟨[wldL (s i)], 3, .box⟩, ⟨[[.nil, .nil, .nil]], 3, .box⟩] ∧ fr 1 = .int .i64 n ∧ fr 2 = .ptr 0 0 0 ∧ fr 4 = .ptr 1 0 0 ∧ fr 6 = .int .i64 i)
  (fun ⟨fr, bs⟩ => bs = [⟨[wldL (s n)], 3, .box⟩, ⟨[[.nil, .nil, .nil]], 3, .box⟩] ∧ fr 2 = .ptr 0 0 0 ∧ fr 4 = .ptr 1 0 0) (fun _ => False) zfc.eq_1 ?_ ?_ ?_ ?_ ?_
 ·exact ⟨0, by omega, rfl, rfl, rfl, rfl, rfl⟩
 ·rintro ⟨fr, bs⟩ ⟨i, hi, rfl, h1, h2, h4, h6⟩
  obtain rfl : i = n := by omega
  simp -implicitDefEqProofs [h1, h2, h4, h6, wldL]
 ·rintro m ⟨fr, bs⟩ ⟨i, hi, rfl, h1, h2, h4, h6⟩
  obtain ⟨g, hl, hw⟩ := key i (by omega)
  have hlt' : (i : Int) < n := by omega
  have hwi : IntKind.wrap .i64 ((i : Int) + 1) = (i : Int) + 1 := zaq (by omega) (by omega)
  have q1 := zne (s (i + 1)) (zbr hw).small
  rw [hw] at q1
  unfold RoundC at g
  obtain ⟨u', hu'⟩ : ∃ u', u' = s (i + 1) := ⟨_, rfl⟩
  rw [← hu'] at g q1 hl
  simp only [wldD, Wld.cells, nodesD, cutsD, msgsD, wldL, hl] at g q1
  simp -implicitDefEqProofs [h1, h2, h4, h6, hlt', wldL]
  refine zaa g ?_
  simp -implicitDefEqProofs [h1, h2, h4, h6]
  refine zaa (zze _) ?_
  simp -implicitDefEqProofs [h1, h2, h4, h6]
  refine zaa q1 ?_
  simp -implicitDefEqProofs [h1, h2, h4, h6, hl, hwi]
  refine ⟨i + 1, by omega, ?_⟩
  subst hu'
  simp [wldL, hl]
 ·rintro ⟨fr, bs⟩ ⟨rfl, h2, h4⟩
  simp -implicitDefEqProofs [h2, h4, wldL]
 ·rintro ⟨fr, bs⟩ h
  exact h.elim
end Go.AM
/- AM: contracts: the worlds that heal. -/
namespace Go.AM
set_option linter.unusedSimpArgs false
set_option linter.unusedVariables false
set_option maxRecDepth 8000
set_option maxHeartbeats 0
def atN (ns : List Node) (j : Int) : Nat := (gIdx (hasN j) 0 ns).toNat
def stepJ (ns : List Node) (i : Nat) (part : List Int) (j : Int) : List Int :=
 (part.set i (min (part[i]?.getD 0) (part[atN ns j]?.getD 0))).set (atN ns j) (min (part[i]?.getD 0) (part[atN ns j]?.getD 0))
def stepI (ns : List Node) (part : List Int) (x : Node × Nat) : List Int := (namesV x.1.view).foldl (stepJ ns x.2) part
def stepT (ns : List Node) (part : List Int) : List Int := ns.zipIdx.foldl (stepI ns) part
def partOf (ns : List Node) : List Int := (List.range ns.length).foldl (fun p _ => stepT ns p) ((List.range ns.length).map Int.ofNat)
def wholeB (w : Wld) : Bool := decide (w.cuts.length = 0) && (decide (w.packets.length ≤ 200) && (worldMay w && (w.nodes.all Node.up && (partOf w.nodes).all fun r => decide (r = 0))))
theorem Dist.trans {w : Wld} {a b : Nat} {i m j : Int} (h1 : Dist w a i m) (h2 : Dist w b m j) : Dist w (a + b) i j := by
 induction b generalizing j with
 | zero => obtain rfl : m = j := h2; exact h1
 | succ b ih =>
   obtain ⟨z, hz, hn⟩ := h2
   exact ⟨z, ih hz, hn⟩
def Conn (w : Wld) (i j : Nat) : Prop := ∃ x y, w.nodes[i]? = some x ∧ w.nodes[j]? = some y ∧ ∃ d, Dist w d x.view.id y.view.id
theorem Conn.symm {w : Wld} {i j : Nat} (h : Conn w i j) : Conn w j i := by
 obtain ⟨x, y, hx, hy, d, hd⟩ := h
 exact ⟨y, x, hy, hx, d, hd.symm⟩
theorem Conn.trans {w : Wld} {i j k : Nat} (h : Conn w i j) (g : Conn w j k) : Conn w i k := by
 obtain ⟨x, y, hx, hy, d, hd⟩ := h
 obtain ⟨y', z, hy', hz, e, he⟩ := g
 rw [hy] at hy'
 cases hy'
 exact ⟨x, z, hx, hz, d + e, hd.trans he⟩
theorem Conn.lt {w : Wld} {i j : Nat} (h : Conn w i j) : i < w.nodes.length ∧ j < w.nodes.length := by
 obtain ⟨x, y, hx, hy, _⟩ := h
 exact ⟨(List.getElem?_eq_some_iff.1 hx).1, (List.getElem?_eq_some_iff.1 hy).1⟩
theorem z4u {ns : List Node} {j : Int} (h : j ∈ idsN ns) : atN ns j < ns.length ∧ gIdx (hasN j) 0 ns = (atN ns j : Int) ∧ ∃ y, ns[atN ns j]? = some y ∧ y.view.id = j := by
 have key : ∀ (ms : List Node) (k : Nat), j ∈ idsN ms → ∃ p, p < ms.length ∧ gIdx (hasN j) k ms = ((k + p : Nat) : Int) ∧ ∃ y, ms[p]? = some y ∧ y.view.id = j := by
  intro ms
  induction ms with
  | nil => intro k h; simp [idsN] at h
  | cons x ms ih =>
    intro k h
    by_cases hx : x.view.id = j
    ·exact ⟨0, by simp, by simp [gIdx, hasN, hx], x, rfl, hx⟩
    ·have h2 : j ∈ idsN ms := by
      rcases List.mem_cons.1 h with e | e
      ·exact absurd e.symm hx
      ·exact e
     obtain ⟨p, p1, p2, y, p3, p4⟩ := ih (k + 1) h2
     refine ⟨p + 1, by simp; omega, ?_, y, by simpa using p3, p4⟩
     have hh : hasN j x = false := by simp [hasN, hx]
     simp only [gIdx, hh]
     rw [if_neg (by simp), p2]
     congr 1
     omega
 obtain ⟨p, p1, p2, y, p3, p4⟩ := key ns 0 h
 have e : atN ns j = p := by unfold atN; rw [p2]; simp
 rw [e]
 exact ⟨p1, by rw [p2]; simp, y, p3, p4⟩
structure Part (w : Wld) (part : List Int) : Prop where
 len : part.length = w.nodes.length
 conn : ∀ i, i < w.nodes.length → ∃ r : Nat, part[i]? = some (r : Int) ∧ Conn w i r
theorem z14 {w : Wld} : Part w ((List.range w.nodes.length).map Int.ofNat) := by
 refine ⟨by simp, fun i hi => ⟨i, by simp [hi], ?_⟩⟩
 obtain ⟨x, hx⟩ : ∃ x, w.nodes[i]? = some x := ⟨_, List.getElem?_eq_getElem hi⟩
 exact ⟨x, x, hx, hx, 0, rfl⟩
theorem z4o {w : Wld} {part : List Int} {i : Nat} {x : Node} {j : Int} (h : Part w part) (hx : w.nodes[i]? = some x) (hj : j ∈ namesV x.view) (hin : j ∈ idsN w.nodes) : Part w (stepJ w.nodes i part j) := by
 obtain ⟨a1, a2, y, a3, a4⟩ := z4u hin
 have hi := (List.getElem?_eq_some_iff.1 hx).1
 obtain ⟨r, r1, r2⟩ := h.conn i hi
 obtain ⟨q, q1, q2⟩ := h.conn _ a1
 have hc : Conn w i (atN w.nodes j) := ⟨x, y, hx, a3, 1, Dist.one.2 (.inr (.inl ⟨x, List.mem_of_getElem? hx, rfl, by rw [a4]; exact hj⟩))⟩
 have hlen := h.len
 obtain ⟨p, hp, p1, p2⟩ : ∃ p : Nat, min ((part[i]?).getD 0) ((part[atN w.nodes j]?).getD 0) = (p : Int) ∧ Conn w i p ∧ Conn w (atN w.nodes j) p := by
  rw [r1, q1]
  simp only [Option.getD_some]
  rcases Nat.le_total r q with hle | hle
  ·exact ⟨r, by omega, r2, hc.symm.trans r2⟩
  ·exact ⟨q, by omega, hc.trans q2, q2⟩
 unfold stepJ
 rw [hp]
 refine ⟨by simp [hlen], fun k hk => ?_⟩
 by_cases h1 : k = atN w.nodes j
 ·subst h1
  exact ⟨p, by rw [List.getElem?_set_self (by simp; omega)], p2⟩
 ·rw [List.getElem?_set_ne (fun e => h1 e.symm)]
  by_cases h2 : k = i
  ·subst h2
   exact ⟨p, by rw [List.getElem?_set_self (by omega)], p1⟩
  ·rw [List.getElem?_set_ne (fun e => h2 e.symm)]
   exact h.conn k hk
theorem z6z {w : Wld} (hM : May w) : Part w (partOf w.nodes) := by
 have h1 : ∀ (i : Nat) (x : Node), w.nodes[i]? = some x → ∀ (js : List Int) (part : List Int), (∀ j ∈ js, j ∈ namesV x.view) → Part w part → Part w (js.foldl (stepJ w.nodes i) part) := by
  intro i x hx js
  induction js with
  | nil => intro part _ h; exact h
  | cons j js ih =>
    intro part hj h
    exact ih _ (fun k hk => hj k (by simp [hk])) (z4o h hx (hj j (by simp)) (hM.inN x (List.mem_of_getElem? hx) j (hj j (by simp))))
 have h2 : ∀ (xs : List (Node × Nat)) (part : List Int), (∀ p ∈ xs, w.nodes[p.2]? = some p.1) → Part w part → Part w (xs.foldl (stepI w.nodes) part) := by
  intro xs
  induction xs with
  | nil => intro part _ h; exact h
  | cons p xs ih =>
    intro part hp h
    exact ih _ (fun q hq => hp q (by simp [hq])) (h1 p.2 p.1 (hp p (by simp)) _ part (fun j hj => hj) h)
 have h3 : ∀ part, Part w part → Part w (stepT w.nodes part) := fun part h => h2 _ part (fun p hp => by
  obtain ⟨x, i⟩ := p
  exact (List.mem_zipIdx_iff_getElem?.1 hp)) h
 have h4 : ∀ (ts : List Nat) (part : List Int), Part w part → Part w (ts.foldl (fun p _ => stepT w.nodes p) part) := by
  intro ts
  induction ts with
  | nil => intro part h; exact h
  | cons t ts ih => intro part h; exact ih _ (h3 _ h)
 exact h4 _ _ z14
theorem zxa {w : Wld} (h : wholeB w = true) : Fine (idsN w.nodes) w ∧ w.packets.length ≤ 200 ∧ ∀ i ∈ idsN w.nodes, ∀ j ∈ idsN w.nodes, Dist w 8 i j := by
 simp only [wholeB, Bool.and_eq_true, decide_eq_true_eq, List.all_eq_true] at h
 obtain ⟨h1, h2, h3, h4, h5⟩ := h
 have hM := zfo.1 h3
 have hF : Fine (idsN w.nodes) w := ⟨hM, h4, List.eq_nil_of_length_eq_zero h1, rfl⟩
 have hP := z6z hM
 have hz : ∀ i, i < w.nodes.length → Conn w i 0 := by
  intro i hi
  obtain ⟨r, r1, r2⟩ := hP.conn i hi
  have := h5 _ (List.mem_of_getElem? r1)
  have : r = 0 := by omega
  subst this
  exact r2
 refine ⟨hF, h2, fun i hi j hj => ?_⟩
 obtain ⟨x, hx, rfl⟩ := ze7.1 hi
 obtain ⟨y, hy, rfl⟩ := ze7.1 hj
 obtain ⟨k, hk⟩ := List.getElem?_of_mem hx
 obtain ⟨l, hl⟩ := List.getElem?_of_mem hy
 have hc := (hz k (List.getElem?_eq_some_iff.1 hk).1).trans (hz l (List.getElem?_eq_some_iff.1 hl).1).symm
 obtain ⟨x', y', hx', hy', d, hd⟩ := hc
 rw [hk] at hx'
 rw [hl] at hy'
 cases hx'
 cases hy'
 refine z8a hi (fun a b hn ha => ?_) hF.few hd
 rcases hn with rfl | ⟨z, hz, he, hm⟩ | ⟨z, hz, he, hm⟩
 ·exact ha
 ·exact hM.inN z hz b hm
 ·exact ze7.2 ⟨z, hz, he⟩
end Go.AM
/- AM: contracts: whole, walked. -/
namespace Go.AM
set_option linter.unusedSimpArgs false
set_option linter.unusedVariables false
set_option maxRecDepth 8000
set_option maxHeartbeats 0
theorem qbo (r q : Int) : (if q < r then q else r) = min r q := by split <;> omega
theorem z5o (w : Wld) (hs : w.small) : Den PP 12 [.agg (wldL w)] [] (.bool (wholeB w)) [] := by
 have c1 := zne w hs
 unfold wholeB
 obtain ⟨A, hA⟩ : ∃ A, partOf w.nodes = A := ⟨_, rfl⟩
 obtain ⟨U, hU⟩ : ∃ U, w.nodes.all Node.up = U := ⟨_, rfl⟩
 simp only [wldD, Wld.cells, nodesD, cutsD, msgsD] at c1
 simp only [wldL]
 have hcl : (0 : Int) < w.cuts.length ↔ ¬ w.cuts.length = 0 := by omega
 have hpl : (200 : Int) < w.packets.length ↔ ¬ w.packets.length ≤ 200 := by omega
 refine zaj [] [] zl3 ?_
 by_cases h1 : w.cuts.length = 0
 rotate_left
 ·have h1' : 0 < w.cuts.length := by omega
  simp -implicitDefEqProofs [zdt, h1, h1']
 have h1' : ¬ 0 < w.cuts.length := by omega
 by_cases h2 : w.packets.length ≤ 200
 rotate_left
 ·have h2' : (200 : Int) < w.packets.length := by omega
  simp -implicitDefEqProofs [zdt, h1, h1', h2, h2']
 have h2' : ¬ (200 : Int) < w.packets.length := by omega
 rw [h1] at c1
 simp -implicitDefEqProofs [zdt, h1, h1', h2, h2']
 refine zaa c1 ?_
 cases hw : worldMay w with
 | false => simp -implicitDefEqProofs
 | true =>
 have hM := zfo.1 hw
 have hk8 := (zbm hM.nodes).2.2.2
 have hk1 := (zbm hM.nodes).2.2.1
 simp -implicitDefEqProofs
 have e5 : (w.nodes.length : Int) * 8 ≤ 140737488355328 := by omega
 have e6 : (w.nodes.length : Int) ≤ 9223372036854775807 := by omega
 simp -implicitDefEqProofs [e5, e6]
 have hin : ∀ x ∈ w.nodes, ∀ j ∈ namesV x.view, j ∈ idsN w.nodes := fun x hx j hj => hM.inN x hx j hj
 have hvm : ∀ x ∈ w.nodes, viewMay x.view = true := fun x hx => (zf5 (hM.node hx)).2.1
 clear hcl hpl c1 hs hw hM
 obtain ⟨ns, cs, ps⟩ := w
 simp only at *
 refine zax (List.range ns.length) (fun i rest => fun ⟨fr, bs⟩ => ∃ part : List Int, bs = [⟨[[.sl (ns.map Node.cells) ns.length, .sl (cs.map Cut.row) 0, .sl (ps.map Msg.row) ps.length]], 3, .box⟩, ⟨part.map irow, 1, .mut⟩] ∧ part.length = ns.length ∧ (∀ j, j < i → part[j]? = some (j : Int)) ∧ fr 1 = .ptr 0 0 0 ∧ fr 3 = .int .i64 ns.length ∧ fr 4 = .ref 1 0 ns.length ∧ fr 5 = .int .i64 i)
  (fun ⟨fr, bs⟩ => bs = [⟨[[.sl (ns.map Node.cells) ns.length, .sl (cs.map Cut.row) 0, .sl (ps.map Msg.row) ps.length]], 3, .box⟩, ⟨((List.range ns.length).map Int.ofNat).map irow, 1, .mut⟩] ∧ fr 1 = .ptr 0 0 0 ∧ fr 3 = .int .i64 ns.length ∧ fr 4 = .ref 1 0 ns.length) (fun _ => False) zfq.eq_1 ?_ ?_ ?_ ?_ ?_
 ·exact ⟨List.replicate ns.length 0, by simp [irow], by simp, fun j hj => by omega, rfl, rfl, rfl, rfl⟩
 ·rintro i ⟨fr, bs⟩ hi ⟨part, rfl, hl, hp, g1, g3, g4, g5⟩
  have hi : i = ns.length := by simpa using hi
  have hpe : part = (List.range ns.length).map Int.ofNat := by
   apply List.ext_getElem?
   intro j
   by_cases hj : j < ns.length
   ·rw [hp j (by omega)]
    simp [hj]
   ·rw [List.getElem?_eq_none (by omega), List.getElem?_eq_none (by simp; omega)]
  subst hpe hi
  simp -implicitDefEqProofs [g1, g3, g4, g5]
 ·rintro i a rest ⟨fr, bs⟩ hlt hget hgg hd hd2 ⟨part, rfl, hl, hp, g1, g3, g4, g5⟩
  have hi : i < ns.length := by simpa using hlt
  have hi' : (i : Int) < ns.length := by omega
  have hw : IntKind.wrap .i64 ((i : Int) + 1) = (i : Int) + 1 := zaq (by omega) (by omega)
  clear hd hd2 hget hgg
  simp -implicitDefEqProofs [g1, g3, g4, g5, hi, hi', hl, hw]
  refine ⟨part.set i (i : Int), ?_, by simp [hl], fun j hj => ?_⟩
  ·simp [List.map_set, irow]
   rfl
  ·by_cases hji : j = i
   ·subst hji
    rw [List.getElem?_set_self (by omega)]
   ·rw [List.getElem?_set_ne (by omega)]
    exact hp j (by omega)
 ·rintro ⟨fr, bs⟩ ⟨rfl, g1, g3, g4⟩
  have hzu : ∀ (zs : List (Node × Nat)), zs = ns.zipIdx → (zs.all fun p => p.1.up) = U := by
   rintro zs rfl
   rw [← hU]
   have : (ns.zipIdx.map Prod.fst) = ns := by simp
   conv => rhs; rw [← this]
   rw [List.all_map]
   rfl
  simp -implicitDefEqProofs [g1, g3, g4]
  refine zax (List.range ns.length) (fun t rest => fun ⟨fr, bs⟩ => ∃ part : List Int, bs = [⟨[[.sl (ns.map Node.cells) ns.length, .sl (cs.map Cut.row) 0, .sl (ps.map Msg.row) ps.length]], 3, .box⟩, ⟨part.map irow, 1, .mut⟩] ∧ part.length = ns.length ∧ rest.foldl (fun p _ => stepT ns p) part = A ∧ (0 < t → U = true) ∧ fr 1 = .ptr 0 0 0 ∧ fr 3 = .int .i64 ns.length ∧ fr 4 = .ref 1 0 ns.length ∧ fr 6 = .int .i64 t)
   (fun ⟨fr, bs⟩ => bs = [⟨[[.sl (ns.map Node.cells) ns.length, .sl (cs.map Cut.row) 0, .sl (ps.map Msg.row) ps.length]], 3, .box⟩, ⟨A.map irow, 1, .mut⟩] ∧ A.length = ns.length ∧ U = true ∧ fr 1 = .ptr 0 0 0 ∧ fr 3 = .int .i64 ns.length ∧ fr 4 = .ref 1 0 ns.length) (fun ⟨fr, bs⟩ => fr 2 = .bool false ∧ U = false) zfu.eq_1 ?_ ?_ ?_ ?_ ?_
  ·exact ⟨_, by simp, by simp, hA, fun h => by omega, by simp [g1], by simp [g3], by simp [g4], by simp⟩
  ·rintro t ⟨fr, bs⟩ ht ⟨part, rfl, hl, hf, hu, g1, g3, g4, g6⟩
   have ht : t = ns.length := by simpa using ht
   obtain rfl : part = A := hf
   have hut := hu (by omega)
   subst ht
   simp -implicitDefEqProofs [g1, g3, g4, g6]
   exact ⟨hl, hut⟩
  ·rintro t a rest ⟨fr, bs⟩ hlt hget hgg hd hd2 ⟨part, rfl, hl, hf, hu, g1, g3, g4, g6⟩
   have ht : t < ns.length := by simpa using hlt
   have ht' : (t : Int) < ns.length := by omega
   have hwt : IntKind.wrap .i64 ((t : Int) + 1) = (t : Int) + 1 := zaq (by omega) (by omega)
   obtain ⟨B, hB⟩ : ∃ B, stepT ns part = B := ⟨_, rfl⟩
   rw [List.foldl_cons, hB] at hf
   clear hd hd2 hget hgg hu
   simp -implicitDefEqProofs [g1, g3, g4, g6, ht']
   refine zax ns.zipIdx (fun i rest => fun ⟨fr, bs⟩ => ∃ part : List Int, bs = [⟨[[.sl (ns.map Node.cells) ns.length, .sl (cs.map Cut.row) 0, .sl (ps.map Msg.row) ps.length]], 3, .box⟩, ⟨part.map irow, 1, .mut⟩] ∧ part.length = ns.length ∧ rest.foldl (stepI ns) part = B ∧ (rest.all fun p => p.1.up) = U ∧ fr 1 = .ptr 0 0 0 ∧ fr 3 = .int .i64 ns.length ∧ fr 4 = .ref 1 0 ns.length ∧ fr 6 = .int .i64 t ∧ fr 7 = .int .i64 i)
    (fun ⟨fr, bs⟩ => bs = [⟨[[.sl (ns.map Node.cells) ns.length, .sl (cs.map Cut.row) 0, .sl (ps.map Msg.row) ps.length]], 3, .box⟩, ⟨B.map irow, 1, .mut⟩] ∧ B.length = ns.length ∧ U = true ∧ fr 1 = .ptr 0 0 0 ∧ fr 3 = .int .i64 ns.length ∧ fr 4 = .ref 1 0 ns.length ∧ fr 6 = .int .i64 t) (fun ⟨fr, bs⟩ => fr 2 = .bool false ∧ U = false) zfy.eq_1 ?_ ?_ ?_ ?_ ?_
   ·exact ⟨part, by simp, hl, hB, hzu _ rfl, by simp [g1], by simp [g3], by simp [g4], by simp [g6], by simp⟩
   ·rintro i ⟨fr, bs⟩ hi ⟨part, rfl, hl, hf2, hu, g1, g3, g4, g6, g7⟩
    have hi : i = ns.length := by simpa using hi
    obtain rfl : part = B := hf2
    have hut : U = true := by simpa using hu.symm
    subst hi
    simp -implicitDefEqProofs [g1, g3, g4, g6, g7]
    exact ⟨hl, hut⟩
   ·rintro i ⟨x, i'⟩ rest ⟨fr, bs⟩ hlt hget hgg hd hd2 ⟨part, rfl, hl, hf2, hu, g1, g3, g4, g6, g7⟩
    obtain ⟨hx, hii⟩ : ns[i]? = some x ∧ i' = i := by
     rw [List.getElem?_zipIdx] at hget
     cases hc : ns[i]? with
     | none => rw [hc] at hget; cases hget
     | some z => rw [hc] at hget; simp at hget; exact ⟨by rw [hget.1], by omega⟩
    subst hii
    have hi := (List.getElem?_eq_some_iff.1 hx).1
    have hi' : (i' : Int) < ns.length := by omega
    have hgx := zzo hx
    have hwi : IntKind.wrap .i64 ((i' : Int) + 1) = (i' : Int) + 1 := zaq (by omega) (by omega)
    have hxm := List.mem_of_getElem? hx
    obtain ⟨C, hC⟩ : ∃ C, stepI ns part (x, i') = C := ⟨_, rfl⟩
    rw [List.foldl_cons, hC] at hf2
    rw [List.all_cons] at hu
    clear hd hd2 hget hgg hlt
    simp -implicitDefEqProofs [g1, g3, g4, g6, g7, hi, hi', hx, hgx, Node.cells, peersD, intsD, itemsD, toldsD]
    cases hxu : x.up with
    | false =>
      simp -implicitDefEqProofs
      rw [hxu] at hu
      simpa using hu.symm
    | true =>
      rw [hxu] at hu
      have n1 := z3j x.view (hvm x hxm)
      have hnx := hin x hxm
      have l1 : (namesV x.view).length ≤ 16 := by have := (zas (hvm x hxm)).2.2.1; simp [namesV]; omega
      unfold stepI at hC
      simp only at hC
      generalize namesV x.view = js at *
      simp only [viewD, View.cells, peersD, intsD] at n1
      simp -implicitDefEqProofs [g1, g3, g4, g6, g7, hi, hi', hx, hgx, Node.cells, peersD, intsD, itemsD, toldsD]
      refine zaa n1 ?_
      simp -implicitDefEqProofs
      refine zax js (fun j rest => fun ⟨fr, bs⟩ => ∃ part : List Int, bs = [⟨[[.sl (ns.map Node.cells) ns.length, .sl (cs.map Cut.row) 0, .sl (ps.map Msg.row) ps.length]], 3, .box⟩, ⟨part.map irow, 1, .mut⟩] ∧ part.length = ns.length ∧ rest.foldl (stepJ ns i') part = C ∧ fr 1 = .ptr 0 0 0 ∧ fr 3 = .int .i64 ns.length ∧ fr 4 = .ref 1 0 ns.length ∧ fr 6 = .int .i64 t ∧ fr 7 = .int .i64 i' ∧ fr 8 = .sl (js.map irow) js.length ∧ fr 9 = .int .i64 j)
       (fun ⟨fr, bs⟩ => bs = [⟨[[.sl (ns.map Node.cells) ns.length, .sl (cs.map Cut.row) 0, .sl (ps.map Msg.row) ps.length]], 3, .box⟩, ⟨C.map irow, 1, .mut⟩] ∧ C.length = ns.length ∧ fr 1 = .ptr 0 0 0 ∧ fr 3 = .int .i64 ns.length ∧ fr 4 = .ref 1 0 ns.length ∧ fr 6 = .int .i64 t ∧ fr 7 = .int .i64 i') (fun _ => False) zfw.eq_1 ?_ ?_ ?_ ?_ ?_
      ·exact ⟨part, by simp, hl, hC, by simp [g1], by simp [g3], by simp [g4], by simp [g6], by simp [g7], by simp, by simp⟩
      ·rintro j ⟨fr, bs⟩ hj ⟨part, rfl, hl, hf3, g1, g3, g4, g6, g7, g8, g9⟩
       obtain rfl : part = C := hf3
       simp -implicitDefEqProofs [g1, g3, g4, g6, g7, g8, g9, hj]
       exact hl
      ·rintro j id rest ⟨fr, bs⟩ hlj hgj hggj hdj hdj2 ⟨part, rfl, hl, hf3, g1, g3, g4, g6, g7, g8, g9⟩
       have hj' : (j : Int) < js.length := by omega
       have hwj : IntKind.wrap .i64 ((j : Int) + 1) = (j : Int) + 1 := zaq (by omega) (by omega)
       have k1 := zrw ns id (by unfold cap; omega)
       obtain ⟨a1, a2, -⟩ := z4u (hnx id (List.mem_of_getElem? hgj))
       rw [a2] at k1
       rw [List.foldl_cons] at hf3
       unfold stepJ at hf3
       obtain ⟨P, hP⟩ : ∃ P, atN ns id = P := ⟨_, rfl⟩
       rw [hP] at a1 k1 hf3
       have a1' : (P : Int) < ns.length := by omega
       have p1 : P < part.length := by omega
       have p2 : i' < part.length := by omega
       obtain ⟨r, hr⟩ : ∃ r, part[i']? = some r := ⟨_, List.getElem?_eq_getElem p2⟩
       obtain ⟨q, hq⟩ : ∃ q, part[P]? = some q := ⟨_, List.getElem?_eq_getElem p1⟩
       have hgr := zzo hr
       have hgq := zzo hq
       rw [hr, hq] at hf3
       simp only [Option.getD_some] at hf3
       rw [← qbo] at hf3
       clear hdj hdj2 n1
       simp only [nodesD] at k1
       simp -implicitDefEqProofs [g1, g3, g4, g6, g7, g8, g9, hlj, hj', hgj, hggj, irow]
       refine zaa k1 ?_
       simp -implicitDefEqProofs [g1, g3, g4, g6, g7, g8, g9, hi, hi', a1, a1', p1, p2, hl, hr, hq, hgr, hgq, irow]
       have hmin : minL (fun x y : Int => if y < x then y else x) [D.int .i64 r, D.int .i64 q] = some (.i64, if q < r then q else r) := rfl
       obtain ⟨m, hm⟩ : ∃ m, (if q < r then q else r) = m := ⟨_, rfl⟩
       rw [hm] at hmin hf3
       have hms : ∀ (pt : List Int) (k : Nat) (z : Int), (pt.map irow).set k [.int .i64 z] = (pt.set k z).map irow := fun pt k z => by rw [List.map_set]; rfl
       simp -implicitDefEqProofs [g1, g3, g4, g6, g7, g8, g9, hi, hi', a1, a1', p1, p2, hl, hmin, hwj, irow, hms, -List.map_set]
       exact ⟨_, rfl, by simp [hl], hf3⟩
      ·rintro ⟨fr, bs⟩ ⟨rfl, hl, g1, g3, g4, g6, g7⟩
       simp -implicitDefEqProofs [g1, g3, g4, g6, g7, hwi]
       exact ⟨C, rfl, hl, hf2, by simpa using hu⟩
      ·rintro ⟨fr, bs⟩ h
       exact h.elim
   ·rintro ⟨fr, bs⟩ ⟨rfl, hl, hut, g1, g3, g4, g6⟩
    simp -implicitDefEqProofs [g1, g3, g4, g6, hwt]
    exact ⟨B, rfl, hl, hf, hut⟩
   ·rintro ⟨fr, bs⟩ ⟨h, hu⟩
    simp -implicitDefEqProofs [h, hu]
  ·rintro ⟨fr, bs⟩ ⟨rfl, hl, hut, g1, g3, g4⟩
   obtain ⟨V, hV⟩ : ∃ V, (A.all fun r => decide (r = 0)) = V := ⟨_, rfl⟩
   rw [hU, hut, hA, hV]
   simp -implicitDefEqProofs [g1, g3, g4]
   refine zax A (fun i rest => fun ⟨fr, bs⟩ => bs = [⟨[[.sl (ns.map Node.cells) ns.length, .sl (cs.map Cut.row) 0, .sl (ps.map Msg.row) ps.length]], 3, .box⟩, ⟨A.map irow, 1, .mut⟩] ∧ (rest.all fun r => decide (r = 0)) = V ∧ fr 1 = .ptr 0 0 0 ∧ fr 3 = .int .i64 ns.length ∧ fr 4 = .ref 1 0 ns.length ∧ fr 12 = .int .i64 i)
    (fun ⟨fr, bs⟩ => V = true) (fun ⟨fr, bs⟩ => fr 2 = .bool false ∧ V = false) zfz.eq_1 ?_ ?_ ?_ ?_ ?_
   ·exact ⟨by simp, hV, by simp [g1], by simp [g3], by simp [g4], by simp⟩
   ·rintro i ⟨fr, bs⟩ hi ⟨rfl, hv, g1, g3, g4, g12⟩
    rw [hl] at hi
    subst hi
    simp -implicitDefEqProofs [g1, g3, g4, g12]
    simpa using hv.symm
   ·rintro i a rest ⟨fr, bs⟩ hlt hget hgg hd hd2 ⟨rfl, hv, g1, g3, g4, g12⟩
    have hi : i < ns.length := by omega
    have hi' : (i : Int) < ns.length := by omega
    have hwi : IntKind.wrap .i64 ((i : Int) + 1) = (i : Int) + 1 := zaq (by omega) (by omega)
    rw [List.all_cons] at hv
    by_cases ha : a = 0
    ·subst ha
     simp -implicitDefEqProofs [g1, g3, g4, g12, hi, hi', hl, hlt, hget, hgg, irow, hwi]
     simpa using hv
    ·simp -implicitDefEqProofs [g1, g3, g4, g12, hi, hi', hl, hlt, hget, hgg, irow, ha]
     simpa [ha] using hv.symm
   ·rintro ⟨fr, bs⟩ h
    subst h
    simp -implicitDefEqProofs
   ·rintro ⟨fr, bs⟩ ⟨h, hv⟩
    simp -implicitDefEqProofs [h, hv]
  ·rintro ⟨fr, bs⟩ ⟨h, hu⟩
   rw [hU, hu]
   simp -implicitDefEqProofs [h]
 ·rintro ⟨fr, bs⟩ h
  exact h.elim
end Go.AM
