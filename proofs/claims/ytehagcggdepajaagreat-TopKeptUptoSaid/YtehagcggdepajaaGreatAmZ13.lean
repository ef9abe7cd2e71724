/- What the proof of this claim stands on, part 13. -/
import Derived.RangeFuncBox
import Derived.RangeFuncLeaves
import Derived.Shelf.Abstract
import Derived.WalkKit
import Derived.OwnWalkIn
import Derived.TacticsInMore
import Derived.LoopNIn
import Derived.LoopIn
import Derived.Maps.AppendAt
import Derived.Shelf.Small.Bits
import Derived.KernelRfl
import Derived.Test.YtehagcggdepajaaGreatAmZ12
set_option linter.unusedVariables false
set_option linter.unusedSimpArgs false
set_option maxRecDepth 8000
set_option maxHeartbeats 0
/- AM: contracts: an iterator's values collected; how many bits a number has. -/
namespace Go.AM
open Go.RowKit Go.Shelf Go.Proofs
attribute [local go_sem] Oper.semAt_some
def upto (f : Nat → Int) (k : Nat) : List Int := (List.range k).map f
theorem z07 (f : Nat → Int) (k : Nat) : upto f (k + 1) = upto f k ++ [f k] := by simp [upto, List.range_succ]
theorem z4h (f : Nat → Int) (k : Nat) : (upto f k).length = k := by simp [upto]
theorem qfb (zs : List Int) : upto (fun j => zs[j]?.getD 0) zs.length = zs := by
 apply List.ext_getElem
 ·simp [upto]
 ·intro i h1 h2
  simp [upto, h2]
theorem qa9 (zs : List Int) {k : Nat} (hk : k ≤ zs.length) : upto (fun j => zs[j]?.getD 0) k = zs.take k := by
 apply List.ext_getElem
 ·simp [upto, hk]
 ·intro i h1 h2
  have : i < zs.length := by simp [upto] at h1; omega
  simp [upto, this]
set_option maxRecDepth 100000 in
set_option maxHeartbeats 2000000 in
theorem qcb (n : Nat) (hn : 1 ≤ n) (l n₀ b off len cap : Nat) (p : Addr) (zs : List Int) (hreach : len * 8 ≤ 140737488351232) (hb : b < n₀) (J Jx : List Int → World → Prop)
 (hY : ∀ pre x W, J pre W → pre.length < len → YieldAt Fence.wide (n - 1) PP l #[.int .i64 x] W fun e W' =>
   (e = .returned (.bool true) ∧ J (pre ++ [x]) W' ∧ Below n₀ W W') ∨ (e = .returned (.bool false) ∧ Jx (pre ++ [x]) W'))
 (W : World) (hBs : W.cell? p = some (.slice (some ⟨b, off, none⟩) len cap)) (hc : ∀ j, j < len → W.cell? ⟨b, off + j, none⟩ = some (.int .i64 (zs[j]?.getD 0))) (h0 : J [] W) :
 CallsIn Fence.wide n PP 202 #[.func (.yield l) #[] #[], .pointer (some p)] W fun e W' => (∃ v, e = .returned v) ∧
  ((∃ ys, ys = upto (fun j => zs[j]?.getD 0) len ∧ J ys W') ∨ (∃ pre, (∃ k, k ≤ len ∧ pre = upto (fun j => zs[j]?.getD 0) k) ∧ Jx pre W')) := by
 refine callsIn_of_wp Tryz.func202 rfl trivial ?_ rfl
 simp only [Tryz.ntmps202, List.size_toArray, List.length_cons, List.length_nil, Nat.reduceAdd, Nat.reduceSub, Array.replicate_succ, Array.replicate_zero, List.push_toArray, List.append_toArray, List.nil_append, List.cons_append]
 gi_wp2
 gi_loopw [7] (fun i wr => ∃ k : Nat, k ≤ len ∧ i = .int .i64 k ∧ J (upto (fun j => zs[j]?.getD 0) k) wr ∧ Below n₀ W wr)
  (fun i _ => len - (intOf i).toNat)
 case atStart => exact ⟨0, Nat.zero_le _, rfl, h0, Below.refl _ _⟩
 case round =>
  obtain ⟨k, hk, rfl, hJs, hnx⟩ := hrel
  have hcx : k < len → wr.cell? ⟨b, off + k, none⟩ = some (.int .i64 (zs[k]?.getD 0)) := fun h => (hnx.cell (p := ⟨b, off + k, none⟩) hb).trans (hc k h)
  by_cases hlt : k < len
  ·obtain ⟨fn, tmps, assign, body, hy, hR⟩ := hY _ (zs[k]?.getD 0) wr hJs (by rw [z4h]; exact hlt)
   have hcx' := hcx hlt
   gi_wp2
   refine hR.mono ?_
   rintro e W3 (⟨rfl, hJ3, hk3⟩ | ⟨rfl, hJx3⟩)
   ·gi_wp2
    go_roundw
    case rel => exact ⟨k + 1, by omega, by simp, by rw [z07]; exact hJ3, hnx.trans hk3⟩
    case measure => simp [intOf]; omega
   ·gi_wp2
    refine bodyPost_ret (results_none rfl _ _ _) rfl ?_
    exact ⟨⟨_, rfl⟩, .inr ⟨_, ⟨k + 1, by omega, (z07 _ _).symm⟩, hJx3⟩⟩
  ·obtain rfl : k = len := by omega
   gi_wp2
   go_end0
   exact ⟨⟨_, rfl⟩, .inl ⟨_, rfl, hJs⟩⟩
set_option maxRecDepth 100000 in
set_option maxHeartbeats 1000000 in
theorem z5j (n : Nat) (l cap : Nat) (p : Addr) (a : Option Addr) (J : List Int → World → Prop) (W : World) (hBs : W.cell? p = some (.slice a 0 cap)) (h0 : J [] W) :
 CallsIn Fence.wide n PP 202 #[.func (.yield l) #[] #[], .pointer (some p)] W fun e W' => (∃ v, e = .returned v) ∧ J [] W' := by
 refine callsIn_of_wp Tryz.func202 rfl trivial ?_ rfl
 simp only [Tryz.ntmps202, List.size_toArray, List.length_cons, List.length_nil, Nat.reduceAdd, Nat.reduceSub, Array.replicate_succ, Array.replicate_zero, List.push_toArray, List.append_toArray, List.nil_append, List.cons_append]
 gi_wp2
 gi_loopw [7] (fun i wr => i = .int .i64 0 ∧ J [] wr) (fun _ _ => 0)
 case atStart => exact ⟨rfl, h0⟩
 case round =>
  obtain ⟨rfl, hJs⟩ := hrel
  gi_wp2
  go_end0
  exact ⟨⟨_, rfl⟩, hJs⟩
def IntsAt (n₀ : Nat) (W : World) (sv : Value) (zs : List Int) : Prop :=
 (∃ a cap, sv = .slice a 0 cap ∧ zs = []) ∨ ∃ b off cap, sv = .slice (some ⟨b, off, none⟩) zs.length cap ∧ b < n₀ ∧ ∀ j, j < zs.length → W.cell? ⟨b, off + j, none⟩ = some (.int .i64 (zs[j]?.getD 0))
theorem IntsAt.below {n₀ : Nat} {A B : World} (h : Below n₀ A B) {sv : Value} {zs : List Int} : IntsAt n₀ A sv zs → IntsAt n₀ B sv zs
 | .inl e => .inl e
 | .inr ⟨b, off, cap, e, hb, hc⟩ => .inr ⟨b, off, cap, e, hb, fun j hj => (h.cell (p := ⟨b, off + j, none⟩) hb).trans (hc j hj)⟩
theorem z2s (n : Nat) (hn : 1 ≤ n) (n₀ : Nat) (p : Addr) (sv : Value) (zs : List Int) (hreach : zs.length * 8 ≤ 140737488351232) (w : World) (hBs : p.block < w.heap.size) (hn₀ : n₀ ≤ w.heap.size)
 (hc : w.cell? p = some sv) (hI : IntsAt n₀ w sv zs) :
 SeqStopsK Fence.wide n PP 202 #[.pointer (some p)] (fun x : Int => #[Value.int .i64 x]) (Below n₀) (fun ys => ys = zs) (fun pre => pre <+: zs) zs.length w := fun l J Jx W hW _ _ hY h0 => by
 have hc' := (hW.cell (p := p) hBs).trans hc
 rcases hI.below (hW.mono hn₀) with ⟨a, cap, rfl, rfl⟩ | ⟨b, off, cap, rfl, hb, hcs⟩
 ·exact (z5j n l cap p a J W hc' h0).mono fun e W' ⟨he, hj⟩ => ⟨he, .inl ⟨_, rfl, hj⟩⟩
 ·refine (qcb n hn l n₀ b off zs.length cap p zs hreach hb J Jx hY W hc' hcs h0).mono ?_
  rintro e W' ⟨he, ⟨ys, rfl, hj⟩ | ⟨pre, ⟨k, hk, rfl⟩, hj⟩⟩
  ·exact ⟨he, .inl ⟨_, qfb zs, hj⟩⟩
  ·exact ⟨he, .inr ⟨_, by rw [qa9 zs hk]; exact List.take_prefix _ _, hj⟩⟩
set_option maxRecDepth 100000 in
set_option maxHeartbeats 2000000 in
theorem zup (n : Nat) (hn : 3 ≤ n) (p : Addr) (sv : Value) (zs : List Int) (hlen : zs.length * 8 ≤ 140737488351232) (w : World) (hp : p.block < w.heap.size) (hc : w.cell? p = some sv) (hI : IntsAt w.heap.size w sv zs) :
 CallsIn Fence.wide n PP 233 #[.slice none 0 0, .func (.func 202) #[] #[.pointer (some p)]] w fun e W' => ∃ v, e = .returned v ∧
  W'.ownsRow w.heap.size 3 1 v zs.length (zs.map (Value.int .i64)) ∧ (v = .slice none 0 0 ↔ zs = []) ∧ Below w.heap.size w W' := by
 have h1 : 1 ≤ n := by omega
 have hmax : zs.length ≤ maxLen := by simp [maxLen]; omega
 obtain ⟨i0, hi, hz0, hz1, hz2⟩ := info_parts (by kernel_rfl : (PP.info? 3).map (fun i => (i.zero, i.size, i.bytes)) = some (some (.int .i64 0), 1, 8))
 refine callsIn_of_wp_marks Tryz.func233 rfl trivial ?_ rfl
 simp only [Tryz.ntmps233, List.size_toArray, List.length_cons, List.length_nil, Nat.reduceAdd, Nat.reduceSub, Array.replicate_succ, Array.replicate_zero, List.push_toArray, List.append_toArray, List.nil_append, List.cons_append]
 gi_wp2
 have bO := Boxed.new w 36 (.slice none 0 0)
 have hB0 : Below w.heap.size w (w.alloc (.cells #[.slice none 0 0] 36)) := (Below.refl _ w).alloc (Nat.le_refl _) _
 refine wpIn_rangeFunc_ownG rfl h1 (gf := 202) (lb := #[.pointer (some p)]) rfl trivial (enters_of Tryz.func202 (by kernel_rfl) rfl)
  (z2s (n - 1) (by omega) w.heap.size p sv zs hlen _ (by simp; omega) (by simp) ((hB0.cell (p := p) hp).trans hc) (hI.below hB0)) belowK_t (belowK_b (by simp)) (Below.refl _ _) (fun _ => rfl)
  (fun pre W => (∃ v, Boxed W w.heap.size 36 v ∧ W.ownsRow w.heap.size 3 1 v pre.length (pre.map (Value.int .i64)) ∧ (v = .slice none 0 0 ↔ pre = [])) ∧ Below w.heap.size w W)
  (fun _ _ _ => False)
  (OwnFrom.and (Own.from (holdsRow_own w.heap.size w.heap.size 36 3 1 (fun pre => pre.length) (fun pre => pre.map (Value.int .i64)) (fun pre v => v = .slice none 0 0 ↔ pre = [])) _) (ownFrom_below (Nat.le_refl _) (by simp)))
  (fun _ _ _ _ _ hs _ _ => hs)
  ⟨⟨_, bO, World.ownsRow_nil _ _ _ _, by simp⟩, hB0⟩
  (fun x => { tmps := #[.slice none 0 0, .func (.func 202) #[] #[.pointer (some p)], .pointer (some ⟨w.heap.size, 0, none⟩), Go.undef, .slice none 0 0, .int .i64 x, .func (.func 202) #[] #[.pointer (some p)], .int .i64 x, Go.undef, Go.undef, Go.undef, Go.undef, Go.undef], defers := [] }) ?assign ?body ?done ?stop
 case assign =>
  intro l x W K hK
  gi_wp2
  exact hK
 case body =>
  rintro l pre x W ⟨⟨v, hv, hrow, hnil⟩, hB⟩ hlt
  have hc := hv.cell
  gi_wp2_with (gi_at_builtin; refine wpListIn_append_own _ rfl _ _ 36 rfl w.heap.size 3 i0 (.int .i64 0) 1 8 Tryz.underlying36 hi hz0 hz1 hz2 rfl (by decide) _ _ _ rfl (hrow.alloc _) ⟨W.heap.size, 0, none⟩ 1 1 [.int .i64 x] rfl rfl (cell_one_new _ _ _) (by simp [Value.oneCell']) (by omega) (by omega) (by have := hB.size; simp; omega) ?_; intro v' w1 hown' hgrow _; obtain ⟨g', cap', rfl⟩ := ownsRow_succ hown'; obtain ⟨hv1, hv2, hr2, hk2, hb2⟩ := hv.appended (by decide) hrow hB.size (Nat.le_refl _) hown' hgrow; have hc1 := hv1.cell; have hf1 := hv1.frozen)
  exact ⟨hk2.from _, hb2, ⟨_, hv2, by simpa using hr2, by simp⟩, hB.trans hb2⟩
 case done =>
  rintro D ys W hD rfl ⟨⟨v, hv, hrow, hnil⟩, hB⟩ hK
  have hc := hv.cell
  gi_wp2
  refine ⟨by simp, .inl ⟨_, _, rfl, run_takeDeferred hK, ?_⟩⟩
  exact ⟨_, results_tmp rfl _ _ _, v, rfl, ownsRow_putObj hrow _ hK rfl, hnil, hB.trans (belowK_b (w := w) (Nat.le_refl _) W D _ _ (by simp at hD; omega) hK rfl rfl)⟩
 case stop =>
  rintro D c pre W _ _ h _
  exact h.elim
end Go.AM
/- AM: contracts: slices.Collect of a slice's values; how many bits two takes. -/
namespace Go.AM
open Go.RowKit Go.Shelf Go.Proofs
attribute [local go_sem] Oper.semAt_some
set_option maxRecDepth 100000 in
set_option maxHeartbeats 2000000 in
theorem zzw (n : Nat) (hn : 4 ≤ n) (p : Addr) (sv : Value) (zs : List Int) (hlen : zs.length * 8 ≤ 140737488351232) (w : World) (hp : p.block < w.heap.size) (hc : w.cell? p = some sv) (hI : IntsAt w.heap.size w sv zs) :
 CallsIn Fence.wide n PP 200 #[.func (.func 202) #[] #[.pointer (some p)]] w fun e W' => ∃ v, e = .returned v ∧
  W'.ownsRow w.heap.size 3 1 v zs.length (zs.map (Value.int .i64)) ∧ (v = .slice none 0 0 ↔ zs = []) ∧ Below w.heap.size w W' := by
 have h1 : 1 ≤ n := by omega
 have hf : Fence.wide.fn 233 := trivial
 refine callsIn_of_wp Tryz.func200 rfl trivial ?_ rfl
 simp only [Tryz.ntmps200, List.size_toArray, List.length_cons, List.length_nil, Nat.reduceAdd, Nat.reduceSub, Array.replicate_succ, Array.replicate_zero, List.push_toArray, List.append_toArray, List.nil_append, List.cons_append]
 gi_wp2_with (gi_at_call 233; refine (zup (n - 1) (by omega) p sv zs hlen w hp hc hI).mono ?_; rintro e w1 ⟨v, rfl, hr, hnil, hB⟩)
 go_ret
 exact ⟨_, rfl, hr, hnil, hB⟩
theorem z5q {vs : Array Value} (h : vs.size = 1) : ∃ v, vs = #[v] := by
 obtain ⟨l⟩ := vs
 match l, h with
 | [v], _ => exact ⟨v, rfl⟩
theorem z45 (zs : List Int) (hne : zs ≠ []) (hlen : zs.length * 8 ≤ 140737488351232) :
 Den PP 200 [.fn 202 [] [.mem [.sl (zs.map fun z => [.int .i64 z]) zs.length]]] [] (.ref 0 0 zs.length) [⟨zs.map fun z => [.int .i64 z], 1, .mut⟩] := by
 refine ⟨⟨_, Tryz.func200, by kernel_rfl, rfl⟩, fun w M0 ρ vals hM hS hs ha => ?_⟩
 obtain ⟨v0, rfl⟩ := z5q hs
 obtain ⟨va, vc, rfl, h1, h2, -, h4⟩ := (ha 0 v0 _ (by simp) rfl).fn_inv
 obtain rfl : va = #[] := Array.eq_empty_of_size_eq_zero (by simpa using h1)
 obtain ⟨v1, rfl⟩ := z5q h2
 have hm := (h4 0 v1 _ (by simp) rfl).mem_inv
 cases hm with
 | mem g off cs vs hc hv =>
 obtain ⟨-, hcell⟩ := hc 0 (by simp)
 have hsl := hv 0 _ rfl
 have key : ∃ b o cap, vs 0 = .slice (some ⟨b, o, none⟩) zs.length cap ∧ b < w.heap.size ∧ ∀ j, j < zs.length → w.cell? ⟨b, o + j, none⟩ = some (.int .i64 (zs[j]?.getD 0)) := by
  generalize vs 0 = sv at hsl
  cases hsl with
  | sl a len cap rows esz g off vals h1 h2 hr ha hc hv =>
    have h0 : 0 < zs.length := List.length_pos_iff.2 hne
    have he : esz = 1 := by
     cases zs with
     | nil => exact absurd rfl hne
     | cons z zs => exact (hr [.int .i64 z] (by simp)).symm
    subst he
    have hcc : ∀ j, j < zs.length → w.cell? ⟨g, off + j, none⟩ = some (.int .i64 (zs[j]?.getD 0)) := by
     intro j hj
     have hx := (hc j 0 (by simpa using hj) (by omega)).2
     have hy := hv j 0 [.int .i64 zs[j]] (.int .i64 zs[j]) (by simp [hj]) rfl
     have : vals j 0 = .int .i64 zs[j] := by
      generalize vals j 0 = u at hy
      cases hy; rfl
     rw [this] at hx
     simpa [hj] using hx
    exact ⟨g, off, cap, by rw [ha (by simpa using hne)], zma (hcc 0 h0), hcc⟩
 obtain ⟨b, o, cap, hsv, hb, hcc⟩ := key
 have hcell' : w.cell? ⟨g, off + 0, none⟩ = some (vs 0) := hcell
 refine ((callsIn_wide (n := 4)).1 (zzw 4 (by omega) ⟨g, off, none⟩ (vs 0) zs hlen w (zma hcell') hcell' (.inr ⟨b, o, cap, hsv, hb, hcc⟩))).mono ?_
 rintro e W' ⟨v, rfl, ⟨hl, hrow⟩, hnil, hB⟩
 rcases hrow with ⟨rfl, h0⟩ | ⟨g', cap', cur, rfl, hg, hh, hn1, hn2, hsz, htk⟩
 ·exact absurd (hnil.1 rfl) hne
 have habs : ∀ i, ρ i = .absent := fun i => hS.out i (Nat.zero_le _)
 have hcur : ∀ i, i < zs.length → cur[i]? = some (.int .i64 (zs[i]?.getD 0)) := by
  intro i hi
  have : (cur.toList.take (zs.length * 1))[i]? = (zs.map (Value.int .i64))[i]? := by rw [htk]
  rw [List.getElem?_take_of_lt (by omega)] at this
  simpa [hi] using this
 have hgw : w.heap.size ≤ g' := hg
 have hMof : ∀ (x o : Nat), Mof M0 (updL ρ 0 (.at_ g' 0 cur.size zs.length 1)) [⟨zs.map fun z => [.int .i64 z], 1, .mut⟩] x o → M0 x o ∨ x = g' := by
  rintro x o (h | ⟨i, k, base, n, rl, esz, hi, hat, -⟩)
  ·exact .inl h
  ·by_cases h0 : i = 0
   ·subst h0
    rw [zbb] at hat
    cases hat
    exact .inr rfl
   ·rw [zbt _ _ h0, habs] at hat
    cases hat
 refine ⟨_, updL ρ 0 (.at_ g' 0 cur.size zs.length 1), rfl, ?_, ?_, by simp, fun i hi => absurd hi (by simp), ?_, ?_⟩
 ·have := Rep.ref (w := W') (M := Mof M0 (updL ρ 0 (.at_ g' 0 cur.size zs.length 1)) [⟨zs.map fun z => [.int .i64 z], 1, .mut⟩]) 0 0 zs.length cap' g' 0 cur.size zs.length 1 (zbb ρ 0 _) (by omega) (by omega) (by omega)
  simpa using this
 ·refine ⟨?_, ?_, ?_, ?_, ?_⟩
  ·intro i k g2 base n rl esz hi hat
   by_cases h0 : i = 0
   ·subst h0
    rw [zbb] at hat
    cases hat
    cases hi
    refine ⟨by simp, rfl, by simp, by omega, cur, 3, hh, Nat.le_refl _, ?_⟩
    intro kk j r d hr hd
    rw [List.getElem?_map] at hr
    cases hz : zs[kk]? with
    | none => simp [hz] at hr
    | some z =>
      simp [hz] at hr
      subst hr
      cases j with
      | succ j => simp at hd
      | zero =>
        simp at hd
        subst hd
        have hlt := (List.getElem?_eq_some_iff.1 hz).1
        exact ⟨_, by simpa using hcur kk hlt, by rw [hz]; exact .int _ _⟩
   ·rw [zbt _ _ h0, habs] at hat
    cases hat
  ·intro i k hi hv
   by_cases h0 : i = 0
   ·subst h0
    rw [zbb] at hv
    cases hv
   ·rw [zbt _ _ h0, habs] at hv
    cases hv
  ·intro i hi
   have : i ≠ 0 := by simp at hi; omega
   rw [zbt _ _ this]
   exact habs i
  ·intro i j g2 base n rl esz base' n' rl' esz' hi hj
   have hz : ∀ i, ∀ {base n rl esz}, updL ρ 0 (.at_ g' 0 cur.size zs.length 1) i = .at_ g2 base n rl esz → i = 0 := by
    intro i base n rl esz h
    by_cases h0 : i = 0
    ·exact h0
    ·rw [zbt _ _ h0, habs] at h
     cases h
   rw [hz i hi, hz j hj]
  ·intro i g2 base n rl esz hi o hm
   by_cases h0 : i = 0
   ·subst h0
    rw [zbb] at hi
    cases hi
    have := hM _ _ hm
    omega
   ·rw [zbt _ _ h0, habs] at hi
    cases hi
 ·intro x o v hn hv
  have hx := zma hv
  refine ⟨fun hm => ?_, (hB.cell (p := ⟨x, o, none⟩) hx).trans hv⟩
  rcases hMof _ _ hm with h | h
  ·exact hn (.inl h)
  ·subst h; omega
 ·refine ⟨hB.size, hB.os, hB.tape, hB.output, fun g2 h2 _ => hB.block g2 h2, ?_⟩
  intro i g2 base n rl esz _ hi
  by_cases h0 : i = 0
  ·subst h0
   rw [zbb] at hi
   cases hi
   exact hgw
  ·rw [zbt _ _ h0, habs] at hi
   cases hi
set_option maxRecDepth 100000 in
set_option maxHeartbeats 2000000 in
theorem qcf (w : World) : Calls PP 253 #[.int .u64 2] w fun e w' => e = .returned (.int .i64 2) ∧ w' = w := by
 go_enter Tryz.func253, Tryz.ntmps253
 go_wp2
 all_goals go_ret
 all_goals refine ⟨congrArg Ending.returned (congrArg (Value.int IntKind.i64) ?_), rfl⟩
 all_goals first | decide | kernel_rfl | rfl
set_option maxRecDepth 100000 in
set_option maxHeartbeats 2000000 in
theorem qgv (w : World) : Calls PP 235 #[.int .u64 2] w fun e w' => e = .returned (.int .i64 2) ∧ w' = w := by
 go_enter Tryz.func235, Tryz.ntmps235
 go_wp2_with (go_at_call 253; refine (qcf _).mono ?_; rintro e w' ⟨rfl, rfl⟩)
 all_goals go_ret
 all_goals exact ⟨rfl, rfl⟩
theorem qf7 : Den PP 235 [.int .u64 2] [] (.int .i64 2) [] := by
 refine ⟨⟨_, Tryz.func235, by kernel_rfl, rfl⟩, fun w M0 ρ vals hM hS hs ha => ?_⟩
 obtain ⟨v0, rfl⟩ := z5q hs
 obtain rfl := (ha 0 v0 _ (by simp) rfl).int_inv
 refine (qgv w).mono ?_
 rintro e w' ⟨rfl, rfl⟩
 exact ⟨_, ρ, rfl, .imm _ _ (.int _ _), hS, Nat.le_refl _, fun _ _ => rfl, Pres.refl _ _, ⟨Nat.le_refl _, rfl, rfl, rfl, fun _ _ _ => rfl, fun i g base n rl esz hi hat => by rw [hS.out i hi] at hat; cases hat⟩⟩
end Go.AM
/- AM: awake: the program's own first answers, reckoned out. -/
namespace Go.AM
set_option maxRecDepth 100000
theorem z4c {n : Nat} {rows : List (List D)} (h : (rows.all fun r => Nat.beq r.length n && r.all D.isCell) = true) : Fits n rows := by
 intro r hr
 have := List.all_eq_true.1 h r hr
 simp only [Bool.and_eq_true, Nat.beq_eq] at this
 exact this
theorem zy4 {rows : List (List D)} (h : (rows.all fun r => r.all D.still) = true) : StillR rows :=
 fun r hr d hd => List.all_eq_true.1 (List.all_eq_true.1 h r hr) d hd
abbrev i (n : Int) : D := .int .i64 n
def xtab : List XR := [
 ⟨11, [12, 13, 18, 23, 27, 29, 48, 52, 56, 64, 69, 74, 82], [], [], []⟩,
 ⟨14, [16, 46, 59, 65], [], [], []⟩,
 ⟨15, [], [], [], []⟩,
 ⟨20, [9, 13, 17, 47], [46], [], []⟩,
 ⟨21, [7, 11, 12, 29, 34], [], [], []⟩,
 ⟨23, [5, 10, 16, 19, 21], [], [], []⟩,
 ⟨28, [10, 14, 27, 44], [43], [], []⟩,
 ⟨37, [15, 19, 23, 39, 46], [], [], []⟩,
 ⟨38, [12, 16, 22, 38, 44, 48], [], [], []⟩,
 ⟨39, [12, 17, 32], [], [], []⟩,
 ⟨40, [28, 32, 43], [], [], []⟩,
 ⟨41, [12, 16, 32, 37, 39, 52, 57, 61], [38, 60], [], []⟩,
 ⟨49, [5], [], [], []⟩,
 ⟨50, [5], [], [], []⟩,
 ⟨51, [9, 12, 14, 15, 17], [], [], []⟩,
 ⟨52, [5], [], [], []⟩,
 ⟨53, [], [], [], []⟩,
 ⟨57, [6, 9, 12, 30], [], [], []⟩,
 ⟨58, [43, 58, 84, 93, 99, 108], [], [], []⟩,
 ⟨59, [10, 15, 26], [8, 24], [], []⟩,
 ⟨60, [16, 37, 46, 52, 63], [14, 41, 61], [], []⟩,
 ⟨70, [17], [], [], []⟩,
 ⟨76, [13], [], [], []⟩,
 ⟨77, [14, 19, 39], [], [], []⟩,
 ⟨78, [10], [], [], []⟩,
 ⟨79, [7], [], [], []⟩,
 ⟨80, [25], [], [], []⟩,
 ⟨81, [8], [], [], []⟩,
 ⟨82, [11], [], [], []⟩,
 ⟨84, [7], [], [], []⟩,
 ⟨85, [6, 11, 28, 38, 45, 49, 55, 59, 70, 74, 83], [], [], []⟩,
 ⟨86, [5, 8, 11], [], [], []⟩,
 ⟨87, [15], [], [], []⟩,
 ⟨108, [], [], [], []⟩,
 ⟨109, [8, 13, 30], [], [], []⟩,
 ⟨110, [5, 8], [], [], []⟩,
 ⟨111, [13], [], [], []⟩,
 ⟨113, [24], [], [], []⟩,
 ⟨114, [9, 13, 17, 23], [], [], []⟩,
 ⟨115, [13], [], [], []⟩,
 ⟨116, [7], [], [], []⟩,
 ⟨118, [], [], [], []⟩,
 ⟨119, [12], [], [], []⟩,
 ⟨120, [7, 11, 17, 27, 43], [], [], []⟩,
 ⟨121, [17], [], [], []⟩,
 ⟨122, [10], [], [], []⟩,
 ⟨123, [5, 9, 14], [], [], []⟩,
 ⟨124, [], [], [], []⟩,
 ⟨132, [13], [], [], []⟩,
 ⟨135, [28], [], [], []⟩,
 ⟨136, [7, 16, 17], [], [], []⟩,
 ⟨137, [], [], [], []⟩,
 ⟨138, [6, 14], [], [], []⟩,
 ⟨139, [7, 10], [8], [], []⟩,
 ⟨140, [], [], [], []⟩,
 ⟨141, [], [], [], []⟩,
 ⟨142, [], [], [], []⟩,
 ⟨143, [], [], [], []⟩,
 ⟨144, [], [], [], []⟩,
 ⟨145, [], [], [], []⟩,
 ⟨146, [6, 19], [], [], []⟩,
 ⟨147, [12], [], [], []⟩,
 ⟨149, [], [], [], []⟩,
 ⟨150, [15], [], [], []⟩,
 ⟨151, [11], [], [], []⟩,
 ⟨152, [35], [], [], []⟩,
 ⟨153, [14], [], [], []⟩,
 ⟨163, [4], [], [], []⟩,
 ⟨164, [7], [], [], []⟩,
 ⟨165, [16], [], [], []⟩,
 ⟨166, [30, 46], [], [], []⟩,
 ⟨167, [9], [], [], []⟩,
 ⟨168, [8, 10], [], [], []⟩,
 ⟨169, [], [], [], []⟩,
 ⟨170, [], [], [], []⟩,
 ⟨181, [9, 24, 40, 47], [], [], []⟩,
 ⟨182, [10], [], [], []⟩,
 ⟨183, [], [], [], []⟩,
 ⟨184, [], [], [], []⟩,
 ⟨187, [], [], [], []⟩,
 ⟨188, [8, 17, 18], [], [], []⟩,
 ⟨189, [16], [], [], []⟩,
 ⟨190, [], [], [], []⟩,
 ⟨191, [8, 12, 17, 19], [17], [17], []⟩,
 ⟨192, [13, 17, 26, 31, 39], [34], [34], []⟩,
 ⟨193, [15], [], [], []⟩,
 ⟨194, [7], [], [], []⟩,
 ⟨195, [14], [], [], []⟩,
 ⟨199, [11, 32], [], [], []⟩,
 ⟨201, [11, 13], [7], [], []⟩,
 ⟨203, [8, 11, 12], [], [], []⟩,
 ⟨204, [], [], [], []⟩,
 ⟨205, [], [], [], []⟩,
 ⟨206, [13, 17, 22, 35], [], [], []⟩,
 ⟨207, [10, 24, 34], [30], [30], []⟩,
 ⟨208, [12, 16, 21, 40, 44], [], [], []⟩,
 ⟨215, [16], [], [], []⟩,
 ⟨216, [], [], [], []⟩,
 ⟨223, [26], [], [], []⟩,
 ⟨227, [11, 15, 16], [], [], []⟩,
 ⟨228, [30, 46], [], [], []⟩,
 ⟨229, [], [], [], []⟩,
 ⟨234, [30, 37, 44, 52, 61, 80, 94, 103, 111, 134, 146], [26, 33, 40, 48, 57, 76, 98, 106, 129, 140], [], []⟩,
 ⟨237, [30, 46], [], [], []⟩,
 ⟨244, [32], [], [], []⟩]
theorem qga : (xtab.all fun x => x.ovl.isEmpty && (SFof PP x.f x.lend).isSome) = true := by kernel_rfl
def LH : List (Nat × List D × D × List Blk) := [
 (200, [.fn 202 [] [.mem [.sl [[i 3], [i 9]] 2]]], .ref 0 0 2, [⟨[[i 3], [i 9]], 1, .mut⟩]),
 (235, [.int .u64 2], i 2, [])]
def LG : List (Nat × List (List D) × Nat × List D × List (List D)) := [
 (236, [[i 0, i 3, i 9, .sl [] 0, i 0, i 0, i 0, i 0, i 0, .bool false, .bool false]], 11, [i 0, i 1], []),
 (225, [], 1, [.fn 224 [] [.mem [i 3]]], []),
 (226, [], 2, [i 0, .sl [[i 3, i 0]] 1], [[i 3, i 0]]),
 (236, [[i 0, i 3, i 9, .sl [] 0, i 0, i 0, i 0, i 0, i 0, .bool false, .bool false], [i 0, i 9, i 3, .sl [[i 3]] 1, i 0, i 0, i 0, i 0, i 0, .bool false, .bool false]], 11, [i 0, i 1], [[i 0, i 9, i 3, .sl [[i 3]] 1, i 0, i 0, i 0, i 0, i 0, .bool false, .bool false]]),
 (236, [[i 0, i 9, i 3, .sl [[i 3]] 1, i 0, i 0, i 0, i 0, i 0, .bool false, .bool false]], 11, [i 0, i 1], []),
 (225, [[i 9]], 1, [.fn 224 [] [.mem [i 9]]], []),
 (226, [], 2, [i 0, .sl [[i 9, i 0]] 1], [[i 9, i 0]])]
theorem LH_ok : ∀ x ∈ LH, Den PP x.1 x.2.1 [] x.2.2.1 x.2.2.2 := by
 intro x hx
 simp only [LH, List.mem_cons, List.not_mem_nil, or_false] at hx
 rcases hx with rfl | rfl
 ·exact z45 [3, 9] (by simp) (by simp)
 ·exact qf7
theorem LG_ok : ∀ x ∈ LG, zgz (DenF PP [0]) x.1 x.2.1 x.2.2.1 x.2.2.2.1 x.2.2.2.2 := by
 intro x hx
 simp only [LG, List.mem_cons, List.not_mem_nil, or_false] at hx
 rcases hx with rfl | rfl | rfl | rfl | rfl | rfl | rfl
 ·exact zoq _ 0 (z4c rfl) (zy4 rfl) (by simp) (by simp)
 ·exact zkf [] 224 [.mem [.int .i64 3]] (fun a => decide (a = 3)) ⟨fun _ => rfl, fun _ _ => rfl, fun a _ => zg9 3 a⟩ (by simp)
 ·exact zp3 [] _ 0 (by intro r hr; cases hr) (by intro r hr; cases hr) (by intro r hr; rw [List.mem_singleton.1 hr]; exact ⟨rfl, rfl⟩) (fun d hd => List.all_eq_true.1 (rfl : List.all _ D.still = true) d hd) (by simp) (by simp)
 ·exact zoq _ 0 (z4c rfl) (zy4 rfl) (by simp) (by simp)
 ·exact zoq _ 0 (z4c rfl) (zy4 rfl) (by simp) (by simp)
 ·exact zkf [9] 224 [.mem [.int .i64 9]] (fun a => decide (a = 9)) ⟨fun _ => rfl, fun _ _ => rfl, fun a _ => zg9 9 a⟩ (by simp)
 ·exact zp3 [] _ 0 (by intro r hr; cases hr) (by intro r hr; cases hr) (by intro r hr; rw [List.mem_singleton.1 hr]; exact ⟨rfl, rfl⟩) (fun d hd => List.all_eq_true.1 (rfl : List.all _ D.still = true) d hd) (by simp) (by simp)
noncomputable def mkX (fe : FE) (n : Nat) : Cfg := cfx n fe.own fe.lend fe.give [] fe.ovl
noncomputable abbrev XX (L : List (Nat × List D × D × List Blk)) : XC := run mkX (tabX PP xtab) (known L) (knownG LG) 1000 40
theorem zy5 (L : List (Nat × List D × D × List Blk)) (hL : ∀ x ∈ L, Den PP x.1 x.2.1 [] x.2.2.1 x.2.2.2) (f : Nat) (args : List D) (bs : List Blk) (r : D) (bs' : List Blk) (h : XX L f args bs = some (r, bs')) : Den PP f args bs r bs' := by
 refine qbj (C := Den PP) (fun _ _ => rfl) (fun fe n f rows esz rest R hR => z0u LG LG_ok _ _ _ _ _ hR) (z4t L hL) ?_ ?_ 40 f args bs r bs' h
 ·intro f fe args bs r bs' hfe h
  unfold tabX at hfe
  split at hfe
  ·rename_i x hx
   cases hfe
   obtain ⟨hm, rfl⟩ := qbd _ _ _ hx
   have hk := List.all_eq_true.1 qga x hm
   simp only [Bool.and_eq_true, List.isEmpty_iff] at hk
   refine zpy x.own x.lend x.give x.ovl (fun f hf => by rw [hk.1] at hf; exact absurd hf List.not_mem_nil) (z4p hk.2) ?_
   simpa only [mkX] using h
  ·cases hfe
 ·intro f x r nbs hx h1 h2
  have key : Den PP f [.sl [] 0] [] r nbs := zs1 (pre := []) (post := []) h1 h2
  unfold D.empty at hx
  split at hx
  ·exact ze4 (by simpa using key)
  ·exact key
  ·cases hx
theorem chkL {L M : List (Nat × List D × D × List Blk)} (hL : ∀ x ∈ L, Den PP x.1 x.2.1 [] x.2.2.1 x.2.2.2) (h : chkX (XX L) M = true) : ∀ x ∈ M ++ L, Den PP x.1 x.2.1 [] x.2.2.1 x.2.2.2 := by
 intro x hx
 rcases List.mem_append.1 hx with h1 | h1
 ·exact z72 (C := Den PP) h (fun f args r nbs h => zy5 L hL _ _ _ _ _ h) x h1
 ·exact hL x h1
def VW1 : List (Nat × List D × D × List Blk) := [
 (23, [.agg [.sl [[.bool true, i 3, .nil, .sl [[i 9]] 1, .sl [[i 5, i 1, i 3, i 7, .bool false]] 1, .nil], [.bool true, i 9, .nil, .sl [] 0, .nil, .nil]] 2, .nil, .nil]], .bool true, []),
 (23, [.agg [.sl [[.bool true, i 3, .sl [] 0, .sl [[i 9]] 1, .sl [[i 5, i 1, i 3, i 7, .bool false]] 1, .sl [] 0], [.bool true, i 9, .sl [] 0, .sl [] 0, .sl [] 0, .sl [] 0]] 2, .sl [] 0, .sl [] 0]], .bool true, []),
 (23, [.agg [.sl [[.bool true, i 3, .sl [] 0, .sl [[i 9]] 1, .sl [[i 5, i 1, i 3, i 7, .bool false]] 1, .sl [] 0], [.bool true, i 9, .sl [] 0, .sl [] 0, .sl [] 0, .sl [] 0]] 2, .sl [] 0, .sl [[i 0, i 3, i 9, .sl [] 0, i 0, i 0, i 0, i 0, i 0, .bool false, .bool false]] 1]], .bool true, []),
 (23, [.agg [.sl [[.bool true, i 3, .sl [] 0, .sl [[i 9]] 1, .sl [[i 5, i 1, i 3, i 7, .bool false]] 1, .sl [] 0], [.bool true, i 9, .sl [[i 3, i 0]] 1, .sl [] 0, .sl [] 0, .sl [] 0]] 2, .sl [] 0, .sl [] 0]], .bool true, []),
 (23, [.agg [.sl [[.bool true, i 3, .sl [] 0, .sl [[i 9]] 1, .sl [[i 5, i 1, i 3, i 7, .bool false]] 1, .sl [] 0], [.bool true, i 9, .sl [[i 3, i 0]] 1, .sl [] 0, .sl [] 0, .sl [] 0]] 2, .sl [] 0, .nil]], .bool true, []),
 (23, [.agg [.sl [[.bool true, i 3, .sl [] 0, .sl [[i 9]] 1, .sl [[i 5, i 1, i 3, i 7, .bool false]] 1, .sl [] 0], [.bool true, i 9, .sl [[i 3, i 0]] 1, .sl [] 0, .sl [] 0, .sl [] 0]] 2, .sl [] 0, .sl [[i 0, i 3, i 9, .sl [] 0, i 0, i 0, i 0, i 0, i 0, .bool false, .bool false]] 1]], .bool true, [])]
theorem ck_W1 : chkX (XX LH) VW1 = true := by kernel_rfl
abbrev LW1 : List (Nat × List D × D × List Blk) := VW1 ++ LH
theorem qio : ∀ x ∈ LW1, Den PP x.1 x.2.1 [] x.2.2.1 x.2.2.2 := chkL LH_ok ck_W1
def VW2 : List (Nat × List D × D × List Blk) := [
 (23, [.agg [.sl [[.bool true, i 3, .sl [] 0, .sl [[i 9]] 1, .sl [[i 5, i 1, i 3, i 7, .bool false]] 1, .sl [] 0], [.bool true, i 9, .sl [[i 3, i 1]] 1, .sl [] 0, .sl [] 0, .sl [] 0]] 2, .sl [] 0, .sl [[i 0, i 3, i 9, .sl [] 0, i 0, i 0, i 0, i 0, i 0, .bool false, .bool false]] 1]], .bool true, []),
 (23, [.agg [.sl [[.bool true, i 3, .sl [] 0, .sl [[i 9]] 1, .sl [[i 5, i 1, i 3, i 7, .bool false]] 1, .sl [] 0], [.bool true, i 9, .sl [[i 3, i 1]] 1, .sl [] 0, .sl [] 0, .sl [] 0]] 2, .sl [] 0, .sl [[i 0, i 9, i 3, .sl [[i 3]] 1, i 0, i 0, i 0, i 0, i 0, .bool false, .bool false]] 1]], .bool true, []),
 (23, [.agg [.sl [[.bool true, i 3, .sl [] 0, .sl [[i 9]] 1, .sl [[i 5, i 1, i 3, i 7, .bool false]] 1, .sl [] 0], [.bool true, i 9, .sl [[i 3, i 1]] 1, .sl [] 0, .sl [] 0, .sl [] 0]] 2, .sl [] 0, .sl [[i 0, i 3, i 9, .sl [] 0, i 0, i 0, i 0, i 0, i 0, .bool false, .bool false], [i 0, i 9, i 3, .sl [[i 3]] 1, i 0, i 0, i 0, i 0, i 0, .bool false, .bool false]] 2]], .bool true, []),
 (23, [.agg [.sl [[.bool true, i 3, .sl [] 0, .sl [[i 9]] 1, .sl [[i 5, i 1, i 3, i 7, .bool false]] 1, .sl [] 0], [.bool true, i 9, .sl [[i 3, i 0]] 1, .sl [] 0, .sl [] 0, .sl [] 0]] 2, .sl [] 0, .sl [[i 0, i 9, i 3, .sl [[i 3]] 1, i 0, i 0, i 0, i 0, i 0, .bool false, .bool false]] 1]], .bool true, []),
 (23, [.agg [.sl [[.bool true, i 3, .sl [[i 9, i 0]] 1, .sl [] 0, .sl [[i 5, i 1, i 3, i 7, .bool false]] 1, .sl [] 0], [.bool true, i 9, .sl [[i 3, i 0]] 1, .sl [] 0, .sl [] 0, .sl [] 0]] 2, .sl [] 0, .sl [] 0]], .bool true, []),
 (23, [.agg [.sl [[.bool true, i 3, .sl [[i 9, i 0]] 1, .sl [] 0, .sl [[i 5, i 1, i 3, i 7, .bool false]] 1, .sl [] 0], [.bool true, i 9, .sl [[i 3, i 0]] 1, .sl [] 0, .sl [] 0, .sl [] 0]] 2, .sl [] 0, .nil]], .bool true, [])]
theorem ck_W2 : chkX (XX LW1) VW2 = true := by kernel_rfl
abbrev LW2 : List (Nat × List D × D × List Blk) := VW2 ++ LW1
theorem qi4 : ∀ x ∈ LW2, Den PP x.1 x.2.1 [] x.2.2.1 x.2.2.2 := chkL qio ck_W2
def VA1 : List (Nat × List D × D × List Blk) := [
 (20, [.agg [.sl [[.bool true, i 3, .sl [] 0, .sl [[i 9]] 1, .sl [[i 5, i 1, i 3, i 7, .bool false]] 1, .sl [] 0], [.bool true, i 9, .sl [] 0, .sl [] 0, .sl [] 0, .sl [] 0]] 2, .sl [] 0, .sl [] 0], .agg [i 0, i 3, i 0, i 0, .nil, i 0, i 0]], .tup [.agg [.ref 0 0 2, .ref 1 0 0, .ref 2 0 1], i 0], [⟨[[.bool true, i 3, .sl [] 0, .sl [[i 9]] 1, .sl [[i 5, i 1, i 3, i 7, .bool false]] 1, .sl [] 0], [.bool true, i 9, .sl [] 0, .sl [] 0, .sl [] 0, .sl [] 0]], 6, .mut⟩, ⟨[], 2, .mut⟩, ⟨[[i 0, i 3, i 9, .sl [] 0, i 0, i 0, i 0, i 0, i 0, .bool false, .bool false]], 11, .mut⟩]),
 (20, [.agg [.sl [[.bool true, i 3, .sl [] 0, .sl [[i 9]] 1, .sl [[i 5, i 1, i 3, i 7, .bool false]] 1, .sl [] 0], [.bool true, i 9, .sl [] 0, .sl [] 0, .sl [] 0, .sl [] 0]] 2, .sl [] 0, .sl [[i 0, i 3, i 9, .sl [] 0, i 0, i 0, i 0, i 0, i 0, .bool false, .bool false]] 1], .agg [i 0, i 9, i 0, i 0, .nil, i 0, i 0]], .tup [.agg [.ref 0 0 2, .ref 1 0 0, .ref 2 0 1], i 0], [⟨[[.bool true, i 3, .sl [] 0, .sl [[i 9]] 1, .sl [[i 5, i 1, i 3, i 7, .bool false]] 1, .sl [] 0], [.bool true, i 9, .sl [] 0, .sl [] 0, .sl [] 0, .sl [] 0]], 6, .mut⟩, ⟨[], 2, .mut⟩, ⟨[[i 0, i 3, i 9, .sl [] 0, i 0, i 0, i 0, i 0, i 0, .bool false, .bool false]], 11, .mut⟩]),
 (20, [.agg [.sl [[.bool true, i 3, .sl [] 0, .sl [[i 9]] 1, .sl [[i 5, i 1, i 3, i 7, .bool false]] 1, .sl [] 0], [.bool true, i 9, .sl [] 0, .sl [] 0, .sl [] 0, .sl [] 0]] 2, .sl [] 0, .sl [[i 0, i 3, i 9, .sl [] 0, i 0, i 0, i 0, i 0, i 0, .bool false, .bool false]] 1], .agg [i 1, i 0, i 0, i 0, .nil, i 0, i 0]], .tup [.agg [.ref 0 0 2, .ref 1 0 0, .ref 2 0 0], i 0], [⟨[[.bool true, i 3, .sl [] 0, .sl [[i 9]] 1, .sl [[i 5, i 1, i 3, i 7, .bool false]] 1, .sl [] 0], [.bool true, i 9, .sl [[i 3, i 0]] 1, .sl [] 0, .sl [] 0, .sl [] 0]], 6, .mut⟩, ⟨[], 2, .mut⟩, ⟨[], 11, .mut⟩]),
 (20, [.agg [.sl [[.bool true, i 3, .sl [] 0, .sl [[i 9]] 1, .sl [[i 5, i 1, i 3, i 7, .bool false]] 1, .sl [] 0], [.bool true, i 9, .sl [[i 3, i 0]] 1, .sl [] 0, .sl [] 0, .sl [] 0]] 2, .sl [] 0, .sl [] 0], .agg [i 0, i 3, i 0, i 0, .nil, i 0, i 0]], .tup [.agg [.ref 0 0 2, .ref 1 0 0, .ref 2 0 1], i 0], [⟨[[.bool true, i 3, .sl [] 0, .sl [[i 9]] 1, .sl [[i 5, i 1, i 3, i 7, .bool false]] 1, .sl [] 0], [.bool true, i 9, .sl [[i 3, i 0]] 1, .sl [] 0, .sl [] 0, .sl [] 0]], 6, .mut⟩, ⟨[], 2, .mut⟩, ⟨[[i 0, i 3, i 9, .sl [] 0, i 0, i 0, i 0, i 0, i 0, .bool false, .bool false]], 11, .mut⟩])]
theorem ck_A1 : chkX (XX LW2) VA1 = true := by kernel_rfl
abbrev LA1 : List (Nat × List D × D × List Blk) := VA1 ++ LW2
theorem qij : ∀ x ∈ LA1, Den PP x.1 x.2.1 [] x.2.2.1 x.2.2.2 := chkL qi4 ck_A1
def VA2 : List (Nat × List D × D × List Blk) := [
 (20, [.agg [.sl [[.bool true, i 3, .sl [] 0, .sl [[i 9]] 1, .sl [[i 5, i 1, i 3, i 7, .bool false]] 1, .sl [] 0], [.bool true, i 9, .sl [[i 3, i 0]] 1, .sl [] 0, .sl [] 0, .sl [] 0]] 2, .sl [] 0, .sl [[i 0, i 3, i 9, .sl [] 0, i 0, i 0, i 0, i 0, i 0, .bool false, .bool false]] 1], .agg [i 0, i 9, i 0, i 0, .nil, i 0, i 0]], .tup [.agg [.ref 0 0 2, .ref 1 0 0, .ref 2 0 2], i 0], [⟨[[.bool true, i 3, .sl [] 0, .sl [[i 9]] 1, .sl [[i 5, i 1, i 3, i 7, .bool false]] 1, .sl [] 0], [.bool true, i 9, .sl [[i 3, i 1]] 1, .sl [] 0, .sl [] 0, .sl [] 0]], 6, .mut⟩, ⟨[], 2, .mut⟩, ⟨[[i 0, i 3, i 9, .sl [] 0, i 0, i 0, i 0, i 0, i 0, .bool false, .bool false], [i 0, i 9, i 3, .sl [[i 3]] 1, i 0, i 0, i 0, i 0, i 0, .bool false, .bool false]], 11, .mut⟩]),
 (20, [.agg [.sl [[.bool true, i 3, .sl [] 0, .sl [[i 9]] 1, .sl [[i 5, i 1, i 3, i 7, .bool false]] 1, .sl [] 0], [.bool true, i 9, .sl [[i 3, i 1]] 1, .sl [] 0, .sl [] 0, .sl [] 0]] 2, .sl [] 0, .sl [[i 0, i 3, i 9, .sl [] 0, i 0, i 0, i 0, i 0, i 0, .bool false, .bool false], [i 0, i 9, i 3, .sl [[i 3]] 1, i 0, i 0, i 0, i 0, i 0, .bool false, .bool false]] 2], .agg [i 1, i 0, i 0, i 0, .nil, i 0, i 0]], .tup [.agg [.ref 0 0 2, .ref 1 0 0, .ref 2 0 1], i 0], [⟨[[.bool true, i 3, .sl [] 0, .sl [[i 9]] 1, .sl [[i 5, i 1, i 3, i 7, .bool false]] 1, .sl [] 0], [.bool true, i 9, .sl [[i 3, i 0]] 1, .sl [] 0, .sl [] 0, .sl [] 0]], 6, .mut⟩, ⟨[], 2, .mut⟩, ⟨[[i 0, i 9, i 3, .sl [[i 3]] 1, i 0, i 0, i 0, i 0, i 0, .bool false, .bool false]], 11, .mut⟩]),
 (20, [.agg [.sl [[.bool true, i 3, .sl [] 0, .sl [[i 9]] 1, .sl [[i 5, i 1, i 3, i 7, .bool false]] 1, .sl [] 0], [.bool true, i 9, .sl [[i 3, i 0]] 1, .sl [] 0, .sl [] 0, .sl [] 0]] 2, .sl [] 0, .sl [[i 0, i 9, i 3, .sl [[i 3]] 1, i 0, i 0, i 0, i 0, i 0, .bool false, .bool false]] 1], .agg [i 1, i 0, i 0, i 0, .nil, i 0, i 0]], .tup [.agg [.ref 0 0 2, .ref 1 0 0, .ref 2 0 0], i 0], [⟨[[.bool true, i 3, .sl [[i 9, i 0]] 1, .sl [] 0, .sl [[i 5, i 1, i 3, i 7, .bool false]] 1, .sl [] 0], [.bool true, i 9, .sl [[i 3, i 0]] 1, .sl [] 0, .sl [] 0, .sl [] 0]], 6, .mut⟩, ⟨[], 2, .mut⟩, ⟨[], 11, .mut⟩]),
 (20, [.agg [.sl [[.bool true, i 3, .nil, .sl [[i 9]] 1, .sl [[i 5, i 1, i 3, i 7, .bool false]] 1, .nil], [.bool true, i 9, .nil, .sl [] 0, .nil, .nil]] 2, .nil, .nil], .agg [i 0, i 3, i 0, i 0, .nil, i 0, i 0]], .tup [.agg [.ref 0 0 2, .ref 1 0 0, .ref 2 0 1], i 0], [⟨[[.bool true, i 3, .sl [] 0, .sl [[i 9]] 1, .sl [[i 5, i 1, i 3, i 7, .bool false]] 1, .sl [] 0], [.bool true, i 9, .sl [] 0, .sl [] 0, .sl [] 0, .sl [] 0]], 6, .mut⟩, ⟨[], 2, .mut⟩, ⟨[[i 0, i 3, i 9, .sl [] 0, i 0, i 0, i 0, i 0, i 0, .bool false, .bool false]], 11, .mut⟩])]
theorem ck_A2 : chkX (XX LA1) VA2 = true := by kernel_rfl
abbrev LA2 : List (Nat × List D × D × List Blk) := VA2 ++ LA1
theorem qiq : ∀ x ∈ LA2, Den PP x.1 x.2.1 [] x.2.2.1 x.2.2.2 := chkL qij ck_A2
def VO1 : List (Nat × List D × D × List Blk) := [
 (14, [.agg [.sl [[.bool true, i 3, .sl [[i 9, i 0]] 1, .sl [] 0, .sl [[i 5, i 1, i 3, i 7, .bool false]] 1, .sl [] 0], [.bool true, i 9, .sl [[i 3, i 0]] 1, .sl [] 0, .sl [] 0, .sl [] 0]] 2, .sl [] 0, .sl [] 0]], .tup [.bool true, i 0], [])]
theorem ck_O1 : chkX (XX LA2) VO1 = true := by kernel_rfl
abbrev LO1 : List (Nat × List D × D × List Blk) := VO1 ++ LA2
theorem qi7 : ∀ x ∈ LO1, Den PP x.1 x.2.1 [] x.2.2.1 x.2.2.2 := chkL qiq ck_O1
def VR1 : List (Nat × List D × D × List Blk) := [
 (21, [.agg [.sl [[.bool true, i 3, .nil, .sl [[i 9]] 1, .sl [[i 5, i 1, i 3, i 7, .bool false]] 1, .nil], [.bool true, i 9, .nil, .sl [] 0, .nil, .nil]] 2, .nil, .nil]], .tup [.agg [.ref 0 0 2, .ref 1 0 0, .ref 2 0 0], i 0], [⟨[[.bool true, i 3, .sl [] 0, .sl [[i 9]] 1, .sl [[i 5, i 1, i 3, i 7, .bool false]] 1, .sl [] 0], [.bool true, i 9, .sl [[i 3, i 0]] 1, .sl [] 0, .sl [] 0, .sl [] 0]], 6, .mut⟩, ⟨[], 2, .mut⟩, ⟨[], 11, .mut⟩]),
 (21, [.agg [.sl [[.bool true, i 3, .sl [] 0, .sl [[i 9]] 1, .sl [[i 5, i 1, i 3, i 7, .bool false]] 1, .sl [] 0], [.bool true, i 9, .sl [[i 3, i 0]] 1, .sl [] 0, .sl [] 0, .sl [] 0]] 2, .sl [] 0, .sl [] 0]], .tup [.agg [.ref 0 0 2, .ref 1 0 0, .ref 2 0 0], i 0], [⟨[[.bool true, i 3, .sl [[i 9, i 0]] 1, .sl [] 0, .sl [[i 5, i 1, i 3, i 7, .bool false]] 1, .sl [] 0], [.bool true, i 9, .sl [[i 3, i 0]] 1, .sl [] 0, .sl [] 0, .sl [] 0]], 6, .mut⟩, ⟨[], 2, .mut⟩, ⟨[], 11, .mut⟩])]
theorem ck_R1 : chkX (XX LO1) VR1 = true := by kernel_rfl
abbrev LR1 : List (Nat × List D × D × List Blk) := VR1 ++ LO1
theorem qiu : ∀ x ∈ LR1, Den PP x.1 x.2.1 [] x.2.2.1 x.2.2.2 := chkL qi7 ck_R1
theorem qa1 : XX LR1 11 [] [] = some (.bool true, []) := by kernel_rfl
theorem awake : Den PP 11 [] [] (.bool true) [] := zy5 LR1 qiu _ _ _ _ _ qa1
end Go.AM
/- AM: contracts: peers: one is heard, all age. -/
namespace Go.AM
theorem zxm (p : Peer) : ∀ d ∈ p.row, d.still = true := by
 intro d hd
 simp [Peer.row] at hd
 rcases hd with rfl | rfl <;> rfl
theorem z3p (base : Int) (ps : List Peer) (id : Int) (hl : ps.length ≤ zbo) : Den PP 192 [.int .i64 base, zat ps, .int .i64 id] [] (.tup [.ref 0 0 (zme base ps id).1.length, .int .i64 (zme base ps id).2]) [⟨(zme base ps id).1.map Peer.row, 2, .mut⟩] := by
 have c1 := zug base ps (zvy hl)
 have c0 := zaz id
 have c2 := fun h : ps.length ≤ 16 => zxr (ps.map Peer.row) (by intro r hr; obtain ⟨a, _, rfl⟩ := List.mem_map.1 hr; exact ⟨rfl, rfl⟩) (by simp; omega)
 have c3 := fun h => zxl base ps id (zvy hl) h
 obtain ⟨r, hr⟩ : ∃ r, zme base ps id = r := ⟨_, rfl⟩
 have hr' := hr
 unfold zme at hr'
 rw [zp0] at hr'
 rw [hr]
 clear hr
 simp only [zat, List.length_map] at c1 c2 c3
 refine zpy [26, 34] [34] [34] [] (fun _ h => absurd h List.not_mem_nil) zwo ?_
 simp -implicitDefEqProofs [zq9, zat]
 refine zaa c1 ?_
 simp -implicitDefEqProofs
 cases h1 : zbn base ps with
 | false =>
   rw [h1] at hr'
   simp at hr'
   subst hr'
   simp -implicitDefEqProofs
 | true =>
 cases h2 : place id with
 | false =>
   rw [h2] at hr' c0
   simp at hr'
   subst hr'
   simp -implicitDefEqProofs
   repeat' ((first | refine zaa (by first | exact c0) ?_ | ((with_reducible first | refine zaj ?_ ?_ | refine zah ?_ ?_ | refine zae ?_ ?_ | refine zad ?_ ?_) <;> intro _) | ((with_reducible first | refine zao ?_ ?_ | refine zaq ?_ ?_ | refine zal ?_ ?_ | refine zac ?_ ?_ | refine zai ?_ ?_ | refine zan ?_ ?_ | refine zaf ?_ ?_ | refine zab ?_ ?_) <;> intro hq <;> (try simp at hq)) | refine zag (by omega) ?_ | refine zam (by omega) ?_) <;> simp -implicitDefEqProofs [*])
 | true =>
 rw [h1, h2] at hr'
 rw [h2] at c0
 by_cases h3 : id = base
 ·simp [h3] at hr'
  subst hr'
  simp -implicitDefEqProofs
  repeat' ((first | refine zaa (by first | exact c0) ?_ | ((with_reducible first | refine zaj ?_ ?_ | refine zah ?_ ?_ | refine zae ?_ ?_ | refine zad ?_ ?_) <;> intro _) | ((with_reducible first | refine zao ?_ ?_ | refine zaq ?_ ?_ | refine zal ?_ ?_ | refine zac ?_ ?_ | refine zai ?_ ?_ | refine zan ?_ ?_ | refine zaf ?_ ?_ | refine zab ?_ ?_) <;> intro hq <;> (try simp at hq)) | refine zag (by omega) ?_ | refine zam (by omega) ?_) <;> simp -implicitDefEqProofs [*, h3])
 obtain ⟨hb, h16, hp, hd⟩ := zb9.1 h1
 obtain ⟨ha1, ha2⟩ := qdy hb h2 ps (fun p hp' => (hp p hp').1) hd
 have hlen := zth base id ps
 have hple := z0j base ps id
 have c4 := c3 (zet h1)
 clear c3
 generalize zle base ps id = A at *
 generalize zeb base ps id = p at *
 have h3' : (id == base) = false := by simpa using h3
 simp only [h3', Bool.not_false, Bool.and_self, if_true] at hr'
 simp -implicitDefEqProofs
 refine zaa c0 ?_
 simp -implicitDefEqProofs [h3]
 refine zaa (c2 h16) ?_
 simp -implicitDefEqProofs [zar]
 refine zaa c4 ?_
 simp -implicitDefEqProofs [zar]
 cases A with
 | true =>
   obtain ⟨hlt, ⟨m, hy⟩, hput⟩ := ha1 rfl
   have hr2 : r = (ps.set p ⟨id, 0⟩, 0) := by
    rw [← hr', hput]
    simp [h16]
   subst hr2
   have hlt' : (p : Int) < ps.length := by omega
   have hy2 : ps[p] = ⟨id, m⟩ := by simpa [hlt] using hy
   clear hr' hput ha1 ha2 hlen c4 hp hd
   simp -implicitDefEqProofs [hlt, hlt', hy2, Peer.row]
 | false =>
   have hput := ha2 rfl
   rw [hput] at hr' hlen
   simp only [zv7] at hr' hlen
   by_cases h5 : ps.length = 16
   ·have hr2 : r = ([], 701) := by
     rw [← hr']
     simp [h5]
    subst hr2
    clear hr' hput ha1 ha2 hlen c4 hp hd
    simp -implicitDefEqProofs [h5]
   ·have hr2 : r = (insL ps p ⟨id, 0⟩, 0) := by
     rw [← hr', if_pos (by omega)]
    subst hr2
    clear hr' hput ha1 ha2 hlen c4 hp hd
    have h5' : ¬ (ps.length : Int) = 16 := by omega
    simp -implicitDefEqProofs [h5']
    refine zjf rfl (by simp) (by simp) (by simp) (zp3 (ps.map Peer.row) (Peer.row ⟨id, 0⟩) p (by simp [Peer.row]) (StillR.map _ _ fun a _ => zxm a) (by intro r hr; rw [List.mem_singleton.1 hr]; exact ⟨rfl, rfl⟩) (zxm _) (by simpa using hple) (by simp; omega)) ?_
    rw [← zzy]
    simp -implicitDefEqProofs [zar]
theorem qau (base : Int) (ps : List Peer) (hl : ps.length ≤ zbo) : Den PP 111 [.int .i64 base, zat ps] [] (.tup [.ref 0 0 (ageR base ps).1.length, .ref 1 0 (ageR base ps).2.1.length, .int .i64 (ageR base ps).2.2]) [⟨(ageR base ps).1.map Peer.row, 2, .mut⟩, ⟨(ageR base ps).2.1.map irow, 1, .mut⟩] := by
 have c1 := zug base ps (zvy hl)
 refine zak [] [] z2l ?_
 simp -implicitDefEqProofs [zu3, zat]
 refine zaa c1 ?_
 unfold ageR
 cases h1 : zbn base ps with
 | false => simp -implicitDefEqProofs
 | true =>
   obtain ⟨hb, h16, hp, hd⟩ := zb9.1 h1
   simp -implicitDefEqProofs
   refine za3 ps (fun i rest => fun ⟨fr, bs⟩ => bs = [⟨[], 2, .mut⟩, ⟨[], 1, .mut⟩, ⟨(ageL (ps.take i)).map Peer.row, 2, .mut⟩, ⟨(zgi (ps.take i)).map irow, 1, .mut⟩] ∧ fr 7 = .ref 2 0 (ageL (ps.take i)).length ∧ fr 8 = .ref 3 0 (zgi (ps.take i)).length ∧ fr 15 = .sl (ps.map Peer.row) ps.length ∧ fr 16 = .int .i64 ps.length ∧ fr 17 = .int .i64 i)
    (fun ⟨fr, bs⟩ => bs = [⟨[], 2, .mut⟩, ⟨[], 1, .mut⟩, ⟨(ageL ps).map Peer.row, 2, .mut⟩, ⟨(zgi ps).map irow, 1, .mut⟩] ∧ fr 7 = .ref 2 0 (ageL ps).length ∧ fr 8 = .ref 3 0 (zgi ps).length) (fun _ => False) zph.eq_1 ?_ ?_ ?_ ?_ ?_
   ·exact ⟨rfl, rfl, rfl, rfl, rfl, rfl⟩
   ·rintro i ⟨fr, bs⟩ hi ⟨rfl, h7, h8, h15, h16, h17⟩
    subst hi
    rw [List.take_length] at *
    simp -implicitDefEqProofs [h7, h8, h15, h16, h17]
   ·rintro i q rest ⟨fr, bs⟩ hlt hget hg hd hd2 ⟨rfl, h7, h8, h15, h16, h17⟩
    have hlt' : (i : Int) < ps.length := by omega
    have hw := za5 (n := i) (by omega)
    have hm := hp q (List.mem_of_getElem? hget)
    have hwm : IntKind.wrap .i64 (q.missed + 1) = q.missed + 1 := zaw (by have := hm.2.1; omega) (by have := hm.2.2.1; omega)
    have e1 : ps.take (i + 1) = ps.take i ++ [q] := by rw [List.take_add_one, hget]; rfl
    have e2 := qcr (ps.take i) q
    have e3 := z7x (ps.take i) q
    rw [← e1] at e2 e3
    have hal := zov (ps.take i)
    have htl : (ps.take i).length ≤ 16 := by simp; omega
    have ha16 : (ageL (ps.take i)).length ≤ 16 := by omega
    have hl16 : (zgi (ps.take i)).length ≤ 16 := by omega
    have w3 : IntKind.wrap .i64 3 = 3 := zaw (by omega) (by omega)
    clear hal htl
    generalize ageL (ps.take (i + 1)) = a' at *
    generalize ageL (ps.take i) = a at *
    generalize zgi (ps.take (i + 1)) = l' at *
    generalize zgi (ps.take i) = l at *
    by_cases hq : q.missed + 1 = 3
    ·rw [if_pos hq] at e2 e3
     subst e2 e3
     obtain ⟨qi, qm⟩ := q
     have hq2 : qm = 2 := by simp at hq; omega
     subst hq2
     clear hwm hq hm
     simp -implicitDefEqProofs [h7, h8, h15, h16, h17, hlt, hlt', hget, hg, w3, Peer.row]
     refine ⟨by simp [Fits], ?_⟩
     repeat' ((first | refine zaa (by first | exact zaz _ | exact ze4 (zaz _) | exact ze4 (by simpa using zaz _)) ?_ | ((with_reducible first | refine zaj ?_ ?_ | refine zah ?_ ?_ | refine zae ?_ ?_ | refine zad ?_ ?_) <;> intro _) | ((with_reducible first | refine zao ?_ ?_ | refine zaq ?_ ?_ | refine zal ?_ ?_ | refine zac ?_ ?_ | refine zai ?_ ?_ | refine zan ?_ ?_ | refine zaf ?_ ?_ | refine zab ?_ ?_) <;> intro hq <;> (try simp at hq)) | refine zag (by omega) ?_ | refine zam (by omega) ?_) <;> simp -implicitDefEqProofs [*, h7, h8, h15, h16, h17, hlt, hlt', hw, irow, Fits])
     exact fun _ _ => rfl
    ·rw [if_neg hq] at e2 e3
     subst e2 e3
     simp -implicitDefEqProofs [h7, h8, h15, h16, h17, hlt, hlt', hget, hg, hwm, hq, Peer.row]
     refine ⟨by simp [Fits], ?_⟩
     repeat' ((first | refine zaa (by first | exact zaz _ | exact ze4 (zaz _) | exact ze4 (by simpa using zaz _)) ?_ | ((with_reducible first | refine zaj ?_ ?_ | refine zah ?_ ?_ | refine zae ?_ ?_ | refine zad ?_ ?_) <;> intro _) | ((with_reducible first | refine zao ?_ ?_ | refine zaq ?_ ?_ | refine zal ?_ ?_ | refine zac ?_ ?_ | refine zai ?_ ?_ | refine zan ?_ ?_ | refine zaf ?_ ?_ | refine zab ?_ ?_) <;> intro hq <;> (try simp at hq)) | refine zag (by omega) ?_ | refine zam (by omega) ?_) <;> simp -implicitDefEqProofs [*, h7, h8, h15, h16, h17, hlt, hlt', hw, Peer.row, Fits])
   ·rintro ⟨fr, bs⟩ ⟨rfl, h7, h8⟩
    simp -implicitDefEqProofs [h7, h8]
   ·rintro ⟨fr, bs⟩ h
    exact h.elim
end Go.AM
/- AM: contracts: age.Tick. -/
namespace Go.AM
theorem z54 : Den PP 113 [.sl [[.sl [] 0], [.sl [] 0]] 2] [] (.ref 0 0 0) [⟨[], 1, .mut⟩] := zy5 LH LH_ok _ _ _ _ _ (by kernel_rfl)
theorem concat2 (xs ys : List Int) (hl : xs.length + ys.length ≤ zbo) : Den PP 113 [.sl [[.sl (xs.map irow) xs.length], [.sl (ys.map irow) ys.length]] 2] [] (.ref 0 0 (xs ++ ys).length) [⟨(xs ++ ys).map irow, 1, .mut⟩] := by
 by_cases h : 0 < (xs ++ ys).length
 ·have := z5i [xs, ys] (by unfold zbo; simp) (by simpa [tot] using h) (by simpa [tot] using hl)
  simpa [tot, frow, lrow] using this
 ·have h1 : xs = [] := List.length_eq_zero_iff.1 (by simp at h; simp [h])
  have h2 : ys = [] := List.length_eq_zero_iff.1 (by simp at h; simp [h])
  subst h1 h2
  exact z54
theorem z73 {L : List Int} {i : Nat} {x : Int} (h : L[i]? = some x) (p : List Int) : zjs (L.take (i + 1)) p = (zqb (zjs (L.take i) p) x).1 := by
 have e1 : L.take (i + 1) = L.take i ++ [x] := by rw [List.take_add_one, h]; rfl
 unfold zjs
 rw [e1, List.foldl_append]
 rfl
theorem qas (L : List Int) (p : List Int) (h : p.length ≤ 16) : (zjs L p).length ≤ 16 := by
 unfold zjs
 induction L generalizing p with
 | nil => exact h
 | cons x L ih => exact ih _ (qa8 p x)
theorem qd5 (v : View) (h : zbd v = true) : Den PP 38 [zd6 v] [] (.tup [zd6 (ageV v), zap (zgx (ageV v)), .int .i64 0]) [] := by
 obtain ⟨m1, m2, m3, m4⟩ := za1 h
 have hs : v.small := ⟨by unfold zbo; omega, by unfold cap; omega⟩
 have c1 := zoi v hs
 have c2 := zq6 v hs
 have c3 := qau v.id v.peers hs.1
 have c4 := zrh (ageV v) (by have := (zjd h).2.1; unfold zbo; omega)
 have c5 := concat2 ((ageV v).peers.map Peer.id) (ageV v).passive (by have := (zjd h).2.1; unfold zbo; simp; omega)
 have hal := zov v.peers
 have c6 := fun i => qas ((zgi v.peers).take i) v.passive (by omega)
 have e0 : ageR v.id v.peers = (ageL v.peers, zgi v.peers, 0) := by simp [ageR, m1]
 have hnx : ∀ i x, (zgi v.peers)[i]? = some x → _ := fun i x hx => z73 hx v.passive
 have e9 : zjs (zgi v.peers) v.passive = (ageV v).passive := rfl
 have e8 : ageL v.peers = (ageV v).peers := rfl
 have e7 : (ageV v).id = v.id := rfl
 have e6 : zjs [] v.passive = v.passive := rfl
 unfold zgx
 rw [h] at c1
 rw [e0] at c3
 rw [e8] at c3 hal
 simp only [zd6, View.cells, zat, zap, e7] at c1 c2 c3 c4 c5 ⊢
 have hll : (zgi v.peers).length ≤ 16 := by omega
 generalize zgi v.peers = lost at *
 clear e0 e8 hal m1 m4 h
 generalize (ageV v).peers = ps at *
 generalize (ageV v).passive = xs at *
 simp only [List.map_map, Function.comp_def, List.length_map, List.map_append, List.length_append] at c5
 refine zak [] [] z5m ?_
 simp -implicitDefEqProofs [zxp]
 refine zaa c1 ?_
 simp -implicitDefEqProofs
 refine zaa c2 ?_
 simp -implicitDefEqProofs
 refine zaa c3 ?_
 simp -implicitDefEqProofs
 refine za3 lost (fun i rest => fun ⟨fr, bs⟩ => bs = [⟨[[.int .i64 v.id, .sl (v.peers.map Peer.row) v.peers.length, .sl (v.passive.map irow) v.passive.length]], 3, .box⟩, ⟨[[.int .i64 0, .nil, .nil]], 3, .box⟩, ⟨[], 1, .mut⟩, ⟨[[.int .i64 v.id, .sl (ps.map Peer.row) ps.length, .sl ((zjs (lost.take i) v.passive).map irow) (zjs (lost.take i) v.passive).length]], 3, .box⟩] ∧ fr 2 = .ptr 1 0 0 ∧ fr 5 = .ptr 3 0 0 ∧ fr 28 = .sl (lost.map irow) lost.length ∧ fr 29 = .int .i64 lost.length ∧ fr 30 = .int .i64 i)
  (fun ⟨fr, bs⟩ => bs = [⟨[[.int .i64 v.id, .sl (v.peers.map Peer.row) v.peers.length, .sl (v.passive.map irow) v.passive.length]], 3, .box⟩, ⟨[[.int .i64 0, .nil, .nil]], 3, .box⟩, ⟨[], 1, .mut⟩, ⟨[[.int .i64 v.id, .sl (ps.map Peer.row) ps.length, .sl (xs.map irow) xs.length]], 3, .box⟩] ∧ fr 2 = .ptr 1 0 0 ∧ fr 5 = .ptr 3 0 0) (fun _ => False) zqm.eq_1 ?_ ?_ ?_ ?_ ?_
 ·refine ⟨?_, rfl, rfl, rfl, rfl, rfl⟩
  simp [e6]
 ·rintro i ⟨fr, bs⟩ hi ⟨rfl, h2, h5, h28, h29, h30⟩
  subst hi
  rw [List.take_length] at *
  rw [e9]
  simp -implicitDefEqProofs [h2, h5, h28, h29, h30]
 ·rintro i x rest ⟨fr, bs⟩ hlt hget hg hd hd2 ⟨rfl, h2, h5, h28, h29, h30⟩
  have hlt' : (i : Int) < lost.length := by omega
  have hx := hnx i x hget
  have hc := z1w (zjs (lost.take i) v.passive) x (by have := c6 i; unfold cap; omega)
  rw [hx]
  clear hx
  simp only [zap] at hc
  generalize zqb (zjs (lost.take i) v.passive) x = r at *
  generalize zjs (lost.take i) v.passive = p at *
  obtain ⟨q, e⟩ := r
  simp only at hc
  simp -implicitDefEqProofs [h2, h5, h28, h29, h30, hlt, hlt', hget, hg, irow]
  refine zaa hc ?_
  simp -implicitDefEqProofs [h2, h5, h28, h29, h30, irow]
  exact zaw (by omega) (by omega)
 ·rintro ⟨fr, bs⟩ ⟨rfl, h2, h5⟩
  simp -implicitDefEqProofs [h2, h5]
  repeat' ((first | refine zaa (by first | exact c4 | exact c5) ?_ | ((with_reducible first | refine zaj ?_ ?_ | refine zah ?_ ?_ | refine zae ?_ ?_ | refine zad ?_ ?_) <;> intro _) | ((with_reducible first | refine zao ?_ ?_ | refine zaq ?_ ?_ | refine zal ?_ ?_ | refine zac ?_ ?_ | refine zai ?_ ?_ | refine zan ?_ ?_ | refine zaf ?_ ?_ | refine zab ?_ ?_) <;> intro hq <;> (try simp at hq)) | refine zag (by omega) ?_ | refine zam (by omega) ?_) <;> simp -implicitDefEqProofs [*, h2, h5, zar])
 ·rintro ⟨fr, bs⟩ h
  exact h.elim
end Go.AM
/- AM: chapter 20's statements: Takes. -/
namespace Go.AM
theorem zbi {x : Node} (h : zcj x = true) : x.up = true ∧ zbd x.view = true ∧ zbu x.items = true ∧ x.log.length ≤ 64 ∧ x.log.any zdf = false := by
 simp only [zcj, zcg, Bool.and_eq_true, decide_eq_true_eq, Bool.not_eq_true'] at h
 exact ⟨h.1, h.2.1.1.1.2, h.2.1.1.2, h.2.1.2, h.2.2⟩
theorem zn1 {x : Node} (h1 : x.up = true) (h2 : zbd x.view = true) (h3 : zbu x.items = true) (h4 : x.log.length ≤ 64) (h5 : x.log.any zdf = false) : zcj x = true := by
 simp [zcj, zcg, h1, h2, h3, h4, h5]
theorem qdo {x : Node} {i : Item} (h : zcj x = true) : zcj (ze5 x i) = true := by
 obtain ⟨h1, h2, h3, h4, h5⟩ := zbi h
 unfold ze5
 split
 ·rename_i h6
  obtain ⟨_, _, h7, h8⟩ := z6p h6
  rw [h7]
  exact zn1 h1 h2 h8 h4 h5
 ·exact h
theorem zjw {x : Node} (h : zcj x = true) : x.view.peers.length ≤ 16 ∧ x.view.passive.length ≤ 16 ∧ x.items.length ≤ 16 ∧ x.log.length ≤ 64 := by
 obtain ⟨h1, h2, h3, h4, h5⟩ := zbi h
 have h6 := (za1 h2).2.2.1
 have h7 := ((zca _).1 h3).2.2
 omega
theorem zrb {x : Node} (h : zcj x = true) : x.small := by
 obtain ⟨h1, h2, h3, h4⟩ := zjw h
 unfold Node.small View.small zbo cap
 omega
end Go.AM
/- AM: contracts: tick.Step. -/
namespace Go.AM
def zdp (x : Node) : Node := { x with view := ageV x.view }
def greetR (w : View) (to : Int) : List D := [.int .i64 0, .int .i64 w.id, .int .i64 to, .sl (w.peers.map fun p => irow p.id) w.peers.length, .int .i64 0, .int .i64 0, .int .i64 0, .int .i64 0, .int .i64 0, .bool false, .bool false]
def zdw (w : View) (L : List Int) : List (List D) := L.map (greetR w)
theorem z10 {w : View} {L : List Int} {i : Nat} {x : Int} (h : L[i]? = some x) : zdw w (L.take (i + 1)) = zdw w (L.take i) ++ [greetR w x] := by
 have e1 : L.take (i + 1) = L.take i ++ [x] := by rw [List.take_add_one, h]; rfl
 rw [e1]; simp [zdw]
theorem zzo (w : View) (L : List Int) (S : Nat → Bool) : (zdw w L).map (fun r => r.map (D.sweep S)) = zdw w L := by
 unfold zdw
 rw [List.map_map]
 rfl
theorem qbr (x : Node) (h : zcj x = true) : Den PP 37 [zc2 x] [] (.tup [zc2 (zdp x), .ref 0 0 ((zgx (ageV x.view)).length + (zb5 (zdp x)).1.length), .int .i64 0]) [⟨zdw (ageV x.view) (zgx (ageV x.view)) ++ (zb5 (zdp x)).1.map Msg.row0, 11, .mut⟩] := by
 obtain ⟨p1, p2, p3, p4, p5⟩ := zbi h
 obtain ⟨v1, v2, v3⟩ := zjd p2
 obtain ⟨l1, l2, l3, l4⟩ := zjw h
 have hs := zrb h
 have hu : zcj (zdp x) = true := zn1 p1 v1 p3 p4 p5
 have c1 := zke x hs
 have c2 := zgv x hs
 have c3 := qd5 x.view p2
 have c4 := zrh (ageV x.view) (by unfold zbo; omega)
 have c5 := qdd (zdp x) (zrb hu)
 have hgl : (zgx (ageV x.view)).length ≤ 16 := by have := (za1 v1).2.2.1; unfold zgx; simp; omega
 have hsl : (zb5 (zdp x)).1.length ≤ 4096 := by
  have h1 : (zb5 (zdp x)).1.length ≤ x.items.length := by
   unfold zb5
   rw [hu]
   exact List.length_filterMap_le ..
  omega
 have e0 : (zb5 (zdp x)).2 = 0 := by unfold zb5; rw [hu]; rfl
 rw [e0] at c5
 rw [h] at c1
 generalize (zb5 (zdp x)).1 = ms at *
 have e7 : (ageV x.view).id = x.view.id := rfl
 unfold zdp at c5 ⊢
 generalize hw : ageV x.view = w at *
 generalize zgx w = gs at *
 simp only [zc2, Node.cells, zd6, View.cells, zat, zap, zav, zay, zh1, zix, e7] at c1 c2 c3 c4 c5 ⊢
 have hnx := fun i y (hy : gs[i]? = some y) => z10 (w := w) hy
 have hsw := zzo w
 clear e0 hw hu h p1 p2 p3 p4 p5 v1 v2 v3
 refine zak [] [] z0y ?_
 simp -implicitDefEqProofs [zuq]
 refine zaa c1 ?_
 simp -implicitDefEqProofs
 refine zaa c2 ?_
 simp -implicitDefEqProofs
 refine zaa c3 ?_
 simp -implicitDefEqProofs
 refine za3 gs (fun i rest => fun ⟨fr, bs⟩ => (bs = [⟨[[.bool x.up, .int .i64 x.view.id, .sl (x.view.peers.map Peer.row) x.view.peers.length, .sl (x.view.passive.map irow) x.view.passive.length, .sl (x.items.map Item.row) x.items.length, .sl (x.log.map Told.row) x.log.length]], 6, .box⟩, ⟨[[.bool false, .int .i64 0, .nil, .nil, .nil, .nil]], 6, .box⟩, ⟨[], 11, .mut⟩, ⟨[[.bool x.up, .int .i64 x.view.id, .sl (w.peers.map Peer.row) w.peers.length, .sl (w.passive.map irow) w.passive.length, .sl (x.items.map Item.row) x.items.length, .sl (x.log.map Told.row) x.log.length]], 6, .box⟩, ⟨[[.int .i64 x.view.id, .sl (w.peers.map Peer.row) w.peers.length, .sl (w.passive.map irow) w.passive.length]], 3, .box⟩, ⟨zdw w (gs.take i), 11, .mut⟩] ∨ bs = [⟨[[.bool x.up, .int .i64 x.view.id, .sl (x.view.peers.map Peer.row) x.view.peers.length, .sl (x.view.passive.map irow) x.view.passive.length, .sl (x.items.map Item.row) x.items.length, .sl (x.log.map Told.row) x.log.length]], 6, .box⟩, ⟨[[.bool false, .int .i64 0, .nil, .nil, .nil, .nil]], 6, .box⟩, ⟨[], 11, .mut⟩, ⟨[[.bool x.up, .int .i64 x.view.id, .sl (w.peers.map Peer.row) w.peers.length, .sl (w.passive.map irow) w.passive.length, .sl (x.items.map Item.row) x.items.length, .sl (x.log.map Told.row) x.log.length]], 6, .box⟩, ⟨[[.int .i64 x.view.id, .sl (w.peers.map Peer.row) w.peers.length, .sl (w.passive.map irow) w.passive.length]], 3, .ibox⟩, ⟨zdw w (gs.take i), 11, .mut⟩]) ∧ fr 2 = .ptr 1 0 0 ∧ fr 5 = .ptr 3 0 0 ∧ fr 6 = .ptr 4 0 0 ∧ fr 9 = .ref 5 0 i ∧ fr 29 = .sl (gs.map irow) gs.length ∧ fr 30 = .int .i64 gs.length ∧ fr 31 = .int .i64 i)
  (fun ⟨fr, bs⟩ => (bs = [⟨[[.bool x.up, .int .i64 x.view.id, .sl (x.view.peers.map Peer.row) x.view.peers.length, .sl (x.view.passive.map irow) x.view.passive.length, .sl (x.items.map Item.row) x.items.length, .sl (x.log.map Told.row) x.log.length]], 6, .box⟩, ⟨[[.bool false, .int .i64 0, .nil, .nil, .nil, .nil]], 6, .box⟩, ⟨[], 11, .mut⟩, ⟨[[.bool x.up, .int .i64 x.view.id, .sl (w.peers.map Peer.row) w.peers.length, .sl (w.passive.map irow) w.passive.length, .sl (x.items.map Item.row) x.items.length, .sl (x.log.map Told.row) x.log.length]], 6, .box⟩, ⟨[[.int .i64 x.view.id, .sl (w.peers.map Peer.row) w.peers.length, .sl (w.passive.map irow) w.passive.length]], 3, .box⟩, ⟨zdw w gs, 11, .mut⟩] ∨ bs = [⟨[[.bool x.up, .int .i64 x.view.id, .sl (x.view.peers.map Peer.row) x.view.peers.length, .sl (x.view.passive.map irow) x.view.passive.length, .sl (x.items.map Item.row) x.items.length, .sl (x.log.map Told.row) x.log.length]], 6, .box⟩, ⟨[[.bool false, .int .i64 0, .nil, .nil, .nil, .nil]], 6, .box⟩, ⟨[], 11, .mut⟩, ⟨[[.bool x.up, .int .i64 x.view.id, .sl (w.peers.map Peer.row) w.peers.length, .sl (w.passive.map irow) w.passive.length, .sl (x.items.map Item.row) x.items.length, .sl (x.log.map Told.row) x.log.length]], 6, .box⟩, ⟨[[.int .i64 x.view.id, .sl (w.peers.map Peer.row) w.peers.length, .sl (w.passive.map irow) w.passive.length]], 3, .ibox⟩, ⟨zdw w gs, 11, .mut⟩]) ∧ fr 2 = .ptr 1 0 0 ∧ fr 5 = .ptr 3 0 0 ∧ fr 9 = .ref 5 0 gs.length) (fun _ => False) zpg.eq_1 ?_ ?_ ?_ ?_ ?_
 ·exact ⟨.inl (by simp [zdw]), rfl, rfl, rfl, rfl, rfl, rfl, rfl⟩
 ·rintro i ⟨fr, bs⟩ hi ⟨hb, h2, h5, h6, h9, h29, h30, h31⟩
  subst hi
  rw [List.take_length] at *
  simp -implicitDefEqProofs [h2, h5, h6, h9, h29, h30, h31]
  exact hb
 ·rintro i y rest ⟨fr, bs⟩ hlt hget hg hd hd2 ⟨hb, h2, h5, h6, h9, h29, h30, h31⟩
  have hlt' : (i : Int) < gs.length := by omega
  have hgr : (zdw w (gs.take i)).length = i := by simp [zdw]; omega
  rw [hnx i y hget]
  have hsG := hsw (gs.take i)
  generalize zdw w (gs.take i) = G at *
  rcases hb with rfl | rfl
  all_goals
   simp -implicitDefEqProofs [h2, h5, h6, h9, h29, h30, h31, hlt, hlt', hget, hg, irow]
   repeat' ((first | refine zaa (by first | exact c4) ?_ | ((with_reducible first | refine zaj ?_ ?_ | refine zah ?_ ?_ | refine zae ?_ ?_ | refine zad ?_ ?_) <;> intro _) | ((with_reducible first | refine zao ?_ ?_ | refine zaq ?_ ?_ | refine zal ?_ ?_ | refine zac ?_ ?_ | refine zai ?_ ?_ | refine zan ?_ ?_ | refine zaf ?_ ?_ | refine zab ?_ ?_) <;> intro hq <;> (try simp at hq)) | refine zag (by omega) ?_ | refine zam (by omega) ?_) <;> simp -implicitDefEqProofs [*, h2, h5, h6, h9, h29, h30, h31, hlt, hlt', hgr, irow, zar])
   refine ⟨by simp [Fits], ?_⟩
   refine zag ⟨by omega, by omega⟩ ?_
   simp -implicitDefEqProofs [h2, h5, h6, h9, h29, h30, h31, hgr, irow, zar, greetR, hsG]
   exact ⟨e7.symm, zaw (by omega) (by omega)⟩
 ·rintro ⟨fr, bs⟩ ⟨hb, h2, h5, h9⟩
  have hgr : (zdw w gs).length = gs.length := by simp [zdw]
  have hsG := hsw gs
  generalize zdw w gs = G at *
  rcases hb with rfl | rfl
  all_goals
   simp -implicitDefEqProofs [h2, h5, h9]
   refine zaa c5 ?_
   simp -implicitDefEqProofs [h2, h5, h9]
   repeat' apply And.intro
  all_goals
   refine zag ⟨by omega, by omega⟩ ?_
   refine zag (by omega) ?_
   simp -implicitDefEqProofs [h2, h5, h9, hsG]
 ·rintro ⟨fr, bs⟩ h
  exact h.elim
end Go.AM
/- AM: contracts: a tick as an act. -/
namespace Go.AM
def zis (x : Node) : List Msg := (zgx (ageV x.view)).map (zrn (ageV x.view)) ++ (zb5 (zdp x)).1
theorem qca {x : Node} {m : Msg} (h : m ∈ (zb5 x).1) : m.ids = [] := by
 unfold zb5 at h
 split at h
 ·obtain ⟨i, -, hi⟩ := List.mem_filterMap.1 h
  unfold zf3 at hi
  generalize (if (zbw x.view i.key).1 = x.view.id then (zn9 x.view).1 else (zbw x.view i.key).1) = to at hi
  by_cases hc : to = x.view.id
  ·rw [if_pos hc] at hi; cases hi
  ·rw [if_neg hc] at hi; cases hi; rfl
 ·cases h
theorem z81 (x : Node) : (zb5 x).1.map Msg.bare = (zb5 x).1 := by
 rw [List.map_congr_left (g := id) (fun m hm => ?_), List.map_id]
 have := qca hm
 cases m
 simp only at this
 subst this
 rfl
theorem qc1 (x : Node) : nrmLL (zdw (ageV x.view) (zgx (ageV x.view)) ++ (zb5 (zdp x)).1.map Msg.row0) = (zis x).map Msg.row := by
 have h := zp5 (zb5 (zdp x)).1
 rw [z81, zf2] at h
 rw [zf2, List.map_append, h]
 unfold zis
 rw [List.map_append]
 congr 1
 unfold zdw
 rw [List.map_map, List.map_map]
 apply List.map_congr_left
 intro to _
 simp [greetR, zrn, Msg.row, zap, zeroItem, irow, zf2, Function.comp_def]
theorem qal (w : Wld) (a : Act) (x : Node) (hw : w.tiny) (hr : zkk (cmpN a.node) w.nodes) (hi : isN a.node w.nodes = true) (hx : w.nodes[posN a.node w.nodes]? = some x) (h : zcj x = true)
 (hm1 : za9 { w with nodes := w.nodes.set (posN a.node w.nodes) (zdp x) } = true) (hm2 : za9 { w with nodes := w.nodes.set (posN a.node w.nodes) (zdp x), packets := zis x } = true) :
 Den PP 59 [.ptr 0 0 0, .ptr 4 0 0] (actB w a) (.tup []) (doS { w with nodes := w.nodes.set (posN a.node w.nodes) (zdp x) } (zc5 { w with nodes := w.nodes.set (posN a.node w.nodes) (zdp x) } (zis x)) w.packets a) := by
 have c1 := zub w a (by have := hw.nodes; unfold cap; omega) hr hi
 have c2 := qbr x h
 have c3 := zus { w with nodes := w.nodes.set (posN a.node w.nodes) (zdp x) } (zis x) hm1 hm2
 have hp := zl1 hi
 have hn := qc1 x
 have hlen : (zis x).length = (zgx (ageV x.view)).length + (zb5 (zdp x)).1.length := by simp [zis]
 have hg : ∀ h : posN a.node w.nodes < w.nodes.length, w.nodes[posN a.node w.nodes] = x := fun h => by rw [List.getElem?_eq_getElem h] at hx; exact Option.some.inj hx
 have c3 : Den PP 151 [.ptr 0 0 0, .sl (zdw (ageV x.view) (zgx (ageV x.view)) ++ (zb5 (zdp x)).1.map Msg.row0) ((zgx (ageV x.view)).length + (zb5 (zdp x)).1.length)] _ _ _ := ze4 (by
  simp only [List.map_cons, List.map_nil, D.nrm, hn, ← hlen]
  exact c3)
 generalize posN a.node w.nodes = P at *
 have hp' : (P : Int) < w.nodes.length := by omega
 generalize (zdw (ageV x.view) (zgx (ageV x.view)) ++ (zb5 (zdp x)).1.map Msg.row0) = R at *
 generalize ((zgx (ageV x.view)).length + (zb5 (zdp x)).1.length) = k at *
 generalize zis x = ms at *
 generalize zdp x = y at *
 have e1 : (zc5 { w with nodes := w.nodes.set P y } ms).nodes = w.nodes.set P y := rfl
 have e2 : (zc5 { w with nodes := w.nodes.set P y } ms).cuts = w.cuts := rfl
 generalize zc5 { w with nodes := w.nodes.set P y } ms = v at *
 obtain ⟨ns, cs, ps⟩ := v
 simp only at e1 e2
 subst e1 e2
 clear hi hr hw h hm1 hm2 hn hlen
 simp only [actB, doA, doC, doS, zh1, zix, zc2, zap, Act.cells, Wld.cells, za2, zbc, zbl, msgD, List.length_set, List.map_set] at c1 c2 c3 ⊢
 rw [zi3 y] at c2 c3 ⊢
 refine zak [] [8, 24] ztm ?_
 simp -implicitDefEqProofs [znr]
 refine zau [0, 1, 2, 3, 4] rfl (by decide) (by simp) c1 (by simp) (by simp [zbf]) ?_
 simp -implicitDefEqProofs [zcc, hp, hp', hx, hg]
 refine zaa c2 ?_
 simp -implicitDefEqProofs [-zax, hp, hp', hx, hg]
 refine zau [0, 1, 2, 3] rfl (by decide) (by simp) c3 (by simp) (by simp [zbf]) ?_
 simp -implicitDefEqProofs [zcc, -zax]

 exact zwf (zgn rfl) (zpx (zi5 5 _) (List.all_eq_true.1 rfl)) (zl5 5 _) (zlq 5 _) (zgn rfl)
end Go.AM
/- AM: contracts: what a node was told is noted. -/
namespace Go.AM
def zes (key : Int) (i : Item) (has : Bool) : Told := ⟨key, has && !i.gone, if has && !i.gone then i.value else 0⟩
theorem qdz (x : Node) (key : Int) (i : Item) (has : Bool) (hs : x.small) (hl : x.log.length ≤ 64) : Den PP 131 [zc2 x, .int .i64 key, .agg i.row, .bool has] [] (.agg [.bool x.up, .int .i64 x.view.id, .ref 0 0 x.view.peers.length, .ref 1 0 x.view.passive.length, .ref 2 0 x.items.length, .ref 3 (x.log.length + 1 - 64) (x.log.length + 1 - (x.log.length + 1 - 64))])
 [⟨x.view.peers.map Peer.row, 2, .mut⟩, ⟨x.view.passive.map irow, 1, .mut⟩, ⟨x.items.map Item.row, 5, .mut⟩, ⟨(x.log ++ [zes key i has]).map Told.row, 3, .mut⟩] := by
 have c1 := zgv x hs
 obtain ⟨ik, ic, iw, iv, ig⟩ := i
 simp only [zc2, Node.cells, zat, zap, zav, zay, Item.row, zh1, zix] at c1 ⊢
 have hm : (if IntKind.wrap .i64 ((x.log.length : Int) + 1 - 64) < 0 then 0 else IntKind.wrap .i64 ((x.log.length : Int) + 1 - 64)) = ((x.log.length + 1 - 64 : Nat) : Int) := by
  rw [zaw (by omega) (by omega)]; split <;> omega
 refine zak [12] [] z6d ?_
 cases has <;> cases ig
 all_goals
  simp -implicitDefEqProofs [zw6]
  refine zaa c1 ?_
  simp -implicitDefEqProofs [zar]
 case false.false | false.true | true.true =>
  refine ⟨by simp [Fits], ?_⟩
  repeat' ((first | refine zaa (by first | exact zaz _ | exact ze4 (zaz _) | exact ze4 (by simpa using zaz _)) ?_ | ((with_reducible first | refine zaj ?_ ?_ | refine zah ?_ ?_ | refine zae ?_ ?_ | refine zad ?_ ?_) <;> intro _) | ((with_reducible first | refine zao ?_ ?_ | refine zaq ?_ ?_ | refine zal ?_ ?_ | refine zac ?_ ?_ | refine zai ?_ ?_ | refine zan ?_ ?_ | refine zaf ?_ ?_ | refine zab ?_ ?_) <;> intro hq <;> (try simp at hq)) | refine zag (by omega) ?_ | refine zam (by omega) ?_) <;> simp -implicitDefEqProofs [*, zar])
  simp -implicitDefEqProofs [minL, minF, hm]
  refine zk6 (x.log.length + 1 - 64) (x.log.length + 1) (by simp; rfl) rfl (by simp [za8, hm]) (by first | rfl | omega | (simp [za8]; done) | (simp [za8]; omega) | (simp; done) | (simp; omega) | (simp [*]; done) | (simp [*]; omega)) (by omega) (by first | rfl | omega | (simp [za8]; done) | (simp [za8]; omega) | (simp; done) | (simp; omega) | (simp [*]; done) | (simp [*]; omega)) rfl (by first | rfl | omega | (simp [za8]; done) | (simp [za8]; omega) | (simp; done) | (simp; omega) | (simp [*]; done) | (simp [*]; omega)) ?_
  simp -implicitDefEqProofs [zes, Told.row]
 case true.false =>
  repeat' apply And.intro
  all_goals try (simp [Fits]; done)
  all_goals
   repeat' ((first | refine zaa (by first | exact zaz _ | exact ze4 (zaz _) | exact ze4 (by simpa using zaz _)) ?_ | ((with_reducible first | refine zaj ?_ ?_ | refine zah ?_ ?_ | refine zae ?_ ?_ | refine zad ?_ ?_) <;> intro _) | ((with_reducible first | refine zao ?_ ?_ | refine zaq ?_ ?_ | refine zal ?_ ?_ | refine zac ?_ ?_ | refine zai ?_ ?_ | refine zan ?_ ?_ | refine zaf ?_ ?_ | refine zab ?_ ?_) <;> intro hq <;> (try simp at hq)) | refine zag (by omega) ?_ | refine zam (by omega) ?_) <;> simp -implicitDefEqProofs [*, zar])
   simp -implicitDefEqProofs [minL, minF, hm]
   refine zk6 (x.log.length + 1 - 64) (x.log.length + 1) (by simp; rfl) rfl (by simp [za8, hm]) (by first | rfl | omega | (simp [za8]; done) | (simp [za8]; omega) | (simp; done) | (simp; omega) | (simp [*]; done) | (simp [*]; omega)) (by omega) (by first | rfl | omega | (simp [za8]; done) | (simp [za8]; omega) | (simp; done) | (simp; omega) | (simp [*]; done) | (simp [*]; omega)) rfl (by first | rfl | omega | (simp [za8]; done) | (simp [za8]; omega) | (simp; done) | (simp; omega) | (simp [*]; done) | (simp [*]; omega)) ?_
   simp -implicitDefEqProofs [zes, Told.row]
end Go.AM
/- AM: chapter 20's statements: TakeTwice, TakeBest. -/
namespace Go.AM
end Go.AM
/- AM: contracts: asking, answering, being told; the document's. -/
namespace Go.AM
def znd (x : Node) (pre xs : List Told) : D := .agg [.bool x.up, .int .i64 x.view.id, .ref 0 0 x.view.peers.length, .ref 1 0 x.view.passive.length, .ref 2 0 x.items.length, .ref 3 pre.length xs.length]
def zne (x : Node) (pre xs : List Told) : List Blk := [⟨x.view.peers.map Peer.row, 2, .mut⟩, ⟨x.view.passive.map irow, 1, .mut⟩, ⟨x.items.map Item.row, 5, .mut⟩, ⟨(pre ++ xs).map Told.row, 3, .mut⟩]
def zg1 (x : Node) (t : Told) : List Told := (x.log ++ [t]).take (x.log.length + 1 - 64)
def zde (x : Node) (t : Told) : List Told := (x.log ++ [t]).drop (x.log.length + 1 - 64)
theorem qcc (x : Node) (t : Told) : (zg1 x t).length = x.log.length + 1 - 64 ∧ (zde x t).length = x.log.length + 1 - (x.log.length + 1 - 64) ∧ zg1 x t ++ zde x t = x.log ++ [t] := by
 unfold zg1 zde
 refine ⟨by simp; omega, by simp, List.take_append_drop _ _⟩
theorem z2e (x : Node) (key : Int) (i : Item) (has : Bool) (hs : x.small) (hl : x.log.length ≤ 64) : Den PP 131 [zc2 x, .int .i64 key, .agg i.row, .bool has] [] (znd x (zg1 x (zes key i has)) (zde x (zes key i has))) (zne x (zg1 x (zes key i has)) (zde x (zes key i has))) := by
 have := qdz x key i has hs hl
 obtain ⟨h1, h2, h3⟩ := qcc x (zes key i has)
 unfold znd zne
 rw [h1, h2, h3]
 exact this
def toB (x : Node) (m : Msg) (kind : Int) : Bool := zcj x && (zbs m && (decide (m.kind = kind) && decide (m.to = x.view.id)))
theorem qfo (x : Node) (m : Msg) (kind : Int) (hs : x.small) (hl : m.ids.length ≤ cap) : Den PP 129 [.mem x.cells, .mem m.row, .int .i64 kind] [] (.bool (toB x m kind)) [] := by
 have c1 := zke x hs
 have c2 := zsl m hl
 unfold toB
 generalize zcj x = U at *
 generalize zbs m = M at *
 simp only [zc2, Node.cells, zat, zap, zav, zay, Item.row, msgD, Msg.row] at c1 c2 ⊢
 refine zak [] [] qcs ?_
 cases U <;> cases M
 all_goals
  simp -implicitDefEqProofs [z6j]
  repeat' ((first | refine zaa (by first | exact c1 | exact c2) ?_ | ((with_reducible first | refine zaj ?_ ?_ | refine zah ?_ ?_ | refine zae ?_ ?_ | refine zad ?_ ?_) <;> intro _) | ((with_reducible first | refine zao ?_ ?_ | refine zaq ?_ ?_ | refine zal ?_ ?_ | refine zac ?_ ?_ | refine zai ?_ ?_ | refine zan ?_ ?_ | refine zaf ?_ ?_ | refine zab ?_ ?_) <;> intro hq <;> (try simp at hq)) | refine zag (by omega) ?_ | refine zam (by omega) ?_) <;> simp -implicitDefEqProofs [*])
 all_goals (first | (simp [*]; done) | grind)
def zjp (x : Node) (to key : Int) : Msg := ⟨2, x.view.id, to, [], key, zeroItem, false⟩
def gotT (x : Node) (key : Int) : Told := zes key (getR x.items key).1 (getR x.items key).2
theorem zxy {x : Node} (h : zcj x = true) : x.log.length ≤ 64 := (zbi h).2.2.2.1
theorem z4j (x : Node) (key : Int) (hs : x.small) (h1 : zcj x = true) (h2 : place key = true) (h3 : (zbw x.view key).1 = x.view.id) : Den PP 158 [zc2 x, .int .i64 key] [] (.tup [znd x (zg1 x (gotT x key)) (zde x (gotT x key)), .ref 4 0 0, .int .i64 0]) (zne x (zg1 x (gotT x key)) (zde x (gotT x key)) ++ [⟨[], 11, .mut⟩]) := by
 have c1 := zke x hs
 have c2 := zaz key
 have c3 := zsa x.view key hs.1
 have c4 := z1s x.items key (by have := hs.2.1; unfold zbo; omega)
 have c5 := z2e x key (getR x.items key).1 (getR x.items key).2 hs (zxy h1)
 rw [h1] at c1
 rw [h2] at c2
 unfold gotT
 generalize getR x.items key = r at *
 obtain ⟨⟨ik, ic, iw, iv, ig⟩, g2⟩ := r
 generalize hlp : zg1 x (zes key _ _) = pre at *
 generalize hlo : zde x (zes key _ _) = xs at *
 clear hlp hlo
 generalize zbw x.view key = o at *
 obtain ⟨o1, o2⟩ := o
 simp only at h3
 subst h3
 simp only [zc2, Node.cells, zd6, View.cells, zat, zap, zav, zay, Item.row, znd, zne, zng] at c1 c2 c3 c4 c5 ⊢
 clear h1 h2
 refine zak [45] [] zxw ?_
 simp -implicitDefEqProofs [zu7]
 repeat' ((first | refine zaa (by first | exact c1 | exact c2 | exact c3 | exact c4 | exact c5) ?_ | ((with_reducible first | refine zaj ?_ ?_ | refine zah ?_ ?_ | refine zae ?_ ?_ | refine zad ?_ ?_) <;> intro _) | ((with_reducible first | refine zao ?_ ?_ | refine zaq ?_ ?_ | refine zal ?_ ?_ | refine zac ?_ ?_ | refine zai ?_ ?_ | refine zan ?_ ?_ | refine zaf ?_ ?_ | refine zab ?_ ?_) <;> intro hq <;> (try simp at hq)) | refine zag (by omega) ?_ | refine zam (by omega) ?_) <;> simp -implicitDefEqProofs [*, zar])
theorem z3v (x : Node) (key : Int) (hs : x.small) (h1 : zcj x = true) (h2 : place key = true) (h3 : (zbw x.view key).1 ≠ x.view.id) : Den PP 158 [zc2 x, .int .i64 key] [] (.tup [zh1 x, .ref 4 0 1, .int .i64 0]) (zix x ++ [⟨[zjp x (zbw x.view key).1 key].map Msg.row0, 11, .mut⟩]) := by
 have c1 := zke x hs
 have c2 := zaz key
 have c3 := zsa x.view key hs.1
 have c5 := zgv x hs
 rw [h1] at c1
 rw [h2] at c2
 generalize zbw x.view key = o at *
 obtain ⟨o1, o2⟩ := o
 simp only at h3
 simp only [zc2, Node.cells, zd6, View.cells, zat, zap, zav, zay, Item.row, zh1, zix, zng, zjp, zeroItem, Msg.row0, List.map_cons, List.map_nil] at c1 c2 c3 c5 ⊢
 clear h1 h2
 refine zak [47] [] zxw ?_
 simp -implicitDefEqProofs [zu7]
 repeat' ((first | refine zaa (by first | exact c1 | exact c2 | exact c3) ?_ | ((with_reducible first | refine zaj ?_ ?_ | refine zah ?_ ?_ | refine zae ?_ ?_ | refine zad ?_ ?_) <;> intro _) | ((with_reducible first | refine zao ?_ ?_ | refine zaq ?_ ?_ | refine zal ?_ ?_ | refine zac ?_ ?_ | refine zai ?_ ?_ | refine zan ?_ ?_ | refine zaf ?_ ?_ | refine zab ?_ ?_) <;> intro hq <;> (try simp at hq)) | refine zag (by omega) ?_ | refine zam (by omega) ?_) <;> simp -implicitDefEqProofs [*, zar, h3])
 repeat' apply And.intro
 all_goals repeat' ((first | refine zaa (by first | exact c5) ?_ | ((with_reducible first | refine zaj ?_ ?_ | refine zah ?_ ?_ | refine zae ?_ ?_ | refine zad ?_ ?_) <;> intro _) | ((with_reducible first | refine zao ?_ ?_ | refine zaq ?_ ?_ | refine zal ?_ ?_ | refine zac ?_ ?_ | refine zai ?_ ?_ | refine zan ?_ ?_ | refine zaf ?_ ?_ | refine zab ?_ ?_) <;> intro hq <;> (try simp at hq)) | refine zag (by omega) ?_ | refine zam (by omega) ?_) <;> simp -implicitDefEqProofs [*, zar, h3])
def ze7 (x : Node) (m : Msg) : Msg := ⟨3, x.view.id, m.from_, [], m.key, (getR x.items m.key).1, (getR x.items m.key).2⟩
theorem zzq (x : Node) (m : Msg) (hs : x.small) (hl : m.ids.length ≤ cap) (h : toB x m 2 = true) : Den PP 45 [zc2 x, msgD m] [] (.tup [.ref 0 0 1, .int .i64 0]) [⟨[ze7 x m].map Msg.row0, 11, .mut⟩] := by
 have c1 := qfo x m 2 hs hl
 have c4 := z1s x.items m.key (by have := hs.2.1; unfold zbo; omega)
 rw [h] at c1
 unfold ze7
 generalize getR x.items m.key = r at *
 obtain ⟨⟨ik, ic, iw, iv, ig⟩, g2⟩ := r
 simp only [zc2, Node.cells, zat, zap, zav, zay, Item.row, msgD, Msg.row, Msg.row0, List.map_cons, List.map_nil] at c1 c4 ⊢
 clear h
 refine zak [] [] zz8 ?_
 simp -implicitDefEqProofs [zta]
 repeat' ((first | refine zaa (by first | exact c1 | exact c4) ?_ | ((with_reducible first | refine zaj ?_ ?_ | refine zah ?_ ?_ | refine zae ?_ ?_ | refine zad ?_ ?_) <;> intro _) | ((with_reducible first | refine zao ?_ ?_ | refine zaq ?_ ?_ | refine zal ?_ ?_ | refine zac ?_ ?_ | refine zai ?_ ?_ | refine zan ?_ ?_ | refine zaf ?_ ?_ | refine zab ?_ ?_) <;> intro hq <;> (try simp at hq)) | refine zag (by omega) ?_ | refine zam (by omega) ?_) <;> simp -implicitDefEqProofs [*, zar])
 repeat' apply And.intro
 all_goals repeat' ((first | ((with_reducible first | refine zaj ?_ ?_ | refine zah ?_ ?_ | refine zae ?_ ?_ | refine zad ?_ ?_) <;> intro _) | ((with_reducible first | refine zao ?_ ?_ | refine zaq ?_ ?_ | refine zal ?_ ?_ | refine zac ?_ ?_ | refine zai ?_ ?_ | refine zan ?_ ?_ | refine zaf ?_ ?_ | refine zab ?_ ?_) <;> intro hq <;> (try simp at hq)) | refine zag (by omega) ?_ | refine zam (by omega) ?_) <;> simp -implicitDefEqProofs [*, zar])
def mT (m : Msg) : Told := zes m.key m.item m.has
theorem z5v (x : Node) (m : Msg) (hs : x.small) (hl : m.ids.length ≤ cap) (h : toB x m 3 = true) : Den PP 46 [zc2 x, msgD m] [] (.tup [znd x (zg1 x (mT m)) (zde x (mT m)), .int .i64 0]) (zne x (zg1 x (mT m)) (zde x (mT m))) := by
 have c1 := qfo x m 3 hs hl
 rw [h] at c1
 unfold toB at h
 simp only [Bool.and_eq_true, decide_eq_true_eq] at h
 have c5 := z2e x m.key m.item m.has hs (zxy h.1)
 clear h
 unfold mT
 generalize zg1 x (zes m.key m.item m.has) = pre at *
 generalize zde x (zes m.key m.item m.has) = xs at *
 simp only [zc2, Node.cells, zat, zap, zav, zay, Item.row, msgD, Msg.row, znd, zne] at c1 c5 ⊢
 refine zak [16] [] z5u ?_
 simp -implicitDefEqProofs [zyk]
 repeat' ((first | refine zaa (by first | exact c1 | exact c5) ?_ | ((with_reducible first | refine zaj ?_ ?_ | refine zah ?_ ?_ | refine zae ?_ ?_ | refine zad ?_ ?_) <;> intro _) | ((with_reducible first | refine zao ?_ ?_ | refine zaq ?_ ?_ | refine zal ?_ ?_ | refine zac ?_ ?_ | refine zai ?_ ?_ | refine zan ?_ ?_ | refine zaf ?_ ?_ | refine zab ?_ ?_) <;> intro hq <;> (try simp at hq)) | refine zag (by omega) ?_ | refine zam (by omega) ?_) <;> simp -implicitDefEqProofs [*, zar])
end Go.AM
/- AM: contracts: a get as an act. -/
namespace Go.AM
theorem z2u (w : Wld) (a : Act) (x : Node) (hw : w.tiny) (hr : zkk (cmpN a.node) w.nodes) (hi : isN a.node w.nodes = true) (hx : w.nodes[posN a.node w.nodes]? = some x) (h1 : zcj x = true) (h2 : place a.key = true) (h3 : (zbw x.view a.key).1 = x.view.id) (hm1 : za9 { w with nodes := w.nodes.set (posN a.node w.nodes) ({ x with log := zde x (gotT x a.key) }) } = true) (hm2 : za9 { w with nodes := w.nodes.set (posN a.node w.nodes) ({ x with log := zde x (gotT x a.key) }), packets := [] } = true) :
 Den PP 69 [.ptr 0 0 0, .ptr 4 0 0] (actB w a) (.tup []) (doS { w with nodes := w.nodes.set (posN a.node w.nodes) ({ x with log := zde x (gotT x a.key) }) } (zc5 { w with nodes := w.nodes.set (posN a.node w.nodes) ({ x with log := zde x (gotT x a.key) }) } []) w.packets a) := by
 have c1 := zub w a (by have := hw.nodes; unfold cap; omega) hr hi
 have c2 := z4j x a.key (zdi (hw.node x (List.mem_of_getElem? hx))) h1 h2 h3
 have c3 := zus { w with nodes := w.nodes.set (posN a.node w.nodes) ({ x with log := zde x (gotT x a.key) }) } [] hm1 hm2
 generalize zg1 x (gotT x a.key) = pre at *
 generalize hlog : zde x (gotT x a.key) = ys at *
 have c3 : Den PP 151 [.ptr 0 0 0, .sl [] 0] _ _ _ := c3
 have hp := zl1 hi
 have hg : ∀ h : posN a.node w.nodes < w.nodes.length, w.nodes[posN a.node w.nodes] = x := fun h => by rw [List.getElem?_eq_getElem h] at hx; exact Option.some.inj hx
 generalize posN a.node w.nodes = P at *
 have hp' : (P : Int) < w.nodes.length := by omega
 have e1 : (zc5 { w with nodes := w.nodes.set P ({ x with log := ys }) } []).nodes = w.nodes.set P ({ x with log := ys }) := rfl
 have e2 : (zc5 { w with nodes := w.nodes.set P ({ x with log := ys }) } []).cuts = w.cuts := rfl
 generalize zc5 { w with nodes := w.nodes.set P ({ x with log := ys }) } [] = v at *
 obtain ⟨ns, cs, ps⟩ := v
 simp only at e1 e2
 subst e1 e2
 clear hi hr hw h1 h2 h3 hm1 hm2
 simp only [actB, doA, doC, doS, zh1, zix, znd, zne, zc2, zap, Act.cells, Wld.cells, za2, zbc, zbl, msgD, List.length_set, List.map_set, List.map_cons, List.map_nil, List.length_cons, List.length_nil, List.nil_append, List.cons_append] at c1 c2 c3 ⊢
 rw [zi3 ({ x with log := ys })] at c3 ⊢
 simp only at c3 ⊢
 refine zak [] [8, 28] zny ?_
 simp -implicitDefEqProofs [zkd]
 refine zau [0, 1, 2, 3, 4] rfl (by decide) (by simp) c1 (by simp) (by simp [zbf]) ?_
 simp -implicitDefEqProofs [zcc, hp, hp', hx, hg]
 refine zaa c2 ?_
 simp -implicitDefEqProofs [-zax, hp, hp', hx, hg]
 refine zau [0, 1, 2, 3] rfl (by decide) (by simp) c3 (by simp) (by simp [zbf]) ?_
 simp -implicitDefEqProofs [zcc, -zax]
 exact zwf (zgn rfl) (zpx (zi5 5 _) (List.all_eq_true.1 rfl)) (zl5 5 _) (zlq 5 _) (zgn rfl)
theorem z12 (w : Wld) (a : Act) (x : Node) (hw : w.tiny) (hr : zkk (cmpN a.node) w.nodes) (hi : isN a.node w.nodes = true) (hx : w.nodes[posN a.node w.nodes]? = some x) (h1 : zcj x = true) (h2 : place a.key = true) (h3 : (zbw x.view a.key).1 ≠ x.view.id) (hm1 : za9 { w with nodes := w.nodes.set (posN a.node w.nodes) (x) } = true) (hm2 : za9 { w with nodes := w.nodes.set (posN a.node w.nodes) (x), packets := [zjp x (zbw x.view a.key).1 a.key] } = true) :
 Den PP 69 [.ptr 0 0 0, .ptr 4 0 0] (actB w a) (.tup []) (doS { w with nodes := w.nodes.set (posN a.node w.nodes) (x) } (zc5 { w with nodes := w.nodes.set (posN a.node w.nodes) (x) } [zjp x (zbw x.view a.key).1 a.key]) w.packets a) := by
 have c1 := zub w a (by have := hw.nodes; unfold cap; omega) hr hi
 have c2 := z3v x a.key (zdi (hw.node x (List.mem_of_getElem? hx))) h1 h2 h3
 have c3 := zus { w with nodes := w.nodes.set (posN a.node w.nodes) (x) } [zjp x (zbw x.view a.key).1 a.key] hm1 hm2
 have c3 : Den PP 151 [.ptr 0 0 0, .sl [(zjp x (zbw x.view a.key).1 a.key).row0] 1] _ _ _ := ze4 (by
  have hn := zp5 [zjp x (zbw x.view a.key).1 a.key]
  simp only [List.map_cons, List.map_nil] at hn
  simp only [List.map_cons, List.map_nil, D.nrm, hn]
  exact c3)
 generalize zjp x (zbw x.view a.key).1 a.key = m at *
 have hp := zl1 hi
 have hg : ∀ h : posN a.node w.nodes < w.nodes.length, w.nodes[posN a.node w.nodes] = x := fun h => by rw [List.getElem?_eq_getElem h] at hx; exact Option.some.inj hx
 generalize posN a.node w.nodes = P at *
 have hp' : (P : Int) < w.nodes.length := by omega
 have e1 : (zc5 { w with nodes := w.nodes.set P (x) } [m]).nodes = w.nodes.set P (x) := rfl
 have e2 : (zc5 { w with nodes := w.nodes.set P (x) } [m]).cuts = w.cuts := rfl
 generalize zc5 { w with nodes := w.nodes.set P (x) } [m] = v at *
 obtain ⟨ns, cs, ps⟩ := v
 simp only at e1 e2
 subst e1 e2
 clear hi hr hw h1 h2 h3 hm1 hm2
 simp only [actB, doA, doC, doS, zh1, zix, znd, zne, zc2, zap, Act.cells, Wld.cells, za2, zbc, zbl, msgD, List.length_set, List.map_set, List.map_cons, List.map_nil, List.length_cons, List.length_nil, List.nil_append, List.cons_append] at c1 c2 c3 ⊢
 rw [zi3 (x)] at c3 ⊢
 simp only [Msg.row0] at c2 c3
 refine zak [] [8, 28] zny ?_
 simp -implicitDefEqProofs [zkd]
 refine zau [0, 1, 2, 3, 4] rfl (by decide) (by simp) c1 (by simp) (by simp [zbf]) ?_
 simp -implicitDefEqProofs [zcc, hp, hp', hx, hg]
 refine zaa c2 ?_
 simp -implicitDefEqProofs [-zax, hp, hp', hx, hg]
 refine zau [0, 1, 2, 3] rfl (by decide) (by simp) c3 (by simp) (by simp [zbf]) ?_
 simp -implicitDefEqProofs [zcc, -zax]
 exact zwf (zgn rfl) (zpx (zi5 5 _) (List.all_eq_true.1 rfl)) (zl5 5 _) (zlq 5 _) (zgn rfl)
end Go.AM
/- AM: contracts: one is heard, of a view that is lent. -/
namespace Go.AM
theorem ztr (xs : List Int) (y : Int) (hl : xs.length ≤ cap) : Den PP 229 [zap xs, .int .i64 y] [] (.int .i64 (fIdx (fun x => decide (y = x)) 0 xs)) [] := by
 unfold cap at hl
 refine zak [] [] zls ?_
 simp -implicitDefEqProofs [zg3, zap]
 refine zdm (xs.length + 1) ?_
 have key : ∀ (Q : Ex → St → Prop) (r : Int) (hQ1 : ∀ fr, r = -1 → Q .normal ⟨fr, []⟩) (hQ2 : ∀ fr bs, fr 4 = .int .i64 r → Q .ret ⟨fr, bs⟩) (rest : List Int) (i : Nat) (fr : Nat → D), xs.drop i = rest → i ≤ xs.length →
  fr 0 = .sl (xs.map irow) xs.length → fr 1 = .int .i64 y → fr 7 = .int .i64 xs.length → fr 8 = .int .i64 i → fIdx (fun x => decide (y = x)) i rest = r → zlf (cf 0 [] []) 0 zc0 (zdk 0 Q) (rest.length + 1) ⟨fr, []⟩ := by
  intro Q r hQ1 hQ2 rest
  induction rest with
  | nil =>
    intro i fr e hi h0 h1 h7 h8 hm
    refine zbe zc0.eq_1 ?_
    have hi' := zgu e hi
    simp -implicitDefEqProofs [h0, h1, h7, h8, hi']
    exact hQ1 _ hm.symm
  | cons x rest ih =>
    intro i fr e hi h0 h1 h7 h8 hm
    refine zbe zc0.eq_1 ?_
    obtain ⟨hlt, hget, hd, hlen⟩ := ze1 e
    have hlt' : (i : Int) < xs.length := by omega
    have hw := za5 (show i ≤ 140737488355328 by omega)
    simp only [fIdx] at hm
    simp -implicitDefEqProofs [h0, h1, h7, h8, hlt', hget, irow]
    refine zae (fun h2 => ?_) (fun h2 => ?_)
    all_goals simp -implicitDefEqProofs [h2, h0, h1, h7, h8, hw]
    ·exact hQ2 _ _ (by rw [← hm]; simp [h2])
    ·exact ih (i + 1) _ hd (by omega) (by simp [h0]) (by simp [h1]) (by simp [h7]) (by simp) (by rw [← hm]; simp [h2])
 refine key _ (fIdx (fun x => decide (y = x)) 0 xs) (fun fr h => ?_) (fun fr bs h => ?_) xs 0 _ rfl (Nat.zero_le _) rfl rfl rfl rfl rfl
 ·simp -implicitDefEqProofs [h]
 ·simp -implicitDefEqProofs [h]
theorem zpr (xs : List Int) (y : Int) (hl : xs.length ≤ cap) : Den PP 194 [zap xs, .int .i64 y] [] (.bool (xs.contains y)) [] := by
 have c1 := ztr xs y hl
 have e := z7d (fun x => decide (y = x)) xs 0
 have e2 : xs.contains y = xs.any fun x => decide (y = x) := by
  rw [Bool.eq_iff_iff]
  simp
 rw [e2]
 simp only [zap] at c1 ⊢
 refine zak [] [] zjt ?_
 simp -implicitDefEqProofs [zfw]
 refine zaa c1 ?_
 simp -implicitDefEqProofs [← e]
theorem zn3 (v : View) (id : Int) (hl : v.passive.length ≤ cap) : Den PP 122 [.mem v.cells, .int .i64 id] [] (.bool (v.passive.contains id)) [] := by
 have c1 := zpr v.passive id hl
 simp only [zap, View.cells, zat] at c1 ⊢
 generalize v.passive.contains id = B at *
 refine zak [] [] zuj ?_
 simp -implicitDefEqProofs [zpc]
 repeat' ((first | refine zaa (by first | exact c1) ?_ | ((with_reducible first | refine zaj ?_ ?_ | refine zah ?_ ?_ | refine zae ?_ ?_ | refine zad ?_ ?_) <;> intro _) | ((with_reducible first | refine zao ?_ ?_ | refine zaq ?_ ?_ | refine zal ?_ ?_ | refine zac ?_ ?_ | refine zai ?_ ?_ | refine zan ?_ ?_ | refine zaf ?_ ?_ | refine zab ?_ ?_) <;> intro hq <;> (try simp at hq)) | refine zag (by omega) ?_ | refine zam (by omega) ?_) <;> simp -implicitDefEqProofs [*])
theorem z9d (v : View) (h1 : v.peers.length ≤ 16) (h2 : v.passive.length ≤ 16) : Den PP 190 [.mem v.cells] [] (.bool (decide (v.peers.length + v.passive.length < 16))) [] := by
 have w : IntKind.wrap .i64 ((v.peers.length : Int) + v.passive.length) = v.peers.length + v.passive.length := zaw (by omega) (by omega)
 have e : decide (v.peers.length + v.passive.length < 16) = decide ((v.peers.length : Int) + v.passive.length < 16) := by
  rw [decide_eq_decide]; omega
 rw [e]
 simp only [View.cells, zat, zap]
 refine zak [] [] zzu ?_
 simp -implicitDefEqProofs [zsw, w]
def za7 (v : View) (p q : Nat) : Blk := ⟨[[.int .i64 v.id, .ref p 0 v.peers.length, .ref q 0 v.passive.length]], 3, .box⟩
def psB (v : View) : Blk := ⟨v.peers.map Peer.row, 2, .mut⟩
def xsB (v : View) : Blk := ⟨v.passive.map irow, 1, .mut⟩
theorem zl0 (v : View) (id : Int) (hv : zbd v = true) (hp : place id = true) (hn : id ≠ v.id) : Den PP 120 [.ptr 0 0 0, .int .i64 id] [za7 v 1 2, psB v, xsB v] (.tup [])
 (if zh0 v id then [za7 (zdl v id) 3 4, ⟨v.peers.map Peer.row, 2, .app⟩, ⟨v.passive.map irow, 1, .app⟩, psB (zdl v id), xsB (zdl v id)] else [za7 v 1 2, psB v, xsB v]) := by
 obtain ⟨p1, p2, p3, p4⟩ := za1 hv
 have c1 := zq7 v id (by unfold cap; omega) (zet p1)
 rw [zhd p1 hp] at c1
 have c2 := zn3 v id (by unfold cap; omega)
 have c3 := z9d v (by omega) (by omega)
 have c4 := zuv v.passive id (by unfold cap; omega)
 rw [show zj7 v.passive id = (v.passive.filter fun y => !decide (y = id), 0) by simp [zj7, p2, hp]] at c4
 have c5 := z3p v.id v.peers id (by unfold zbo; omega)
 have hk := (zk2 hv hp hn).2
 have hkv : zh0 v id = true → zdl v id = ⟨v.id, ze8 v.id id false v.peers, v.passive.filter fun y => !decide (y = id)⟩ := by intro h; unfold zdl; rw [if_pos h]
 unfold za7 psB xsB
 cases hr : zh0 v id with
 | false =>
   clear hk hkv c4 c5
   simp only [Bool.false_eq_true, if_false]
   simp only [zh0, zm1] at hr
   generalize (v.peers.map Peer.id).contains id = A at *
   generalize v.passive.contains id = B at *
   generalize decide (v.peers.length + v.passive.length < 16) = R at *
   simp only [View.cells, zat, zap] at c1 c2 c3
   clear p1 p2 p3 p4 hv hp hn
   simp only [Bool.or_eq_false_iff] at hr
   obtain ⟨⟨rfl, rfl⟩, rfl⟩ := hr
   refine zak [27, 43] [] zpj ?_
   simp -implicitDefEqProofs [zlm]
   repeat' ((first | refine zaa (by first | exact c1 | exact c2 | exact c3) ?_ | ((with_reducible first | refine zaj ?_ ?_ | refine zah ?_ ?_ | refine zae ?_ ?_ | refine zad ?_ ?_) <;> intro _) | ((with_reducible first | refine zao ?_ ?_ | refine zaq ?_ ?_ | refine zal ?_ ?_ | refine zac ?_ ?_ | refine zai ?_ ?_ | refine zan ?_ ?_ | refine zaf ?_ ?_ | refine zab ?_ ?_) <;> intro hq <;> (try simp at hq)) | refine zag (by omega) ?_ | refine zam (by omega) ?_) <;> simp -implicitDefEqProofs [*, zar])
 | true =>
   simp only [if_true]
   rw [hkv hr]
   rw [hk hr] at c5
   clear hk hkv
   simp only [zh0, zm1] at hr
   generalize ze8 v.id id false v.peers = ps at *
   generalize (v.passive.filter fun y => !decide (y = id)) = xs at *
   generalize (v.peers.map Peer.id).contains id = A at *
   generalize v.passive.contains id = B at *
   generalize decide (v.peers.length + v.passive.length < 16) = R at *
   simp only [View.cells, zat, zap] at c1 c2 c3 c4 c5
   clear p1 p2 p3 p4 hv hp hn
   refine zak [27, 43] [] zpj ?_
   cases A <;> cases B <;> cases R
   all_goals try (simp at hr; done)
   all_goals
    clear hr
    simp -implicitDefEqProofs [zlm]
    repeat' ((first | refine zaa (by first | exact c1 | exact c2 | exact c3 | exact c4 | exact c5) ?_ | ((with_reducible first | refine zaj ?_ ?_ | refine zah ?_ ?_ | refine zae ?_ ?_ | refine zad ?_ ?_) <;> intro _) | ((with_reducible first | refine zao ?_ ?_ | refine zaq ?_ ?_ | refine zal ?_ ?_ | refine zac ?_ ?_ | refine zai ?_ ?_ | refine zan ?_ ?_ | refine zaf ?_ ?_ | refine zab ?_ ?_) <;> intro hq <;> (try simp at hq)) | refine zag (by omega) ?_ | refine zam (by omega) ?_) <;> simp -implicitDefEqProofs [*, zar])
end Go.AM
/- AM: contracts: a greeting is taken. -/
namespace Go.AM
theorem z9i {v : View} (h : 16 ≤ sizeV v) (x : Int) : zep v x = v := by
 unfold zep
 split
 ·rename_i hc
  simp only [Bool.and_eq_true, Bool.not_eq_true'] at hc
  apply zkn
  unfold zh0
  rw [hc.2]
  unfold sizeV at h
  simp
  omega
 ·rfl
theorem z9e {v : View} (h : 16 ≤ sizeV v) : ∀ ids : List Int, ids.foldl zep v = v := by
 intro ids
 induction ids with
 | nil => rfl
 | cons x ids ih => rw [List.foldl_cons, z9i h, ih]
theorem qb8 {ids : List Int} {i : Nat} {x : Int} (h : ids[i]? = some x) (w0 : View) : (ids.take (i + 1)).foldl zep w0 = zep ((ids.take i).foldl zep w0) x := by
 rw [List.take_add_one, h]
 simp
def qfq (w : View) (bs : List Blk) : Prop := (∃ d0 d2 d3, bs = [d0, ⟨[[.int .i64 0, .nil, .nil]], 3, .box⟩, d2, d3, za7 w 5 6, psB w, xsB w]) ∨ ∃ d0 d2 d3 d5 d6, bs = [d0, ⟨[[.int .i64 0, .nil, .nil]], 3, .box⟩, d2, d3, za7 w 7 8, d5, d6, psB w, xsB w]
theorem zw4 (v : View) (a : Int) (ids : List Int) (hs : v.small) (h : zmf v a ids = true) (hr : zh0 v a = true) : Den PP 41 [zd6 v, .int .i64 a, zap ids] [] (.tup [.agg [.int .i64 v.id, .ref 0 0 (zci v a ids).peers.length, .ref 1 0 (zci v a ids).passive.length], .int .i64 0]) [psB (zci v a ids), xsB (zci v a ids)] := by
 obtain ⟨k1, k2, k3, k4, k5⟩ := zl2 h
 have hcap : ids.length ≤ cap := by unfold cap; omega
 have c1 := zoi v hs
 have c2 := zaz a
 have c3 := zl4 ids hcap
 have c4 := zq6 v hs
 rw [k1] at c1
 rw [k2] at c2
 rw [show ids.all place = true from List.all_eq_true.2 k5] at c3
 have c5 := zl0 v a k1 k2 k3
 rw [if_pos hr] at c5
 have hw0 := (zk2 k1 k2 k3).1
 have hid0 := zi1 v a
 have hk4 : ¬ (16 : Int) < ids.length := by omega
 unfold zci
 generalize zdl v a = w0 at *
 have key : ∀ i, zbd ((ids.take i).foldl zep w0) = true ∧ ((ids.take i).foldl zep w0).id = v.id := by
  intro i
  obtain ⟨e1, e2⟩ := z0k (ids.take i) w0 hw0 (fun x hx => k5 x (List.mem_of_mem_take hx))
  exact ⟨e1, by rw [e2, hid0]⟩
 simp only [zd6, View.cells, zat, zap, za7, psB, xsB] at c1 c3 c4 c5 ⊢
 clear k1 k2 hs h hr
 refine zak [37] [38, 60] zrc ?_
 simp -implicitDefEqProofs [zn7, hk4, k3]
 repeat' ((first | refine zaa (by first | exact c1 | exact c2 | exact c3 | exact c4) ?_ | ((with_reducible first | refine zaj ?_ ?_ | refine zah ?_ ?_ | refine zae ?_ ?_ | refine zad ?_ ?_) <;> intro _) | ((with_reducible first | refine zao ?_ ?_ | refine zaq ?_ ?_ | refine zal ?_ ?_ | refine zac ?_ ?_ | refine zai ?_ ?_ | refine zan ?_ ?_ | refine zaf ?_ ?_ | refine zab ?_ ?_) <;> intro hq <;> (try simp at hq)) | refine zag (by omega) ?_ | refine zam (by omega) ?_) <;> simp -implicitDefEqProofs [*, zar, hk4, k3])
 refine zau [4, 2, 3] rfl (by decide) (by simp) c5 (by simp) (by simp [zbf]) ?_
 simp -implicitDefEqProofs [zcc]
 refine z2k ids (fun i rest => fun ⟨fr, bs⟩ => qfq ((ids.take i).foldl zep w0) bs ∧ fr 6 = .ptr 1 0 0 ∧ fr 8 = .ptr 4 0 0 ∧ fr 40 = .sl (ids.map irow) ids.length ∧ fr 41 = .int .i64 ids.length ∧ fr 42 = .int .i64 i)
  (fun ⟨fr, bs⟩ => qfq (ids.foldl zep w0) bs ∧ fr 6 = .ptr 1 0 0 ∧ fr 8 = .ptr 4 0 0) (fun _ => False) zi8.eq_1 ?_ ?_ ?_ ?_ ?_
 ·exact ⟨.inl ⟨_, _, _, by simp [za7, psB, xsB]; exact ⟨rfl, rfl, rfl⟩⟩, by simp, by simp, by simp, by simp, by simp⟩
 ·rintro i ⟨fr, bs⟩ hi ⟨hB, h6, h8, h40, h41, h42⟩
  rw [hi, List.take_length] at hB
  simp -implicitDefEqProofs [h6, h8, h40, h41, h42, hi]
  exact hB
 ·rintro i x rest ⟨fr, bs⟩ hlt hget hg hd hd2 ⟨hB, h6, h8, h40, h41, h42⟩
  obtain ⟨w, hw⟩ : ∃ w, w = (ids.take i).foldl zep w0 := ⟨_, rfl⟩
  rw [← hw] at hB
  have hlt' : (i : Int) < ids.length := by omega
  have hwr := za5 (n := i) (by omega)
  have hx := k5 x (List.mem_of_getElem? hget)
  have hkey := key i
  rw [← hw] at hkey
  obtain ⟨hm, hid⟩ := hkey
  have hnext := qb8 hget w0
  rw [← hw] at hnext
  obtain ⟨p1, p2, p3, p4⟩ := za1 hm
  have v1 := zq7 w x (by unfold cap; omega) (zet p1)
  rw [zhd p1 hx] at v1
  have v2 := zn3 w x (by unfold cap; omega)
  have v3 : x ≠ w.id → _ := fun hn => zl0 w x hm hx hn
  clear c1 c2 c3 c4 c5 key hw p1 p2 p3 p4
  obtain ⟨A, hA⟩ : ∃ A, (w.peers.map Peer.id).contains x = A := ⟨_, rfl⟩
  obtain ⟨C, hC⟩ : ∃ C, w.passive.contains x = C := ⟨_, rfl⟩
  have hkn : zm1 w x = (A || C) := by rw [← hA, ← hC]; rfl
  rw [hA] at v1
  rw [hC] at v2
  clear hA hC
  simp only [View.cells, zat, zap] at v1 v2
  have hr7 : List.range 7 = [0, 1, 2, 3, 4, 5, 6] := rfl
  clear hid hm
  by_cases hn : x = w.id
  ·have ht : zep w x = w := by unfold zep; simp [hn]
   rw [ht] at hnext
   rcases hB with ⟨d0, d2, d3, rfl⟩ | ⟨d0, d2, d3, d5, d6, rfl⟩
   ·simp -implicitDefEqProofs [h6, h8, h40, h41, h42, hlt, hlt', hget, hg, hn, hwr, za7, psB, xsB, irow]
    refine ⟨[], ⟨by simp, by simp, by simp⟩, ?_⟩
    unfold zij zj9
    dsimp only
    try rw [hnext]
    exact ⟨.inl ⟨_, _, _, by simp [zbf, hr7, za7, psB, xsB, irow]; repeat' (first | rfl | apply And.intro)⟩, by simp [h6, hr7], by simp [h8, hr7], by simp [h40], by simp [h41], by simp⟩
   ·simp -implicitDefEqProofs [h6, h8, h40, h41, h42, hlt, hlt', hget, hg, hn, hwr, za7, psB, xsB, irow]
    refine ⟨[7, 8], ⟨by simp, by simp, by simp⟩, ?_⟩
    unfold zij zj9
    dsimp only
    try rw [hnext]
    exact ⟨.inr ⟨_, _, _, _, _, by simp [zbf, hr7, za7, psB, xsB, irow]; repeat' (first | rfl | apply And.intro)⟩, by simp [h6, hr7], by simp [h8, hr7], by simp [h40], by simp [h41], by simp⟩
  ·have v4 := v3 hn
   clear v3
   cases hAC : (A || C) with
   | true =>
     have ht : zep w x = w := by unfold zep; simp [hkn, hAC]
     rw [ht] at hnext
     clear v4 hkn ht
     rcases hB with ⟨d0, d2, d3, rfl⟩ | ⟨d0, d2, d3, d5, d6, rfl⟩
     ·cases A <;> cases C
      all_goals try (simp at hAC; done)
      all_goals
       clear hAC
       simp -implicitDefEqProofs [h6, h8, h40, h41, h42, hlt, hlt', hget, hg, hn, hwr, za7, psB, xsB, irow]
       repeat' ((first | refine zaa (by first | exact v1 | exact v2) ?_ | ((with_reducible first | refine zaj ?_ ?_ | refine zah ?_ ?_ | refine zae ?_ ?_ | refine zad ?_ ?_) <;> intro _) | ((with_reducible first | refine zao ?_ ?_ | refine zaq ?_ ?_ | refine zal ?_ ?_ | refine zac ?_ ?_ | refine zai ?_ ?_ | refine zan ?_ ?_ | refine zaf ?_ ?_ | refine zab ?_ ?_) <;> intro hq <;> (try simp at hq)) | refine zag (by omega) ?_ | refine zam (by omega) ?_) <;> simp -implicitDefEqProofs [*, h6, h8, h40, h41, h42, hlt, hlt', hget, hg, hn, hwr, za7, psB, xsB, irow])
       refine ⟨[], ⟨by simp, by simp, by simp⟩, ?_⟩
       unfold zij zj9
       dsimp only
       try rw [hnext]
       exact ⟨.inl ⟨_, _, _, by simp [zbf, hr7, za7, psB, xsB, irow]; repeat' (first | rfl | apply And.intro)⟩, by simp [h6, hr7], by simp [h8, hr7], by simp [h40], by simp [h41], by simp⟩
     ·cases A <;> cases C
      all_goals try (simp at hAC; done)
      all_goals
       clear hAC
       simp -implicitDefEqProofs [h6, h8, h40, h41, h42, hlt, hlt', hget, hg, hn, hwr, za7, psB, xsB, irow]
       repeat' ((first | refine zaa (by first | exact v1 | exact v2) ?_ | ((with_reducible first | refine zaj ?_ ?_ | refine zah ?_ ?_ | refine zae ?_ ?_ | refine zad ?_ ?_) <;> intro _) | ((with_reducible first | refine zao ?_ ?_ | refine zaq ?_ ?_ | refine zal ?_ ?_ | refine zac ?_ ?_ | refine zai ?_ ?_ | refine zan ?_ ?_ | refine zaf ?_ ?_ | refine zab ?_ ?_) <;> intro hq <;> (try simp at hq)) | refine zag (by omega) ?_ | refine zam (by omega) ?_) <;> simp -implicitDefEqProofs [*, h6, h8, h40, h41, h42, hlt, hlt', hget, hg, hn, hwr, za7, psB, xsB, irow])
       refine ⟨[7, 8], ⟨by simp, by simp, by simp⟩, ?_⟩
       unfold zij zj9
       dsimp only
       try rw [hnext]
       exact ⟨.inr ⟨_, _, _, _, _, by simp [zbf, hr7, za7, psB, xsB, irow]; repeat' (first | rfl | apply And.intro)⟩, by simp [h6, hr7], by simp [h8, hr7], by simp [h40], by simp [h41], by simp⟩
   | false =>
     simp only [Bool.or_eq_false_iff] at hAC
     obtain ⟨rfl, rfl⟩ := hAC
     have ht : zep w x = zdl w x := by unfold zep; simp [hkn, hn]
     rw [ht] at hnext
     clear ht hkn
     cases hr : zh0 w x with
     | false =>
       rw [zkn hr] at hnext
       rw [if_neg (by simp [hr])] at v4
       clear hr
       simp only [za7, psB, xsB] at v4
       rcases hB with ⟨d0, d2, d3, rfl⟩ | ⟨d0, d2, d3, d5, d6, rfl⟩
       ·simp -implicitDefEqProofs [h6, h8, h40, h41, h42, hlt, hlt', hget, hg, hn, hwr, za7, psB, xsB, irow]
        repeat' ((first | refine zaa (by first | exact v1 | exact v2) ?_ | ((with_reducible first | refine zaj ?_ ?_ | refine zah ?_ ?_ | refine zae ?_ ?_ | refine zad ?_ ?_) <;> intro _) | ((with_reducible first | refine zao ?_ ?_ | refine zaq ?_ ?_ | refine zal ?_ ?_ | refine zac ?_ ?_ | refine zai ?_ ?_ | refine zan ?_ ?_ | refine zaf ?_ ?_ | refine zab ?_ ?_) <;> intro hq <;> (try simp at hq)) | refine zag (by omega) ?_ | refine zam (by omega) ?_) <;> simp -implicitDefEqProofs [*, h6, h8, h40, h41, h42, hlt, hlt', hget, hg, hn, hwr, za7, psB, xsB, irow])
        refine zau [4, 5, 6] rfl (by decide) (by simp) v4 (by simp) (by simp [zbf]) ?_
        simp -implicitDefEqProofs [zcc, h6, h8, h40, h41, h42, hlt, hlt', hget, hg, hn, hwr, za7, psB, xsB, irow]
        refine ⟨[], ⟨by simp, by simp, by simp⟩, ?_⟩
        unfold zij zj9
        dsimp only
        try rw [hnext]
        exact ⟨.inl ⟨_, _, _, by simp [zbf, hr7, za7, psB, xsB, irow]; repeat' (first | rfl | apply And.intro)⟩, by simp [h6, hr7], by simp [h8, hr7], by simp [h40], by simp [h41], by simp⟩
       ·simp -implicitDefEqProofs [h6, h8, h40, h41, h42, hlt, hlt', hget, hg, hn, hwr, za7, psB, xsB, irow]
        repeat' ((first | refine zaa (by first | exact v1 | exact v2) ?_ | ((with_reducible first | refine zaj ?_ ?_ | refine zah ?_ ?_ | refine zae ?_ ?_ | refine zad ?_ ?_) <;> intro _) | ((with_reducible first | refine zao ?_ ?_ | refine zaq ?_ ?_ | refine zal ?_ ?_ | refine zac ?_ ?_ | refine zai ?_ ?_ | refine zan ?_ ?_ | refine zaf ?_ ?_ | refine zab ?_ ?_) <;> intro hq <;> (try simp at hq)) | refine zag (by omega) ?_ | refine zam (by omega) ?_) <;> simp -implicitDefEqProofs [*, h6, h8, h40, h41, h42, hlt, hlt', hget, hg, hn, hwr, za7, psB, xsB, irow])
        refine zau [4, 7, 8] rfl (by decide) (by simp) v4 (by simp) (by simp [zbf]) ?_
        simp -implicitDefEqProofs [zcc, h6, h8, h40, h41, h42, hlt, hlt', hget, hg, hn, hwr, za7, psB, xsB, irow]
        refine ⟨[7, 8], ⟨by simp, by simp, by simp⟩, ?_⟩
        unfold zij zj9
        dsimp only
        try rw [hnext]
        exact ⟨.inr ⟨_, _, _, _, _, by simp [zbf, hr7, za7, psB, xsB, irow]; repeat' (first | rfl | apply And.intro)⟩, by simp [h6, hr7], by simp [h8, hr7], by simp [h40], by simp [h41], by simp⟩
     | true =>
       rw [if_pos hr] at v4
       generalize zdl w x = w2 at *
       clear hr
       simp only [za7, psB, xsB] at v4
       rcases hB with ⟨d0, d2, d3, rfl⟩ | ⟨d0, d2, d3, d5, d6, rfl⟩
       ·simp -implicitDefEqProofs [h6, h8, h40, h41, h42, hlt, hlt', hget, hg, hn, hwr, za7, psB, xsB, irow]
        repeat' ((first | refine zaa (by first | exact v1 | exact v2) ?_ | ((with_reducible first | refine zaj ?_ ?_ | refine zah ?_ ?_ | refine zae ?_ ?_ | refine zad ?_ ?_) <;> intro _) | ((with_reducible first | refine zao ?_ ?_ | refine zaq ?_ ?_ | refine zal ?_ ?_ | refine zac ?_ ?_ | refine zai ?_ ?_ | refine zan ?_ ?_ | refine zaf ?_ ?_ | refine zab ?_ ?_) <;> intro hq <;> (try simp at hq)) | refine zag (by omega) ?_ | refine zam (by omega) ?_) <;> simp -implicitDefEqProofs [*, h6, h8, h40, h41, h42, hlt, hlt', hget, hg, hn, hwr, za7, psB, xsB, irow])
        refine zau [4, 5, 6] rfl (by decide) (by simp) v4 (by simp) (by simp [zbf]) ?_
        simp -implicitDefEqProofs [zcc, h6, h8, h40, h41, h42, hlt, hlt', hget, hg, hn, hwr, za7, psB, xsB, irow]
        refine ⟨[7, 8], ⟨by simp, by simp, by simp⟩, ?_⟩
        unfold zij zj9
        dsimp only
        try rw [hnext]
        exact ⟨.inr ⟨_, _, _, _, _, by simp [zbf, hr7, za7, psB, xsB, irow]; repeat' (first | rfl | apply And.intro)⟩, by simp [h6, hr7], by simp [h8, hr7], by simp [h40], by simp [h41], by simp⟩
       ·simp -implicitDefEqProofs [h6, h8, h40, h41, h42, hlt, hlt', hget, hg, hn, hwr, za7, psB, xsB, irow]
        repeat' ((first | refine zaa (by first | exact v1 | exact v2) ?_ | ((with_reducible first | refine zaj ?_ ?_ | refine zah ?_ ?_ | refine zae ?_ ?_ | refine zad ?_ ?_) <;> intro _) | ((with_reducible first | refine zao ?_ ?_ | refine zaq ?_ ?_ | refine zal ?_ ?_ | refine zac ?_ ?_ | refine zai ?_ ?_ | refine zan ?_ ?_ | refine zaf ?_ ?_ | refine zab ?_ ?_) <;> intro hq <;> (try simp at hq)) | refine zag (by omega) ?_ | refine zam (by omega) ?_) <;> simp -implicitDefEqProofs [*, h6, h8, h40, h41, h42, hlt, hlt', hget, hg, hn, hwr, za7, psB, xsB, irow])
        refine zau [4, 7, 8] rfl (by decide) (by simp) v4 (by simp) (by simp [zbf]) ?_
        simp -implicitDefEqProofs [zcc, h6, h8, h40, h41, h42, hlt, hlt', hget, hg, hn, hwr, za7, psB, xsB, irow]
        refine ⟨[9, 10], ⟨by simp, by simp, by simp⟩, ?_⟩
        unfold zij zj9
        dsimp only
        try rw [hnext]
        exact ⟨.inr ⟨_, _, _, _, _, by simp [zbf, hr7, za7, psB, xsB, irow]; repeat' (first | rfl | apply And.intro)⟩, by simp [h6, hr7], by simp [h8, hr7], by simp [h40], by simp [h41], by simp⟩
 ·rintro ⟨fr, bs⟩ ⟨hB, h6, h8⟩
  have hWid := (key ids.length).2
  rw [List.take_length] at hWid
  generalize ids.foldl zep w0 = W at *
  rcases hB with ⟨d0, d2, d3, rfl⟩ | ⟨d0, d2, d3, d5, d6, rfl⟩
  ·simp -implicitDefEqProofs [h6, h8, za7, psB, xsB, hWid]
  ·simp -implicitDefEqProofs [h6, h8, za7, psB, xsB, hWid]
 ·rintro ⟨fr, bs⟩ h
  exact h.elim
theorem zvv (v : View) (a : Int) (ids : List Int) (hs : v.small) (h : zmf v a ids = true) (hr : zh0 v a = false) : Den PP 41 [zd6 v, .int .i64 a, zap ids] [] (.tup [.agg [.int .i64 v.id, .ref 0 0 (zci v a ids).peers.length, .ref 1 0 (zci v a ids).passive.length], .int .i64 0]) [psB (zci v a ids), xsB (zci v a ids)] := by
 obtain ⟨k1, k2, k3, k4, k5⟩ := zl2 h
 have hcap : ids.length ≤ cap := by unfold cap; omega
 have hsz : 16 ≤ sizeV v := by
  unfold zh0 at hr
  simp at hr
  unfold sizeV
  exact hr.2
 have hW : zci v a ids = v := by unfold zci; rw [zkn hr, z9e hsz]
 rw [hW]
 clear hW
 have c1 := zoi v hs
 have c2 := zaz a
 have c3 := zl4 ids hcap
 have c4 := zq6 v hs
 have hm := k1
 rw [k1] at c1
 rw [k2] at c2
 rw [show ids.all place = true from List.all_eq_true.2 k5] at c3
 have c5 := zl0 v a k1 k2 k3
 rw [if_neg (by simp [hr])] at c5
 have hk4 : ¬ (16 : Int) < ids.length := by omega
 simp only [zd6, View.cells, zat, zap, za7, psB, xsB] at c1 c3 c4 c5 ⊢
 clear k1 k2 hs h hr
 refine zak [37] [38, 60] zrc ?_
 simp -implicitDefEqProofs [zn7, hk4, k3]
 repeat' ((first | refine zaa (by first | exact c1 | exact c2 | exact c3 | exact c4) ?_ | ((with_reducible first | refine zaj ?_ ?_ | refine zah ?_ ?_ | refine zae ?_ ?_ | refine zad ?_ ?_) <;> intro _) | ((with_reducible first | refine zao ?_ ?_ | refine zaq ?_ ?_ | refine zal ?_ ?_ | refine zac ?_ ?_ | refine zai ?_ ?_ | refine zan ?_ ?_ | refine zaf ?_ ?_ | refine zab ?_ ?_) <;> intro hq <;> (try simp at hq)) | refine zag (by omega) ?_ | refine zam (by omega) ?_) <;> simp -implicitDefEqProofs [*, zar, hk4, k3])
 refine zau [4, 2, 3] rfl (by decide) (by simp) c5 (by simp) (by simp [zbf]) ?_
 simp -implicitDefEqProofs [zcc]
 refine z2k ids (fun i rest => fun ⟨fr, bs⟩ => (∃ d0, bs = [d0, ⟨[[.int .i64 0, .nil, .nil]], 3, .box⟩, psB v, xsB v, za7 v 2 3]) ∧ fr 6 = .ptr 1 0 0 ∧ fr 8 = .ptr 4 0 0 ∧ fr 40 = .sl (ids.map irow) ids.length ∧ fr 41 = .int .i64 ids.length ∧ fr 42 = .int .i64 i)
  (fun ⟨fr, bs⟩ => (∃ d0, bs = [d0, ⟨[[.int .i64 0, .nil, .nil]], 3, .box⟩, psB v, xsB v, za7 v 2 3]) ∧ fr 6 = .ptr 1 0 0 ∧ fr 8 = .ptr 4 0 0) (fun _ => False) zi8.eq_1 ?_ ?_ ?_ ?_ ?_
 ·exact ⟨⟨_, by simp [za7, psB, xsB]; rfl⟩, by simp, by simp, by simp, by simp, by simp⟩
 ·rintro i ⟨fr, bs⟩ hi ⟨hB, h6, h8, h40, h41, h42⟩
  simp -implicitDefEqProofs [h6, h8, h40, h41, h42, hi]
  exact hB
 ·rintro i x rest ⟨fr, bs⟩ hlt hget hg hd hd2 ⟨⟨d0, rfl⟩, h6, h8, h40, h41, h42⟩
  have hlt' : (i : Int) < ids.length := by omega
  have hwr := za5 (n := i) (by omega)
  have hx := k5 x (List.mem_of_getElem? hget)
  obtain ⟨p1, p2, p3, p4⟩ := za1 hm
  have v1 := zq7 v x (by unfold cap; omega) (zet p1)
  rw [zhd p1 hx] at v1
  have v2 := zn3 v x (by unfold cap; omega)
  have v3 : x ≠ v.id → _ := fun hn => zl0 v x hm hx hn
  clear c1 c2 c3 c4 c5 p1 p2 p3 p4
  have hroom : zm1 v x = false → zh0 v x = false := by
   intro hk
   unfold zh0
   unfold sizeV at hsz
   simp [hk, hsz]
  obtain ⟨A, hA⟩ : ∃ A, (v.peers.map Peer.id).contains x = A := ⟨_, rfl⟩
  obtain ⟨C, hC⟩ : ∃ C, v.passive.contains x = C := ⟨_, rfl⟩
  have hkn : zm1 v x = (A || C) := by rw [← hA, ← hC]; rfl
  rw [hA] at v1
  rw [hC] at v2
  clear hA hC
  simp only [View.cells, zat, zap] at v1 v2
  have hr5 : List.range 5 = [0, 1, 2, 3, 4] := rfl
  clear hm hsz
  by_cases hn : x = v.id
  ·simp -implicitDefEqProofs [h6, h8, h40, h41, h42, hlt, hlt', hget, hg, hn, hwr, za7, psB, xsB, irow]
   refine ⟨[], ⟨by simp, by simp, by simp⟩, ?_⟩
   unfold zij zj9
   dsimp only
   exact ⟨⟨_, by simp [zbf, hr5, za7, psB, xsB, irow]; repeat' (first | rfl | apply And.intro)⟩, by simp [h6, hr5], by simp [h8, hr5], by simp [h40], by simp [h41], by simp⟩
  ·have v4 := v3 hn
   clear v3
   cases hAC : (A || C) with
   | true =>
     clear v4 hkn hroom
     cases A <;> cases C
     all_goals try (simp at hAC; done)
     all_goals
      clear hAC
      simp -implicitDefEqProofs [h6, h8, h40, h41, h42, hlt, hlt', hget, hg, hn, hwr, za7, psB, xsB, irow]
      repeat' ((first | refine zaa (by first | exact v1 | exact v2) ?_ | ((with_reducible first | refine zaj ?_ ?_ | refine zah ?_ ?_ | refine zae ?_ ?_ | refine zad ?_ ?_) <;> intro _) | ((with_reducible first | refine zao ?_ ?_ | refine zaq ?_ ?_ | refine zal ?_ ?_ | refine zac ?_ ?_ | refine zai ?_ ?_ | refine zan ?_ ?_ | refine zaf ?_ ?_ | refine zab ?_ ?_) <;> intro hq <;> (try simp at hq)) | refine zag (by omega) ?_ | refine zam (by omega) ?_) <;> simp -implicitDefEqProofs [*, h6, h8, h40, h41, h42, hlt, hlt', hget, hg, hn, hwr, za7, psB, xsB, irow])
      refine ⟨[], ⟨by simp, by simp, by simp⟩, ?_⟩
      unfold zij zj9
      dsimp only
      exact ⟨⟨_, by simp [zbf, hr5, za7, psB, xsB, irow]; repeat' (first | rfl | apply And.intro)⟩, by simp [h6, hr5], by simp [h8, hr5], by simp [h40], by simp [h41], by simp⟩
   | false =>
     rw [hAC] at hkn
     simp only [Bool.or_eq_false_iff] at hAC
     obtain ⟨rfl, rfl⟩ := hAC
     rw [if_neg (by simp [hroom hkn])] at v4
     clear hkn hroom
     simp only [za7, psB, xsB] at v4
     simp -implicitDefEqProofs [h6, h8, h40, h41, h42, hlt, hlt', hget, hg, hn, hwr, za7, psB, xsB, irow]
     repeat' ((first | refine zaa (by first | exact v1 | exact v2) ?_ | ((with_reducible first | refine zaj ?_ ?_ | refine zah ?_ ?_ | refine zae ?_ ?_ | refine zad ?_ ?_) <;> intro _) | ((with_reducible first | refine zao ?_ ?_ | refine zaq ?_ ?_ | refine zal ?_ ?_ | refine zac ?_ ?_ | refine zai ?_ ?_ | refine zan ?_ ?_ | refine zaf ?_ ?_ | refine zab ?_ ?_) <;> intro hq <;> (try simp at hq)) | refine zag (by omega) ?_ | refine zam (by omega) ?_) <;> simp -implicitDefEqProofs [*, h6, h8, h40, h41, h42, hlt, hlt', hget, hg, hn, hwr, za7, psB, xsB, irow])
     refine zau [4, 2, 3] rfl (by decide) (by simp) v4 (by simp) (by simp [zbf]) ?_
     simp -implicitDefEqProofs [zcc, h6, h8, h40, h41, h42, hlt, hlt', hget, hg, hn, hwr, za7, psB, xsB, irow]
     refine ⟨[], ⟨by simp, by simp, by simp⟩, ?_⟩
     unfold zij zj9
     dsimp only
     exact ⟨⟨_, by simp [zbf, hr5, za7, psB, xsB, irow]; repeat' (first | rfl | apply And.intro)⟩, by simp [h6, hr5], by simp [h8, hr5], by simp [h40], by simp [h41], by simp⟩
 ·rintro ⟨fr, bs⟩ ⟨⟨d0, rfl⟩, h6, h8⟩
  simp -implicitDefEqProofs [h6, h8, za7, psB, xsB]
 ·rintro ⟨fr, bs⟩ h
  exact h.elim
theorem z9x (v : View) (a : Int) (ids : List Int) (hs : v.small) (h : zmf v a ids = true) : Den PP 41 [zd6 v, .int .i64 a, zap ids] [] (.tup [.agg [.int .i64 v.id, .ref 0 0 (zci v a ids).peers.length, .ref 1 0 (zci v a ids).passive.length], .int .i64 0]) [psB (zci v a ids), xsB (zci v a ids)] := by
 cases hr : zh0 v a with
 | true => exact zw4 v a ids hs h hr
 | false => exact zvv v a ids hs h hr
end Go.AM
/- AM: contracts: a message that comes is handled. -/
namespace Go.AM
def hBox (x : Node) (p q i l : Nat) (s : D) : Blk := ⟨[[.bool x.up, .int .i64 x.view.id, .ref p 0 x.view.peers.length, .ref q 0 x.view.passive.length, .ref i 0 x.items.length, .ref l 0 x.log.length, s]], 7, .box⟩
theorem zy2 {x : Node} {m : Msg} (h : zcj x = true) (hm : zbs m = true) (hk : m.kind = 0) (ht : m.to = x.view.id) : zmf x.view m.from_ m.ids = true := by
 have hv : zbd x.view = true := by simp only [zcj, zcg, Bool.and_eq_true] at h; grind
 simp only [zbs, hk, if_true, Bool.and_eq_true, Bool.not_eq_true', decide_eq_false_iff_not, decide_eq_true_eq] at hm
 obtain ⟨h1, h2, h3, ⟨⟨_, h5⟩, h6⟩⟩ := hm
 simp [zmf, hv, h1, h5, h6]
 rw [← ht]
 exact h3
theorem zzr (x : Node) (m : Msg) (hs : x.small) (h : zmf x.view m.from_ m.ids = true) : Den PP 87 [.ptr 0 0 0, msgD m] [hBox x 1 2 3 4 .nil, ⟨x.view.peers.map Peer.row, 2, .mut⟩, ⟨x.view.passive.map irow, 1, .mut⟩, ⟨x.items.map Item.row, 5, .mut⟩, ⟨x.log.map Told.row, 3, .mut⟩] (.tup [])
 [hBox { x with view := zci x.view m.from_ m.ids } 5 6 3 4 .nil, ⟨x.view.peers.map Peer.row, 2, .app⟩, ⟨x.view.passive.map irow, 1, .app⟩, ⟨x.items.map Item.row, 5, .mut⟩, ⟨x.log.map Told.row, 3, .mut⟩, psB (zci x.view m.from_ m.ids), xsB (zci x.view m.from_ m.ids)] := by
 have c1 := z9x x.view m.from_ m.ids hs.1 h
 have hid := (zr1 h).2
 generalize zci x.view m.from_ m.ids = w at *
 clear h
 simp only [hBox, psB, xsB, zd6, View.cells, zat, zap, msgD, Msg.row, hid] at c1 ⊢
 refine zak [15] [] zl3 ?_
 simp -implicitDefEqProofs [zg4]
 repeat' ((first | refine zaa (by first | exact c1) ?_ | ((with_reducible first | refine zaj ?_ ?_ | refine zah ?_ ?_ | refine zae ?_ ?_ | refine zad ?_ ?_) <;> intro _) | ((with_reducible first | refine zao ?_ ?_ | refine zaq ?_ ?_ | refine zal ?_ ?_ | refine zac ?_ ?_ | refine zai ?_ ?_ | refine zan ?_ ?_ | refine zaf ?_ ?_ | refine zab ?_ ?_) <;> intro hq <;> (try simp at hq)) | refine zag (by omega) ?_ | refine zam (by omega) ?_) <;> simp -implicitDefEqProofs [*, zar])
theorem z1a (x : Node) (m : Msg) (hs : x.small) (h : (zcj x && zba m.item) = true) : Den PP 88 [.ptr 0 0 0, msgD m] [hBox x 1 2 3 4 .nil, ⟨x.view.peers.map Peer.row, 2, .mut⟩, ⟨x.view.passive.map irow, 1, .mut⟩, ⟨x.items.map Item.row, 5, .mut⟩, ⟨x.log.map Told.row, 3, .mut⟩] (.tup [])
 [hBox (ze5 x m.item) 5 6 7 8 .nil, ⟨x.view.peers.map Peer.row, 2, .app⟩, ⟨x.view.passive.map irow, 1, .app⟩, ⟨x.items.map Item.row, 5, .app⟩, ⟨x.log.map Told.row, 3, .app⟩, ⟨(ze5 x m.item).view.peers.map Peer.row, 2, .mut⟩, ⟨(ze5 x m.item).view.passive.map irow, 1, .mut⟩, ⟨(ze5 x m.item).items.map Item.row, 5, .mut⟩, ⟨(ze5 x m.item).log.map Told.row, 3, .mut⟩] := by
 have c1 := qcu x m.item hs h
 generalize ze5 x m.item = y at *
 clear h
 simp only [hBox, zc2, Node.cells, zd6, View.cells, zat, zap, zav, zay, Item.row, zh1, zix, msgD, Msg.row] at c1 ⊢
 refine zak [12] [] znc ?_
 simp -implicitDefEqProofs [zhs]
 repeat' ((first | refine zaa (by first | exact c1) ?_ | ((with_reducible first | refine zaj ?_ ?_ | refine zah ?_ ?_ | refine zae ?_ ?_ | refine zad ?_ ?_) <;> intro _) | ((with_reducible first | refine zao ?_ ?_ | refine zaq ?_ ?_ | refine zal ?_ ?_ | refine zac ?_ ?_ | refine zai ?_ ?_ | refine zan ?_ ?_ | refine zaf ?_ ?_ | refine zab ?_ ?_) <;> intro hq <;> (try simp at hq)) | refine zag (by omega) ?_ | refine zam (by omega) ?_) <;> simp -implicitDefEqProofs [*, zar])
theorem z58 (x : Node) (m : Msg) (hs : x.small) (hl : m.ids.length ≤ cap) (h : toB x m 2 = true) : ∃ k : Kind, k.isBox = false ∧ Den PP 89 [.ptr 0 0 0, msgD m] [hBox x 1 2 3 4 .nil, ⟨x.view.peers.map Peer.row, 2, .mut⟩, ⟨x.view.passive.map irow, 1, .mut⟩, ⟨x.items.map Item.row, 5, .mut⟩, ⟨x.log.map Told.row, 3, .mut⟩] (.tup [])
 [hBox x 1 2 3 4 (.ref 5 0 1), ⟨x.view.peers.map Peer.row, 2, k⟩, ⟨x.view.passive.map irow, 1, k⟩, ⟨x.items.map Item.row, 5, k⟩, ⟨x.log.map Told.row, 3, k⟩, ⟨[ze7 x m].map Msg.row0, 11, .mut⟩] := by
 refine ⟨.app, rfl, ?_⟩
 have c1 := zzq x m hs hl h
 generalize ze7 x m = t at *
 clear h
 simp only [hBox, zc2, Node.cells, zd6, View.cells, zat, zap, zav, zay, Item.row, zh1, zix, msgD, Msg.row, List.map_cons, List.map_nil] at c1 ⊢
 refine zak [11] [] zno ?_
 simp -implicitDefEqProofs [zib]
 repeat' ((first | refine zaa (by first | exact c1) ?_ | ((with_reducible first | refine zaj ?_ ?_ | refine zah ?_ ?_ | refine zae ?_ ?_ | refine zad ?_ ?_) <;> intro _) | ((with_reducible first | refine zao ?_ ?_ | refine zaq ?_ ?_ | refine zal ?_ ?_ | refine zac ?_ ?_ | refine zai ?_ ?_ | refine zan ?_ ?_ | refine zaf ?_ ?_ | refine zab ?_ ?_) <;> intro hq <;> (try simp at hq)) | refine zag (by omega) ?_ | refine zam (by omega) ?_) <;> simp -implicitDefEqProofs [*, zar])
theorem z3b (x : Node) (m : Msg) (hs : x.small) (hl : m.ids.length ≤ cap) (h : toB x m 3 = true) : Den PP 90 [.ptr 0 0 0, msgD m] [hBox x 1 2 3 4 .nil, ⟨x.view.peers.map Peer.row, 2, .mut⟩, ⟨x.view.passive.map irow, 1, .mut⟩, ⟨x.items.map Item.row, 5, .mut⟩, ⟨x.log.map Told.row, 3, .mut⟩] (.tup [])
 [⟨[[.bool x.up, .int .i64 x.view.id, .ref 5 0 x.view.peers.length, .ref 6 0 x.view.passive.length, .ref 7 0 x.items.length, .ref 8 (zg1 x (mT m)).length (zde x (mT m)).length, .nil]], 7, .box⟩, ⟨x.view.peers.map Peer.row, 2, .app⟩, ⟨x.view.passive.map irow, 1, .app⟩, ⟨x.items.map Item.row, 5, .app⟩, ⟨x.log.map Told.row, 3, .app⟩, ⟨x.view.peers.map Peer.row, 2, .mut⟩, ⟨x.view.passive.map irow, 1, .mut⟩, ⟨x.items.map Item.row, 5, .mut⟩, ⟨(zg1 x (mT m) ++ zde x (mT m)).map Told.row, 3, .mut⟩] := by
 have c1 := z5v x m hs hl h
 generalize zg1 x (mT m) = pre at *
 generalize zde x (mT m) = xs at *
 clear h
 simp only [hBox, zc2, Node.cells, zd6, View.cells, zat, zap, zav, zay, Item.row, znd, zne, msgD, Msg.row] at c1 ⊢
 refine zak [11] [] zm7 ?_
 simp -implicitDefEqProofs [zhy]
 repeat' ((first | refine zaa (by first | exact c1) ?_ | ((with_reducible first | refine zaj ?_ ?_ | refine zah ?_ ?_ | refine zae ?_ ?_ | refine zad ?_ ?_) <;> intro _) | ((with_reducible first | refine zao ?_ ?_ | refine zaq ?_ ?_ | refine zal ?_ ?_ | refine zac ?_ ?_ | refine zai ?_ ?_ | refine zan ?_ ?_ | refine zaf ?_ ?_ | refine zab ?_ ?_) <;> intro hq <;> (try simp at hq)) | refine zag (by omega) ?_ | refine zam (by omega) ?_) <;> simp -implicitDefEqProofs [*, zar])
end Go.AM
/- AM: contracts: handle.Do. -/
namespace Go.AM
def doB (x : Node) (m : Msg) : Bool := zcj x && (zbs m && decide (m.to = x.view.id))
theorem zhz {x : Node} {m : Msg} (h : doB x m = true) : zcj x = true ∧ zbs m = true ∧ m.to = x.view.id := by
 simp only [doB, Bool.and_eq_true, decide_eq_true_eq] at h
 exact h
theorem z79 {m : Msg} (h : zbs m = true) : m.kind = 0 ∨ m.kind = 1 ∨ m.kind = 2 ∨ m.kind = 3 := by
 simp only [zbs, Bool.and_eq_true] at h
 obtain ⟨_, _, _, h⟩ := h
 by_cases h0 : m.kind = 0
 ·exact .inl h0
 by_cases h1 : m.kind = 1
 ·exact .inr (.inl h1)
 by_cases h2 : m.kind = 2
 ·exact .inr (.inr (.inl h2))
 by_cases h3 : m.kind = 3
 ·exact .inr (.inr (.inr h3))
 simp [h0, h1, h2, h3] at h
theorem qf1 {m : Msg} (h : zbs m = true) (hk : m.kind = 1) : zba m.item = true := by
 simp [zbs, hk] at h
 exact h.2.2.2.2
theorem qf0 {x : Node} {m : Msg} (h : doB x m = true) {k : Int} (hk : m.kind = k) : toB x m k = true := by
 obtain ⟨h1, h2, h3⟩ := zhz h
 simp [toB, h1, h2, h3, hk]
theorem z3z (x : Node) (m : Msg) (hs : x.small) (hl : m.ids.length ≤ cap) (h : doB x m = true) (hk : m.kind = 0) : Den PP 28 [zc2 x, msgD m] [] (.tup [zh1 { x with view := zci x.view m.from_ m.ids }, .nil, .int .i64 0]) (zix { x with view := zci x.view m.from_ m.ids }) := by
 have c1 := zke x hs
 have c2 := zsl m hl
 obtain ⟨h1, h2, h3⟩ := zhz h
 have c4 := zzr x m hs (zy2 h1 h2 hk h3)
 rw [h1] at c1
 rw [h2] at c2
 have c3 := zgv x hs
 generalize zci x.view m.from_ m.ids = w at *
 clear h h1 h2
 simp only [hBox, psB, xsB, zc2, Node.cells, zd6, View.cells, zat, zap, zav, zay, Item.row, zh1, zix, znd, zne, msgD, Msg.row, hk, h3, List.map_cons, List.map_nil] at c1 c2 c3 c4 ⊢
 refine zak [27] [43] zj0 ?_
 simp -implicitDefEqProofs [zji, h3, hk]
 repeat' ((first | refine zaa (by first | exact c1 | exact c2 | exact c3) ?_ | ((with_reducible first | refine zaj ?_ ?_ | refine zah ?_ ?_ | refine zae ?_ ?_ | refine zad ?_ ?_) <;> intro _) | ((with_reducible first | refine zao ?_ ?_ | refine zaq ?_ ?_ | refine zal ?_ ?_ | refine zac ?_ ?_ | refine zai ?_ ?_ | refine zan ?_ ?_ | refine zaf ?_ ?_ | refine zab ?_ ?_) <;> intro hq <;> (try simp at hq)) | refine zag (by omega) ?_ | refine zam (by omega) ?_) <;> simp -implicitDefEqProofs [*, zar, h3, hk])
 refine zau [8, 4, 5, 6, 7] rfl (by decide) (by simp) c4 (by simp) (by simp [zbf]) ?_
 simp -implicitDefEqProofs [zcc]
 repeat' apply And.intro
 all_goals repeat' ((first | ((with_reducible first | refine zaj ?_ ?_ | refine zah ?_ ?_ | refine zae ?_ ?_ | refine zad ?_ ?_) <;> intro _) | ((with_reducible first | refine zao ?_ ?_ | refine zaq ?_ ?_ | refine zal ?_ ?_ | refine zac ?_ ?_ | refine zai ?_ ?_ | refine zan ?_ ?_ | refine zaf ?_ ?_ | refine zab ?_ ?_) <;> intro hq <;> (try simp at hq)) | refine zag (by omega) ?_ | refine zam (by omega) ?_) <;> simp -implicitDefEqProofs [*, zar])
theorem z6c (x : Node) (m : Msg) (hs : x.small) (hl : m.ids.length ≤ cap) (h : doB x m = true) (hk : m.kind = 1) : Den PP 28 [zc2 x, msgD m] [] (.tup [zh1 (ze5 x m.item), .nil, .int .i64 0]) (zix (ze5 x m.item)) := by
 have c1 := zke x hs
 have c2 := zsl m hl
 obtain ⟨h1, h2, h3⟩ := zhz h
 have c4 := z1a x m hs (by rw [h1, qf1 h2 hk]; rfl)
 rw [h1] at c1
 rw [h2] at c2
 have c3 := zgv x hs
 generalize ze5 x m.item = y at *
 clear h h1 h2
 simp only [hBox, psB, xsB, zc2, Node.cells, zd6, View.cells, zat, zap, zav, zay, Item.row, zh1, zix, znd, zne, msgD, Msg.row, hk, h3, List.map_cons, List.map_nil] at c1 c2 c3 c4 ⊢
 refine zak [27] [43] zj0 ?_
 simp -implicitDefEqProofs [zji, h3, hk]
 repeat' ((first | refine zaa (by first | exact c1 | exact c2 | exact c3) ?_ | ((with_reducible first | refine zaj ?_ ?_ | refine zah ?_ ?_ | refine zae ?_ ?_ | refine zad ?_ ?_) <;> intro _) | ((with_reducible first | refine zao ?_ ?_ | refine zaq ?_ ?_ | refine zal ?_ ?_ | refine zac ?_ ?_ | refine zai ?_ ?_ | refine zan ?_ ?_ | refine zaf ?_ ?_ | refine zab ?_ ?_) <;> intro hq <;> (try simp at hq)) | refine zag (by omega) ?_ | refine zam (by omega) ?_) <;> simp -implicitDefEqProofs [*, zar, h3, hk])
 refine zau [8, 4, 5, 6, 7] rfl (by decide) (by simp) c4 (by simp) (by simp [zbf]) ?_
 simp -implicitDefEqProofs [zcc]
 repeat' apply And.intro
 all_goals repeat' ((first | ((with_reducible first | refine zaj ?_ ?_ | refine zah ?_ ?_ | refine zae ?_ ?_ | refine zad ?_ ?_) <;> intro _) | ((with_reducible first | refine zao ?_ ?_ | refine zaq ?_ ?_ | refine zal ?_ ?_ | refine zac ?_ ?_ | refine zai ?_ ?_ | refine zan ?_ ?_ | refine zaf ?_ ?_ | refine zab ?_ ?_) <;> intro hq <;> (try simp at hq)) | refine zag (by omega) ?_ | refine zam (by omega) ?_) <;> simp -implicitDefEqProofs [*, zar])
theorem z3s (x : Node) (m : Msg) (hs : x.small) (hl : m.ids.length ≤ cap) (h : doB x m = true) (hk : m.kind = 2) : ∃ kk : Kind, kk.isBox = false ∧ Den PP 28 [zc2 x, msgD m] [] (.tup [zh1 x, .ref 4 0 1, .int .i64 0]) [⟨x.view.peers.map Peer.row, 2, kk⟩, ⟨x.view.passive.map irow, 1, kk⟩, ⟨x.items.map Item.row, 5, kk⟩, ⟨x.log.map Told.row, 3, kk⟩, ⟨[ze7 x m].map Msg.row0, 11, .mut⟩] := by
 have c1 := zke x hs
 have c2 := zsl m hl
 obtain ⟨h1, h2, h3⟩ := zhz h
 have c4 := z58 x m hs hl (qf0 h hk)
 rw [h1] at c1
 rw [h2] at c2
 have c3 := zgv x hs
 obtain ⟨kk, hkk, c4⟩ := c4
 refine ⟨kk, hkk, ?_⟩
 generalize ze7 x m = t at *
 clear h h1 h2
 simp only [hBox, psB, xsB, zc2, Node.cells, zd6, View.cells, zat, zap, zav, zay, Item.row, zh1, zix, znd, zne, msgD, Msg.row, hk, h3, List.map_cons, List.map_nil] at c1 c2 c3 c4 ⊢
 refine zak [27] [43] zj0 ?_
 cases kk <;> simp [Kind.isBox] at hkk
 all_goals
  simp -implicitDefEqProofs [zji, h3, hk]
  repeat' ((first | refine zaa (by first | exact c1 | exact c2 | exact c3) ?_ | ((with_reducible first | refine zaj ?_ ?_ | refine zah ?_ ?_ | refine zae ?_ ?_ | refine zad ?_ ?_) <;> intro _) | ((with_reducible first | refine zao ?_ ?_ | refine zaq ?_ ?_ | refine zal ?_ ?_ | refine zac ?_ ?_ | refine zai ?_ ?_ | refine zan ?_ ?_ | refine zaf ?_ ?_ | refine zab ?_ ?_) <;> intro hq <;> (try simp at hq)) | refine zag (by omega) ?_ | refine zam (by omega) ?_) <;> simp -implicitDefEqProofs [*, zar, h3, hk])
  refine zau [8, 4, 5, 6, 7] rfl (by decide) (by simp) c4 (by simp) (by simp [zbf]) ?_
  simp -implicitDefEqProofs [zcc]
  repeat' apply And.intro
  all_goals repeat' ((first | ((with_reducible first | refine zaj ?_ ?_ | refine zah ?_ ?_ | refine zae ?_ ?_ | refine zad ?_ ?_) <;> intro _) | ((with_reducible first | refine zao ?_ ?_ | refine zaq ?_ ?_ | refine zal ?_ ?_ | refine zac ?_ ?_ | refine zai ?_ ?_ | refine zan ?_ ?_ | refine zaf ?_ ?_ | refine zab ?_ ?_) <;> intro hq <;> (try simp at hq)) | refine zag (by omega) ?_ | refine zam (by omega) ?_) <;> simp -implicitDefEqProofs [*, zar])
theorem z3d (x : Node) (m : Msg) (hs : x.small) (hl : m.ids.length ≤ cap) (h : doB x m = true) (hk : m.kind = 3) : Den PP 28 [zc2 x, msgD m] [] (.tup [znd x (zg1 x (mT m)) (zde x (mT m)), .nil, .int .i64 0]) (zne x (zg1 x (mT m)) (zde x (mT m))) := by
 have c1 := zke x hs
 have c2 := zsl m hl
 obtain ⟨h1, h2, h3⟩ := zhz h
 have c4 := z3b x m hs hl (qf0 h hk)
 rw [h1] at c1
 rw [h2] at c2
 have c3 := zgv x hs
 generalize zg1 x (mT m) = pre at *
 generalize zde x (mT m) = xs at *
 clear h h1 h2
 simp only [hBox, psB, xsB, zc2, Node.cells, zd6, View.cells, zat, zap, zav, zay, Item.row, zh1, zix, znd, zne, msgD, Msg.row, hk, h3, List.map_cons, List.map_nil] at c1 c2 c3 c4 ⊢
 refine zak [27] [43] zj0 ?_
 simp -implicitDefEqProofs [zji, h3, hk]
 repeat' ((first | refine zaa (by first | exact c1 | exact c2 | exact c3) ?_ | ((with_reducible first | refine zaj ?_ ?_ | refine zah ?_ ?_ | refine zae ?_ ?_ | refine zad ?_ ?_) <;> intro _) | ((with_reducible first | refine zao ?_ ?_ | refine zaq ?_ ?_ | refine zal ?_ ?_ | refine zac ?_ ?_ | refine zai ?_ ?_ | refine zan ?_ ?_ | refine zaf ?_ ?_ | refine zab ?_ ?_) <;> intro hq <;> (try simp at hq)) | refine zag (by omega) ?_ | refine zam (by omega) ?_) <;> simp -implicitDefEqProofs [*, zar, h3, hk])
 refine zau [8, 4, 5, 6, 7] rfl (by decide) (by simp) c4 (by simp) (by simp [zbf]) ?_
 simp -implicitDefEqProofs [zcc]
 repeat' apply And.intro
 all_goals repeat' ((first | ((with_reducible first | refine zaj ?_ ?_ | refine zah ?_ ?_ | refine zae ?_ ?_ | refine zad ?_ ?_) <;> intro _) | ((with_reducible first | refine zao ?_ ?_ | refine zaq ?_ ?_ | refine zal ?_ ?_ | refine zac ?_ ?_ | refine zai ?_ ?_ | refine zan ?_ ?_ | refine zaf ?_ ?_ | refine zab ?_ ?_) <;> intro hq <;> (try simp at hq)) | refine zag (by omega) ?_ | refine zam (by omega) ?_) <;> simp -implicitDefEqProofs [*, zar])
end Go.AM
/- AM: contracts: a packet delivered. -/
namespace Go.AM
theorem zws (w : Wld) (a : Act) (m : Msg) (x : Node) (hw : za9 w = true) (h0 : 0 ≤ a.pick) (hp : a.pick ≤ 65535) (hm : w.packets[zdt w a]? = some m) (hr : zkk (cmpN m.to) w.nodes) (hcut : (isC w.cuts m.from_ m.to).1 = false) (hi : isN m.to w.nodes = true) (hx : w.nodes[posN m.to w.nodes]? = some x) (h : doB x m = true) (hk : m.kind = 0) (hm1 : za9 ({ nodes := w.nodes.set (posN m.to w.nodes) ({ x with view := zci x.view m.from_ m.ids }), cuts := w.cuts, packets := zfh w (zdt w a) } : Wld) = true) (hm2 : za9 ({ nodes := w.nodes.set (posN m.to w.nodes) ({ x with view := zci x.view m.from_ m.ids }), cuts := w.cuts, packets := [] } : Wld) = true) :
 Den PP 60 [.ptr 0 0 0, .ptr 4 0 0] (actB w a) (.tup []) (doS ({ nodes := w.nodes.set (posN m.to w.nodes) ({ x with view := zci x.view m.from_ m.ids }), cuts := w.cuts, packets := zfh w (zdt w a) } : Wld) (zc5 ({ nodes := w.nodes.set (posN m.to w.nodes) ({ x with view := zci x.view m.from_ m.ids }), cuts := w.cuts, packets := zfh w (zdt w a) } : Wld) []) w.packets a) := by
 have c1 := zlo w a m (zck hw) (zc1 hw).2.2.1 h0 hp hm
 have c2 := zy8 w.cuts m.from_ m.to (by have := (zck hw).cuts; unfold cap; omega)
 have c3 := zj4 { w with packets := zfh w (zdt w a) } m.to w.packets (by have := (zck hw).nodes; unfold cap; simp only; omega) hr hi
 have c4 := z3z x m (zdi ((zck hw).node x (List.mem_of_getElem? hx))) (by have := (zck hw).packet m (List.mem_of_getElem? hm); unfold cap; omega) h hk
 have c5 := zj2 ({ nodes := w.nodes.set (posN m.to w.nodes) ({ x with view := zci x.view m.from_ m.ids }), cuts := w.cuts, packets := zfh w (zdt w a) } : Wld) [] w.packets hm1 hm2
 have hpp := zl1 hi
 have hg : ∀ h : posN m.to w.nodes < w.nodes.length, w.nodes[posN m.to w.nodes] = x := fun h => by rw [List.getElem?_eq_getElem h] at hx; exact Option.some.inj hx
 rw [hcut] at c2
 simp only at c3
 have c5 : Den PP 151 [.ptr 0 0 0, .nil] _ _ _ := ze4 (by
  simp only [List.map_cons, List.map_nil, D.nrm]
  exact c5)
 have hid : (zci x.view m.from_ m.ids).id = x.view.id := (zr1 (zy2 (zhz h).1 (zhz h).2.1 hk (zhz h).2.2)).2
 generalize zci x.view m.from_ m.ids = vw at *
 generalize (isC w.cuts m.from_ m.to).2 = e at *
 generalize zfh w (zdt w a) = ls at *
 generalize posN m.to w.nodes = P at *
 have hp' : (P : Int) < w.nodes.length := by omega
 have e1 : (zc5 { nodes := w.nodes.set P ({ x with view := vw }), cuts := w.cuts, packets := ls } []).nodes = w.nodes.set P ({ x with view := vw }) := rfl
 have e2 : (zc5 { nodes := w.nodes.set P ({ x with view := vw }), cuts := w.cuts, packets := ls } []).cuts = w.cuts := rfl
 generalize zc5 { nodes := w.nodes.set P ({ x with view := vw }), cuts := w.cuts, packets := ls } [] = v at *
 obtain ⟨ns, cs, ps⟩ := v
 simp only at e1 e2
 subst e1 e2
 clear hw h0 hp hm hr hcut hi h hm1 hm2
 simp only [actB, doA, doC, doS, zh1, zix, znd, zne, zc2, zap, Act.cells, Wld.cells, za2, zbc, zbl, msgD, Msg.row, Msg.row0, hk, List.length_set, List.map_set, List.map_cons, List.map_nil, List.length_cons, List.length_nil, List.nil_append, List.cons_append] at c1 c2 c3 c4 c5 ⊢
 rw [zi3 ({ x with view := vw })] at c5 ⊢
 try simp only at c5 ⊢
 skip
 all_goals
  refine zak [] [14, 41, 61] zeh ?_
  simp -implicitDefEqProofs [zdz]
  refine zau [0, 1, 2, 3, 4] rfl (by decide) (by simp) c1 (by simp) (by simp [zbf]) ?_
  simp -implicitDefEqProofs [zcc, -zax]
  refine zaa c2 ?_
  simp -implicitDefEqProofs [-zax]
  refine zau [0, 1, 2, 3, 6] rfl (by decide) (by simp) c3 (by simp) (by simp [zbf]) ?_
  simp -implicitDefEqProofs [zcc, -zax, hpp, hp', hx, hg]
  refine zaa c4 ?_
  simp -implicitDefEqProofs [-zax, hpp, hp', hx, hg]
  refine zau [0, 1, 2, 3] rfl (by decide) (by simp) c5 (by simp) (by simp [zbf]) ?_
  simp -implicitDefEqProofs [zcc, -zax]
  exact zwf (zgn rfl) (zpx (zi5 5 _) (List.all_eq_true.1 rfl)) (zl5 5 _) (zlq 5 _) (zgn rfl)
theorem zwq (w : Wld) (a : Act) (m : Msg) (x : Node) (hw : za9 w = true) (h0 : 0 ≤ a.pick) (hp : a.pick ≤ 65535) (hm : w.packets[zdt w a]? = some m) (hr : zkk (cmpN m.to) w.nodes) (hcut : (isC w.cuts m.from_ m.to).1 = false) (hi : isN m.to w.nodes = true) (hx : w.nodes[posN m.to w.nodes]? = some x) (h : doB x m = true) (hk : m.kind = 1) (hm1 : za9 ({ nodes := w.nodes.set (posN m.to w.nodes) (ze5 x m.item), cuts := w.cuts, packets := zfh w (zdt w a) } : Wld) = true) (hm2 : za9 ({ nodes := w.nodes.set (posN m.to w.nodes) (ze5 x m.item), cuts := w.cuts, packets := [] } : Wld) = true) :
 Den PP 60 [.ptr 0 0 0, .ptr 4 0 0] (actB w a) (.tup []) (doS ({ nodes := w.nodes.set (posN m.to w.nodes) (ze5 x m.item), cuts := w.cuts, packets := zfh w (zdt w a) } : Wld) (zc5 ({ nodes := w.nodes.set (posN m.to w.nodes) (ze5 x m.item), cuts := w.cuts, packets := zfh w (zdt w a) } : Wld) []) w.packets a) := by
 have c1 := zlo w a m (zck hw) (zc1 hw).2.2.1 h0 hp hm
 have c2 := zy8 w.cuts m.from_ m.to (by have := (zck hw).cuts; unfold cap; omega)
 have c3 := zj4 { w with packets := zfh w (zdt w a) } m.to w.packets (by have := (zck hw).nodes; unfold cap; simp only; omega) hr hi
 have c4 := z6c x m (zdi ((zck hw).node x (List.mem_of_getElem? hx))) (by have := (zck hw).packet m (List.mem_of_getElem? hm); unfold cap; omega) h hk
 have c5 := zj2 ({ nodes := w.nodes.set (posN m.to w.nodes) (ze5 x m.item), cuts := w.cuts, packets := zfh w (zdt w a) } : Wld) [] w.packets hm1 hm2
 have hpp := zl1 hi
 have hg : ∀ h : posN m.to w.nodes < w.nodes.length, w.nodes[posN m.to w.nodes] = x := fun h => by rw [List.getElem?_eq_getElem h] at hx; exact Option.some.inj hx
 rw [hcut] at c2
 simp only at c3
 have c5 : Den PP 151 [.ptr 0 0 0, .nil] _ _ _ := ze4 (by
  simp only [List.map_cons, List.map_nil, D.nrm]
  exact c5)
 generalize ze5 x m.item = y at *
 generalize (isC w.cuts m.from_ m.to).2 = e at *
 generalize zfh w (zdt w a) = ls at *
 generalize posN m.to w.nodes = P at *
 have hp' : (P : Int) < w.nodes.length := by omega
 have e1 : (zc5 { nodes := w.nodes.set P (y), cuts := w.cuts, packets := ls } []).nodes = w.nodes.set P (y) := rfl
 have e2 : (zc5 { nodes := w.nodes.set P (y), cuts := w.cuts, packets := ls } []).cuts = w.cuts := rfl
 generalize zc5 { nodes := w.nodes.set P (y), cuts := w.cuts, packets := ls } [] = v at *
 obtain ⟨ns, cs, ps⟩ := v
 simp only at e1 e2
 subst e1 e2
 clear hw h0 hp hm hr hcut hi h hm1 hm2
 simp only [actB, doA, doC, doS, zh1, zix, znd, zne, zc2, zap, Act.cells, Wld.cells, za2, zbc, zbl, msgD, Msg.row, Msg.row0, hk, List.length_set, List.map_set, List.map_cons, List.map_nil, List.length_cons, List.length_nil, List.nil_append, List.cons_append] at c1 c2 c3 c4 c5 ⊢
 rw [zi3 (y)] at c5 ⊢
 try simp only at c5 ⊢
 skip
 all_goals
  refine zak [] [14, 41, 61] zeh ?_
  simp -implicitDefEqProofs [zdz]
  refine zau [0, 1, 2, 3, 4] rfl (by decide) (by simp) c1 (by simp) (by simp [zbf]) ?_
  simp -implicitDefEqProofs [zcc, -zax]
  refine zaa c2 ?_
  simp -implicitDefEqProofs [-zax]
  refine zau [0, 1, 2, 3, 6] rfl (by decide) (by simp) c3 (by simp) (by simp [zbf]) ?_
  simp -implicitDefEqProofs [zcc, -zax, hpp, hp', hx, hg]
  refine zaa c4 ?_
  simp -implicitDefEqProofs [-zax, hpp, hp', hx, hg]
  refine zau [0, 1, 2, 3] rfl (by decide) (by simp) c5 (by simp) (by simp [zbf]) ?_
  simp -implicitDefEqProofs [zcc, -zax]
  exact zwf (zgn rfl) (zpx (zi5 5 _) (List.all_eq_true.1 rfl)) (zl5 5 _) (zlq 5 _) (zgn rfl)
theorem zwv (w : Wld) (a : Act) (m : Msg) (x : Node) (hw : za9 w = true) (h0 : 0 ≤ a.pick) (hp : a.pick ≤ 65535) (hm : w.packets[zdt w a]? = some m) (hr : zkk (cmpN m.to) w.nodes) (hcut : (isC w.cuts m.from_ m.to).1 = false) (hi : isN m.to w.nodes = true) (hx : w.nodes[posN m.to w.nodes]? = some x) (h : doB x m = true) (hk : m.kind = 2) (hm1 : za9 ({ nodes := w.nodes.set (posN m.to w.nodes) (x), cuts := w.cuts, packets := zfh w (zdt w a) } : Wld) = true) (hm2 : za9 ({ nodes := w.nodes.set (posN m.to w.nodes) (x), cuts := w.cuts, packets := [ze7 x m] } : Wld) = true) :
 Den PP 60 [.ptr 0 0 0, .ptr 4 0 0] (actB w a) (.tup []) (doS ({ nodes := w.nodes.set (posN m.to w.nodes) (x), cuts := w.cuts, packets := zfh w (zdt w a) } : Wld) (zc5 ({ nodes := w.nodes.set (posN m.to w.nodes) (x), cuts := w.cuts, packets := zfh w (zdt w a) } : Wld) [ze7 x m]) w.packets a) := by
 have c1 := zlo w a m (zck hw) (zc1 hw).2.2.1 h0 hp hm
 have c2 := zy8 w.cuts m.from_ m.to (by have := (zck hw).cuts; unfold cap; omega)
 have c3 := zj4 { w with packets := zfh w (zdt w a) } m.to w.packets (by have := (zck hw).nodes; unfold cap; simp only; omega) hr hi
 have c4 := z3s x m (zdi ((zck hw).node x (List.mem_of_getElem? hx))) (by have := (zck hw).packet m (List.mem_of_getElem? hm); unfold cap; omega) h hk
 have c5 := zj2 ({ nodes := w.nodes.set (posN m.to w.nodes) (x), cuts := w.cuts, packets := zfh w (zdt w a) } : Wld) [ze7 x m] w.packets hm1 hm2
 have hpp := zl1 hi
 have hg : ∀ h : posN m.to w.nodes < w.nodes.length, w.nodes[posN m.to w.nodes] = x := fun h => by rw [List.getElem?_eq_getElem h] at hx; exact Option.some.inj hx
 rw [hcut] at c2
 simp only at c3
 obtain ⟨kk, hkk, c4⟩ := c4
 have c5 : Den PP 151 [.ptr 0 0 0, .sl [(ze7 x m).row0] 1] _ _ _ := ze4 (by
  have hn := zp5 [ze7 x m]
  simp only [List.map_cons, List.map_nil] at hn
  simp only [List.map_cons, List.map_nil, D.nrm, hn]
  exact c5)
 generalize ze7 x m = t at *
 generalize (isC w.cuts m.from_ m.to).2 = e at *
 generalize zfh w (zdt w a) = ls at *
 generalize posN m.to w.nodes = P at *
 have hp' : (P : Int) < w.nodes.length := by omega
 have e1 : (zc5 { nodes := w.nodes.set P (x), cuts := w.cuts, packets := ls } [t]).nodes = w.nodes.set P (x) := rfl
 have e2 : (zc5 { nodes := w.nodes.set P (x), cuts := w.cuts, packets := ls } [t]).cuts = w.cuts := rfl
 generalize zc5 { nodes := w.nodes.set P (x), cuts := w.cuts, packets := ls } [t] = v at *
 obtain ⟨ns, cs, ps⟩ := v
 simp only at e1 e2
 subst e1 e2
 clear hw h0 hp hm hr hcut hi h hm1 hm2
 simp only [actB, doA, doC, doS, zh1, zix, znd, zne, zc2, zap, Act.cells, Wld.cells, za2, zbc, zbl, msgD, Msg.row, Msg.row0, hk, List.length_set, List.map_set, List.map_cons, List.map_nil, List.length_cons, List.length_nil, List.nil_append, List.cons_append] at c1 c2 c3 c4 c5 ⊢
 rw [zi3 (x)] at c5 ⊢
 try simp only at c5 ⊢
 cases kk <;> simp [Kind.isBox] at hkk
 all_goals
  refine zak [] [14, 41, 61] zeh ?_
  simp -implicitDefEqProofs [zdz]
  refine zau [0, 1, 2, 3, 4] rfl (by decide) (by simp) c1 (by simp) (by simp [zbf]) ?_
  simp -implicitDefEqProofs [zcc, -zax]
  refine zaa c2 ?_
  simp -implicitDefEqProofs [-zax]
  refine zau [0, 1, 2, 3, 6] rfl (by decide) (by simp) c3 (by simp) (by simp [zbf]) ?_
  simp -implicitDefEqProofs [zcc, -zax, hpp, hp', hx, hg]
  refine zaa c4 ?_
  simp -implicitDefEqProofs [-zax, hpp, hp', hx, hg]
  refine zau [0, 1, 2, 3] rfl (by decide) (by simp) c5 (by simp) (by simp [zbf]) ?_
  simp -implicitDefEqProofs [zcc, -zax]
  exact zwf (zgn rfl) (zpx (zi5 5 _) (List.all_eq_true.1 rfl)) (zl5 5 _) (zlq 5 _) (zgn rfl)
theorem zw0 (w : Wld) (a : Act) (m : Msg) (x : Node) (hw : za9 w = true) (h0 : 0 ≤ a.pick) (hp : a.pick ≤ 65535) (hm : w.packets[zdt w a]? = some m) (hr : zkk (cmpN m.to) w.nodes) (hcut : (isC w.cuts m.from_ m.to).1 = false) (hi : isN m.to w.nodes = true) (hx : w.nodes[posN m.to w.nodes]? = some x) (h : doB x m = true) (hk : m.kind = 3) (hm1 : za9 ({ nodes := w.nodes.set (posN m.to w.nodes) ({ x with log := zde x (mT m) }), cuts := w.cuts, packets := zfh w (zdt w a) } : Wld) = true) (hm2 : za9 ({ nodes := w.nodes.set (posN m.to w.nodes) ({ x with log := zde x (mT m) }), cuts := w.cuts, packets := [] } : Wld) = true) :
 Den PP 60 [.ptr 0 0 0, .ptr 4 0 0] (actB w a) (.tup []) (doS ({ nodes := w.nodes.set (posN m.to w.nodes) ({ x with log := zde x (mT m) }), cuts := w.cuts, packets := zfh w (zdt w a) } : Wld) (zc5 ({ nodes := w.nodes.set (posN m.to w.nodes) ({ x with log := zde x (mT m) }), cuts := w.cuts, packets := zfh w (zdt w a) } : Wld) []) w.packets a) := by
 have c1 := zlo w a m (zck hw) (zc1 hw).2.2.1 h0 hp hm
 have c2 := zy8 w.cuts m.from_ m.to (by have := (zck hw).cuts; unfold cap; omega)
 have c3 := zj4 { w with packets := zfh w (zdt w a) } m.to w.packets (by have := (zck hw).nodes; unfold cap; simp only; omega) hr hi
 have c4 := z3d x m (zdi ((zck hw).node x (List.mem_of_getElem? hx))) (by have := (zck hw).packet m (List.mem_of_getElem? hm); unfold cap; omega) h hk
 have c5 := zj2 ({ nodes := w.nodes.set (posN m.to w.nodes) ({ x with log := zde x (mT m) }), cuts := w.cuts, packets := zfh w (zdt w a) } : Wld) [] w.packets hm1 hm2
 have hpp := zl1 hi
 have hg : ∀ h : posN m.to w.nodes < w.nodes.length, w.nodes[posN m.to w.nodes] = x := fun h => by rw [List.getElem?_eq_getElem h] at hx; exact Option.some.inj hx
 rw [hcut] at c2
 simp only at c3
 have c5 : Den PP 151 [.ptr 0 0 0, .nil] _ _ _ := ze4 (by
  simp only [List.map_cons, List.map_nil, D.nrm]
  exact c5)
 generalize zg1 x (mT m) = pre at *
 generalize zde x (mT m) = ys at *
 generalize (isC w.cuts m.from_ m.to).2 = e at *
 generalize zfh w (zdt w a) = ls at *
 generalize posN m.to w.nodes = P at *
 have hp' : (P : Int) < w.nodes.length := by omega
 have e1 : (zc5 { nodes := w.nodes.set P ({ x with log := ys }), cuts := w.cuts, packets := ls } []).nodes = w.nodes.set P ({ x with log := ys }) := rfl
 have e2 : (zc5 { nodes := w.nodes.set P ({ x with log := ys }), cuts := w.cuts, packets := ls } []).cuts = w.cuts := rfl
 generalize zc5 { nodes := w.nodes.set P ({ x with log := ys }), cuts := w.cuts, packets := ls } [] = v at *
 obtain ⟨ns, cs, ps⟩ := v
 simp only at e1 e2
 subst e1 e2
 clear hw h0 hp hm hr hcut hi h hm1 hm2
 simp only [actB, doA, doC, doS, zh1, zix, znd, zne, zc2, zap, Act.cells, Wld.cells, za2, zbc, zbl, msgD, Msg.row, Msg.row0, hk, List.length_set, List.map_set, List.map_cons, List.map_nil, List.length_cons, List.length_nil, List.nil_append, List.cons_append] at c1 c2 c3 c4 c5 ⊢
 rw [zi3 ({ x with log := ys })] at c5 ⊢
 try simp only at c5 ⊢
 skip
 all_goals
  refine zak [] [14, 41, 61] zeh ?_
  simp -implicitDefEqProofs [zdz]
  refine zau [0, 1, 2, 3, 4] rfl (by decide) (by simp) c1 (by simp) (by simp [zbf]) ?_
  simp -implicitDefEqProofs [zcc, -zax]
  refine zaa c2 ?_
  simp -implicitDefEqProofs [-zax]
  refine zau [0, 1, 2, 3, 6] rfl (by decide) (by simp) c3 (by simp) (by simp [zbf]) ?_
  simp -implicitDefEqProofs [zcc, -zax, hpp, hp', hx, hg]
  refine zaa c4 ?_
  simp -implicitDefEqProofs [-zax, hpp, hp', hx, hg]
  refine zau [0, 1, 2, 3] rfl (by decide) (by simp) c5 (by simp) (by simp [zbf]) ?_
  simp -implicitDefEqProofs [zcc, -zax]
  exact zwf (zgn rfl) (zpx (zi5 5 _) (List.all_eq_true.1 rfl)) (zl5 5 _) (zlq 5 _) (zgn rfl)
end Go.AM
/- AM: contracts: a node that starts. -/
namespace Go.AM
end Go.AM
/- AM: contracts: act.Do. -/
namespace Go.AM
theorem qb1 (w : Wld) (a : Act) (hi : a.ids.length ≤ cap) (hw : za9 w = true) (h : mayA w a = true) (hk : a.kind = 0) (u v : Wld) (qs : List Msg) (hd : Den PP 59 [.ptr 0 0 0, .ptr 4 0 0] (actB w a) (.tup []) (doS u v qs a)) :
 Den PP 20 [wldD w, actD a] [] (.tup [.agg [za2 v.nodes, zbc v.cuts, zbl v.packets], .int .i64 0]) [] := by
 have t := zck hw
 have c1 := zku w t.small
 have c2 := zk8 w t
 have c3 := zyw w a (by have := t.nodes; unfold cap; omega) (fun id => zha (zc1 hw).1 id) hi
 rw [hw] at c1
 rw [h] at c3
 clear hw h t hi
 suffices hh : Den PP 20 [wldD w, actD a] [] (.tup [.agg [za2 v.nodes, zbc v.cuts, zbl v.packets], .int .i64 0]) [] by
  have := zon hh
  simpa [D.freeze, D.mapR, zoc, zpp, za2, zbc, zbl] using this
 simp only [actB, doA, doC, doS, wldD, actD, Act.cells, Wld.cells, za2, zbc, zbl, wldR, wldB, zap, hk] at c1 c2 c3 hd ⊢
 refine zak [13] [46] zu6 ?_
 simp -implicitDefEqProofs [zt4]
 refine zaa c1 ?_
 simp -implicitDefEqProofs
 refine zaa c2 ?_
 simp -implicitDefEqProofs
 refine zaa c3 ?_
 simp -implicitDefEqProofs
 refine zau [6, 3, 4, 5, 1] rfl (by decide) (by simp) hd (by simp) (by simp [zbf]) ?_
 simp -implicitDefEqProofs [zcc]
theorem qb9 (w : Wld) (a : Act) (hi : a.ids.length ≤ cap) (hw : za9 w = true) (h : mayA w a = true) (hk : a.kind = 1) (u v : Wld) (qs : List Msg) (hd : Den PP 60 [.ptr 0 0 0, .ptr 4 0 0] (actB w a) (.tup []) (doS u v qs a)) :
 Den PP 20 [wldD w, actD a] [] (.tup [.agg [za2 v.nodes, zbc v.cuts, zbl v.packets], .int .i64 0]) [] := by
 have t := zck hw
 have c1 := zku w t.small
 have c2 := zk8 w t
 have c3 := zyw w a (by have := t.nodes; unfold cap; omega) (fun id => zha (zc1 hw).1 id) hi
 rw [hw] at c1
 rw [h] at c3
 clear hw h t hi
 suffices hh : Den PP 20 [wldD w, actD a] [] (.tup [.agg [za2 v.nodes, zbc v.cuts, zbl v.packets], .int .i64 0]) [] by
  have := zon hh
  simpa [D.freeze, D.mapR, zoc, zpp, za2, zbc, zbl] using this
 simp only [actB, doA, doC, doS, wldD, actD, Act.cells, Wld.cells, za2, zbc, zbl, wldR, wldB, zap, hk] at c1 c2 c3 hd ⊢
 refine zak [13] [46] zu6 ?_
 simp -implicitDefEqProofs [zt4]
 refine zaa c1 ?_
 simp -implicitDefEqProofs
 refine zaa c2 ?_
 simp -implicitDefEqProofs
 refine zaa c3 ?_
 simp -implicitDefEqProofs
 refine zau [6, 3, 4, 5, 1] rfl (by decide) (by simp) hd (by simp) (by simp [zbf]) ?_
 simp -implicitDefEqProofs [zcc]
theorem zxe (w : Wld) (a : Act) (hi : a.ids.length ≤ cap) (hw : za9 w = true) (h : mayA w a = true) (hk : a.kind = 10) (u v : Wld) (qs : List Msg) (hd : Den PP 69 [.ptr 0 0 0, .ptr 4 0 0] (actB w a) (.tup []) (doS u v qs a)) :
 Den PP 20 [wldD w, actD a] [] (.tup [.agg [za2 v.nodes, zbc v.cuts, zbl v.packets], .int .i64 0]) [] := by
 have t := zck hw
 have c1 := zku w t.small
 have c2 := zk8 w t
 have c3 := zyw w a (by have := t.nodes; unfold cap; omega) (fun id => zha (zc1 hw).1 id) hi
 rw [hw] at c1
 rw [h] at c3
 clear hw h t hi
 suffices hh : Den PP 20 [wldD w, actD a] [] (.tup [.agg [za2 v.nodes, zbc v.cuts, zbl v.packets], .int .i64 0]) [] by
  have := zon hh
  simpa [D.freeze, D.mapR, zoc, zpp, za2, zbc, zbl] using this
 simp only [actB, doA, doC, doS, wldD, actD, Act.cells, Wld.cells, za2, zbc, zbl, wldR, wldB, zap, hk] at c1 c2 c3 hd ⊢
 refine zak [13] [46] zu6 ?_
 simp -implicitDefEqProofs [zt4]
 refine zaa c1 ?_
 simp -implicitDefEqProofs
 refine zaa c2 ?_
 simp -implicitDefEqProofs
 refine zaa c3 ?_
 simp -implicitDefEqProofs
 refine zau [6, 3, 4, 5, 1] rfl (by decide) (by simp) hd (by simp) (by simp [zbf]) ?_
 simp -implicitDefEqProofs [zcc]
end Go.AM
/- AM: chapter 17's statements: WriteNewer, WriteOther. -/
namespace Go.AM
end Go.AM
/- Plain law: cuts among eight places, in any row. -/
namespace Go.AM

end Go.AM
/- AM: plain: what keeps a world such as may be. -/
namespace Go.AM
def idsN (xs : List Node) : List Int := xs.map fun x => x.view.id
theorem zek {xs : List Node} {i : Int} : i ∈ idsN xs ↔ ∃ x ∈ xs, x.view.id = i := List.mem_map
theorem zzs {xs : List Node} {id : Int} (h : isN id xs = true) : ∃ x, xs[posN id xs]? = some x ∧ x.view.id = id := by
 obtain ⟨_, x, hx, hc⟩ := ztx h
 exact ⟨x, hx, (zqv _ _).1 hc⟩
theorem qjh {xs : List Node} (h : xs.Pairwise (fun x y => x.view.id < y.view.id)) {id : Int} (hi : id ∈ idsN xs) : isN id xs = true := by
 obtain ⟨x, hx, rfl⟩ := zek.1 hi
 obtain ⟨j, hj, hxj⟩ := List.getElem_of_mem hx
 have hxj' : xs[j]? = some x := by rw [List.getElem?_eq_getElem hj, hxj]
 have hcx : cmpN x.view.id x = 0 := (zqv _ _).2 rfl
 have hle : posC (cmpN x.view.id) xs ≤ j := by
  apply Classical.byContradiction
  intro hn
  have := zy0 (cmpN x.view.id) xs j x (by omega) hxj'
  omega
 have hlt : posC (cmpN x.view.id) xs < xs.length := by omega
 obtain ⟨y, hy⟩ : ∃ y, xs[posC (cmpN x.view.id) xs]? = some y := ⟨_, List.getElem?_eq_getElem hlt⟩
 have hy0 := qa3 (cmpN x.view.id) xs y hy
 have : y = x := by
  rcases Nat.lt_or_ge (posC (cmpN x.view.id) xs) j with h1 | h1
  ·obtain ⟨hl, rfl⟩ := List.getElem?_eq_some_iff.1 hy
   have := List.pairwise_iff_getElem.1 h _ _ hl hj h1
   rw [hxj] at this
   have h2 : cmpN x.view.id (xs[posC (cmpN x.view.id) xs]) < 0 := (zt1 _ _).2 this
   omega
  ·have : posC (cmpN x.view.id) xs = j := by omega
   rw [this, hxj'] at hy
   exact (Option.some.inj hy).symm
 subst this
 show (xs[posC (cmpN y.view.id) xs]?).any _ = true
 rw [hy]
 simp [hcx]
theorem zud {xs : List Node} (h : zdr xs = true) {id : Int} : isN id xs = true ↔ id ∈ idsN xs := by
 constructor
 ·intro hi
  obtain ⟨x, hx, he⟩ := zzs hi
  exact zek.2 ⟨x, List.mem_of_getElem? hx, he⟩
 ·exact qjh (zb1 h).2.1
theorem z9q : ∀ (xs : List Node) (q : Option Int), (∀ x ∈ xs, zcg x = true ∧ ∀ y, q = some y → y < x.view.id) → xs.Pairwise (fun x y => x.view.id < y.view.id) → zhg q xs = true := by
 intro xs
 induction xs with
 | nil => intro q _ _; rfl
 | cons x xs ih =>
   intro q h hp
   rw [List.pairwise_cons] at hp
   simp only [zhg, Bool.and_eq_true]
   refine ⟨(h x (by simp)).1, ?_, ih _ (fun y hy => ⟨(h y (by simp [hy])).1, fun z hz => ?_⟩) hp.2⟩
   ·cases q with
    | none => rfl
    | some y => simpa using (h x (by simp)).2 y rfl
   ·cases hz
    exact hp.1 y hy
theorem z5d {xs : List Node} (h1 : ∀ x ∈ xs, zcg x = true) (h2 : xs.Pairwise (fun x y => x.view.id < y.view.id)) (h3 : 1 ≤ xs.length) (h4 : xs.length ≤ 8) : zdr xs = true := by
 simp only [zdr, Bool.and_eq_true, decide_eq_true_eq]
 exact ⟨z9q xs none (fun x hx => ⟨h1 x hx, fun y hy => by cases hy⟩) h2, h3, h4⟩
theorem zq8 {xs : List Node} {P : Nat} {x y : Node} (hx : xs[P]? = some x) (hid : y.view.id = x.view.id) : idsN (xs.set P y) = idsN xs := by
 unfold idsN
 rw [List.map_set, hid]
 apply List.ext_getElem?
 intro j
 rw [List.getElem?_set]
 split
 ·rename_i hij
  subst hij
  have hlt := (List.getElem?_eq_some_iff.1 hx).1
  have he : xs[P] = x := by rw [List.getElem?_eq_getElem hlt] at hx; exact Option.some.inj hx
  simp [hlt, he]
 ·rfl
theorem zol {α : Type} {xs : List α} {P : Nat} {y z : α} (h : z ∈ xs.set P y) : z = y ∨ z ∈ xs := by
 rcases List.mem_or_eq_of_mem_set h with h | h
 ·exact .inr h
 ·exact .inl h
theorem z1j {xs : List Node} {P : Nat} {x y : Node} (h : zdr xs = true) (hx : xs[P]? = some x) (hy : zcg y = true) (hid : y.view.id = x.view.id) : zdr (xs.set P y) = true := by
 obtain ⟨h1, h2, h3, h4⟩ := zb1 h
 refine z5d (fun z hz => ?_) ?_ (by simpa using h3) (by simpa using h4)
 ·rcases zol hz with rfl | hz
  ·exact hy
  ·exact h1 z hz
 ·have e := zq8 hx hid
  unfold idsN at e
  rw [← List.pairwise_map (f := fun x : Node => x.view.id) (R := fun a b => a < b)] at h2 ⊢
  rw [e]
  exact h2
theorem qiw {ns : List Node} {cs : List Cut} {ps : List Msg} (hn : zdr ns = true) (hc : zec cs = true) (hl : ps.length ≤ 512) (h1 : ∀ x ∈ ns, ∀ i ∈ zee x, i ∈ idsN ns) (h2 : ∀ c ∈ cs, ∀ i ∈ zey c, i ∈ idsN ns) (h3 : ∀ m ∈ ps, zbs m = true ∧ ∀ i ∈ zb7 m, i ∈ idsN ns) : za9 ⟨ns, cs, ps⟩ = true := by
 have hq : zfi ps = true := by
  simp only [zfi, Bool.and_eq_true, decide_eq_true_eq, Bool.not_eq_true']
  refine ⟨hl, List.any_eq_false.2 fun m hm => ?_⟩
  simp [oddM, (h3 m hm).1]
 simp only [za9, Bool.and_eq_true, Bool.not_eq_true']
 refine ⟨hn, hc, hq, List.any_eq_false.2 fun i hi => ?_⟩
 have : i ∈ idsN ns := by
  simp only [zjo, List.mem_append, List.mem_flatMap] at hi
  rcases hi with (⟨x, hx, hi⟩ | ⟨c, hc, hi⟩) | ⟨m, hm, hi⟩
  ·exact h1 x hx i hi
  ·exact h2 c hc i hi
  ·exact (h3 m hm).2 i hi
 simp [(zud hn).2 this]
structure May (w : Wld) : Prop where
 nodes : zdr w.nodes = true
 cuts : zec w.cuts = true
 len : w.packets.length ≤ 512
 inN : ∀ x ∈ w.nodes, ∀ i ∈ zee x, i ∈ idsN w.nodes
 inC : ∀ c ∈ w.cuts, ∀ i ∈ zey c, i ∈ idsN w.nodes
 inM : ∀ m ∈ w.packets, zbs m = true ∧ ∀ i ∈ zb7 m, i ∈ idsN w.nodes
theorem zfr {w : Wld} : za9 w = true ↔ May w := by
 constructor
 ·intro h
  obtain ⟨h1, h2, h3, h4⟩ := zc1 h
  obtain ⟨q1, q2⟩ := zo9 h3
  have key : ∀ i ∈ zjo w, i ∈ idsN w.nodes := fun i hi => (zud h1).1 (h4 i hi)
  refine ⟨h1, h2, q1, fun x hx i hi => key i ?_, fun c hc i hi => key i ?_, fun m hm => ⟨q2 m hm, fun i hi => key i ?_⟩⟩
  ·simp only [zjo, List.mem_append, List.mem_flatMap]; exact .inl (.inl ⟨x, hx, hi⟩)
  ·simp only [zjo, List.mem_append, List.mem_flatMap]; exact .inl (.inr ⟨c, hc, hi⟩)
  ·simp only [zjo, List.mem_append, List.mem_flatMap]; exact .inr ⟨m, hm, hi⟩
 ·intro h
  exact qiw h.nodes h.cuts h.len h.inN h.inC h.inM
theorem May.node {w : Wld} (h : May w) {x : Node} (hx : x ∈ w.nodes) : zcg x = true := (zb1 h.nodes).1 x hx
theorem May.place {w : Wld} (h : May w) {i : Int} (hi : i ∈ idsN w.nodes) : AM.place i = true := by
 obtain ⟨x, hx, rfl⟩ := zek.1 hi
 exact zen (zfc (h.node hx)).2.1
theorem May.set {w : Wld} (h : May w) {P : Nat} {x y : Node} (hx : w.nodes[P]? = some x) (hy : zcg y = true) (hid : y.view.id = x.view.id) (hn : ∀ i ∈ zee y, i ∈ idsN w.nodes) {ps : List Msg} (hl : ps.length ≤ 512) (hm : ∀ m ∈ ps, zbs m = true ∧ ∀ i ∈ zb7 m, i ∈ idsN w.nodes) : May ⟨w.nodes.set P y, w.cuts, ps⟩ := by
 have e := zq8 hx hid
 refine ⟨z1j h.nodes hx hy hid, h.cuts, hl, ?_, ?_, ?_⟩
 ·intro z hz i hi
  show i ∈ idsN (w.nodes.set P y)
  rw [e]
  rcases zol hz with rfl | hz
  ·exact hn i hi
  ·exact h.inN z hz i hi
 ·intro c hc i hi
  show i ∈ idsN (w.nodes.set P y)
  rw [e]
  exact h.inC c hc i hi
 ·intro m hmm
  refine ⟨(hm m hmm).1, fun i hi => ?_⟩
  show i ∈ idsN (w.nodes.set P y)
  rw [e]
  exact (hm m hmm).2 i hi
theorem May.packs {w : Wld} (h : May w) {ps : List Msg} (hl : ps.length ≤ 512) (hm : ∀ m ∈ ps, zbs m = true ∧ ∀ i ∈ zb7 m, i ∈ idsN w.nodes) : May ⟨w.nodes, w.cuts, ps⟩ := ⟨h.nodes, h.cuts, hl, h.inN, h.inC, hm⟩
theorem May.send {w : Wld} (h : May w) {ms : List Msg} (hm : ∀ m ∈ ms, zbs m = true ∧ ∀ i ∈ zb7 m, i ∈ idsN w.nodes) : May (zc5 w ms) := by
 refine ⟨h.nodes, h.cuts, ?_, h.inN, h.inC, fun m hmm => ?_⟩
 ·have := h.len
  simp [zc5]; omega
 ·rcases List.mem_append.1 hmm with h1 | h1
  ·exact h.inM m h1
  ·exact hm m (List.mem_of_mem_take h1)
end Go.AM
/- AM: plain: whom a view names. -/
namespace Go.AM
def zbm (v : View) : List Int := v.peers.map Peer.id ++ v.passive
theorem zc7 {v : View} {y : Int} : y ∈ zbm v ↔ (∃ q ∈ v.peers, q.id = y) ∨ y ∈ v.passive := by
 simp [zbm]
theorem zhw (v : View) (x : Int) : (∀ y, y ∈ zbm (zdl v x) → y = x ∨ y ∈ zbm v) ∧ ∀ y, y ∈ zbm v → y ∈ zbm (zdl v x) := by
 cases hr : zh0 v x with
 | false => rw [zkn hr]; exact ⟨fun y h => .inr h, fun y h => h⟩
 | true =>
   constructor
   ·intro y hy
    rcases zc7.1 hy with ⟨q, hq, rfl⟩ | hy
    ·rcases (zdy hr q).1 hq with rfl | ⟨hq, _⟩
     ·exact .inl rfl
     ·exact .inr (zc7.2 (.inl ⟨q, hq, rfl⟩))
    ·exact .inr (zc7.2 (.inr ((zkc hr y).1 hy).1))
   ·intro y hy
    by_cases hyx : y = x
    ·subst hyx
     exact zc7.2 (.inl ⟨⟨y, 0⟩, (zdy hr _).2 (.inl rfl), rfl⟩)
    ·rcases zc7.1 hy with ⟨q, hq, rfl⟩ | hy
     ·exact zc7.2 (.inl ⟨q, (zdy hr q).2 (.inr ⟨hq, hyx⟩), rfl⟩)
     ·exact zc7.2 (.inr ((zkc hr y).2 ⟨hy, hyx⟩))
theorem zur (v : View) (x : Int) : (∀ y, y ∈ zbm (zep v x) → y = x ∨ y ∈ zbm v) ∧ ∀ y, y ∈ zbm v → y ∈ zbm (zep v x) := by
 unfold zep
 split
 ·exact zhw v x
 ·exact ⟨fun y h => .inr h, fun y h => h⟩
theorem z4m : ∀ (ids : List Int) (v : View), (∀ y, y ∈ zbm (ids.foldl zep v) → y ∈ ids ∨ y ∈ zbm v) ∧ ∀ y, y ∈ zbm v → y ∈ zbm (ids.foldl zep v) := by
 intro ids
 induction ids with
 | nil => intro v; exact ⟨fun y h => .inr h, fun y h => h⟩
 | cons x ids ih =>
   intro v
   obtain ⟨a, b⟩ := ih (zep v x)
   obtain ⟨c, d⟩ := zur v x
   refine ⟨fun y hy => ?_, fun y hy => b y (d y hy)⟩
   rcases a y hy with h | h
   ·exact .inl (by simp [h])
   ·rcases c y h with rfl | h
    ·exact .inl (by simp)
    ·exact .inr h
theorem z2b (v : View) (x : Int) (ids : List Int) : (∀ y, y ∈ zbm (zci v x ids) → y = x ∨ y ∈ ids ∨ y ∈ zbm v) ∧ ∀ y, y ∈ zbm v → y ∈ zbm (zci v x ids) := by
 obtain ⟨a, b⟩ := z4m ids (zdl v x)
 obtain ⟨c, d⟩ := zhw v x
 refine ⟨fun y hy => ?_, fun y hy => b y (d y hy)⟩
 rcases a y hy with h | h
 ·exact .inr (.inl h)
 ·rcases c y h with h | h
  ·exact .inl h
  ·exact .inr (.inr h)
theorem ziy {v : View} (h : zbd v = true) (y : Int) : y ∈ zbm (ageV v) ↔ y ∈ zbm v := by
 obtain ⟨_, _, h3⟩ := zjd h
 rw [zc7, zc7, h3]
 constructor
 ·rintro (⟨q, hq, rfl⟩ | hy | hy)
  ·obtain ⟨p, hp, _, rfl⟩ := zt5 hq
   exact .inl ⟨p, hp, rfl⟩
  ·exact .inr hy
  ·obtain ⟨p, hp, _, rfl⟩ := zuk hy
   exact .inl ⟨p, hp, rfl⟩
 ·rintro (⟨p, hp, rfl⟩ | hy)
  ·by_cases hm : p.missed + 1 = 3
   ·exact .inr (.inr (List.mem_map.2 ⟨p, List.mem_filter.2 ⟨hp, by simpa using hm⟩, rfl⟩))
   ·exact .inl ⟨⟨p.id, p.missed + 1⟩, List.mem_map.2 ⟨p, List.mem_filter.2 ⟨hp, by simpa using hm⟩, rfl⟩, rfl⟩
  ·exact .inr (.inl hy)
end Go.AM
/- AM: what an act makes of a world: it stays one that may be; nodes forget nothing. -/
namespace Go.AM
def Better (is js : List Item) : Prop := ∀ i ∈ is, ∃ j, getS js i.key = some j ∧ ze6 i j = j
structure NRel (x y : Node) : Prop where
 id : y.view.id = x.view.id
 items : x.up = true → y.up = true → Better x.items y.items
 names : x.up = true → y.up = true → ∀ n ∈ zbm x.view, n ∈ zbm y.view
theorem z4e {is : List Item} (h : zbu is = true) : Better is is := fun i hi => ⟨i, ztu ((zca is).1 h).2.1 hi, zse i⟩
def LoneN (x : Node) : Prop := x.view.peers = [] ∧ x.view.passive = []
def Lonely (w : Wld) : Prop := w.packets = [] ∧ w.cuts = [] ∧ ∀ x ∈ w.nodes, LoneN x
structure Step (w : Wld) (a : Act) (v : Wld) : Prop where
 len : v.nodes.length = w.nodes.length
 rel : ∀ (k : Nat) (x y : Node), w.nodes[k]? = some x → v.nodes[k]? = some y → NRel x y
 lone : a.kind ≠ 4 → a.kind ≠ 5 → a.kind ≠ 7 → Lonely w → Lonely v ∧ ∀ k, k ≠ posN a.node w.nodes → v.nodes[k]? = w.nodes[k]?
theorem zk7 {x : Node} (h : zcj x = true) : zcg x = true := by
 simp only [zcj, Bool.and_eq_true] at h
 exact h.2
theorem placeB (k : Int) : place k = byte k := rfl
theorem qbs {is : List Item} (h : zbu is = true) (k : Int) : (getR is k = (zeroItem, false)) ∨ ∃ i ∈ is, i.key = k ∧ zba i = true ∧ getR is k = (i, true) := by
 rw [qbc h]
 cases hg : getS is k with
 | none => exact .inl rfl
 | some i =>
   obtain ⟨h1, h2⟩ := zq5 hg
   exact .inr ⟨i, h2, h1, ((zca is).1 h).1 i h2, rfl⟩
theorem z1v {key : Int} {i : Item} {has : Bool} (hk : byte key = true) (h : has = true → zba i = true) : zdf (zes key i has) = false := by
 unfold zdf zes
 cases hh : (has && !i.gone) with
 | false => simp [hk]; rfl
 | true =>
   simp only [Bool.and_eq_true] at hh
   have := h hh.1
   simp only [zba, Bool.and_eq_true] at this
   simp [hk, this.1.1.2]
theorem qdq {x : Node} {t : Told} (h : x.log.length ≤ 64) (h1 : x.log.any zdf = false) (h2 : zdf t = false) : (zde x t).length ≤ 64 ∧ (zde x t).any zdf = false := by
 obtain ⟨l1, l2, _⟩ := qcc x t
 refine ⟨by omega, List.any_eq_false.2 fun u hu => ?_⟩
 have hu : u ∈ x.log ++ [t] := List.mem_of_mem_drop hu
 rcases List.mem_append.1 hu with hu | hu
 ·exact List.any_eq_false.1 h1 u hu
 ·rw [List.mem_singleton.1 hu]; simp [h2]
theorem qe8 {w : Wld} {p : Nat} {u : Msg} (h : u ∈ zfh w p) : u ∈ w.packets := by
 rcases List.mem_append.1 h with h | h
 ·exact List.mem_of_mem_take h
 ·exact List.mem_of_mem_drop h
theorem qab {v : View} (h : zbd v = true) {to : Int} (ht : to ∈ zgx v) : zbs (zrn v to) = true ∧ ∀ i ∈ zb7 (zrn v to), i = v.id ∨ i ∈ zbm v := by
 obtain ⟨h1, h2, h3, h4⟩ := za1 h
 have hpl := zdo h1
 have hto : place to = true ∧ to ≠ v.id := by
  rcases List.mem_append.1 ht with h5 | h5
  ·obtain ⟨q, hq, rfl⟩ := List.mem_map.1 h5
   exact ⟨(hpl q hq).1, z4k h hq⟩
  ·exact ⟨zd7 h2 to h5, (h4 to h5).1⟩
 constructor
 ·have hall : (v.peers.map Peer.id).all place = true := by
   rw [List.all_eq_true]
   intro y hy
   obtain ⟨q, hq, rfl⟩ := List.mem_map.1 hy
   exact (hpl q hq).1
  have hl := z0x h1
  simp [zbs, zrn, zen h, hto.1, Ne.symm hto.2, hl]
  intro q hq
  exact (hpl q hq).1
 ·intro i hi
  simp only [zb7, zrn, List.mem_cons] at hi
  rcases hi with rfl | rfl | hi
  ·exact .inl rfl
  ·exact .inr ht
  ·exact .inr (List.mem_append.2 (.inl hi))
theorem qep {x : Node} (h : zcj x = true) {m : Msg} (hm : m ∈ (zb5 x).1) : zbs m = true ∧ ∀ i ∈ zb7 m, i = x.view.id ∨ i ∈ zbm x.view := by
 obtain ⟨p1, p2, p3, p4, p5⟩ := zbi h
 unfold zb5 at hm
 rw [if_pos h] at hm
 obtain ⟨i, hi, hs⟩ := List.mem_filterMap.1 hm
 have hmay := ((zca _).1 p3).1 i hi
 have hkey : place i.key = true := by
  simp only [zba, Bool.and_eq_true] at hmay
  exact hmay.1.1.1
 have hown := zsi p2 hkey
 unfold zf3 at hs
 have hto : ∀ t, t = (if (zbw x.view i.key).1 = x.view.id then (zn9 x.view).1 else (zbw x.view i.key).1) → t ≠ x.view.id → ∃ q ∈ x.view.peers, q.id = t := by
  rintro t rfl hne
  rw [hown]
  simp only
  rw [hown] at hne
  simp only at hne
  split
  ·rename_i h1
   rw [if_pos h1] at hne
   unfold zn9 at hne ⊢
   rw [if_pos p2] at hne ⊢
   cases hps : x.view.peers with
   | nil => rw [hps] at hne; exact absurd rfl hne
   | cons p ps => exact ⟨p, by simp, rfl⟩
  ·rename_i h1
   rcases qbp x.view i.key with h2 | h2
   ·exact absurd h2 h1
   ·exact h2
 generalize (if (zbw x.view i.key).1 = x.view.id then (zn9 x.view).1 else (zbw x.view i.key).1) = t at *
 by_cases hc : t = x.view.id
 ·rw [if_pos hc] at hs; cases hs
 ·rw [if_neg hc] at hs
  cases hs
  obtain ⟨q, hq, hqt⟩ := hto t rfl hc
  have hqp := (zdo (za1 p2).1 q hq).1
  rw [hqt] at hqp
  constructor
  ·simp [zbs, zen p2, hqp, Ne.symm hc, hmay]
  ·intro j hj
   simp only [zb7, List.mem_cons, List.not_mem_nil, or_false] at hj
   rcases hj with rfl | rfl
   ·exact .inl rfl
   ·exact .inr (zc7.2 (.inl ⟨q, hq, hqt⟩))
theorem z6r {x : Node} (h : zcj x = true) : zcj (zdp x) = true ∧ (zis x).length ≤ 512 ∧ ∀ m ∈ zis x, zbs m = true ∧ ∀ i ∈ zb7 m, i = x.view.id ∨ i ∈ zbm x.view := by
 obtain ⟨p1, p2, p3, p4, p5⟩ := zbi h
 obtain ⟨v1, v2, v3⟩ := zjd p2
 obtain ⟨l1, l2, l3, l4⟩ := zjw h
 have hu : zcj (zdp x) = true := zn1 p1 v1 p3 p4 p5
 refine ⟨hu, ?_, fun m hm => ?_⟩
 ·have h1 : (zb5 (zdp x)).1.length ≤ x.items.length := by
   unfold zb5
   rw [hu]
   exact List.length_filterMap_le ..
  have h2 := (za1 v1).2.2.1
  simp [zis, zgx]
  omega
 ·rcases List.mem_append.1 hm with hm | hm
  ·obtain ⟨to, ht, rfl⟩ := List.mem_map.1 hm
   obtain ⟨a, b⟩ := qab v1 ht
   refine ⟨a, fun i hi => ?_⟩
   rcases b i hi with rfl | hi
   ·exact .inl rfl
   ·exact .inr ((ziy p2 i).1 hi)
  ·obtain ⟨a, b⟩ := qep hu hm
   refine ⟨a, fun i hi => ?_⟩
   rcases b i hi with rfl | hi
   ·exact .inl rfl
   ·exact .inr ((ziy p2 i).1 hi)
end Go.AM
/- AM: every act: the world that it makes may be, and its nodes forget nothing. -/
namespace Go.AM
end Go.AM
/- AM: every act, the rest: a get, a packet delivered. -/
namespace Go.AM
theorem qcj {x : Node} {t : Told} (hu : zcj x = true) (ht : zdf t = false) : zcg { x with log := zde x t } = true ∧ NRel x { x with log := zde x t } := by
 obtain ⟨h1, h2, h3, h4, h5⟩ := zbi hu
 obtain ⟨l1, l2⟩ := qdq h4 h5 ht
 exact ⟨zk7 (zn1 h1 h2 h3 l1 l2), ⟨rfl, fun _ _ => z4e h3, fun _ _ n hn => hn⟩⟩
theorem qi9 {x : Node} {k : Int} (hu : zcj x = true) (hk : place k = true) (hne : (zbw x.view k).1 ≠ x.view.id) : zbs (zjp x (zbw x.view k).1 k) = true ∧ ∀ i ∈ zb7 (zjp x (zbw x.view k).1 k), i = x.view.id ∨ i ∈ zbm x.view := by
 obtain ⟨h1, h2, h3, h4, h5⟩ := zbi hu
 have hown := zsi h2 hk
 rw [hown] at hne ⊢
 simp only at hne ⊢
 rcases qbp x.view k with h6 | ⟨q, hq, hqt⟩
 ·exact absurd h6 hne
 ·have hqp := (zdo (za1 h2).1 q hq).1
  rw [hqt] at hqp
  refine ⟨by simp [zbs, zjp, zen h2, hqp, Ne.symm hne, hk], fun i hi => ?_⟩
  simp only [zb7, zjp, List.mem_cons, List.not_mem_nil, or_false] at hi
  rcases hi with rfl | rfl
  ·exact .inl rfl
  ·exact .inr (zc7.2 (.inl ⟨q, hq, hqt⟩))
end Go.AM
/- AM: plain: whom nodes know, round by round. -/
namespace Go.AM
def Pk (v : View) (n k : Int) : Prop := ∃ q ∈ v.peers, q.id = n ∧ q.missed ≤ k
theorem Pk.name {v : View} {n k : Int} (h : Pk v n k) : n ∈ zbm v := by
 obtain ⟨q, hq, he, _⟩ := h
 exact zc7.2 (.inl ⟨q, hq, he⟩)
theorem Pk.le {v : View} {n k l : Int} (h : Pk v n k) (hl : k ≤ l) : Pk v n l := by
 obtain ⟨q, hq, he, hm⟩ := h
 exact ⟨q, hq, he, by omega⟩
def Kn (w : Wld) (i j : Int) : Prop := ∃ x ∈ w.nodes, x.view.id = i ∧ j ∈ zbm x.view
def Fr (w : Wld) (i j k : Int) : Prop := ∃ x ∈ w.nodes, x.view.id = i ∧ Pk x.view j k
theorem Fr.kn {w : Wld} {i j k : Int} (h : Fr w i j k) : Kn w i j := by
 obtain ⟨x, hx, he, hp⟩ := h
 exact ⟨x, hx, he, hp.name⟩
structure Brings (w v : Wld) : Prop where
 keeps : ∀ i j, Kn w i j → Kn v i j
 back : ∀ i j, Kn w i j → Fr v j i 0
 tells : ∀ i j k, Kn w i j → Fr w i k 1 → k ≠ j → Kn v j k
 fresh : w.packets = [] → ∀ i j, Kn v i j → Kn w i j ∨ Fr v i j 0
 stays : ∀ i j, Fr w i j 0 → Fr v i j 1
def Near (w : Wld) (i j : Int) : Prop := i = j ∨ Kn w i j ∨ Kn w j i
theorem Near.symm {w : Wld} {i j : Int} (h : Near w i j) : Near w j i := by
 rcases h with h | h | h
 ·exact .inl h.symm
 ·exact .inr (.inr h)
 ·exact .inr (.inl h)
def Dist (w : Wld) : Nat → Int → Int → Prop
 | 0, i, j => i = j
 | d + 1, i, j => ∃ m, Dist w d i m ∧ Near w m j
theorem Dist.one {w : Wld} {i j : Int} : Dist w 1 i j ↔ Near w i j := by
 constructor
 ·rintro ⟨m, rfl, h⟩; exact h
 ·intro h; exact ⟨i, rfl, h⟩
theorem Dist.step {w : Wld} {d : Nat} {i m j : Int} (h1 : Near w i m) : Dist w d m j → Dist w (d + 1) i j := by
 induction d generalizing j with
 | zero => rintro rfl; exact Dist.one.2 h1
 | succ d ih => rintro ⟨z, hz, hn⟩; exact ⟨z, ih hz, hn⟩
theorem Dist.symm {w : Wld} : ∀ {d : Nat} {i j : Int}, Dist w d i j → Dist w d j i := by
 intro d
 induction d with
 | zero => intro i j h; exact Eq.symm h
 | succ d ih =>
   rintro i j ⟨m, hm, hn⟩
   exact Dist.step hn.symm (ih hm)
theorem Dist.split {w : Wld} {a b : Nat} {i j : Int} (h : Dist w (a + b) i j) : ∃ m, Dist w a i m ∧ Dist w b m j := by
 induction b generalizing j with
 | zero => exact ⟨j, h, rfl⟩
 | succ b ih =>
   obtain ⟨z, hz, hn⟩ := h
   obtain ⟨m, h1, h2⟩ := ih hz
   exact ⟨m, h1, z, h2, hn⟩
theorem Dist.more {w : Wld} {d : Nat} {i j : Int} (h : Dist w d i j) : Dist w (d + 1) i j := ⟨j, h, .inl rfl⟩
theorem Dist.le {w : Wld} {d e : Nat} {i j : Int} (h : Dist w d i j) (hl : d ≤ e) : Dist w e i j := by
 induction e with
 | zero =>
   obtain rfl : d = 0 := by omega
   exact h
 | succ e ih =>
   by_cases he : d = e + 1
   ·subst he; exact h
   ·exact (ih (by omega)).more
theorem z5n {α : Type} {p q : α → Bool} : ∀ (xs : List α), (∀ x ∈ xs, p x = true → q x = true) → (∃ x ∈ xs, q x = true ∧ p x = false) → (xs.filter p).length + 1 ≤ (xs.filter q).length := by
 intro xs
 induction xs with
 | nil => rintro _ ⟨x, hx, _⟩; cases hx
 | cons x xs ih =>
   intro h1 h2
   have hle : ∀ (ys : List α), (∀ x ∈ ys, p x = true → q x = true) → (ys.filter p).length ≤ (ys.filter q).length := by
    intro ys
    induction ys with
    | nil => intro _; simp
    | cons y ys ih2 =>
      intro h
      have i2 := ih2 fun z hz => h z (by simp [hz])
      have hy := h y (by simp)
      simp only [List.filter_cons]
      cases hp : p y with
      | false => cases hq : q y <;> simp <;> omega
      | true => rw [hy hp]; simp; omega
   have hl := hle xs fun z hz => h1 z (by simp [hz])
   obtain ⟨z, hz, hq, hp⟩ := h2
   rcases List.mem_cons.1 hz with rfl | hz
   ·simp only [List.filter_cons, hq, hp]; simp; omega
   ·have i2 := ih (fun y hy => h1 y (by simp [hy])) ⟨z, hz, hq, hp⟩
    have hx := h1 x (by simp)
    simp only [List.filter_cons]
    cases hpx : p x with
    | false => cases hqx : q x <;> simp <;> omega
    | true => rw [hx hpx]; simp; omega
open Classical in
theorem qd8 {w : Wld} {S : List Int} {i : Int} (hi : i ∈ S) (hS : ∀ a b, Near w a b → a ∈ S → b ∈ S) : ∀ d, (∀ j, Dist w (d + 1) i j → Dist w d i j) ∨ d + 1 ≤ (S.filter fun j => decide (Dist w d i j)).length := by
 have hin : ∀ d j, Dist w d i j → j ∈ S := by
  intro d
  induction d with
  | zero => rintro j rfl; exact hi
  | succ d ih => rintro j ⟨m, hm, hn⟩; exact hS m j hn (ih m hm)
 intro d
 induction d with
 | zero =>
   right
   have : i ∈ S.filter fun j => decide (Dist w 0 i j) := List.mem_filter.2 ⟨hi, by simp [Dist]⟩
   have := List.length_pos_of_mem this
   omega
 | succ d ih =>
   rcases ih with h | h
   ·left
    rintro j ⟨m, hm, hn⟩
    exact ⟨m, h m hm, hn⟩
   ·by_cases hc : ∀ j, Dist w (d + 1) i j → Dist w d i j
    ·left
     rintro j ⟨m, hm, hn⟩
     exact ⟨m, hc m hm, hn⟩
    ·right
     have : ∃ j, Dist w (d + 1) i j ∧ ¬ Dist w d i j := by
      apply Classical.byContradiction
      intro hn
      exact hc fun j hj => Classical.byContradiction fun hh => hn ⟨j, hj, hh⟩
     obtain ⟨j, h1, h2⟩ := this
     have := z5n (p := fun j => decide (Dist w d i j)) (q := fun j => decide (Dist w (d + 1) i j)) S (fun x _ hx => by simpa using (Dist.more (by simpa using hx))) ⟨j, hin _ _ h1, by simpa using h1, by simpa using h2⟩
     omega
theorem qd4 {w : Wld} {S : List Int} {i : Int} (hi : i ∈ S) (hS : ∀ a b, Near w a b → a ∈ S → b ∈ S) (hl : S.length ≤ 8) {d : Nat} {j : Int} (h : Dist w d i j) : Dist w 8 i j := by
 rcases qd8 hi hS 8 with h8 | h8
 ·have : ∀ e, ∀ j, Dist w (8 + e) i j → Dist w 8 i j := by
   intro e
   induction e with
   | zero => intro j h; exact h
   | succ e ih =>
     rintro j ⟨m, hm, hn⟩
     exact h8 j ⟨m, ih m hm, hn⟩
  by_cases hd : d ≤ 8
  ·exact h.le hd
  ·obtain ⟨e, rfl⟩ : ∃ e, d = 8 + e := ⟨d - 8, by omega⟩
   exact this e j h
 ·have := List.length_filter_le (fun j => @decide (Dist w 8 i j) (Classical.propDecidable _)) S
  omega
structure Rounds (s : Nat → Wld) (n : Nat) : Prop where
 brings : ∀ t, t < n → Brings (s t) (s (t + 1))
 empty : ∀ t, t < n → (s (t + 1)).packets = []
def KK (s : Nat → Wld) (t d : Nat) : Prop := ∀ i j, Dist (s 0) d i j → i ≠ j → Kn (s t) i j
def FF (s : Nat → Wld) (t d : Nat) : Prop := ∀ i j, Dist (s 0) d i j → i ≠ j → Fr (s t) i j 0
theorem qg7 {s : Nat → Wld} {n t d : Nat} (h : Rounds s n) (ht : t < n) (hk : KK s t d) : KK s (t + 1) d := fun i j hd hn => (h.brings t ht).keeps i j (hk i j hd hn)
theorem zzj {s : Nat → Wld} {n t d : Nat} (h : Rounds s n) (ht : t < n) (hk : KK s t d) : FF s (t + 1) d := fun i j hd hn => (h.brings t ht).back j i (hk j i hd.symm (Ne.symm hn))
theorem z66 {s : Nat → Wld} {n t a b : Nat} (h : Rounds s n) (ht : t < n) (hk : KK s t a) (hf : FF s t b) : KK s (t + 1) (a + b) := by
 intro j k hd hn
 have hb := h.brings t ht
 obtain ⟨i, h1, h2⟩ := hd.split
 by_cases e1 : j = i
 ·subst e1; exact hb.keeps _ _ (hf _ _ h2 hn).kn
 ·by_cases e2 : i = k
  ·subst e2; exact hb.keeps _ _ (hk _ _ h1 hn)
  ·have f := hf i k h2 e2
   obtain ⟨x, hx, he, hp⟩ := f
   exact hb.tells i j k (hk i j h1.symm (Ne.symm e1)) ⟨x, hx, he, hp.le (by omega)⟩ (Ne.symm hn)
theorem qih {s : Nat → Wld} {n : Nat} (h : Rounds s n) (hn : 0 < n) : KK s 1 1 := by
 intro i j hd hne
 have hb := h.brings 0 hn
 rcases Dist.one.1 hd with h1 | h1 | h1
 ·exact absurd h1 hne
 ·exact hb.keeps _ _ h1
 ·exact (hb.back _ _ h1).kn
theorem qif {s : Nat → Wld} {n : Nat} (h : Rounds s n) (hn : 6 ≤ n) : KK s 6 8 := by
 have k1 := qih h (by omega)
 have k2 := qg7 h (show 1 < n by omega) k1
 have f2 := zzj h (show 1 < n by omega) k1
 have k3 := z66 h (show 2 < n by omega) k2 f2
 have f3 := zzj h (show 2 < n by omega) k2
 have k4 := z66 h (show 3 < n by omega) k3 f3
 have f4 := zzj h (show 3 < n by omega) k3
 have k5 := z66 h (show 4 < n by omega) k4 f4
 have f5 := zzj h (show 4 < n by omega) k4
 exact z66 h (show 5 < n by omega) k5 f5
def FullW (S : List Int) (w : Wld) : Prop := ∀ i ∈ S, ∀ j ∈ S, i ≠ j → Fr w i j 1
theorem qe7 {s : Nat → Wld} {n : Nat} (h : Rounds s n) (hn : 6 ≤ n) {S : List Int} (hc : ∀ i ∈ S, ∀ j ∈ S, Dist (s 0) 8 i j) : FullW S (s 6) := by
 intro i hi j hj hne
 have k6 := qif h hn i j (hc i hi j hj) hne
 have b4 := h.brings 4 (by omega)
 have b5 := h.brings 5 (by omega)
 have wk : ∀ w, Fr w i j 0 → Fr w i j 1 := by
  rintro w ⟨x, hx, he, hp⟩
  exact ⟨x, hx, he, hp.le (by omega)⟩
 rcases b5.fresh (h.empty 4 (by omega)) i j k6 with k5 | f
 ·rcases b4.fresh (h.empty 3 (by omega)) i j k5 with k4 | f
  ·exact wk _ (b5.back _ _ (b4.back _ _ k4).kn)
  ·exact b5.stays _ _ f
 ·exact wk _ f
theorem qc8 {w v : Wld} {S : List Int} (h : Brings w v) (hf : FullW S w) : FullW S v := by
 intro i hi j hj hne
 obtain ⟨x, hx, he, hp⟩ := h.back _ _ (hf j hj i hi (Ne.symm hne)).kn
 exact ⟨x, hx, he, hp.le (by omega)⟩
end Go.AM
/- AM: plain: what a greeting and a tick bring. -/
namespace Go.AM
theorem z2z {α : Type} [DecidableEq α] : ∀ (xs ys : List α), xs.Nodup → (∀ x ∈ xs, x ∈ ys) → xs.length ≤ ys.length := by
 intro xs
 induction xs with
 | nil => intro ys _ _; simp
 | cons x xs ih =>
   intro ys hn hs
   rw [List.nodup_cons] at hn
   have hx := hs x (by simp)
   have := ih (ys.erase x) hn.2 fun y hy => (List.mem_erase_of_ne (fun e => hn.1 (by rw [← e]; exact hy))).2 (hs y (by simp [hy]))
   rw [List.length_erase_of_mem hx] at this
   have := List.length_pos_of_mem hx
   simp; omega
theorem z5f {v : View} (h : zbd v = true) : (zbm v).Nodup := by
 obtain ⟨h1, h2, h3, h4⟩ := za1 h
 refine List.nodup_append.2 ⟨?_, ?_, ?_⟩
 ·unfold List.Nodup
  rw [List.pairwise_map]
  refine (zb9.1 h1).2.2.2.imp ?_
  intro a b hab he
  rw [he] at hab
  omega
 ·exact ((zcy _).1 h2).1.imp fun hab e => by omega
 ·rintro a ha b hb rfl
  exact (h4 a hb).2 ha
def Among (S : List Int) (v : View) : Prop := zbd v = true ∧ ∀ n ∈ zbm v, n ∈ S
theorem zxa {S : List Int} {v : View} (hl : S.length ≤ 8) (h : Among S v) (x : Int) : zh0 v x = true := by
 have := z2z _ _ (z5f h.1) h.2
 unfold zh0
 have e : v.peers.length + v.passive.length = (zbm v).length := by simp [zbm]
 rw [e, decide_eq_true (show (zbm v).length < 16 by omega)]
 simp
structure Grows (v u : View) : Prop where
 id : u.id = v.id
 names : ∀ n ∈ zbm v, n ∈ zbm u
 peers : ∀ n k, 0 ≤ k → Pk v n k → Pk u n k
 new : ∀ n ∈ zbm u, n ∈ zbm v ∨ Pk u n 0
theorem Grows.refl (v : View) : Grows v v := ⟨rfl, fun _ h => h, fun _ _ _ h => h, fun _ h => .inl h⟩
theorem Grows.trans {a b c : View} (h : Grows a b) (g : Grows b c) : Grows a c := by
 refine ⟨g.id.trans h.id, fun n hn => g.names n (h.names n hn), fun n k hk hp => g.peers n k hk (h.peers n k hk hp), fun n hn => ?_⟩
 rcases g.new n hn with h1 | h1
 ·rcases h.new n h1 with h2 | h2
  ·exact .inl h2
  ·exact .inr (g.peers n 0 (by omega) h2)
 ·exact .inr h1
theorem zti (v : View) (x : Int) : Grows v (zdl v x) := by
 cases hr : zh0 v x with
 | false => rw [zkn hr]; exact .refl v
 | true =>
   refine ⟨zi1 v x, (zhw v x).2, fun n k hk => ?_, fun n hn => ?_⟩
   ·rintro ⟨q, hq, rfl, hm⟩
    by_cases he : q.id = x
    ·exact ⟨⟨x, 0⟩, (zdy hr _).2 (.inl rfl), he.symm, hk⟩
    ·exact ⟨q, (zdy hr _).2 (.inr ⟨hq, he⟩), rfl, hm⟩
   ·rcases (zhw v x).1 n hn with rfl | h
    ·exact .inr ⟨⟨n, 0⟩, (zdy hr _).2 (.inl rfl), rfl, by simp⟩
    ·exact .inl h
theorem z5r (v : View) (x : Int) : Grows v (zep v x) := by
 unfold zep
 split
 ·exact zti v x
 ·exact .refl v
theorem zp1 : ∀ (ids : List Int) (v : View), Grows v (ids.foldl zep v) := by
 intro ids
 induction ids with
 | nil => intro v; exact .refl v
 | cons x ids ih => intro v; exact (z5r v x).trans (ih (zep v x))
theorem zs0 (v : View) (a : Int) (ids : List Int) : Grows v (zci v a ids) := (zti v a).trans (zp1 ids _)
theorem z92 {S : List Int} (hl : S.length ≤ 8) : ∀ (ids : List Int) (v : View), Among S v → (∀ x ∈ ids, place x = true ∧ x ∈ S) → ∀ k ∈ ids, k ≠ v.id → k ∈ zbm (ids.foldl zep v) := by
 intro ids
 induction ids with
 | nil => intro v _ _ k hk; cases hk
 | cons x ids ih =>
   intro v hv hp k hk hn
   have hA : Among S (zep v x) := ⟨z2a hv.1 (hp x (by simp)).1, fun n hn => by
    rcases (zur v x).1 n hn with rfl | h
    ·exact (hp n (by simp)).2
    ·exact hv.2 n h⟩
   by_cases hkx : k = x
   ·subst hkx
    refine (zp1 ids _).names k ?_
    unfold zep
    cases hkn : zm1 v k with
    | true =>
      rw [if_neg (by simp)]
      exact zc7.2 (by simpa using (zx2 v k).1 hkn)
    | false =>
      rw [if_pos (by simp [hn])]
      exact zc7.2 (.inl ⟨⟨k, 0⟩, (zdy (zxa hl hv k) _).2 (.inl rfl), rfl⟩)
   ·rcases List.mem_cons.1 hk with e | hk
    ·exact absurd e hkx
    ·exact ih _ hA (fun y hy => hp y (by simp [hy])) k hk (by rw [z6y]; exact hn)
theorem z3w {S : List Int} (hl : S.length ≤ 8) {v : View} {a : Int} {ids : List Int} (h : Among S v) (hp : place a = true) (ha : a ∈ S) (hne : a ≠ v.id) (hi : ∀ x ∈ ids, place x = true ∧ x ∈ S) :
 Pk (zci v a ids) a 0 ∧ ∀ k ∈ ids, k ≠ v.id → k ∈ zbm (zci v a ids) := by
 have hr := zxa hl h a
 have hA : Among S (zdl v a) := ⟨(zk2 h.1 hp hne).1, fun n hn => by
  rcases (zhw v a).1 n hn with rfl | h2
  ·exact ha
  ·exact h.2 n h2⟩
 refine ⟨(zp1 ids _).peers a 0 (by omega) ⟨⟨a, 0⟩, (zdy hr _).2 (.inl rfl), rfl, by simp⟩, fun k hk hn => ?_⟩
 exact z92 hl ids _ hA hi k hk (by rw [zi1]; exact hn)
theorem z3f {v : View} {n k : Int} (h : Pk v n k) (hk : k ≤ 1) : Pk (ageV v) n (k + 1) := by
 obtain ⟨q, hq, rfl, hm⟩ := h
 refine ⟨⟨q.id, q.missed + 1⟩, ?_, rfl, by show q.missed + 1 ≤ k + 1; omega⟩
 exact List.mem_map.2 ⟨q, List.mem_filter.2 ⟨hq, by simp; omega⟩, rfl⟩
theorem z18 {v : View} (h : zbd v = true) {j : Int} (hj : j ∈ zbm v) : j ∈ zgx (ageV v) := (ziy h j).2 hj
end Go.AM
/- AM: acts in a world in which all are up and nothing is cut, told exactly. -/
namespace Go.AM
structure Fine (S : List Int) (w : Wld) : Prop where
 may : May w
 up : ∀ x ∈ w.nodes, x.up = true
 cuts : w.cuts = []
 ids : idsN w.nodes = S
theorem Fine.node {S : List Int} {w : Wld} (h : Fine S w) {x : Node} (hx : x ∈ w.nodes) : zcj x = true := by
 simp only [zcj, Bool.and_eq_true]
 exact ⟨h.up x hx, h.may.node hx⟩
theorem Fine.len {S : List Int} {w : Wld} (h : Fine S w) : w.nodes.length = S.length := by rw [← h.ids]; simp [idsN]
theorem Fine.few {S : List Int} {w : Wld} (h : Fine S w) : S.length ≤ 8 := by rw [← h.len]; exact (zb1 h.may.nodes).2.2.2
theorem Fine.pair {S : List Int} {w : Wld} (h : Fine S w) : w.nodes.Pairwise (fun x y => x.view.id < y.view.id) := (zb1 h.may.nodes).2.1
theorem zt2 {ns : List Node} (h : ns.Pairwise (fun x y => x.view.id < y.view.id)) {P Q : Nat} {x y : Node} (hx : ns[P]? = some x) (hy : ns[Q]? = some y) (he : x.view.id = y.view.id) : P = Q := by
 obtain ⟨h1, rfl⟩ := List.getElem?_eq_some_iff.1 hx
 obtain ⟨h2, rfl⟩ := List.getElem?_eq_some_iff.1 hy
 rw [List.pairwise_iff_getElem] at h
 rcases Nat.lt_trichotomy P Q with hl | hl | hl
 ·have := h P Q h1 h2 hl; omega
 ·exact hl
 ·have := h Q P h2 h1 hl; omega
theorem znh {ns : List Node} (h : ns.Pairwise (fun x y => x.view.id < y.view.id)) {x y : Node} (hx : x ∈ ns) (hy : y ∈ ns) (he : x.view.id = y.view.id) : x = y := by
 obtain ⟨P, hP⟩ := List.getElem?_of_mem hx
 obtain ⟨Q, hQ⟩ := List.getElem?_of_mem hy
 have := zt2 h hP hQ he
 subst this
 rw [hP] at hQ
 exact Option.some.inj hQ
def TurnM (x : Node) (m : Msg) (y : Node) (ms : List Msg) : Prop :=
 (m.kind = 0 ∧ y = { x with view := zci x.view m.from_ m.ids } ∧ ms = []) ∨ (m.kind = 1 ∧ y = ze5 x m.item ∧ ms = []) ∨
   (m.kind = 2 ∧ y = x ∧ ms = [ze7 x m]) ∨ (m.kind = 3 ∧ y = { x with log := zde x (mT m) } ∧ ms = [])
def Del (S : List Int) (w v : Wld) : Prop :=
 Fine S v ∧ ∃ (m : Msg) (ps : List Msg) (P : Nat) (x y : Node) (ms : List Msg), w.packets = m :: ps ∧ w.nodes[P]? = some x ∧ x.view.id = m.to ∧ zbs m = true ∧ (∀ i ∈ zb7 m, i ∈ S) ∧ TurnM x m y ms ∧ v = ⟨w.nodes.set P y, [], ps ++ ms⟩
def delA : Act := ⟨1, 0, 0, 0, [], 0, 0⟩
def tickA (id : Int) : Act := ⟨0, id, 0, 0, [], 0, 0⟩
def Tik (S : List Int) (P : Nat) (w v : Wld) : Prop := Fine S v ∧ ∃ x, w.nodes[P]? = some x ∧ v = zc5 ⟨w.nodes.set P (zdp x), [], w.packets⟩ (zis x)
theorem qg1 (a b : Int) : (isC [] a b).1 = false := by
 unfold isC
 split <;> simp
theorem ztz {S : List Int} {w : Wld} (h : Fine S w) {P : Nat} {x y : Node} (hx : w.nodes[P]? = some x) (hu : y.up = true) (hid : y.view.id = x.view.id) {ps : List Msg} (hm : May ⟨w.nodes.set P y, w.cuts, ps⟩) : Fine S ⟨w.nodes.set P y, [], ps⟩ := by
 refine ⟨by rw [h.cuts] at hm; exact hm, fun z hz => ?_, rfl, ?_⟩
 ·rcases zol hz with rfl | hz
  ·exact hu
  ·exact h.up z hz
 ·show idsN (w.nodes.set P y) = S
  rw [zq8 hx hid, h.ids]
theorem qg2 {S : List Int} {w : Wld} (hF : Fine S w) (hne : w.packets ≠ []) : ∃ v, Den PP 20 [wldD w, actD delA] [] (.tup [wldD v, .int .i64 0]) [] ∧ Del S w v := by
 have hM := hF.may
 have hw := zfr.2 hM
 have h : mayA w delA = true := rfl
 have hi : delA.ids.length ≤ cap := by simp [delA, cap]
 have h0 : (0 : Int) ≤ delA.pick := by simp [delA]
 have hp : delA.pick ≤ 65535 := by simp [delA]
 obtain ⟨m, ps, hps⟩ : ∃ m ps, w.packets = m :: ps := by
  cases hc : w.packets with
  | nil => exact absurd hc hne
  | cons m ps => exact ⟨m, ps, rfl⟩
 have hpp : zdt w delA = 0 := by simp [zdt, delA]
 have hleft : zfh w 0 = ps := by simp [zfh, hps]
 have hm : w.packets[zdt w delA]? = some m := by rw [hpp, hps]; rfl
 obtain ⟨mm, hnm⟩ := hM.inM m (List.mem_of_getElem? hm)
 have hto : m.to ∈ idsN w.nodes := hnm m.to (by simp [zb7])
 have hn := (zud hM.nodes).2 hto
 obtain ⟨x, hx, hid⟩ := zzs hn
 have hr := zha hM.nodes m.to
 have hxm := List.mem_of_getElem? hx
 have hlen := hM.len
 rw [hps, List.length_cons] at hlen
 have hlm : ∀ u ∈ zfh w (zdt w delA), zbs u = true ∧ ∀ i ∈ zb7 u, i ∈ idsN w.nodes := fun u hu => hM.inM u (qe8 hu)
 have hcut : (isC w.cuts m.from_ m.to).1 = false := by rw [hF.cuts]; exact qg1 _ _
 have hu := hF.node hxm
 have hb : doB x m = true := by simp [doB, hu, mm, hid]
 have hmt : m.to = x.view.id := hid.symm
 obtain ⟨p1, p2, p3, p4, p5⟩ := zbi hu
 have fin : ∀ (y : Node) (ms : List Msg), zcg y = true → y.up = true → y.view.id = x.view.id → (∀ i ∈ zee y, i ∈ idsN w.nodes) → (∀ u ∈ ms, zbs u = true ∧ ∀ i ∈ zb7 u, i ∈ idsN w.nodes) → ms.length ≤ 1 → TurnM x m y ms →
  (za9 ⟨w.nodes.set (posN m.to w.nodes) y, w.cuts, zfh w (zdt w delA)⟩ = true → za9 ⟨w.nodes.set (posN m.to w.nodes) y, w.cuts, ms⟩ = true →
    Den PP 60 [.ptr 0 0 0, .ptr 4 0 0] (actB w delA) (.tup []) (doS ⟨w.nodes.set (posN m.to w.nodes) y, w.cuts, zfh w (zdt w delA)⟩ (zc5 ⟨w.nodes.set (posN m.to w.nodes) y, w.cuts, zfh w (zdt w delA)⟩ ms) w.packets delA)) →
  ∃ v, Den PP 20 [wldD w, actD delA] [] (.tup [wldD v, .int .i64 0]) [] ∧ Del S w v := by
  intro y ms hy hyu hid2 hny hms hml ht hd
  rw [hpp, hleft] at hd hlm
  have q1 := hM.set hx hy hid2 hny (ps := ps) (by omega) hlm
  have q2 := hM.set hx hy hid2 hny (ps := ms) (by omega) hms
  have e := zq8 (y := y) hx hid2
  have q3 := q1.send (ms := ms) (fun u hu => ⟨(hms u hu).1, fun i hi => by show i ∈ idsN (w.nodes.set _ _); rw [e]; exact (hms u hu).2 i hi⟩)
  have es : zc5 ⟨w.nodes.set (posN m.to w.nodes) y, w.cuts, ps⟩ ms = ⟨w.nodes.set (posN m.to w.nodes) y, w.cuts, ps ++ ms⟩ := by
   unfold zc5
   simp only
   rw [List.take_of_length_le (by omega)]
  rw [es] at hd q3
  have hf := ztz hF hx hyu hid2 q3
  refine ⟨⟨w.nodes.set (posN m.to w.nodes) y, w.cuts, ps ++ ms⟩, qb9 w delA hi hw h rfl _ _ _ (hd (zfr.2 q1) (zfr.2 q2)), ?_⟩
  rw [hF.cuts]
  exact ⟨hf, m, ps, _, x, y, ms, hps, hx, hid, mm, fun i hi => by rw [← hF.ids]; exact hnm i hi, ht, rfl⟩
 have hnx : ∀ i ∈ zee x, i ∈ idsN w.nodes := hM.inN x hxm
 rcases z79 mm with hkm | hkm | hkm | hkm
 ·have hok := zy2 hu mm hkm hmt
  obtain ⟨v1, v2⟩ := zr1 hok
  obtain ⟨n1, n2⟩ := z2b x.view m.from_ m.ids
  refine fin { x with view := zci x.view m.from_ m.ids } [] (zk7 (zn1 p1 v1 p3 p4 p5)) p1 v2 (fun i hi => ?_) (by simp) (by simp) (.inl ⟨hkm, rfl, rfl⟩) (zws w delA m x hw h0 hp hm hr hcut hn hx hb hkm)
  rcases n1 i hi with rfl | hi | hi
  ·exact hnm m.from_ (by simp [zb7])
  ·exact hnm i (by simp [zb7, hi])
  ·exact hnx i hi
 ·have hvw : (ze5 x m.item).view = x.view ∧ (ze5 x m.item).up = x.up := by unfold ze5; split <;> exact ⟨rfl, rfl⟩
  refine fin (ze5 x m.item) [] (zk7 (qdo hu)) (hvw.2.trans p1) (by rw [hvw.1]) (fun i hi => ?_) (by simp) (by simp) (.inr (.inl ⟨hkm, rfl, rfl⟩)) (zwq w delA m x hw h0 hp hm hr hcut hn hx hb hkm)
  have hi : i ∈ zbm (ze5 x m.item).view := hi
  rw [hvw.1] at hi
  exact hnx i hi
 ·refine fin x [ze7 x m] (hM.node hxm) p1 rfl hnx (fun u hu' => ?_) (by simp) (.inr (.inr (.inl ⟨hkm, rfl, rfl⟩))) (zwv w delA m x hw h0 hp hm hr hcut hn hx hb hkm)
  rw [List.mem_singleton.1 hu']
  have mm' := mm
  simp [zbs, hkm] at mm'
  obtain ⟨f1, f2, f3, ⟨⟨_, f4⟩, _⟩, _⟩ := mm'
  have hne : ¬ x.view.id = m.from_ := fun e => f3 (by rw [hmt]; exact e.symm)
  constructor
  ·rw [hmt] at f2
   rcases qbs p3 m.key with e | ⟨i, _, hik, hi, e⟩
   ·simp [zbs, ze7, e, f1, f2, f4, hne]
   ·simp [zbs, ze7, e, f1, f2, f4, hne, hi, hik]
  ·intro i hi
   simp only [zb7, ze7, List.mem_cons, List.not_mem_nil, or_false] at hi
   rcases hi with rfl | rfl
   ·exact zek.2 ⟨x, hxm, rfl⟩
   ·exact hnm m.from_ (by simp [zb7])
 ·have ht : zdf (mT m) = false := by
   have mm' := mm
   simp [zbs, hkm] at mm'
   obtain ⟨_, _, _, ⟨_, f4⟩, f5⟩ := mm'
   refine z1v f4 fun hh => ?_
   rw [hh] at f5
   simp at f5
   exact f5.1
  obtain ⟨l1, l2⟩ := qcj hu ht
  exact fin { x with log := zde x (mT m) } [] l1 p1 rfl hnx (by simp) (by simp) (.inr (.inr (.inr ⟨hkm, rfl, rfl⟩))) (zw0 w delA m x hw h0 hp hm hr hcut hn hx hb hkm)
theorem qde {S : List Int} {w : Wld} (hF : Fine S w) {P : Nat} {x : Node} (hx : w.nodes[P]? = some x) : ∃ v, Den PP 20 [wldD w, actD (tickA x.view.id)] [] (.tup [wldD v, .int .i64 0]) [] ∧ Tik S P w v := by
 have hM := hF.may
 have hw := zfr.2 hM
 have hxm := List.mem_of_getElem? hx
 have hn : isN x.view.id w.nodes = true := (zud hM.nodes).2 (zek.2 ⟨x, hxm, rfl⟩)
 have h : mayA w (tickA x.view.id) = true := by
  unfold mayA tickA
  simp [hn]
 have hi : (tickA x.view.id).ids.length ≤ cap := by simp [tickA, cap]
 obtain ⟨x', hx', hid⟩ := zzs hn
 have hpos : P = posN x.view.id w.nodes := zt2 hF.pair hx hx' hid.symm
 have hr := zha hM.nodes x.view.id
 have hu := hF.node hxm
 obtain ⟨t1, t2, t3⟩ := z6r hu
 have hv := (zbi hu).2.1
 have hin : ∀ i, i = x.view.id ∨ i ∈ zbm x.view → i ∈ idsN w.nodes := by
  rintro i (rfl | hi)
  ·exact zek.2 ⟨x, hxm, rfl⟩
  ·exact hM.inN x hxm i hi
 have hn1 : ∀ i ∈ zee (zdp x), i ∈ idsN w.nodes := fun i hi => hin i (.inr ((ziy hv i).1 hi))
 have hms : ∀ m ∈ zis x, zbs m = true ∧ ∀ i ∈ zb7 m, i ∈ idsN w.nodes := fun m hm => ⟨(t3 m hm).1, fun i hi => hin i ((t3 m hm).2 i hi)⟩
 have m1 := hM.set hx (zk7 t1) rfl hn1 hM.len hM.inM
 have m2 := hM.set hx (zk7 t1) rfl hn1 t2 hms
 have e := zq8 (y := zdp x) hx rfl
 have ms := m1.send (ms := zis x) fun m hm => ⟨(hms m hm).1, fun i hi => by show i ∈ idsN (w.nodes.set _ _); rw [e]; exact (hms m hm).2 i hi⟩
 have hf : Fine S (zc5 ⟨w.nodes.set P (zdp x), w.cuts, w.packets⟩ (zis x)) := by
  have := ztz hF hx (zbi t1).1 rfl (ps := (zc5 ⟨w.nodes.set P (zdp x), w.cuts, w.packets⟩ (zis x)).packets) ms
  unfold zc5 at this ⊢
  rw [hF.cuts]
  exact this
 have hxp := hx
 rw [hpos] at hxp m1 m2
 have hd := qal w (tickA x.view.id) x (zck hw) hr hn hxp hu (zfr.2 m1) (zfr.2 m2)
 rw [show posN (tickA x.view.id).node w.nodes = P from hpos.symm] at hd
 refine ⟨_, qb1 w (tickA x.view.id) hi hw h rfl _ _ _ hd, hf, x, hx, ?_⟩
 rw [hF.cuts]
end Go.AM
/- AM: plain: deliveries, ticks, rounds. -/
namespace Go.AM
def potM (m : Msg) : Nat := if m.kind = 2 then 2 else 1
def pot : List Msg → Nat
 | [] => 0
 | m :: ms => potM m + pot ms
theorem z9v : ∀ (a b : List Msg), pot (a ++ b) = pot a + pot b := by
 intro a
 induction a with
 | nil => intro b; simp [pot]
 | cons m a ih => intro b; simp [pot, ih]; omega
theorem qfn : ∀ (a : List Msg), a.length ≤ pot a ∧ pot a ≤ 2 * a.length := by
 intro a
 induction a with
 | nil => simp [pot]
 | cons m a ih =>
   have : 1 ≤ potM m ∧ potM m ≤ 2 := by unfold potM; split <;> omega
   simp [pot]; omega
theorem qf2 {S : List Int} {w v : Wld} (h : Del S w v) : pot v.packets + 1 = pot w.packets := by
 obtain ⟨hf, m, ps, P, x, y, ms, h1, h2, h3, h4, h5, h6, rfl⟩ := h
 rw [h1]
 show pot (ps ++ ms) + 1 = potM m + pot ps
 rw [z9v]
 rcases h6 with ⟨hk, -, rfl⟩ | ⟨hk, -, rfl⟩ | ⟨hk, -, rfl⟩ | ⟨hk, -, rfl⟩
 ·simp [pot, potM, hk]; omega
 ·simp [pot, potM, hk]; omega
 ·simp [pot, potM, hk, ze7]; omega
 ·simp [pot, potM, hk]; omega
inductive Dels (S : List Int) : Wld → Wld → Prop
 | refl {w : Wld} : Fine S w → Dels S w w
 | snoc {w u v : Wld} : Dels S w u → Del S u v → Dels S w v
theorem Dels.fine {S : List Int} {w v : Wld} (h : Dels S w v) : Fine S v := by
 cases h with
 | refl h => exact h
 | snoc _ h => exact h.1
theorem zvr {S : List Int} {w v : Wld} (h : Dels S w v) : w.packets = [] → v = w := by
 induction h with
 | refl _ => intro _; rfl
 | snoc h1 h2 ih =>
   intro he
   have e := ih he
   subst e
   obtain ⟨_, m, ps, _, _, _, _, hp, _⟩ := h2
   rw [he] at hp
   cases hp
structure PairW (R : Node → Node → Prop) (w v : Wld) : Prop where
 len : v.nodes.length = w.nodes.length
 rel : ∀ (k : Nat) (x y : Node), w.nodes[k]? = some x → v.nodes[k]? = some y → R x y
theorem z09 {R : Node → Node → Prop} (hr : ∀ x, R x x) (w : Wld) : PairW R w w := ⟨rfl, fun k x y hx hy => by rw [hx] at hy; cases hy; exact hr x⟩
theorem zr9 {R : Node → Node → Prop} (ht : ∀ x y z, R x y → R y z → R x z) {a b c : Wld} (h : PairW R a b) (g : PairW R b c) : PairW R a c := by
 refine ⟨g.len.trans h.len, fun k x z hx hz => ?_⟩
 have hk := (List.getElem?_eq_some_iff.1 hx).1
 obtain ⟨y, hy⟩ : ∃ y, b.nodes[k]? = some y := ⟨_, List.getElem?_eq_getElem (by rw [h.len]; exact hk)⟩
 exact ht _ _ _ (h.rel k x y hx hy) (g.rel k y z hy hz)
theorem zyx {R : Node → Node → Prop} (hr : ∀ x, R x x) {w : Wld} {P : Nat} {x y : Node} (hx : w.nodes[P]? = some x) (h : R x y) {cs : List Cut} {ps : List Msg} : PairW R w ⟨w.nodes.set P y, cs, ps⟩ := by
 refine ⟨by simp, fun k u z hu hz => ?_⟩
 have hlt := (List.getElem?_eq_some_iff.1 hx).1
 simp only [List.getElem?_set] at hz
 by_cases hk : P = k
 ·subst hk
  rw [if_pos rfl, if_pos hlt] at hz
  cases hz
  rw [hx] at hu
  cases hu
  exact h
 ·rw [if_neg hk, hu] at hz
  cases hz
  exact hr u
theorem qbg {R : Node → Node → Prop} (hr : ∀ x, R x x) (ht : ∀ x y z, R x y → R y z → R x z) (hs : ∀ x m y ms, TurnM x m y ms → R x y) {S : List Int} {w v : Wld} (h : Dels S w v) : PairW R w v := by
 induction h with
 | refl _ => exact z09 hr _
 | snoc h1 h2 ih =>
   obtain ⟨_, m, ps, P, x, y, ms, _, hx, _, _, _, h6, rfl⟩ := h2
   exact zr9 ht ih (zyx hr hx (hs _ _ _ _ h6))
theorem z7z (x : Node) (i : Item) : (ze5 x i).view = x.view := by unfold ze5; split <;> rfl
def GrowN (x y : Node) : Prop := Grows x.view y.view
theorem zrz {x y : Node} {m : Msg} {ms : List Msg} (h : TurnM x m y ms) : GrowN x y := by
 rcases h with ⟨-, rfl, -⟩ | ⟨-, rfl, -⟩ | ⟨-, rfl, -⟩ | ⟨-, rfl, -⟩
 ·exact zs0 _ _ _
 ·unfold GrowN; rw [z7z]; exact .refl _
 ·exact .refl _
 ·exact .refl _
theorem z15 {S : List Int} {w v : Wld} (h : Dels S w v) : PairW GrowN w v := qbg (R := GrowN) (fun x => Grows.refl _) (fun x y z h g => Grows.trans h g) (fun x m y ms h => zrz h) h
theorem z63 {R : Node → Node → Prop} {w v : Wld} (h : PairW R w v) {x : Node} (hx : x ∈ w.nodes) : ∃ y ∈ v.nodes, R x y := by
 obtain ⟨k, hk, rfl⟩ := List.getElem_of_mem hx
 have hk' : k < v.nodes.length := by rw [h.len]; exact hk
 exact ⟨v.nodes[k], List.getElem_mem hk', h.rel k _ _ (List.getElem?_eq_getElem hk) (List.getElem?_eq_getElem hk')⟩
theorem qef {R : Node → Node → Prop} {w v : Wld} (h : PairW R w v) {y : Node} (hy : y ∈ v.nodes) : ∃ x ∈ w.nodes, R x y := by
 obtain ⟨k, hk, rfl⟩ := List.getElem_of_mem hy
 have hk' : k < w.nodes.length := by rw [← h.len]; exact hk
 exact ⟨w.nodes[k], List.getElem_mem hk', h.rel k _ _ (List.getElem?_eq_getElem hk') (List.getElem?_eq_getElem hk)⟩
theorem zu8 {w v : Wld} (h : PairW GrowN w v) {i j : Int} (hk : Kn w i j) : Kn v i j := by
 obtain ⟨x, hx, he, hj⟩ := hk
 obtain ⟨y, hy, hr⟩ := z63 h hx
 exact ⟨y, hy, hr.id.trans he, hr.names j hj⟩
theorem zyo {w v : Wld} (h : PairW GrowN w v) {i j k : Int} (h0 : 0 ≤ k) (hk : Fr w i j k) : Fr v i j k := by
 obtain ⟨x, hx, he, hj⟩ := hk
 obtain ⟨y, hy, hr⟩ := z63 h hx
 exact ⟨y, hy, hr.id.trans he, hr.peers j k h0 hj⟩
theorem qes {w v : Wld} (h : PairW GrowN w v) {i j : Int} (hk : Kn v i j) : Kn w i j ∨ Fr v i j 0 := by
 obtain ⟨y, hy, he, hj⟩ := hk
 obtain ⟨x, hx, hr⟩ := qef h hy
 rcases hr.new j hj with h1 | h1
 ·exact .inl ⟨x, hx, hr.id.symm.trans he, h1⟩
 ·exact .inr ⟨y, hy, he, h1⟩
def Heard (m : Msg) (w : Wld) : Prop := Fr w m.to m.from_ 0 ∧ ∀ k ∈ m.ids, k ≠ m.to → Kn w m.to k
theorem qct {S : List Int} {u v : Wld} (hu : Fine S u) (h : Del S u v) {m : Msg} (hk : m.kind = 0) (hm : m ∈ u.packets) : m ∈ v.packets ∨ Heard m v := by
 obtain ⟨hf, m0, ps, P, x, y, ms, h1, h2, h3, h4, h5, h6, rfl⟩ := h
 rw [h1] at hm
 rcases List.mem_cons.1 hm with rfl | hm
 ·right
  rcases h6 with ⟨_, rfl, _⟩ | ⟨h7, _⟩ | ⟨h7, _⟩ | ⟨h7, _⟩
  ·have hx := List.mem_of_getElem? h2
   have hlt := (List.getElem?_eq_some_iff.1 h2).1
   have hA : Among S x.view := ⟨(zbi (hu.node hx)).2.1, fun n hn => by rw [← hu.ids]; exact hu.may.inN x hx n hn⟩
   have mm := h4
   simp only [zbs, hk, if_true, Bool.and_eq_true, Bool.not_eq_true', decide_eq_false_iff_not, decide_eq_true_eq, List.all_eq_true] at mm
   obtain ⟨k1, k2, k3, ⟨⟨_, k5⟩, k6⟩⟩ := mm
   have key := z3w hu.few hA k1 (h5 _ (by simp [zb7])) (fun e => k3 (e.trans h3)) (ids := m.ids) (fun z hz => ⟨k5 z hz, h5 z (by simp [zb7, hz])⟩)
   have hmem : ({ x with view := zci x.view m.from_ m.ids } : Node) ∈ u.nodes.set P { x with view := zci x.view m.from_ m.ids } := List.mem_iff_getElem?.2 ⟨P, by rw [List.getElem?_set]; simp [hlt]⟩
   have hid : (zci x.view m.from_ m.ids).id = m.to := by rw [(zs0 x.view m.from_ m.ids).id]; exact h3
   exact ⟨⟨_, hmem, hid, key.1⟩, fun z hz hne => ⟨_, hmem, hid, key.2 z hz (by rw [h3]; exact hne)⟩⟩
  ·omega
  ·omega
  ·omega
 ·left
  show m ∈ ps ++ ms
  simp [hm]
theorem z8x {w v : Wld} (h : PairW GrowN w v) {m : Msg} (hm : Heard m w) : Heard m v := ⟨zyo h (by omega) hm.1, fun k hk hn => zu8 h (hm.2 k hk hn)⟩
theorem z8z {S : List Int} {w v : Wld} (h : Dels S w v) {m : Msg} (hk : m.kind = 0) (hm : m ∈ w.packets) : m ∈ v.packets ∨ Heard m v := by
 induction h with
 | refl _ => exact .inl hm
 | snoc h1 h2 ih =>
   rcases ih with h3 | h3
   ·exact qct h1.fine h2 hk h3
   ·obtain ⟨hf, m0, ps, P, x, y, ms, _, g2, _, _, _, g6, rfl⟩ := h2
    exact .inr (z8x (zyx (fun x => Grows.refl _) g2 (zrz g6)) h3)
def zo6 (w : Wld) : Wld := ⟨w.nodes.map zdp, [], w.nodes.flatMap zis⟩
def Rnd (S : List Int) (w v : Wld) : Prop := ∃ a, Dels S w a ∧ a.packets = [] ∧ Dels S (zo6 a) v ∧ v.packets = []
theorem qaq {w : Wld} {S : List Int} (hF : Fine S w) (i j : Int) : Kn (zo6 w) i j ↔ Kn w i j := by
 constructor
 ·rintro ⟨y, hy, he, hj⟩
  obtain ⟨x, hx, rfl⟩ := List.mem_map.1 hy
  exact ⟨x, hx, he, (ziy (zbi (hF.node hx)).2.1 j).1 hj⟩
 ·rintro ⟨x, hx, he, hj⟩
  exact ⟨zdp x, List.mem_map.2 ⟨x, hx, rfl⟩, he, (ziy (zbi (hF.node hx)).2.1 j).2 hj⟩
theorem qgz {w : Wld} {i j k : Int} (hk : k ≤ 1) (h : Fr w i j k) : Fr (zo6 w) i j (k + 1) := by
 obtain ⟨x, hx, he, hj⟩ := h
 exact ⟨zdp x, List.mem_map.2 ⟨x, hx, rfl⟩, he, z3f hj hk⟩
theorem z5t {S : List Int} {w : Wld} (hF : Fine S w) {x : Node} (hx : x ∈ w.nodes) {j : Int} (hj : j ∈ zbm x.view) : zrn (ageV x.view) j ∈ (zo6 w).packets := by
 refine List.mem_flatMap.2 ⟨x, hx, List.mem_append.2 (.inl (List.mem_map.2 ⟨j, ?_, rfl⟩))⟩
 exact z18 (zbi (hF.node hx)).2.1 hj
theorem zye {S : List Int} {w v : Wld} (h : Rnd S w v) : Brings w v := by
 obtain ⟨a, h1, h2, h3, h4⟩ := h
 have ha := h1.fine
 have g1 := z15 h1
 have g3 := z15 h3
 have hear : ∀ x ∈ a.nodes, ∀ j ∈ zbm x.view, Heard (zrn (ageV x.view) j) v := by
  intro x hx j hj
  rcases z8z h3 (m := zrn (ageV x.view) j) rfl (z5t ha hx hj) with h5 | h5
  ·rw [h4] at h5; cases h5
  ·exact h5
 refine ⟨fun i j hk => ?_, fun i j hk => ?_, fun i j k hk hf hn => ?_, fun he i j hk => ?_, fun i j hf => ?_⟩
 ·exact zu8 g3 ((qaq ha i j).2 (zu8 g1 hk))
 ·obtain ⟨x, hx, rfl, hj⟩ := zu8 g1 hk
  exact (hear x hx j hj).1
 ·obtain ⟨x, hx, rfl, hj⟩ := zu8 g1 hk
  obtain ⟨x', hx', he, hp⟩ := zyo g1 (by omega) hf
  obtain rfl := znh ha.pair hx hx' he.symm
  have hp2 := z3f hp (by omega)
  obtain ⟨q, hq, rfl, _⟩ := hp2
  exact (hear x hx j hj).2 q.id (List.mem_map.2 ⟨q, hq, rfl⟩) hn
 ·have := zvr h1 he
  subst this
  rcases qes g3 hk with h5 | h5
  ·exact .inl ((qaq ha i j).1 h5)
  ·exact .inr h5
 ·exact zyo g3 (by omega) (qgz (by omega) (zyo g1 (by omega) hf))
theorem zhl {S : List Int} {w v : Wld} (h : Rnd S w v) : Fine S v ∧ v.packets = [] := by
 obtain ⟨a, _, _, h3, h4⟩ := h
 exact ⟨h3.fine, h4⟩
inductive Rnds (S : List Int) : Nat → Wld → Wld → Prop
 | zero {w : Wld} : Fine S w → Rnds S 0 w w
 | succ {n : Nat} {w u v : Wld} : Rnds S n w u → Rnd S u v → Rnds S (n + 1) w v
theorem Rnds.fine {S : List Int} {n : Nat} {w v : Wld} (h : Rnds S n w v) : Fine S v := by
 cases h with
 | zero h => exact h
 | succ _ h => exact (zhl h).1
theorem Rnds.packets {S : List Int} {n : Nat} {w v : Wld} (h : Rnds S n w v) (hn : 0 < n) : v.packets = [] := by
 cases h with
 | zero h => omega
 | succ _ h => exact (zhl h).2
theorem zz4 {S : List Int} {n : Nat} {w v : Wld} (h : Rnds S n w v) : ∃ s : Nat → Wld, s 0 = w ∧ s n = v ∧ ∀ t, t < n → Rnd S (s t) (s (t + 1)) := by
 induction h with
 | zero h => exact ⟨fun _ => _, rfl, rfl, fun t ht => by omega⟩
 | @succ n w u v h1 h2 ih =>
   obtain ⟨s, e1, e2, e3⟩ := ih
   refine ⟨fun t => if t ≤ n then s t else v, by simp [e1], if_neg (by omega), fun t ht => ?_⟩
   simp only
   by_cases hn : t = n
   ·subst hn
    rw [if_pos (Nat.le_refl _), if_neg (by omega), e2]
    exact h2
   ·rw [if_pos (by omega), if_pos (by omega)]
    exact e3 t (by omega)
theorem z75 {S : List Int} {s : Nat → Wld} {n : Nat} (h : ∀ t, t < n → Rnd S (s t) (s (t + 1))) : Rounds s n := ⟨fun t ht => zye (h t ht), fun t ht => (zhl (h t ht)).2⟩
end Go.AM
/- AM: plain: what is held, round by round. -/
namespace Go.AM
structure AllI (Q : Item → Prop) (w : Wld) : Prop where
 nodes : ∀ x ∈ w.nodes, ∀ i ∈ x.items, Q i
 packs : ∀ m ∈ w.packets, m.kind = 1 → Q m.item
theorem z6a {x : Node} {n : Item} : ∀ i ∈ (ze5 x n).items, i = n ∨ i ∈ x.items := by
 unfold ze5
 split
 ·rename_i h
  obtain ⟨_, _, h3, _⟩ := z6p h
  intro i hi
  simp only [h3] at hi
  exact z6z hi
 ·exact fun i hi => .inr hi
theorem z84 {x y : Node} {m : Msg} {ms : List Msg} (h : TurnM x m y ms) : (∀ i ∈ y.items, (m.kind = 1 ∧ i = m.item) ∨ i ∈ x.items) ∧ ∀ u ∈ ms, u.kind ≠ 1 := by
 rcases h with ⟨_, rfl, rfl⟩ | ⟨hk, rfl, rfl⟩ | ⟨_, rfl, rfl⟩ | ⟨_, rfl, rfl⟩
 ·exact ⟨fun i hi => .inr hi, by simp⟩
 ·refine ⟨fun i hi => ?_, by simp⟩
  rcases z6a i hi with h | h
  ·exact .inl ⟨hk, h⟩
  ·exact .inr h
 ·exact ⟨fun i hi => .inr hi, by simp [ze7]⟩
 ·exact ⟨fun i hi => .inr hi, by simp⟩
theorem qf5 {Q : Item → Prop} {S : List Int} {u v : Wld} (h : Del S u v) (hA : AllI Q u) : AllI Q v := by
 obtain ⟨_, m, ps, P, x, y, ms, h1, h2, _, _, _, h6, rfl⟩ := h
 obtain ⟨t1, t2⟩ := z84 h6
 refine ⟨fun z hz i hi => ?_, fun n hn hk => ?_⟩
 ·rcases zol hz with rfl | hz
  ·rcases t1 i hi with ⟨hk, rfl⟩ | h
   ·exact hA.packs m (by rw [h1]; simp) hk
   ·exact hA.nodes x (List.mem_of_getElem? h2) i h
  ·exact hA.nodes z hz i hi
 ·rcases List.mem_append.1 hn with hn | hn
  ·exact hA.packs n (by rw [h1]; simp [hn]) hk
  ·exact absurd hk (t2 n hn)
theorem zts {Q : Item → Prop} {S : List Int} {w v : Wld} (h : Dels S w v) (hA : AllI Q w) : AllI Q v := by
 induction h with
 | refl _ => exact hA
 | snoc _ h2 ih => exact qf5 h2 ih
theorem zun {x : Node} {m : Msg} (h : m ∈ (zb5 x).1) : m.kind = 1 ∧ m.item ∈ x.items := by
 unfold zb5 at h
 split at h
 ·obtain ⟨i, hi, hs⟩ := List.mem_filterMap.1 h
  unfold zf3 at hs
  generalize (if (zbw x.view i.key).1 = x.view.id then (zn9 x.view).1 else (zbw x.view i.key).1) = to at hs
  by_cases hc : to = x.view.id
  ·rw [if_pos hc] at hs; cases hs
  ·rw [if_neg hc] at hs; cases hs; exact ⟨rfl, hi⟩
 ·cases h
theorem zyp {Q : Item → Prop} {a : Wld} (hA : AllI Q a) : AllI Q (zo6 a) := by
 refine ⟨fun z hz i hi => ?_, fun n hn hk => ?_⟩
 ·obtain ⟨x, hx, rfl⟩ := List.mem_map.1 hz
  exact hA.nodes x hx i hi
 ·obtain ⟨x, hx, hm⟩ := List.mem_flatMap.1 hn
  rcases List.mem_append.1 hm with hm | hm
  ·obtain ⟨j, _, rfl⟩ := List.mem_map.1 hm
   cases hk
  ·exact hA.nodes x hx _ (zun hm).2
theorem qg4 {Q : Item → Prop} {S : List Int} {w v : Wld} (h : Rnd S w v) (hA : AllI Q w) : AllI Q v := by
 obtain ⟨a, h1, _, h3, _⟩ := h
 exact zts h3 (zyp (zts h1 hA))
structure Best1 (Ks : List Int) (k : Int) (X : Item) (i : Item) : Prop where
 key : i.key ∈ Ks
 le : i.key = k → ze6 i X = X
def Held (k : Int) (X : Item) (w : Wld) (id : Int) : Prop := ∃ x ∈ w.nodes, x.view.id = id ∧ getS x.items k = some X
theorem qdl {Ks : List Int} (hl : Ks.length ≤ 16) {is : List Item} {n : Item} (h1 : zbu is = true) (h2 : zba n = true) (hk : ∀ i ∈ is, i.key ∈ Ks) (hn : n.key ∈ Ks) : putR is n = (putS n is, 0) := by
 obtain ⟨-, hr, h16⟩ := (zca is).1 h1
 refine qg8 h1 h2 ?_
 cases hg : getS is n.key with
 | some i => exact .inr rfl
 | none =>
   left
   apply Classical.byContradiction
   intro hc
   have hnd : (is.map Item.key).Nodup := by
    clear h1 hk h16 hg hc
    induction is with
    | nil => exact List.nodup_nil
    | cons a is ih =>
      obtain ⟨ha, hr2⟩ := zc9.1 hr
      rw [List.map_cons, List.nodup_cons]
      refine ⟨fun hm => ?_, ih hr2⟩
      obtain ⟨b, hb, he⟩ := List.mem_map.1 hm
      have := zop ha (j := a.key) (Int.le_refl _)
      have h3 := ztu hr2 hb
      rw [he, this] at h3
      cases h3
   have hnd2 : (n.key :: is.map Item.key).Nodup := by
    rw [List.nodup_cons]
    refine ⟨fun hm => ?_, hnd⟩
    obtain ⟨b, hb, he⟩ := List.mem_map.1 hm
    have h3 := ztu hr hb
    rw [he, hg] at h3
    cases h3
   have := z2z _ _ hnd2 fun j hj => by
    rcases List.mem_cons.1 hj with rfl | hj
    ·exact hn
    ·obtain ⟨b, hb, rfl⟩ := List.mem_map.1 hj
     exact hk b hb
   simp at this
   omega
theorem zy1 {m : Msg} (h : zbs m = true) (hk : m.kind = 1) : zba m.item = true := by
 simp only [zbs, Bool.and_eq_true] at h
 obtain ⟨_, _, _, h⟩ := h
 rw [if_neg (by omega), if_pos hk] at h
 simp only [Bool.and_eq_true] at h
 first
  | exact h.1
  | exact h.2
  | exact h.1.1
  | exact h.1.2
  | exact h.2.1
  | exact h.2.2
  | exact h.1.1.1
  | exact h.1.1.2
  | exact h.1.2.1
  | exact h.1.2.2
section
variable {S Ks : List Int} {k : Int} {X : Item} (hl : Ks.length ≤ 16) (hX : X.key = k)
include hl hX
theorem z11 {x : Node} {n : Item} (hs : zbu x.items = true) (hn : zba n = true) (hk : ∀ i ∈ x.items, Best1 Ks k X i) (hb : Best1 Ks k X n) :
 (getS x.items k = some X → getS (ze5 x n).items k = some X) ∧ (n = X → getS (ze5 x n).items k = some X) := by
 have hp := qdl hl hs hn (fun i hi => (hk i hi).key) hb.key
 have hr := ((zca _).1 hs).2.1
 have e : (ze5 x n).items = putS n x.items := by
  unfold ze5
  rw [hp]
  rfl
 rw [e, qah n x.items hr k]
 constructor
 ·intro hg
  split
  ·rename_i hkn
   rw [hg]
   show some (ze6 X n) = some X
   rw [zxo (by rw [hX, hkn]), hb.le hkn.symm]
  ·exact hg
 ·rintro rfl
  rw [if_pos hX.symm]
  cases hg : getS x.items k with
  | none => rfl
  | some i =>
    obtain ⟨g1, g2⟩ := zq5 hg
    show some (ze6 i n) = some n
    rw [(hk i g2).le g1]
theorem qfl {u v : Wld} (hu : Fine S u) (h : Del S u v) (hA : AllI (Best1 Ks k X) u) :
 (∀ id, Held k X u id → Held k X v id) ∧ ∀ m ∈ u.packets, m.kind = 1 → m.item = X → m ∈ v.packets ∨ Held k X v m.to := by
 obtain ⟨_, m, ps, P, x, y, ms, h1, h2, h3, h4, _, h6, rfl⟩ := h
 have hx := List.mem_of_getElem? h2
 have hlt := (List.getElem?_eq_some_iff.1 h2).1
 have hsx := (zbi (hu.node hx)).2.2.1
 have hmem : y ∈ u.nodes.set P y := List.mem_iff_getElem?.2 ⟨P, by rw [List.getElem?_set_self hlt]⟩
 have hid : y.view.id = x.view.id := (zrz h6).id
 have hy : getS x.items k = some X → getS y.items k = some X := by
  rcases h6 with ⟨_, rfl, _⟩ | ⟨hk1, rfl, _⟩ | ⟨_, rfl, _⟩ | ⟨_, rfl, _⟩
  ·exact id
  ·exact (z11 hl hX hsx (zy1 h4 hk1) (hA.nodes x hx) (hA.packs m (by rw [h1]; simp) hk1)).1
  ·exact id
  ·exact id
 constructor
 ·rintro id ⟨z, hz, rfl, hg⟩
  obtain ⟨Q, hQ⟩ := List.getElem?_of_mem hz
  by_cases hPQ : P = Q
  ·subst hPQ
   rw [h2] at hQ
   cases hQ
   exact ⟨y, hmem, hid, hy hg⟩
  ·exact ⟨z, List.mem_iff_getElem?.2 ⟨Q, by rw [List.getElem?_set_ne hPQ]; exact hQ⟩, rfl, hg⟩
 ·intro n hn hk hnX
  rw [h1] at hn
  rcases List.mem_cons.1 hn with rfl | hn
  ·right
   rcases h6 with ⟨h7, _⟩ | ⟨hk1, rfl, _⟩ | ⟨h7, _⟩ | ⟨h7, _⟩
   ·omega
   ·exact ⟨_, hmem, by rw [hid, h3], (z11 hl hX hsx (zy1 h4 hk1) (hA.nodes x hx) (hA.packs n (by rw [h1]; simp) hk1)).2 hnX⟩
   ·omega
   ·omega
  ·exact .inl (List.mem_append.2 (.inl hn))
theorem zuh {w v : Wld} (h : Dels S w v) (hA : AllI (Best1 Ks k X) w) :
 (∀ id, Held k X w id → Held k X v id) ∧ ∀ m ∈ w.packets, m.kind = 1 → m.item = X → m ∈ v.packets ∨ Held k X v m.to := by
 induction h with
 | refl _ => exact ⟨fun _ h => h, fun m hm _ _ => .inl hm⟩
 | snoc g1 g2 ih =>
   have hA1 := zts g1 hA
   obtain ⟨d1, d2⟩ := qfl hl hX g1.fine g2 hA1
   refine ⟨fun id hh => d1 id (ih.1 id hh), fun m hm hk hmX => ?_⟩
   rcases ih.2 m hm hk hmX with h5 | h5
   ·exact d2 m h5 hk hmX
   ·exact .inr (d1 _ h5)
omit hl hX in
theorem z1p {a : Wld} {id : Int} (h : Held k X a id) : Held k X (zo6 a) id := by
 obtain ⟨x, hx, he, hg⟩ := h
 exact ⟨zdp x, List.mem_map.2 ⟨x, hx, rfl⟩, he, hg⟩
theorem zyz {w v : Wld} (h : Rnd S w v) (hA : AllI (Best1 Ks k X) w) : (∀ id, Held k X w id → Held k X v id) ∧ ∀ m ∈ w.packets, m.kind = 1 → m.item = X → ∃ id, Held k X v id := by
 obtain ⟨a, h1, h2, h3, h4⟩ := h
 have d1 := zuh hl hX h1 hA
 have d3 := zuh hl hX h3 (zyp (zts h1 hA))
 refine ⟨fun id hh => d3.1 id (z1p (d1.1 id hh)), fun m hm hk hmX => ?_⟩
 rcases d1.2 m hm hk hmX with h5 | h5
 ·rw [h2] at h5; cases h5
 ·exact ⟨_, d3.1 _ (z1p h5)⟩
theorem qec {w v : Wld} (h : Rnd S w v) (hw : w.packets = []) (hA : AllI (Best1 Ks k X) w) {m : Msg} (hm : m ∈ (zo6 w).packets) (hk : m.kind = 1) (hmX : m.item = X) : Held k X v m.to := by
 obtain ⟨a, h1, h2, h3, h4⟩ := h
 have := zvr h1 hw
 subst this
 rcases (zuh hl hX h3 (zyp hA)).2 m hm hk hmX with h5 | h5
 ·rw [h4] at h5; cases h5
 ·exact h5
end
end Go.AM
/- AM: plain: owners, and who is next. -/
namespace Go.AM
theorem qff {S : List Int} (hp : S.Pairwise (fun a b => a < b)) (hpl : ∀ j ∈ S, place j = true) {P : Nat} {o : Int} (h : S[P]? = some o) :
 ∃ t, S[(P + 1) % S.length]? = some t ∧ (1 < S.length → t ≠ o) ∧ ∀ j ∈ S, j ≠ o → far o t ≤ far o j := by
 obtain ⟨hP, ho⟩ := List.getElem?_eq_some_iff.1 h
 have hoS : o ∈ S := ho ▸ List.getElem_mem hP
 have hlt : ∀ (p q : Nat) (a b : Int), S[p]? = some a → S[q]? = some b → p < q → a < b := by
  intro p q a b ha hb hpq
  obtain ⟨h1, rfl⟩ := List.getElem?_eq_some_iff.1 ha
  obtain ⟨h2, rfl⟩ := List.getElem?_eq_some_iff.1 hb
  exact List.pairwise_iff_getElem.1 hp p q h1 h2 hpq
 have hpo := hpl o hoS
 have rng : ∀ j, place j = true → 0 ≤ j ∧ j < 256 := fun j hj => by simpa [place] using hj
 obtain ⟨o1, o2⟩ := rng o hpo
 by_cases hl : P + 1 < S.length
 ·obtain ⟨t, ht⟩ : ∃ t, S[P + 1]? = some t := ⟨_, List.getElem?_eq_getElem hl⟩
  have hot := hlt P (P + 1) o t h ht (by omega)
  have hpt := hpl t (List.mem_of_getElem? ht)
  refine ⟨t, by rw [Nat.mod_eq_of_lt hl]; exact ht, fun _ => by omega, fun j hj hne => ?_⟩
  obtain ⟨q, hq⟩ := List.getElem?_of_mem hj
  have hpj := hpl j hj
  obtain ⟨t1, t2⟩ := rng t hpt
  obtain ⟨j1, j2⟩ := rng j hpj
  rw [zs2 hpo hpt, zs2 hpo hpj, if_pos (by omega)]
  rcases Nat.lt_trichotomy q P with h1 | h1 | h1
  ·have := hlt q P j o hq h h1
   rw [if_neg (by omega)]
   omega
  ·subst h1; rw [h] at hq; cases hq; exact absurd rfl hne
  ·have := hlt P q o j h hq h1
   rw [if_pos (by omega)]
   by_cases h2 : q = P + 1
   ·subst h2; rw [ht] at hq; cases hq; omega
   ·have := hlt (P + 1) q t j ht hq (by omega)
    omega
 ·have he : P + 1 = S.length := by omega
  obtain ⟨t, ht⟩ : ∃ t, S[0]? = some t := ⟨_, List.getElem?_eq_getElem (by omega)⟩
  have hpt := hpl t (List.mem_of_getElem? ht)
  refine ⟨t, by rw [he, Nat.mod_self]; exact ht, fun h1 => ?_, fun j hj hne => ?_⟩
  ·have := hlt 0 P t o ht h (by omega)
   omega
  ·obtain ⟨q, hq⟩ := List.getElem?_of_mem hj
   have hqP : q < P := by
    have hq1 := (List.getElem?_eq_some_iff.1 hq).1
    apply Classical.byContradiction
    intro hn
    have : q = P := by omega
    subst this
    rw [h] at hq
    cases hq
    exact hne rfl
   have h1 := hlt q P j o hq h hqP
   have hpj := hpl j hj
   obtain ⟨t1, t2⟩ := rng t hpt
   obtain ⟨j1, j2⟩ := rng j hpj
   have hto := hlt 0 P t o ht h (by omega)
   rw [zs2 hpo hpt, zs2 hpo hpj, if_neg (by omega), if_neg (by omega)]
   by_cases h2 : q = 0
   ·subst h2; rw [ht] at hq; cases hq; omega
   ·have := hlt 0 q t j ht hq (by omega)
    omega
structure Knows (S : List Int) (v : View) : Prop where
 may : zbd v = true
 mem : ∀ j, j ∈ v.id :: v.peers.map Peer.id ↔ j ∈ S
theorem z0m {S : List Int} {v : View} {k o : Int} (h : Knows S v) (hpl : ∀ j ∈ S, place j = true) (hk : place k = true) (ho : o ∈ S) (hle : ∀ j ∈ S, far k o ≤ far k j) : zbw v k = (o, 0) := by
 rw [zsi h.may hk]
 unfold ownV
 rw [zsz hk (fun y hy => hpl y ((h.mem y).1 hy)) ((h.mem o).2 ho) fun y hy => hle y ((h.mem y).1 hy)]
theorem z7p {S : List Int} {v : View} {t : Int} (h : Knows S v) (hpl : ∀ j ∈ S, place j = true) (ht : t ∈ S) (hne : t ≠ v.id) (hle : ∀ j ∈ S, j ≠ v.id → far v.id t ≤ far v.id j) : (zn9 v).1 = t := by
 have hm := (h.mem t).2 ht
 have hpw := (zb9.1 (za1 h.may).1).2.2
 unfold zn9
 rw [if_pos h.may]
 cases hp : v.peers with
 | nil => rw [hp] at hm; simp at hm; exact absurd hm hne
 | cons p ps =>
   show p.id = t
   rw [hp] at hm hpw
   have hpS : p.id ∈ S := (h.mem p.id).1 (by rw [hp]; simp)
   have hpn : p.id ≠ v.id := z4k h.may (by rw [hp]; simp)
   have h1 := hle p.id hpS hpn
   have h2 : far v.id p.id ≤ far v.id t := by
    rcases List.mem_cons.1 hm with e | e
    ·exact absurd e hne
    ·obtain ⟨q, hq, hqt⟩ := List.mem_map.1 e
     rcases List.mem_cons.1 hq with rfl | hq
     ·rw [hqt]; omega
     ·have := (List.pairwise_cons.1 hpw.2).1 q hq
      rw [hqt] at this
      omega
   exact (zvo (zen h.may) (hpl _ hpS) (hpl _ ht)).1 (by omega)
theorem zzz {S : List Int} {w : Wld} (hF : Fine S w) : S.Pairwise (fun a b => a < b) ∧ ∀ j ∈ S, place j = true := by
 constructor
 ·rw [← hF.ids]
  unfold idsN
  rw [List.pairwise_map]
  exact hF.pair
 ·exact fun n hn => hF.may.place (by rw [hF.ids]; exact hn)
theorem qfg {S : List Int} {w : Wld} (hF : Fine S w) {x : Node} (hx : x ∈ w.nodes) (hp : ∀ j ∈ S, j ≠ x.view.id → ∃ q ∈ x.view.peers, q.id = j) : Knows S x.view := by
 refine ⟨(zbi (hF.node hx)).2.1, fun j => ⟨fun h => ?_, fun h => ?_⟩⟩
 ·rcases List.mem_cons.1 h with rfl | h
  ·rw [← hF.ids]; exact zek.2 ⟨x, hx, rfl⟩
  ·rw [← hF.ids]; exact hF.may.inN x hx j (List.mem_append.2 (.inl h))
 ·by_cases hj : j = x.view.id
  ·simp [hj]
  ·obtain ⟨q, hq, hqj⟩ := hp j h hj
   exact List.mem_cons.2 (.inr (List.mem_map.2 ⟨q, hq, hqj⟩))
theorem qaw {S : List Int} {w : Wld} (hF : Fine S w) (hf : FullW S w) {x : Node} (hx : x ∈ w.nodes) : ∀ j ∈ S, j ≠ x.view.id → Pk x.view j 1 := by
 intro j hj hne
 obtain ⟨y, hy, he, hp⟩ := hf x.view.id (by rw [← hF.ids]; exact zek.2 ⟨x, hx, rfl⟩) j hj (Ne.symm hne)
 obtain rfl := znh hF.pair hx hy he.symm
 exact hp
theorem zxu {S : List Int} {w : Wld} (hF : Fine S w) (hf : FullW S w) {x : Node} (hx : x ∈ w.nodes) : Knows S x.view ∧ Knows S (zdp x).view := by
 have h := qaw hF hf hx
 have k1 := qfg hF hx fun j hj hne => by
  obtain ⟨q, hq, he, _⟩ := h j hj hne
  exact ⟨q, hq, he⟩
 refine ⟨k1, (zjd k1.may).1, fun j => ⟨fun hj => ?_, fun hj => ?_⟩⟩
 ·rcases List.mem_cons.1 hj with rfl | hj
  ·exact (k1.mem _).1 (by simp [zdp, ageV])
  ·obtain ⟨q, hq, rfl⟩ := List.mem_map.1 hj
   obtain ⟨p, hp, _, rfl⟩ := zt5 hq
   exact (k1.mem _).1 (List.mem_cons.2 (.inr (List.mem_map.2 ⟨p, hp, rfl⟩)))
 ·by_cases hne : j = x.view.id
  ·subst hne; exact List.mem_cons.2 (.inl rfl)
  ·obtain ⟨q, hq, he, _⟩ := z3f (h j hj hne) (by omega)
   exact List.mem_cons.2 (.inr (List.mem_map.2 ⟨q, hq, he⟩))
theorem z5s {x : Node} {i : Item} {t : Int} (h : zcj x = true) (hi : i ∈ x.items) (ht : (if (zbw x.view i.key).1 = x.view.id then (zn9 x.view).1 else (zbw x.view i.key).1) = t) (hne : t ≠ x.view.id) : (⟨1, x.view.id, t, [], 0, i, false⟩ : Msg) ∈ (zb5 x).1 := by
 unfold zb5
 rw [if_pos h]
 refine List.mem_filterMap.2 ⟨i, hi, ?_⟩
 unfold zf3
 rw [ht, if_neg hne]
theorem qge {S : List Int} {w : Wld} (hF : Fine S w) {x : Node} (hx : x ∈ w.nodes) : zcj (zdp x) = true := (z6r (hF.node hx)).1
theorem z2h {S Ks : List Int} {k o : Int} {X : Item} (hl : Ks.length ≤ 16) (hX : X.key = k) {w v : Wld} (h : Rnd S w v) (hF : Fine S w) (hw : w.packets = []) (hf : FullW S w) (hA : AllI (Best1 Ks k X) w)
 (hk : place k = true) (ho : o ∈ S) (hle : ∀ j ∈ S, far k o ≤ far k j) {id : Int} (hh : Held k X w id) : Held k X v o ∧ ∀ t ∈ S, t ≠ o → (∀ j ∈ S, j ≠ o → far o t ≤ far o j) → id = o → Held k X v t := by
 obtain ⟨hp, hpl⟩ := zzz hF
 have hkeep := (zyz hl hX h hA).1
 obtain ⟨x, hx, rfl, hg⟩ := hh
 obtain ⟨k1, k2⟩ := zxu hF hf hx
 have hu := qge hF hx
 have hgi := (zq5 hg).2
 have hown : (zbw (zdp x).view X.key).1 = o := by rw [hX, z0m k2 hpl hk ho hle]
 have hti : (zdp x).view.id = x.view.id := rfl
 have send : ∀ t, (if (zbw (zdp x).view X.key).1 = (zdp x).view.id then (zn9 (zdp x).view).1 else (zbw (zdp x).view X.key).1) = t → t ≠ x.view.id → Held k X v t := by
  intro t ht hne
  have hm := z5s hu hgi ht hne
  exact qec hl hX h hw hA (m := ⟨1, x.view.id, t, [], 0, X, false⟩) (List.mem_flatMap.2 ⟨x, hx, List.mem_append.2 (.inr hm)⟩) rfl rfl
 constructor
 ·by_cases hid : o = x.view.id
  ·rw [hid]; exact hkeep _ ⟨x, hx, rfl, hg⟩
  ·exact send o (by rw [hown, hti, if_neg (fun e => hid e)]) hid
 ·rintro t htS hto htl rfl
  refine send t ?_ hto
  rw [hown, hti, if_pos rfl]
  exact z7p k2 hpl htS hto htl
end Go.AM
/- AM: plain: eight rounds; what is told. -/
namespace Go.AM
theorem qdr {S : List Int} {s : Nat → Wld} {n : Nat} (h0 : Fine S (s 0)) (h : ∀ t, t < n → Rnd S (s t) (s (t + 1))) : ∀ t, t ≤ n → Fine S (s t) := by
 intro t ht
 cases t with
 | zero => exact h0
 | succ t => exact (zhl (h t (by omega))).1
theorem qan {Q : Item → Prop} {S : List Int} {s : Nat → Wld} {n : Nat} (h0 : AllI Q (s 0)) (h : ∀ t, t < n → Rnd S (s t) (s (t + 1))) : ∀ t, t ≤ n → AllI Q (s t) := by
 intro t
 induction t with
 | zero => intro _; exact h0
 | succ t ih => intro ht; exact qg4 (h t (by omega)) (ih (by omega))
theorem qel {Q : Item → Prop} {S : List Int} {n : Nat} {w v : Wld} (h : Rnds S n w v) (hA : AllI Q w) : AllI Q v := by
 obtain ⟨s, e1, e2, e3⟩ := zz4 h
 subst e1 e2
 exact qan hA e3 n (Nat.le_refl _)
theorem z64 {S : List Int} {s : Nat → Wld} {n : Nat} (h : ∀ t, t < n → Rnd S (s t) (s (t + 1))) (hn : 6 ≤ n) (hc : ∀ i ∈ S, ∀ j ∈ S, Dist (s 0) 8 i j) : ∀ t, 6 + t ≤ n → FullW S (s (6 + t)) := by
 intro t
 induction t with
 | zero => intro _; exact qe7 (z75 h) hn hc
 | succ t ih => intro ht; exact qc8 (zye (h (6 + t) (by omega))) (ih (by omega))
theorem z8l {S : List Int} {w v : Wld} (h : Rnds S 8 w v) (hc : ∀ i ∈ S, ∀ j ∈ S, Dist w 8 i j) : FullW S v := by
 obtain ⟨s, e1, e2, e3⟩ := zz4 h
 subst e1 e2
 exact z64 e3 (by omega) hc 2 (by omega)
theorem z9w {S Ks : List Int} {k o : Int} {X : Item} (hl : Ks.length ≤ 16) (hX : X.key = k) {w v : Wld} (hF : Fine S w) (h : Rnds S 8 w v) (hc : ∀ i ∈ S, ∀ j ∈ S, Dist w 8 i j) (hA : AllI (Best1 Ks k X) w)
 (hk : place k = true) (ho : o ∈ S) (hle : ∀ j ∈ S, far k o ≤ far k j) (hat : (∃ id, Held k X w id) ∨ ∃ m ∈ w.packets, m.kind = 1 ∧ m.item = X) :
 Held k X v o ∧ ∀ t ∈ S, t ≠ o → (∀ j ∈ S, j ≠ o → far o t ≤ far o j) → Held k X v t := by
 obtain ⟨s, e1, e2, e3⟩ := zz4 h
 subst e1 e2
 have fine := qdr hF e3
 have all := qan hA e3
 have full := z64 e3 (by omega) hc
 have none : ∀ t, t < 8 → (s (t + 1)).packets = [] := fun t ht => (zhl (e3 t ht)).2
 have h1 : ∃ id, Held k X (s 1) id := by
  have r := zyz hl hX (e3 0 (by omega)) (all 0 (by omega))
  rcases hat with ⟨id, hh⟩ | ⟨m, hm, hk1, hmX⟩
  ·exact ⟨id, r.1 id hh⟩
  ·exact r.2 m hm hk1 hmX
 obtain ⟨id, h1⟩ := h1
 have keep : ∀ t, t < 8 → ∀ id, Held k X (s t) id → Held k X (s (t + 1)) id := fun t ht => (zyz hl hX (e3 t ht) (all t (by omega))).1
 have h6 := keep 5 (by omega) _ (keep 4 (by omega) _ (keep 3 (by omega) _ (keep 2 (by omega) _ (keep 1 (by omega) _ h1))))
 have g7 := z2h hl hX (e3 6 (by omega)) (fine 6 (by omega)) (none 5 (by omega)) (full 0 (by omega)) (all 6 (by omega)) hk ho hle h6
 have g8 := z2h hl hX (e3 7 (by omega)) (fine 7 (by omega)) (none 6 (by omega)) (full 1 (by omega)) (all 7 (by omega)) hk ho hle g7.1
 exact ⟨g8.1, fun t ht hto htl => g8.2 t ht hto htl rfl⟩
def zmd (x y : Node) : Prop := y.log = x.log
theorem z8v {S : List Int} {w v : Wld} (h : Dels S w v) (hq : ∀ m ∈ w.packets, m.kind = 0 ∨ m.kind = 1) : PairW zmd w v ∧ ∀ m ∈ v.packets, m.kind = 0 ∨ m.kind = 1 := by
 induction h with
 | refl _ => exact ⟨z09 (R := zmd) (fun _ => rfl) _, hq⟩
 | snoc g1 g2 ih =>
   obtain ⟨i1, i2⟩ := ih
   obtain ⟨_, m, ps, P, x, y, ms, h1, h2, _, _, _, h6, rfl⟩ := g2
   have hk := i2 m (by rw [h1]; simp)
   have hsl : zmd x y ∧ ms = [] := by
    rcases h6 with ⟨_, rfl, rfl⟩ | ⟨_, rfl, rfl⟩ | ⟨h7, _⟩ | ⟨h7, _⟩
    ·exact ⟨rfl, rfl⟩
    ·refine ⟨?_, rfl⟩
     unfold zmd ze5
     split <;> rfl
    ·omega
    ·omega
   obtain ⟨hsl, rfl⟩ := hsl
   refine ⟨zr9 (R := zmd) (fun x y z a b => Eq.trans b a) i1 (zyx (R := zmd) (fun _ => rfl) h2 hsl), fun n hn => i2 n ?_⟩
   rw [h1]
   simp only [List.append_nil] at hn
   simp [hn]
theorem qdm (a : Wld) : PairW zmd a (zo6 a) := by
 refine ⟨by simp [zo6], fun k x y hx hy => ?_⟩
 simp only [zo6, List.getElem?_map, hx] at hy
 cases hy
 rfl
theorem z8d (a : Wld) : ∀ m ∈ (zo6 a).packets, m.kind = 0 ∨ m.kind = 1 := by
 intro m hm
 obtain ⟨x, _, hm⟩ := List.mem_flatMap.1 hm
 rcases List.mem_append.1 hm with hm | hm
 ·obtain ⟨j, _, rfl⟩ := List.mem_map.1 hm
  exact .inl rfl
 ·exact .inr (zun hm).1
theorem qdt {S : List Int} {d a : Wld} (h3 : Dels S (zo6 a) d) : PairW zmd a d := zr9 (R := zmd) (fun x y z p q => Eq.trans q p) (qdm a) (z8v h3 (z8d a)).1
theorem qdg (x : Node) (t : Told) : (zde x t).length ≠ 0 ∧ (zde x t)[(zde x t).length - 1]? = some t := by
 unfold zde
 have hl : ((x.log ++ [t]).drop (x.log.length + 1 - 64)).length = x.log.length + 1 - (x.log.length + 1 - 64) := by simp
 refine ⟨by rw [hl]; omega, ?_⟩
 rw [hl, List.getElem?_drop]
 have : x.log.length + 1 - 64 + (x.log.length + 1 - (x.log.length + 1 - 64) - 1) = x.log.length := by omega
 rw [this]
 simp
theorem zvx {α : Type} {xs : List α} {P : Nat} {x : α} (h : xs[P]? = some x) : xs.set P x = xs := by
 apply List.ext_getElem?
 intro j
 rw [List.getElem?_set]
 split
 ·rename_i hj
  subst hj
  rw [if_pos (List.getElem?_eq_some_iff.1 h).1, h]
 ·rfl
theorem qfj {S : List Int} {v b a : Wld} {P : Nat} {x z : Node} {k : Int} (hF : Fine S v) (hx : v.nodes[P]? = some x) (hz : z ∈ v.nodes) (hb : b = ⟨v.nodes, [], [zjp x z.view.id k]⟩) (h : Dels S b a) (ha : a.packets = []) :
 a.nodes = v.nodes.set P { x with log := zde x (mT (ze7 z (zjp x z.view.id k))) } := by
 obtain ⟨ask, hask⟩ : ∃ ask, zjp x z.view.id k = ask := ⟨_, rfl⟩
 have k1 : ask.kind = 2 ∧ ask.to = z.view.id ∧ ask.from_ = x.view.id := by rw [← hask]; exact ⟨rfl, rfl, rfl⟩
 rw [hask] at hb ⊢
 have key : ∀ u, Dels S b u → u = b ∨ (u.nodes = v.nodes ∧ u.packets = [ze7 z ask]) ∨ (u.packets = [] ∧ u.nodes = v.nodes.set P { x with log := zde x (mT (ze7 z ask)) }) := by
  intro u hu
  induction hu with
  | refl _ => exact .inl rfl
  | snoc g1 g2 ih =>
    obtain ⟨_, m, ps, Q, y, y', ms, h1, h2, h3, h4, _, h6, rfl⟩ := g2
    rcases ih with rfl | ⟨i1, i2⟩ | ⟨i1, i2⟩
    ·subst hb
     simp only at h1 h2
     cases h1
     have hyz : y = z := znh hF.pair (List.mem_of_getElem? h2) hz (h3.trans k1.2.1)
     subst hyz
     rcases h6 with ⟨h7, _⟩ | ⟨h7, _⟩ | ⟨_, rfl, rfl⟩ | ⟨h7, _⟩
     ·omega
     ·omega
     ·exact .inr (.inl ⟨zvx h2, rfl⟩)
     ·omega
    ·rw [i2] at h1
     cases h1
     rw [i1] at h2
     have hQ : Q = P := zt2 hF.pair h2 hx (h3.trans k1.2.2)
     subst hQ
     rw [hx] at h2
     cases h2
     rcases h6 with ⟨h7, _⟩ | ⟨h7, _⟩ | ⟨h7, _⟩ | ⟨_, rfl, rfl⟩
     ·cases h7
     ·cases h7
     ·cases h7
     ·exact .inr (.inr ⟨rfl, by simp only [i1]⟩)
    ·rw [i1] at h1
     cases h1
 rcases key a h with e | ⟨_, e⟩ | ⟨_, e⟩
 ·rw [e, hb] at ha; cases ha
 ·rw [e] at ha; cases ha
 ·exact e
end Go.AM
/- AM: a get in a world of which all know all, told exactly. -/
namespace Go.AM
def getA (id k : Int) : Act := ⟨10, id, 0, 0, [], k, 0⟩
def GotW (S : List Int) (P : Nat) (k : Int) (v b : Wld) : Prop := Fine S b ∧ ∃ x, v.nodes[P]? = some x ∧
 (((zbw x.view k).1 = x.view.id ∧ b = ⟨v.nodes.set P { x with log := zde x (gotT x k) }, [], []⟩) ∨ ((zbw x.view k).1 ≠ x.view.id ∧ b = ⟨v.nodes, [], [zjp x (zbw x.view k).1 k]⟩))
theorem qgy {S : List Int} {w : Wld} (hF : Fine S w) (hp : w.packets = []) {P : Nat} {x : Node} (hx : w.nodes[P]? = some x) {k : Int} (hkey : place k = true) : ∃ b, Den PP 20 [wldD w, actD (getA x.view.id k)] [] (.tup [wldD b, .int .i64 0]) [] ∧ GotW S P k w b := by
 have hM := hF.may
 have hw := zfr.2 hM
 have hxm := List.mem_of_getElem? hx
 have hn : isN x.view.id w.nodes = true := (zud hM.nodes).2 (zek.2 ⟨x, hxm, rfl⟩)
 have h : mayA w (getA x.view.id k) = true := by
  unfold mayA getA
  simp [hn]
  rw [← placeB]
  exact hkey
 have hi : (getA x.view.id k).ids.length ≤ cap := by simp [getA, cap]
 obtain ⟨x', hx', hid⟩ := zzs hn
 have hpos : P = posN x.view.id w.nodes := zt2 hF.pair hx hx' hid.symm
 have hr := zha hM.nodes x.view.id
 have hu := hF.node hxm
 have hin : ∀ i, i = x.view.id ∨ i ∈ zbm x.view → i ∈ idsN w.nodes := by
  rintro i (rfl | hi)
  ·exact zek.2 ⟨x, hxm, rfl⟩
  ·exact hM.inN x hxm i hi
 obtain ⟨p1, p2, p3, p4, p5⟩ := zbi hu
 have hxp := hx
 rw [hpos] at hxp
 by_cases ho : (zbw x.view k).1 = x.view.id
 ·have ht : zdf (gotT x k) = false := by
   refine z1v hkey fun hh => ?_
   rcases qbs p3 k with e | ⟨i, _, _, hi, e⟩
   ·rw [e] at hh; cases hh
   ·rw [e]; exact hi
  obtain ⟨m1, m2⟩ := qcj hu ht
  have q1 := hM.set hxp m1 rfl (fun i hi => hM.inN x hxm i hi) hM.len hM.inM
  have q2 := hM.set hxp m1 rfl (fun i hi => hM.inN x hxm i hi) (ps := []) (by simp) (by simp)
  have hd := zxe w (getA x.view.id k) hi hw h rfl _ _ _ (z2u w (getA x.view.id k) x (zck hw) hr hn hxp hu hkey ho (zfr.2 q1) (zfr.2 q2))
  have hf := ztz hF hxp p1 rfl (y := { x with log := zde x (gotT x k) }) (ps := []) q2
  refine ⟨⟨w.nodes.set P { x with log := zde x (gotT x k) }, [], []⟩, ?_, by rw [hpos]; exact hf, x, hx, .inl ⟨ho, rfl⟩⟩
  have e : zc5 { w with nodes := w.nodes.set (posN (getA x.view.id k).node w.nodes) { x with log := zde x (gotT x (getA x.view.id k).key) } } [] = ⟨w.nodes.set P { x with log := zde x (gotT x k) }, [], []⟩ := by
   rw [show posN (getA x.view.id k).node w.nodes = P from hpos.symm]
   simp [zc5, hp, hF.cuts, getA]
  rw [e] at hd
  exact hd
 ·obtain ⟨a1, a2⟩ := qi9 hu hkey ho
  have hms : ∀ m ∈ [zjp x (zbw x.view k).1 k], zbs m = true ∧ ∀ i ∈ zb7 m, i ∈ idsN w.nodes := fun m hm => by
   rw [List.mem_singleton.1 hm]
   exact ⟨a1, fun i hi => hin i (a2 i hi)⟩
  have q1 := hM.set hxp (hM.node hxm) rfl (fun i hi => hM.inN x hxm i hi) hM.len hM.inM
  have q2 := hM.set hxp (hM.node hxm) rfl (fun i hi => hM.inN x hxm i hi) (ps := [zjp x (zbw x.view k).1 k]) (by simp) hms
  have hd := zxe w (getA x.view.id k) hi hw h rfl _ _ _ (z12 w (getA x.view.id k) x (zck hw) hr hn hxp hu hkey ho (zfr.2 q1) (zfr.2 q2))
  have hf := ztz hF hxp p1 rfl (y := x) (ps := [zjp x (zbw x.view k).1 k]) q2
  rw [zvx hxp] at hf
  refine ⟨⟨w.nodes, [], [zjp x (zbw x.view k).1 k]⟩, ?_, hf, x, hx, .inr ⟨ho, rfl⟩⟩
  have e : zc5 { w with nodes := w.nodes.set (posN (getA x.view.id k).node w.nodes) x } [zjp x (zbw x.view (getA x.view.id k).key).1 (getA x.view.id k).key] = ⟨w.nodes, [], [zjp x (zbw x.view k).1 k]⟩ := by
   rw [show posN (getA x.view.id k).node w.nodes = P from hpos.symm, zvx hx]
   simp [zc5, hp, hF.cuts, getA]
  rw [e] at hd
  exact hd
theorem qdk {S : List Int} {v b d : Wld} {P : Nat} {k o : Int} {i : Item} {has : Bool} {z : Node} (hF : Fine S v) (hf : FullW S v) (hk : place k = true) (hz : z ∈ v.nodes) (hzo : z.view.id = o) (hle : ∀ j ∈ S, far k o ≤ far k j)
 (hg : getR z.items k = (i, has)) (hb : GotW S P k v b) (hd : Rnd S b d) : ∃ y, d.nodes[P]? = some y ∧ y.log.length ≠ 0 ∧ y.log[y.log.length - 1]? = some (zes k i has) := by
 obtain ⟨hp, hpl⟩ := zzz hF
 have hoS : o ∈ S := by rw [← hF.ids, ← hzo]; exact zek.2 ⟨z, hz, rfl⟩
 obtain ⟨_, x, hx, hb⟩ := hb
 obtain ⟨a, h1, h2, h3, h4⟩ := hd
 have hlog := qdt h3
 have hxm := List.mem_of_getElem? hx
 have hlt := (List.getElem?_eq_some_iff.1 hx).1
 have hown := z0m (zxu hF hf hxm).1 hpl hk hoS hle
 have fin : ∀ t : Told, a.nodes = v.nodes.set P { x with log := zde x t } → ∃ y, d.nodes[P]? = some y ∧ y.log.length ≠ 0 ∧ y.log[y.log.length - 1]? = some t := by
  intro t ha
  have hlt2 : P < a.nodes.length := by rw [ha]; simpa using hlt
  have hlt3 : P < d.nodes.length := by rw [hlog.len]; exact hlt2
  obtain ⟨y, hy⟩ : ∃ y, d.nodes[P]? = some y := ⟨_, List.getElem?_eq_getElem hlt3⟩
  have hax : a.nodes[P]? = some { x with log := zde x t } := by rw [ha, List.getElem?_set_self hlt]
  have e : y.log = zde x t := hlog.rel P _ _ hax hy
  refine ⟨y, hy, ?_⟩
  rw [e]
  exact qdg x t
 rw [hown] at hb
 rcases hb with ⟨h5, rfl⟩ | ⟨h5, rfl⟩
 ·have hxz : x = z := znh hF.pair hxm hz (by rw [hzo]; exact h5.symm)
  subst hxz
  have := zvr h1 rfl
  subst this
  have ht : gotT x k = zes k i has := by unfold gotT; rw [hg]
  rw [← ht]
  exact fin _ rfl
 ·have ha := qfj hF hx hz (k := k) (by rw [hzo]) h1 h2
  have ht : mT (ze7 z (zjp x z.view.id k)) = zes k i has := by
   show zes k (getR z.items k).1 (getR z.items k).2 = _
   rw [hg]
  rw [ht] at ha
  exact fin _ ha
end Go.AM
/- AM: contracts: the document's answer to what world may be. -/
namespace Go.AM
def hasN (id : Int) (x : Node) : Bool := decide (x.view.id = id)
def allN (ns : List Node) (ids : List Int) : Bool := ids.all fun i => ns.any (hasN i)
theorem z7b {ns : List Node} {id : Int} : ns.any (hasN id) = true ↔ id ∈ idsN ns := by
 simp [hasN, idsN]
theorem zum (ns : List Node) (id : Int) (hl : ns.length ≤ cap) : Den PP 18 [za2 ns, .int .i64 id] [] (.int .i64 (gIdx (hasN id) 0 ns)) [] := by
 obtain ⟨A, hA⟩ : ∃ A, gIdx (hasN id) 0 ns = A := ⟨_, rfl⟩
 unfold cap at hl
 refine zak [] [] zsd ?_
 simp -implicitDefEqProofs [zmo, za2, hA]
 refine za3 ns (fun i rest => fun ⟨fr, bs⟩ => bs = [] ∧ fr 0 = za2 ns ∧ fr 1 = .int .i64 id ∧ fr 5 = .int .i64 i ∧ gIdx (hasN id) i rest = A)
  (fun ⟨fr, bs⟩ => bs = [] ∧ A = -1) (fun ⟨fr, bs⟩ => fr 4 = .int .i64 A) zi4.eq_1 ?_ ?_ ?_ ?_ ?_
 ·exact ⟨rfl, rfl, rfl, rfl, hA⟩
 ·rintro i ⟨fr, bs⟩ hi ⟨rfl, h0, h1, h5, he⟩
  simp -implicitDefEqProofs [h0, h1, h5, hi, za2]
  simpa [gIdx] using he.symm
 ·rintro i a rest ⟨fr, bs⟩ hlt hget hg hd hd2 ⟨rfl, h0, h1, h5, he⟩
  have hlt' : (i : Int) < ns.length := by omega
  have hw := za5 (n := i) (by omega)
  simp only [gIdx] at he
  by_cases ha : a.view.id = id
  ·have hh : hasN id a = true := by simp [hasN, ha]
   rw [if_pos hh] at he
   simp -implicitDefEqProofs [h0, h1, h5, hlt, hlt', hget, hg, za2, Node.cells, zat, zap, zav, zay, ha]
   exact he
  ·have hh : ¬ hasN id a = true := by simp [hasN, ha]
   rw [if_neg hh] at he
   simp -implicitDefEqProofs [h0, h1, h5, hlt, hlt', hget, hg, za2, Node.cells, zat, zap, zav, zay, ha]
   exact ⟨zaw (by omega) (by omega), he⟩
 ·rintro ⟨fr, bs⟩ ⟨rfl, h1⟩
  simp -implicitDefEqProofs [h1]
 ·rintro ⟨fr, bs⟩ h
  simp -implicitDefEqProofs [h]
theorem z0l (ns : List Node) (id : Int) : decide (gIdx (hasN id) 0 ns < 0) = !ns.any (hasN id) := by
 rw [← zy3 (hasN id) ns 0]
 by_cases h : 0 ≤ gIdx (hasN id) 0 ns
 ·simp [h]
 ·simp [h]; omega
theorem z4s (ns : List Node) (ids : List Int) (hl : ns.length ≤ cap) (hi : ids.length ≤ cap) : Den PP 72 [za2 ns, zap ids] [] (.bool (allN ns ids)) [] := by
 obtain ⟨A, hA⟩ : ∃ A, allN ns ids = A := ⟨_, rfl⟩
 unfold allN at hA
 unfold allN
 rw [hA]
 refine zak [] [] zqg ?_
 simp -implicitDefEqProofs [zko, za2, zap]
 refine za3 ids (fun i rest => fun ⟨fr, bs⟩ => bs = [] ∧ fr 0 = za2 ns ∧ fr 1 = zap ids ∧ fr 5 = .int .i64 i ∧ (rest.all fun i => ns.any (hasN i)) = A)
  (fun ⟨fr, bs⟩ => bs = [] ∧ A = true) (fun ⟨fr, bs⟩ => fr 4 = .bool false ∧ A = false) zif.eq_1 ?_ ?_ ?_ ?_ ?_
 ·exact ⟨rfl, rfl, rfl, rfl, hA⟩
 ·rintro i ⟨fr, bs⟩ hi ⟨rfl, h0, h1, h5, he⟩
  simp -implicitDefEqProofs [h0, h1, h5, hi, zap]
  simpa using he.symm
 ·rintro i a rest ⟨fr, bs⟩ hlt hget hg hd hd2 ⟨rfl, h0, h1, h5, he⟩
  unfold cap at hi
  have hlt' : (i : Int) < ids.length := by omega
  have hw : IntKind.wrap .i64 ((i : Int) + 1) = (i : Int) + 1 := zaw (by omega) (by omega)
  have c1 := zum ns a hl
  have c2 := z0l ns a
  rw [List.all_cons] at he
  generalize gIdx (hasN a) 0 ns = G at *
  generalize ns.any (hasN a) = B at *
  clear hA
  simp only [za2] at c1
  simp -implicitDefEqProofs [h0, h1, h5, hlt, hlt', hget, hg, za2, zap, irow]
  refine zaa c1 ?_
  simp -implicitDefEqProofs [c2]
  cases B
  ·simp -implicitDefEqProofs
   simpa using he.symm
  ·simp -implicitDefEqProofs [h0, h1, h5, za2, zap, hw]
   simpa using he
 ·rintro ⟨fr, bs⟩ ⟨rfl, h1⟩
  simp -implicitDefEqProofs [h1]
 ·rintro ⟨fr, bs⟩ ⟨h, h1⟩
  simp -implicitDefEqProofs [h, h1]
theorem z0s (ms : List Msg) (hl : ms.length ≤ zbo) (hi : ∀ m ∈ ms, m.ids.length ≤ cap) : Den PP 161 [zbl ms] [] (.bool (ms.all zbs && decide (ms.length ≤ 512))) [] := by
 obtain ⟨A, hA⟩ : ∃ A, ms.all zbs = A := ⟨_, rfl⟩
 rw [hA]
 unfold zbo at hl
 refine zak [] [] zm8 ?_
 simp -implicitDefEqProofs [zhq, zbl]
 refine za3 ms (fun i rest => fun ⟨fr, bs⟩ => bs = [] ∧ fr 0 = zbl ms ∧ fr 3 = .int .i64 i ∧ rest.all zbs = A)
  (fun ⟨fr, bs⟩ => bs = [] ∧ fr 0 = zbl ms ∧ A = true) (fun ⟨fr, bs⟩ => fr 2 = .bool false ∧ A = false) zgg.eq_1 ?_ ?_ ?_ ?_ ?_
 ·exact ⟨rfl, rfl, rfl, hA⟩
 ·rintro i ⟨fr, bs⟩ hi ⟨rfl, h0, h3, he⟩
  simp -implicitDefEqProofs [h0, h3, hi, zbl]
  simpa using he.symm
 ·rintro i a rest ⟨fr, bs⟩ hlt hget hg hd hd2 ⟨rfl, h0, h3, he⟩
  have hlt' : (i : Int) < ms.length := by omega
  have hw : IntKind.wrap .i64 ((i : Int) + 1) = (i : Int) + 1 := zaw (by omega) (by omega)
  have c1 := z9t a (hi a (List.mem_of_getElem? hget))
  rw [List.all_cons] at he
  clear hi hA
  generalize zbs a = B at *
  simp only [msgD, Msg.row, zap] at c1
  simp -implicitDefEqProofs [h0, h3, hlt, hlt', hget, hg, zbl, Msg.row, zap]
  refine zaa c1 ?_
  simp -implicitDefEqProofs
  cases B
  ·simp -implicitDefEqProofs
   simpa using he.symm
  ·simp -implicitDefEqProofs [h0, h3, zbl, hw]
   simpa using he
 ·rintro ⟨fr, bs⟩ ⟨rfl, h0, h1⟩
  simp -implicitDefEqProofs [h0, h1, zbl]
  constructor <;> intro <;> omega
 ·rintro ⟨fr, bs⟩ ⟨h, h1⟩
  simp -implicitDefEqProofs [h, h1]
def zwg (ns : List Node) (m : Msg) : Bool := ns.any (hasN m.from_) && (ns.any (hasN m.to) && allN ns m.ids)
theorem zwz (ns : List Node) (ms : List Msg) (hn : ns.length ≤ cap) (hl : ms.length ≤ zbo) (hi : ∀ m ∈ ms, m.ids.length ≤ cap) : Den PP 75 [za2 ns, zbl ms] [] (.bool (ms.all (zwg ns) && (ms.all zbs && decide (ms.length ≤ 512)))) [] := by
 have c0 := z0s ms hl hi
 generalize (ms.all zbs && decide (ms.length ≤ 512)) = Q at *
 obtain ⟨A, hA⟩ : ∃ A, ms.all (zwg ns) = A := ⟨_, rfl⟩
 rw [hA]
 unfold zbo at hl
 simp only [zbl] at c0
 refine zak [] [] zkg ?_
 simp -implicitDefEqProofs [zge, zbl]
 refine za3 ms (fun i rest => fun ⟨fr, bs⟩ => bs = [] ∧ fr 0 = za2 ns ∧ fr 1 = zbl ms ∧ fr 5 = .int .i64 i ∧ rest.all (zwg ns) = A)
  (fun ⟨fr, bs⟩ => bs = [] ∧ fr 1 = zbl ms ∧ A = true) (fun ⟨fr, bs⟩ => fr 4 = .bool false ∧ A = false) ze0.eq_1 ?_ ?_ ?_ ?_ ?_
 ·exact ⟨rfl, rfl, rfl, rfl, hA⟩
 ·rintro i ⟨fr, bs⟩ hi ⟨rfl, h0, h1, h5, he⟩
  simp -implicitDefEqProofs [h0, h1, h5, hi, zbl]
  simpa using he.symm
 ·rintro i a rest ⟨fr, bs⟩ hlt hget hg hd hd2 ⟨rfl, h0, h1, h5, he⟩
  have hlt' : (i : Int) < ms.length := by omega
  have hw : IntKind.wrap .i64 ((i : Int) + 1) = (i : Int) + 1 := zaw (by omega) (by omega)
  have c1 := zum ns a.from_ hn
  have c2 := z0l ns a.from_
  have c3 := zum ns a.to hn
  have c4 := z0l ns a.to
  have c5 := z4s ns a.ids hn (hi a (List.mem_of_getElem? hget))
  rw [List.all_cons] at he
  rw [show zwg ns a = (ns.any (hasN a.from_) && (ns.any (hasN a.to) && allN ns a.ids)) from rfl] at he
  clear hi hA
  generalize gIdx (hasN a.from_) 0 ns = G at *
  generalize gIdx (hasN a.to) 0 ns = G2 at *
  generalize ns.any (hasN a.from_) = B at *
  generalize ns.any (hasN a.to) = B2 at *
  generalize allN ns a.ids = B3 at *
  simp only [za2, zap] at c1 c3 c5
  simp -implicitDefEqProofs [h0, h1, h5, hlt, hlt', hget, hg, za2, zbl, Msg.row, zap]
  refine zaa c1 ?_
  simp -implicitDefEqProofs [c2]
  cases B
  ·simp -implicitDefEqProofs
   simpa using he.symm
  ·simp -implicitDefEqProofs [h0, h1, h5, hlt, hlt', hget, hg, za2, zbl, Msg.row, zap]
   refine zaa c3 ?_
   simp -implicitDefEqProofs [c4]
   cases B2
   ·simp -implicitDefEqProofs
    simpa using he.symm
   ·simp -implicitDefEqProofs [h0, h1, h5, hlt, hlt', hget, hg, za2, zbl, Msg.row, zap]
    refine zaa c5 ?_
    simp -implicitDefEqProofs
    cases B3
    ·simp -implicitDefEqProofs
     simpa using he.symm
    ·simp -implicitDefEqProofs [h0, h1, h5, za2, zbl, hw]
     simpa using he
 ·rintro ⟨fr, bs⟩ ⟨rfl, h0, h1⟩
  simp -implicitDefEqProofs [h0, h1, zbl]
  refine zaa c0 ?_
  simp -implicitDefEqProofs
 ·rintro ⟨fr, bs⟩ ⟨h, h1⟩
  simp -implicitDefEqProofs [h, h1]
def prevM (xs : List Node) (i : Nat) : Option Int := if i = 0 then none else (xs[i - 1]?).map fun x => x.view.id
def ziv (ns : List Node) : Option Int → List Node → Bool
 | _, [] => true
 | q, x :: xs => zcg x && (q.all (fun y => decide (y < x.view.id)) && (allN ns (x.view.peers.map Peer.id) && (allN ns x.view.passive && ziv ns (some x.view.id) xs)))
def cutIn (ns : List Node) (c : Cut) : Bool := ns.any (hasN c.a) && ns.any (hasN c.b)
def refWld (w : Wld) : Bool := ziv w.nodes none w.nodes && (w.cuts.all (cutIn w.nodes) && (decide (1 ≤ w.nodes.length) && (decide (w.nodes.length ≤ 8) && (zec w.cuts && (w.packets.all (zwg w.nodes) && (w.packets.all zbs && decide (w.packets.length ≤ 512)))))))
theorem z1n (ns : List Node) : ∀ (xs : List Node) (q : Option Int), ziv ns q xs = true ↔ zhg q xs = true ∧ ∀ x ∈ xs, ∀ i ∈ zee x, i ∈ idsN ns := by
 intro xs
 induction xs with
 | nil => intro q; simp [ziv, zhg]
 | cons x xs ih =>
   intro q
   simp only [ziv, zhg, Bool.and_eq_true, ih]
   have key : (allN ns (x.view.peers.map Peer.id) = true ∧ allN ns x.view.passive = true) ↔ ∀ i ∈ zee x, i ∈ idsN ns := by
    simp only [allN, List.all_eq_true, z7b, zee, List.mem_append]
    constructor
    ·rintro ⟨h1, h2⟩ i (h | h)
     ·exact h1 i h
     ·exact h2 i h
    ·intro h
     exact ⟨fun i hi => h i (.inl hi), fun i hi => h i (.inr hi)⟩
   constructor
   ·rintro ⟨h1, h2, h3, h4, h5, h6⟩
    refine ⟨⟨h1, h2, h5⟩, fun y hy => ?_⟩
    rcases List.mem_cons.1 hy with rfl | hy
    ·exact key.1 ⟨h3, h4⟩
    ·exact h6 y hy
   ·rintro ⟨⟨h1, h2, h3⟩, h4⟩
    obtain ⟨a, b⟩ := key.2 (h4 x (by simp))
    exact ⟨h1, h2, a, b, h3, fun y hy => h4 y (by simp [hy])⟩
theorem qbl (w : Wld) : refWld w = za9 w := by
 rw [Bool.eq_iff_iff, zfr]
 simp only [refWld, Bool.and_eq_true, decide_eq_true_eq, z1n, List.all_eq_true, cutIn, zwg, z7b, allN]
 constructor
 ·rintro ⟨⟨h1, h2⟩, h3, h4, h5, h6, h7, h8, h9⟩
  refine ⟨by simp [zdr, h1, h4, h5], h6, h9, h2, fun c hc i hi => ?_, fun m hm => ⟨h8 m hm, fun i hi => ?_⟩⟩
  ·simp only [zey, List.mem_cons, List.not_mem_nil, or_false] at hi
   rcases hi with rfl | rfl
   ·exact (h3 c hc).1
   ·exact (h3 c hc).2
  ·simp only [zb7, List.mem_cons] at hi
   rcases hi with rfl | rfl | hi
   ·exact (h7 m hm).1
   ·exact (h7 m hm).2.1
   ·exact (h7 m hm).2.2 i hi
 ·intro h
  have hn := h.nodes
  simp only [zdr, Bool.and_eq_true, decide_eq_true_eq] at hn
  refine ⟨⟨hn.1, h.inN⟩, fun c hc => ⟨h.inC c hc _ (by simp [zey]), h.inC c hc _ (by simp [zey])⟩, hn.2.1, hn.2.2, h.cuts, fun m hm => ⟨(h.inM m hm).2 _ (by simp [zb7]), (h.inM m hm).2 _ (by simp [zb7]), fun i hi => (h.inM m hm).2 i (by simp [zb7, hi])⟩, fun m hm => (h.inM m hm).1, h.len⟩
theorem zs5 (w : Wld) (hs : w.small) : Den PP 22 [wldD w] [] (.bool (za9 w)) [] := by
 rw [← qbl]
 obtain ⟨ns, cs, ps⟩ := w
 obtain ⟨s1, s2, s3, s4, s5⟩ := hs
 simp only at s1 s2 s3 s4 s5
 have hn : ns.length ≤ cap := by unfold zbo at s1; unfold cap; omega
 have c1 := z5x cs s3
 have c2 := zwz ns ps hn s4 s5
 unfold refWld
 simp only
 generalize (ps.all (zwg ns) && (ps.all zbs && decide (ps.length ≤ 512))) = PQ at *
 generalize zec cs = CM at *
 obtain ⟨A, hA⟩ : ∃ A, ziv ns none ns = A := ⟨_, rfl⟩
 obtain ⟨B, hB⟩ : ∃ B, cs.all (cutIn ns) = B := ⟨_, rfl⟩
 rw [hA, hB]
 unfold zbo at s1
 unfold cap at s3
 simp only [wldD, Wld.cells, za2, zbc, zbl] at c1 c2 ⊢
 refine zak [] [] zlx ?_
 simp -implicitDefEqProofs [zg5]
 refine za3 ns (fun i rest => fun ⟨fr, bs⟩ => bs = [⟨[[.sl (ns.map Node.cells) ns.length, .sl (cs.map Cut.row) cs.length, .sl (ps.map Msg.row) ps.length]], 3, .box⟩] ∧ fr 1 = .ptr 0 0 0 ∧ fr 3 = .int .i64 i ∧ ziv ns (prevM ns i) rest = A)
  (fun ⟨fr, bs⟩ => bs = [⟨[[.sl (ns.map Node.cells) ns.length, .sl (cs.map Cut.row) cs.length, .sl (ps.map Msg.row) ps.length]], 3, .box⟩] ∧ fr 1 = .ptr 0 0 0 ∧ A = true) (fun ⟨fr, bs⟩ => fr 2 = .bool false ∧ A = false) zfv.eq_1 ?_ ?_ ?_ ?_ ?_
 ·exact ⟨rfl, rfl, rfl, hA⟩
 ·rintro i ⟨fr, bs⟩ hi ⟨rfl, h1, h3, he⟩
  simp -implicitDefEqProofs [h1, h3, hi]
  simpa [ziv] using he.symm
 ·rintro i a rest ⟨fr, bs⟩ hlt hget hg hd hd2 ⟨rfl, h1, h3, he⟩
  have hlt' : (i : Int) < ns.length := by omega
  have hw : IntKind.wrap .i64 ((i : Int) + 1) = (i : Int) + 1 := zaw (by omega) (by omega)
  have hsm := s2 a (List.mem_of_getElem? hget)
  have k1 := z5g a hsm
  have k2 := zt7 a.view.peers hsm.1.1
  have k3 := z4s ns (a.view.peers.map Peer.id) hn (by have := hsm.1.1; unfold zbo at this; unfold cap; simp; omega)
  have k4 := z4s ns a.view.passive hn hsm.1.2
  simp only [ziv] at he
  have hp : prevM ns (i + 1) = some a.view.id := by simp [prevM, hget]
  rw [hp]
  clear hp s2 s5 hA hB hsm c1 c2
  generalize zcg a = M at *
  generalize allN ns (a.view.peers.map Peer.id) = X at *
  generalize allN ns a.view.passive = Y at *
  simp only [zc2, Node.cells, zat, zap, zav, zay, za2, List.map_map, Function.comp_def, List.length_map] at k1 k2 k3 k4
  cases i with
  | zero =>
    simp [prevM] at he
    simp -implicitDefEqProofs [h1, h3, hlt, hlt', hget, hg, Node.cells, zat, zap, zav, zay]
    refine zaa k1 ?_
    simp -implicitDefEqProofs
    cases M
    ·simp -implicitDefEqProofs
     simpa using he.symm
    ·simp -implicitDefEqProofs [h1, h3, hlt, hlt', hget, hg, Node.cells, zat, zap, zav, zay]
     refine zaa k2 ?_
     simp -implicitDefEqProofs [zar]
     refine zaa k3 ?_
     simp -implicitDefEqProofs
     cases X
     ·simp -implicitDefEqProofs
      simpa using he.symm
     ·simp -implicitDefEqProofs [h1, h3, hlt, hlt', hget, hg, Node.cells, zat, zap, zav, zay]
      refine zaa k4 ?_
      simp -implicitDefEqProofs
      cases Y
      ·simp -implicitDefEqProofs
       simpa using he.symm
      ·simp -implicitDefEqProofs [h1, h3, hw]
       exact ⟨zaw (by omega) (by omega), by simpa using he⟩
  | succ j =>
    have hj : j < ns.length := by omega
    have hj' : (j : Int) < ns.length := by omega
    have hlt3 : (j : Int) + 1 < ns.length := by omega
    have h0j : (0 : Int) ≤ (j : Int) + 1 := by omega
    have h0k : ¬ (j : Int) + 1 ≤ 0 := by omega
    have h0l : (0 : Int) < (j : Int) + 1 := by omega
    have hjw : IntKind.wrap .i64 (j : Int) = j := zaw (by omega) (by omega)
    obtain ⟨q, hqj⟩ : ∃ q, ns[j] = q := ⟨_, rfl⟩
    have hpj : prevM ns (j + 1) = some q.view.id := by simp [prevM, hj, hqj]
    rw [hpj] at he
    simp at he
    simp -implicitDefEqProofs [h1, h3, hlt, hlt', hlt3, h0j, h0k, h0l, hget, hg, Node.cells, zat, zap, zav, zay]
    refine zaa k1 ?_
    simp -implicitDefEqProofs
    cases M
    ·simp -implicitDefEqProofs
     simpa using he.symm
    ·simp -implicitDefEqProofs [h1, h3, hlt, hlt', hlt3, h0j, h0k, h0l, hget, hg, hj, hj', hjw, hqj, Node.cells, zat, zap, zav, zay]
     by_cases hlq : q.view.id < a.view.id
     ·have hlq2 : ¬ a.view.id ≤ q.view.id := by omega
      simp -implicitDefEqProofs [h1, h3, hlt, hlt', hlt3, h0j, h0k, h0l, hget, hg, hlq, hlq2, Node.cells, zat, zap, zav, zay]
      refine zaa k2 ?_
      simp -implicitDefEqProofs [zar]
      refine zaa k3 ?_
      simp -implicitDefEqProofs
      cases X
      ·simp -implicitDefEqProofs
       simpa [hlq] using he.symm
      ·simp -implicitDefEqProofs [h1, h3, hlt, hlt', hlt3, h0j, h0k, h0l, hget, hg, Node.cells, zat, zap, zav, zay]
       refine zaa k4 ?_
       simp -implicitDefEqProofs
       cases Y
       ·simp -implicitDefEqProofs
        simpa [hlq] using he.symm
       ·simp -implicitDefEqProofs [h1, h3, hw]
        exact ⟨zaw (by omega) (by omega), by simpa [hlq] using he⟩
     ·have hlq2 : a.view.id ≤ q.view.id := by omega
      simp -implicitDefEqProofs [hlq, hlq2]
      simpa [hlq] using he.symm
 ·rintro ⟨fr, bs⟩ ⟨rfl, h1, hAt⟩
  clear hA s2
  simp -implicitDefEqProofs [h1]
  refine za3 cs (fun i rest => fun ⟨fr, bs⟩ => bs = [⟨[[.sl (ns.map Node.cells) ns.length, .sl (cs.map Cut.row) cs.length, .sl (ps.map Msg.row) ps.length]], 3, .box⟩] ∧ fr 1 = .ptr 0 0 0 ∧ fr 5 = .int .i64 i ∧ rest.all (cutIn ns) = B)
   (fun ⟨fr, bs⟩ => bs = [⟨[[.sl (ns.map Node.cells) ns.length, .sl (cs.map Cut.row) cs.length, .sl (ps.map Msg.row) ps.length]], 3, .box⟩] ∧ fr 1 = .ptr 0 0 0 ∧ B = true) (fun ⟨fr, bs⟩ => fr 2 = .bool false ∧ B = false) zft.eq_1 ?_ ?_ ?_ ?_ ?_
  ·exact ⟨by first | rfl | simp, by simp [h1], rfl, hB⟩
  ·rintro i ⟨fr, bs⟩ hi ⟨rfl, h1, h5, he⟩
   simp -implicitDefEqProofs [h1, h5, hi]
   simpa using he.symm
  ·rintro i a rest ⟨fr, bs⟩ hlt hget hg hd hd2 ⟨rfl, h1, h5, he⟩
   have hlt' : (i : Int) < cs.length := by omega
   have hw : IntKind.wrap .i64 ((i : Int) + 1) = (i : Int) + 1 := zaw (by omega) (by omega)
   have k1 := zum ns a.a hn
   have k2 := z0l ns a.a
   have k3 := zum ns a.b hn
   have k4 := z0l ns a.b
   rw [List.all_cons, show cutIn ns a = (ns.any (hasN a.a) && ns.any (hasN a.b)) from rfl] at he
   clear hB c1 c2 s5
   generalize gIdx (hasN a.a) 0 ns = G at *
   generalize gIdx (hasN a.b) 0 ns = G2 at *
   generalize ns.any (hasN a.a) = X at *
   generalize ns.any (hasN a.b) = Y at *
   simp only [za2] at k1 k3
   simp -implicitDefEqProofs [h1, h5, hlt, hlt', hget, hg, Cut.row]
   refine zaa k1 ?_
   simp -implicitDefEqProofs [k2]
   cases X
   ·simp -implicitDefEqProofs
    simpa using he.symm
   ·simp -implicitDefEqProofs [h1, h5, hlt, hlt', hget, hg, Cut.row]
    refine zaa k3 ?_
    simp -implicitDefEqProofs [k4]
    cases Y
    ·simp -implicitDefEqProofs
     simpa using he.symm
    ·simp -implicitDefEqProofs [h1, h5, hw]
     simpa using he
  ·rintro ⟨fr, bs⟩ ⟨rfl, h1, hBt⟩
   clear hB s5
   subst hAt hBt
   simp -implicitDefEqProofs [h1]
   repeat' ((first | refine zaa (by first | exact c1 | exact c2) ?_ | ((with_reducible first | refine zaj ?_ ?_ | refine zah ?_ ?_ | refine zae ?_ ?_ | refine zad ?_ ?_) <;> intro _) | ((with_reducible first | refine zao ?_ ?_ | refine zaq ?_ ?_ | refine zal ?_ ?_ | refine zac ?_ ?_ | refine zai ?_ ?_ | refine zan ?_ ?_ | refine zaf ?_ ?_ | refine zab ?_ ?_) <;> intro hq <;> (try simp at hq)) | refine zag (by omega) ?_ | refine zam (by omega) ?_) <;> simp -implicitDefEqProofs [*])
   all_goals grind
  ·rintro ⟨fr, bs⟩ ⟨h, h1⟩
   simp -implicitDefEqProofs [h, h1]
 ·rintro ⟨fr, bs⟩ ⟨h, h1⟩
  simp -implicitDefEqProofs [h, h1]
end Go.AM
/- AM: worlds, acts handed in. -/
namespace Go.AM
def Msg.tame (m : Msg) : Prop := m.ids.length * 8 ≤ 140737488351232 ∧ (∀ x ∈ m.ids, in64 x) ∧ in64 m.kind ∧ in64 m.from_ ∧ in64 m.to ∧ in64 m.key ∧ m.item.tame
theorem Msg.tame.ids {m : Msg} (h : m.tame) : m.ids.length ≤ cap := by
 have := h.1
 unfold cap
 omega
theorem qeo {n : Nat} {cs : List D} (h : Tell TT (n + 4) 68 cs) : ∃ m : Msg, cs = m.row ∧ m.tame := by
 unfold Tell at h
 simp [Tell.TellFs] at h
 obtain ⟨a, r1, rfl, h1, b, r2, rfl, h2, c, r3, rfl, h3, d, r4, rfl, h4, e, r5, rfl, h5, f, g, rfl, h6, h7⟩ := h
 obtain ⟨k, rfl, hk⟩ := zd0 h1
 obtain ⟨u, rfl, hu⟩ := zd0 h2
 obtain ⟨v, rfl, hv⟩ := zd0 h3
 obtain ⟨is, rfl, h8, h9⟩ := zv1 h4
 obtain ⟨w, rfl, hw⟩ := zd0 h5
 obtain ⟨i, rfl, hi⟩ := zuz h6
 obtain ⟨b, rfl⟩ := znz h7
 exact ⟨⟨k, u, v, is, w, i, b⟩, rfl, h8, h9, hk, hu, hv, hw, hi⟩
theorem qer {n : Nat} {cs : List D} (h : Tell TT (n + 2) 121 cs) : ∃ c : Cut, cs = c.row ∧ in64 c.a ∧ in64 c.b := by
 unfold Tell at h
 simp [Tell.TellFs] at h
 obtain ⟨a, b, rfl, h1, h2⟩ := h
 obtain ⟨x, rfl, hx⟩ := zd0 h1
 obtain ⟨u, rfl, hu⟩ := zd0 h2
 exact ⟨⟨x, u⟩, rfl, hx, hu⟩
theorem qa0 {n : Nat} {cs : List D} (h : Tell TT (n + 3) 23 cs) : ∃ ts : List Cut, cs = [zbc ts] ∧ ts.length * 16 ≤ 140737488351232 ∧ ∀ t ∈ ts, in64 t.a ∧ in64 t.b := by
 unfold Tell at h
 simp at h
 obtain ⟨rows, rfl, hl, hr⟩ := h
 obtain ⟨xs, rfl, hx⟩ := zps (f := Cut.row) (Q := fun t => in64 t.a ∧ in64 t.b) rows fun r h => qer (hr r h)
 exact ⟨xs, by simp [zbc], by simpa using hl, hx⟩
theorem qch {n : Nat} {cs : List D} (h : Tell TT (n + 5) 24 cs) : ∃ ms : List Msg, cs = [zbl ms] ∧ ms.length * 104 ≤ 140737488351232 ∧ ∀ m ∈ ms, m.tame := by
 unfold Tell at h
 simp at h
 obtain ⟨rows, rfl, hl, hr⟩ := h
 obtain ⟨xs, rfl, hx⟩ := zps (f := Msg.row) (Q := Msg.tame) rows fun r h => qeo (hr r h)
 exact ⟨xs, by simp [zbl], by simpa using hl, hx⟩
theorem z7k {n : Nat} {cs : List D} (h : Tell TT (n + 6) 22 cs) : ∃ xs : List Node, cs = [za2 xs] ∧ xs.length * 112 ≤ 140737488351232 ∧ ∀ x ∈ xs, x.tame := by
 unfold Tell at h
 simp at h
 obtain ⟨rows, rfl, hl, hr⟩ := h
 obtain ⟨xs, rfl, hx⟩ := zps (f := Node.cells) (Q := Node.tame) rows fun r h => z1r (hr r h)
 exact ⟨xs, by simp [za2], by simpa using hl, hx⟩
theorem qb0 {n : Nat} {d : D} (h : zda TT (n + 7) 26 d) : ∃ w : Wld, d = wldD w ∧ w.small := by
 simp [zda] at h
 obtain ⟨cs, rfl, h⟩ := h
 unfold Tell at h
 simp [Tell.TellFs] at h
 obtain ⟨a, r1, rfl, h1, b, c, rfl, h2, h3⟩ := h
 obtain ⟨ns, rfl, l1, t1⟩ := z7k h1
 obtain ⟨ks, rfl, l2, t2⟩ := qa0 h2
 obtain ⟨ps, rfl, l3, t3⟩ := qch h3
 exact ⟨⟨ns, ks, ps⟩, rfl, by show ns.length ≤ zbo; unfold zbo; omega, fun x hx => (t1 x hx).small, by show ks.length ≤ cap; unfold cap; omega, by show ps.length ≤ zbo; unfold zbo; omega, fun m hm => (t3 m hm).ids⟩
end Go.AM
