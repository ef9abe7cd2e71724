/- What the proof of this claim stands on, part 13. -/
import Derived.RangeFuncBox
import Derived.RangeFuncLeaves
import Derived.Shelf.Abstract
import Derived.WalkKit
import Derived.OwnWalkIn
import Derived.TacticsInMore
import Derived.LoopNIn
import Derived.LoopIn
import Derived.Maps.AppendAt
import Derived.Shelf.Small.Bits
import Derived.KernelRfl
import Derived.Test.YtehagcggdepajaaGreatAmZ12
/- AM: contracts: an iterator's values collected; how many bits a number has. -/
namespace Go.AM
set_option linter.unusedSimpArgs false
set_option linter.unusedVariables false
open Go.RowKit Go.Shelf Go.Proofs
attribute [local go_sem] Oper.semAt_some
def upto (f : Nat → Int) (k : Nat) : List Int := (List.range k).map f
theorem zug (f : Nat → Int) (k : Nat) : upto f (k + 1) = upto f k ++ [f k] := by simp [upto, List.range_succ]
theorem zyy (f : Nat → Int) (k : Nat) : (upto f k).length = k := by simp [upto]
theorem z6z (zs : List Int) : upto (fun j => zs[j]?.getD 0) zs.length = zs := by
 apply List.ext_getElem
 ·simp [upto]
 ·intro i h1 h2
  simp [upto, h2]
theorem z4i (zs : List Int) {k : Nat} (hk : k ≤ zs.length) : upto (fun j => zs[j]?.getD 0) k = zs.take k := by
 apply List.ext_getElem
 ·simp [upto, hk]
 ·intro i h1 h2
  have : i < zs.length := by simp [upto] at h1; omega
  simp [upto, this]
set_option maxRecDepth 100000 in
set_option maxHeartbeats 2000000 in
theorem z4u (n : Nat) (hn : 1 ≤ n) (l n₀ b off len cap : Nat) (p : Addr) (zs : List Int) (hreach : len * 8 ≤ 140737488351232) (hb : b < n₀) (J Jx : List Int → World → Prop)
 (hY : ∀ pre x W, J pre W → pre.length < len → YieldAt Fence.wide (n - 1) PP l #[.int .i64 x] W fun e W' =>
   (e = .returned (.bool true) ∧ J (pre ++ [x]) W' ∧ Below n₀ W W') ∨ (e = .returned (.bool false) ∧ Jx (pre ++ [x]) W'))
 (W : World) (hBs : W.cell? p = some (.slice (some ⟨b, off, none⟩) len cap)) (hc : ∀ j, j < len → W.cell? ⟨b, off + j, none⟩ = some (.int .i64 (zs[j]?.getD 0))) (h0 : J [] W) :
 CallsIn Fence.wide n PP 202 #[.func (.yield l) #[] #[], .pointer (some p)] W fun e W' => (∃ v, e = .returned v) ∧
  ((∃ ys, ys = upto (fun j => zs[j]?.getD 0) len ∧ J ys W') ∨ (∃ pre, (∃ k, k ≤ len ∧ pre = upto (fun j => zs[j]?.getD 0) k) ∧ Jx pre W')) := by
 refine callsIn_of_wp Tryz.func202 rfl trivial ?_ rfl
 simp only [Tryz.ntmps202, List.size_toArray, List.length_cons, List.length_nil, Nat.reduceAdd, Nat.reduceSub, Array.replicate_succ, Array.replicate_zero, List.push_toArray, List.append_toArray, List.nil_append, List.cons_append]
 gi_wp2
 gi_loopw [7] (fun i wr => ∃ k : Nat, k ≤ len ∧ i = .int .i64 k ∧ J (upto (fun j => zs[j]?.getD 0) k) wr ∧ Below n₀ W wr)
  (fun i _ => len - (intOf i).toNat)
 case atStart => exact ⟨0, Nat.zero_le _, rfl, h0, Below.refl _ _⟩
 case round =>
  obtain ⟨k, hk, rfl, hJs, hnx⟩ := hrel
  have hcx : k < len → wr.cell? ⟨b, off + k, none⟩ = some (.int .i64 (zs[k]?.getD 0)) := fun h => (hnx.cell (p := ⟨b, off + k, none⟩) hb).trans (hc k h)
  by_cases hlt : k < len
  ·obtain ⟨fn, tmps, assign, body, hy, hR⟩ := hY _ (zs[k]?.getD 0) wr hJs (by rw [zyy]; exact hlt)
   have hcx' := hcx hlt
   gi_wp2
   refine hR.mono ?_
   rintro e W3 (⟨rfl, hJ3, hk3⟩ | ⟨rfl, hJx3⟩)
   ·gi_wp2
    go_roundw
    case rel => exact ⟨k + 1, by omega, by simp, by rw [zug]; exact hJ3, hnx.trans hk3⟩
    case measure => simp [intOf]; omega
   ·gi_wp2
    refine bodyPost_ret (results_none rfl _ _ _) rfl ?_
    exact ⟨⟨_, rfl⟩, .inr ⟨_, ⟨k + 1, by omega, (zug _ _).symm⟩, hJx3⟩⟩
  ·obtain rfl : k = len := by omega
   gi_wp2
   go_end0
   exact ⟨⟨_, rfl⟩, .inl ⟨_, rfl, hJs⟩⟩
set_option maxRecDepth 100000 in
set_option maxHeartbeats 1000000 in
theorem zw1 (n : Nat) (l cap : Nat) (p : Addr) (a : Option Addr) (J : List Int → World → Prop) (W : World) (hBs : W.cell? p = some (.slice a 0 cap)) (h0 : J [] W) :
 CallsIn Fence.wide n PP 202 #[.func (.yield l) #[] #[], .pointer (some p)] W fun e W' => (∃ v, e = .returned v) ∧ J [] W' := by
 refine callsIn_of_wp Tryz.func202 rfl trivial ?_ rfl
 simp only [Tryz.ntmps202, List.size_toArray, List.length_cons, List.length_nil, Nat.reduceAdd, Nat.reduceSub, Array.replicate_succ, Array.replicate_zero, List.push_toArray, List.append_toArray, List.nil_append, List.cons_append]
 gi_wp2
 gi_loopw [7] (fun i wr => i = .int .i64 0 ∧ J [] wr) (fun _ _ => 0)
 case atStart => exact ⟨rfl, h0⟩
 case round =>
  obtain ⟨rfl, hJs⟩ := hrel
  gi_wp2
  go_end0
  exact ⟨⟨_, rfl⟩, hJs⟩
def IntsAt (n₀ : Nat) (W : World) (sv : Value) (zs : List Int) : Prop :=
 (∃ a cap, sv = .slice a 0 cap ∧ zs = []) ∨ ∃ b off cap, sv = .slice (some ⟨b, off, none⟩) zs.length cap ∧ b < n₀ ∧ ∀ j, j < zs.length → W.cell? ⟨b, off + j, none⟩ = some (.int .i64 (zs[j]?.getD 0))
theorem IntsAt.below {n₀ : Nat} {A B : World} (h : Below n₀ A B) {sv : Value} {zs : List Int} : IntsAt n₀ A sv zs → IntsAt n₀ B sv zs
 | .inl e => .inl e
 | .inr ⟨b, off, cap, e, hb, hc⟩ => .inr ⟨b, off, cap, e, hb, fun j hj => (h.cell (p := ⟨b, off + j, none⟩) hb).trans (hc j hj)⟩
theorem ztx (n : Nat) (hn : 1 ≤ n) (n₀ : Nat) (p : Addr) (sv : Value) (zs : List Int) (hreach : zs.length * 8 ≤ 140737488351232) (w : World) (hBs : p.block < w.heap.size) (hn₀ : n₀ ≤ w.heap.size)
 (hc : w.cell? p = some sv) (hI : IntsAt n₀ w sv zs) :
 SeqStopsK Fence.wide n PP 202 #[.pointer (some p)] (fun x : Int => #[Value.int .i64 x]) (Below n₀) (fun ys => ys = zs) (fun pre => pre <+: zs) zs.length w := fun l J Jx W hW _ _ hY h0 => by
 have hc' := (hW.cell (p := p) hBs).trans hc
 rcases hI.below (hW.mono hn₀) with ⟨a, cap, rfl, rfl⟩ | ⟨b, off, cap, rfl, hb, hcs⟩
 ·exact (zw1 n l cap p a J W hc' h0).mono fun e W' ⟨he, hj⟩ => ⟨he, .inl ⟨_, rfl, hj⟩⟩
 ·refine (z4u n hn l n₀ b off zs.length cap p zs hreach hb J Jx hY W hc' hcs h0).mono ?_
  rintro e W' ⟨he, ⟨ys, rfl, hj⟩ | ⟨pre, ⟨k, hk, rfl⟩, hj⟩⟩
  ·exact ⟨he, .inl ⟨_, z6z zs, hj⟩⟩
  ·exact ⟨he, .inr ⟨_, by rw [z4i zs hk]; exact List.take_prefix _ _, hj⟩⟩
set_option maxRecDepth 100000 in
set_option maxHeartbeats 2000000 in
theorem zo0 (n : Nat) (hn : 3 ≤ n) (p : Addr) (sv : Value) (zs : List Int) (hlen : zs.length * 8 ≤ 140737488351232) (w : World) (hp : p.block < w.heap.size) (hc : w.cell? p = some sv) (hI : IntsAt w.heap.size w sv zs) :
 CallsIn Fence.wide n PP 233 #[.slice none 0 0, .func (.func 202) #[] #[.pointer (some p)]] w fun e W' => ∃ v, e = .returned v ∧
  W'.ownsRow w.heap.size 3 1 v zs.length (zs.map (Value.int .i64)) ∧ (v = .slice none 0 0 ↔ zs = []) ∧ Below w.heap.size w W' := by
 have h1 : 1 ≤ n := by omega
 have hmax : zs.length ≤ maxLen := by simp [maxLen]; omega
 obtain ⟨i0, hi, hz0, hz1, hz2⟩ := info_parts (by kernel_rfl : (PP.info? 3).map (fun i => (i.zero, i.size, i.bytes)) = some (some (.int .i64 0), 1, 8))
 refine callsIn_of_wp_marks Tryz.func233 rfl trivial ?_ rfl
 simp only [Tryz.ntmps233, List.size_toArray, List.length_cons, List.length_nil, Nat.reduceAdd, Nat.reduceSub, Array.replicate_succ, Array.replicate_zero, List.push_toArray, List.append_toArray, List.nil_append, List.cons_append]
 gi_wp2
 have bO := Boxed.new w 36 (.slice none 0 0)
 have hB0 : Below w.heap.size w (w.alloc (.cells #[.slice none 0 0] 36)) := (Below.refl _ w).alloc (Nat.le_refl _) _
 refine wpIn_rangeFunc_ownG rfl h1 (gf := 202) (lb := #[.pointer (some p)]) rfl trivial (enters_of Tryz.func202 (by kernel_rfl) rfl)
  (ztx (n - 1) (by omega) w.heap.size p sv zs hlen _ (by simp; omega) (by simp) ((hB0.cell (p := p) hp).trans hc) (hI.below hB0)) belowK_t (belowK_b (by simp)) (Below.refl _ _) (fun _ => rfl)
  (fun pre W => (∃ v, Boxed W w.heap.size 36 v ∧ W.ownsRow w.heap.size 3 1 v pre.length (pre.map (Value.int .i64)) ∧ (v = .slice none 0 0 ↔ pre = [])) ∧ Below w.heap.size w W)
  (fun _ _ _ => False)
  (OwnFrom.and (Own.from (holdsRow_own w.heap.size w.heap.size 36 3 1 (fun pre => pre.length) (fun pre => pre.map (Value.int .i64)) (fun pre v => v = .slice none 0 0 ↔ pre = [])) _) (ownFrom_below (Nat.le_refl _) (by simp)))
  (fun _ _ _ _ _ hs _ _ => hs)
  ⟨⟨_, bO, World.ownsRow_nil _ _ _ _, by simp⟩, hB0⟩
  (fun x => { tmps := #[.slice none 0 0, .func (.func 202) #[] #[.pointer (some p)], .pointer (some ⟨w.heap.size, 0, none⟩), Go.undef, .slice none 0 0, .int .i64 x, .func (.func 202) #[] #[.pointer (some p)], .int .i64 x, Go.undef, Go.undef, Go.undef, Go.undef, Go.undef], defers := [] }) ?assign ?body ?done ?stop
 case assign =>
  intro l x W K hK
  gi_wp2
  exact hK
 case body =>
  rintro l pre x W ⟨⟨v, hv, hrow, hnil⟩, hB⟩ hlt
  have hc := hv.cell
  gi_wp2_with (gi_at_builtin; refine wpListIn_append_own _ rfl _ _ 36 rfl w.heap.size 3 i0 (.int .i64 0) 1 8 Tryz.underlying36 hi hz0 hz1 hz2 rfl (by decide) _ _ _ rfl (hrow.alloc _) ⟨W.heap.size, 0, none⟩ 1 1 [.int .i64 x] rfl rfl (cell_one_new _ _ _) (by simp [Value.oneCell']) (by omega) (by omega) (by have := hB.size; simp; omega) ?_; intro v' w1 hown' hgrow _; obtain ⟨g', cap', rfl⟩ := ownsRow_succ hown'; obtain ⟨hv1, hv2, hr2, hk2, hb2⟩ := hv.appended (by decide) hrow hB.size (Nat.le_refl _) hown' hgrow; have hc1 := hv1.cell; have hf1 := hv1.frozen)
  exact ⟨hk2.from _, hb2, ⟨_, hv2, by simpa using hr2, by simp⟩, hB.trans hb2⟩
 case done =>
  rintro D ys W hD rfl ⟨⟨v, hv, hrow, hnil⟩, hB⟩ hK
  have hc := hv.cell
  gi_wp2
  refine ⟨by simp, .inl ⟨_, _, rfl, run_takeDeferred hK, ?_⟩⟩
  exact ⟨_, results_tmp rfl _ _ _, v, rfl, ownsRow_putObj hrow _ hK rfl, hnil, hB.trans (belowK_b (w := w) (Nat.le_refl _) W D _ _ (by simp at hD; omega) hK rfl rfl)⟩
 case stop =>
  rintro D c pre W _ _ h _
  exact h.elim
end Go.AM
/- AM: contracts: slices.Collect of a slice's values; how many bits two takes. -/
namespace Go.AM
set_option linter.unusedSimpArgs false
set_option linter.unusedVariables false
open Go.RowKit Go.Shelf Go.Proofs
attribute [local go_sem] Oper.semAt_some
set_option maxRecDepth 100000 in
set_option maxHeartbeats 2000000 in
theorem ztv (n : Nat) (hn : 4 ≤ n) (p : Addr) (sv : Value) (zs : List Int) (hlen : zs.length * 8 ≤ 140737488351232) (w : World) (hp : p.block < w.heap.size) (hc : w.cell? p = some sv) (hI : IntsAt w.heap.size w sv zs) :
 CallsIn Fence.wide n PP 200 #[.func (.func 202) #[] #[.pointer (some p)]] w fun e W' => ∃ v, e = .returned v ∧
  W'.ownsRow w.heap.size 3 1 v zs.length (zs.map (Value.int .i64)) ∧ (v = .slice none 0 0 ↔ zs = []) ∧ Below w.heap.size w W' := by
 have h1 : 1 ≤ n := by omega
 have hf : Fence.wide.fn 233 := trivial
 refine callsIn_of_wp Tryz.func200 rfl trivial ?_ rfl
 simp only [Tryz.ntmps200, List.size_toArray, List.length_cons, List.length_nil, Nat.reduceAdd, Nat.reduceSub, Array.replicate_succ, Array.replicate_zero, List.push_toArray, List.append_toArray, List.nil_append, List.cons_append]
 gi_wp2_with (gi_at_call 233; refine (zo0 (n - 1) (by omega) p sv zs hlen w hp hc hI).mono ?_; rintro e w1 ⟨v, rfl, hr, hnil, hB⟩)
 go_ret
 exact ⟨_, rfl, hr, hnil, hB⟩
theorem zwq {vs : Array Value} (h : vs.size = 1) : ∃ v, vs = #[v] := by
 obtain ⟨l⟩ := vs
 match l, h with
 | [v], _ => exact ⟨v, rfl⟩
theorem zx2 (zs : List Int) (hne : zs ≠ []) (hlen : zs.length * 8 ≤ 140737488351232) :
 Den PP 200 [.fn 202 [] [.mem [.sl (zs.map fun z => [.int .i64 z]) zs.length]]] [] (.ref 0 0 zs.length) [⟨zs.map fun z => [.int .i64 z], 1, .mut⟩] := by
 refine ⟨⟨_, Tryz.func200, by kernel_rfl, rfl⟩, fun w M0 ρ vals hM hS hs ha => ?_⟩
 obtain ⟨v0, rfl⟩ := zwq hs
 obtain ⟨va, vc, rfl, h1, h2, -, h4⟩ := (ha 0 v0 _ (by simp) rfl).fn_inv
 obtain rfl : va = #[] := Array.eq_empty_of_size_eq_zero (by simpa using h1)
 obtain ⟨v1, rfl⟩ := zwq h2
 have hm := (h4 0 v1 _ (by simp) rfl).mem_inv
 cases hm with
 | mem g off cs vs hc hv =>
 obtain ⟨-, hcell⟩ := hc 0 (by simp)
 have hsl := hv 0 _ rfl
 have key : ∃ b o cap, vs 0 = .slice (some ⟨b, o, none⟩) zs.length cap ∧ b < w.heap.size ∧ ∀ j, j < zs.length → w.cell? ⟨b, o + j, none⟩ = some (.int .i64 (zs[j]?.getD 0)) := by
  generalize vs 0 = sv at hsl
  cases hsl with
  | sl a len cap rows esz g off vals h1 h2 hr ha hc hv =>
    have h0 : 0 < zs.length := List.length_pos_iff.2 hne
    have he : esz = 1 := by
     cases zs with
     | nil => exact absurd rfl hne
     | cons z zs => exact (hr [.int .i64 z] (by simp)).symm
    subst he
    have hcc : ∀ j, j < zs.length → w.cell? ⟨g, off + j, none⟩ = some (.int .i64 (zs[j]?.getD 0)) := by
     intro j hj
     have hx := (hc j 0 (by simpa using hj) (by omega)).2
     have hy := hv j 0 [.int .i64 zs[j]] (.int .i64 zs[j]) (by simp [hj]) rfl
     have : vals j 0 = .int .i64 zs[j] := by
      generalize vals j 0 = u at hy
      cases hy; rfl
     rw [this] at hx
     simpa [hj] using hx
    exact ⟨g, off, cap, by rw [ha (by simpa using hne)], zig (hcc 0 h0), hcc⟩
 obtain ⟨b, o, cap, hsv, hb, hcc⟩ := key
 have hcell' : w.cell? ⟨g, off + 0, none⟩ = some (vs 0) := hcell
 refine ((callsIn_wide (n := 4)).1 (ztv 4 (by omega) ⟨g, off, none⟩ (vs 0) zs hlen w (zig hcell') hcell' (.inr ⟨b, o, cap, hsv, hb, hcc⟩))).mono ?_
 rintro e W' ⟨v, rfl, ⟨hl, hrow⟩, hnil, hB⟩
 rcases hrow with ⟨rfl, h0⟩ | ⟨g', cap', cur, rfl, hg, hh, hn1, hn2, hsz, htk⟩
 ·exact absurd (hnil.1 rfl) hne
 have habs : ∀ i, ρ i = .absent := fun i => hS.out i (Nat.zero_le _)
 have hcur : ∀ i, i < zs.length → cur[i]? = some (.int .i64 (zs[i]?.getD 0)) := by
  intro i hi
  have : (cur.toList.take (zs.length * 1))[i]? = (zs.map (Value.int .i64))[i]? := by rw [htk]
  rw [List.getElem?_take_of_lt (by omega)] at this
  simpa [hi] using this
 have hgw : w.heap.size ≤ g' := hg
 have hMof : ∀ (x o : Nat), Mof M0 (updL ρ 0 (.at_ g' 0 cur.size zs.length 1)) [⟨zs.map fun z => [.int .i64 z], 1, .mut⟩] x o → M0 x o ∨ x = g' := by
  rintro x o (h | ⟨i, k, base, n, rl, esz, hi, hat, -⟩)
  ·exact .inl h
  ·by_cases h0 : i = 0
   ·subst h0
    rw [za0] at hat
    cases hat
    exact .inr rfl
   ·rw [zbe _ _ h0, habs] at hat
    cases hat
 refine ⟨_, updL ρ 0 (.at_ g' 0 cur.size zs.length 1), rfl, ?_, ?_, by simp, fun i hi => absurd hi (by simp), ?_, ?_⟩
 ·have := Rep.ref (w := W') (M := Mof M0 (updL ρ 0 (.at_ g' 0 cur.size zs.length 1)) [⟨zs.map fun z => [.int .i64 z], 1, .mut⟩]) 0 0 zs.length cap' g' 0 cur.size zs.length 1 (za0 ρ 0 _) (by omega) (by omega) (by omega)
  simpa using this
 ·refine ⟨?_, ?_, ?_, ?_, ?_⟩
  ·intro i k g2 base n rl esz hi hat
   by_cases h0 : i = 0
   ·subst h0
    rw [za0] at hat
    cases hat
    cases hi
    refine ⟨by simp, rfl, by simp, by omega, cur, 3, hh, Nat.le_refl _, ?_⟩
    intro kk j r d hr hd
    rw [List.getElem?_map] at hr
    cases hz : zs[kk]? with
    | none => simp [hz] at hr
    | some z =>
      simp [hz] at hr
      subst hr
      cases j with
      | succ j => simp at hd
      | zero =>
        simp at hd
        subst hd
        have hlt := (List.getElem?_eq_some_iff.1 hz).1
        exact ⟨_, by simpa using hcur kk hlt, by rw [hz]; exact .int _ _⟩
   ·rw [zbe _ _ h0, habs] at hat
    cases hat
  ·intro i k hi hv
   by_cases h0 : i = 0
   ·subst h0
    rw [za0] at hv
    cases hv
   ·rw [zbe _ _ h0, habs] at hv
    cases hv
  ·intro i hi
   have : i ≠ 0 := by simp at hi; omega
   rw [zbe _ _ this]
   exact habs i
  ·intro i j g2 base n rl esz base' n' rl' esz' hi hj
   have hz : ∀ i, ∀ {base n rl esz}, updL ρ 0 (.at_ g' 0 cur.size zs.length 1) i = .at_ g2 base n rl esz → i = 0 := by
    intro i base n rl esz h
    by_cases h0 : i = 0
    ·exact h0
    ·rw [zbe _ _ h0, habs] at h
     cases h
   rw [hz i hi, hz j hj]
  ·intro i g2 base n rl esz hi o hm
   by_cases h0 : i = 0
   ·subst h0
    rw [za0] at hi
    cases hi
    have := hM _ _ hm
    omega
   ·rw [zbe _ _ h0, habs] at hi
    cases hi
 ·intro x o v hn hv
  have hx := zig hv
  refine ⟨fun hm => ?_, (hB.cell (p := ⟨x, o, none⟩) hx).trans hv⟩
  rcases hMof _ _ hm with h | h
  ·exact hn (.inl h)
  ·subst h; omega
 ·refine ⟨hB.size, hB.os, hB.tape, hB.output, fun g2 h2 _ => hB.block g2 h2, ?_⟩
  intro i g2 base n rl esz _ hi
  by_cases h0 : i = 0
  ·subst h0
   rw [za0] at hi
   cases hi
   exact hgw
  ·rw [zbe _ _ h0, habs] at hi
   cases hi
set_option maxRecDepth 100000 in
set_option maxHeartbeats 2000000 in
theorem z5m (w : World) : Calls PP 253 #[.int .u64 2] w fun e w' => e = .returned (.int .i64 2) ∧ w' = w := by
 go_enter Tryz.func253, Tryz.ntmps253
 go_wp2
 all_goals go_ret
 all_goals refine ⟨congrArg Ending.returned (congrArg (Value.int IntKind.i64) ?_), rfl⟩
 all_goals first | decide | kernel_rfl | rfl
set_option maxRecDepth 100000 in
set_option maxHeartbeats 2000000 in
theorem z8t (w : World) : Calls PP 235 #[.int .u64 2] w fun e w' => e = .returned (.int .i64 2) ∧ w' = w := by
 go_enter Tryz.func235, Tryz.ntmps235
 go_wp2_with (go_at_call 253; refine (z5m _).mono ?_; rintro e w' ⟨rfl, rfl⟩)
 all_goals go_ret
 all_goals exact ⟨rfl, rfl⟩
theorem z8x : Den PP 235 [.int .u64 2] [] (.int .i64 2) [] := by
 refine ⟨⟨_, Tryz.func235, by kernel_rfl, rfl⟩, fun w M0 ρ vals hM hS hs ha => ?_⟩
 obtain ⟨v0, rfl⟩ := zwq hs
 obtain rfl := (ha 0 v0 _ (by simp) rfl).int_inv
 refine (z8t w).mono ?_
 rintro e w' ⟨rfl, rfl⟩
 exact ⟨_, ρ, rfl, .imm _ _ (.int _ _), hS, Nat.le_refl _, fun _ _ => rfl, Pres.refl _ _, ⟨Nat.le_refl _, rfl, rfl, rfl, fun _ _ _ => rfl, fun i g base n rl esz hi hat => by rw [hS.out i hi] at hat; cases hat⟩⟩
end Go.AM
/- AM: awake: the program's own first answers, reckoned out. -/
namespace Go.AM
set_option linter.unusedSimpArgs false
set_option linter.unusedVariables false
set_option maxRecDepth 100000
theorem zww {n : Nat} {rows : List (List D)} (h : (rows.all fun r => Nat.beq r.length n && r.all D.isCell) = true) : Fits n rows := by
 intro r hr
 have := List.all_eq_true.1 h r hr
 simp only [Bool.and_eq_true, Nat.beq_eq] at this
 exact this
theorem zto {rows : List (List D)} (h : (rows.all fun r => r.all D.still) = true) : StillR rows :=
 fun r hr d hd => List.all_eq_true.1 (List.all_eq_true.1 h r hr) d hd
abbrev i (n : Int) : D := .int .i64 n
def xtab : List XR := [
 ⟨11, [12, 13, 18, 23, 27, 29, 48, 52, 56, 64, 69, 74, 82], [], [], []⟩,
 ⟨14, [16, 46, 59, 65], [], [], []⟩,
 ⟨15, [], [], [], []⟩,
 ⟨20, [9, 13, 17, 47], [46], [], []⟩,
 ⟨21, [7, 11, 12, 29, 34], [], [], []⟩,
 ⟨23, [5, 10, 16, 19, 21], [], [], []⟩,
 ⟨28, [10, 14, 27, 44], [43], [], []⟩,
 ⟨37, [15, 19, 23, 39, 46], [], [], []⟩,
 ⟨38, [12, 16, 22, 38, 44, 48], [], [], []⟩,
 ⟨39, [12, 17, 32], [], [], []⟩,
 ⟨40, [28, 32, 43], [], [], []⟩,
 ⟨41, [12, 16, 32, 37, 39, 52, 57, 61], [38, 60], [], []⟩,
 ⟨49, [5], [], [], []⟩,
 ⟨50, [5], [], [], []⟩,
 ⟨51, [9, 12, 14, 15, 17], [], [], []⟩,
 ⟨52, [5], [], [], []⟩,
 ⟨53, [], [], [], []⟩,
 ⟨57, [6, 9, 12, 30], [], [], []⟩,
 ⟨58, [43, 58, 84, 93, 99, 108], [], [], []⟩,
 ⟨59, [10, 15, 26], [8, 24], [], []⟩,
 ⟨60, [16, 37, 46, 52, 63], [14, 41, 61], [], []⟩,
 ⟨70, [17], [], [], []⟩,
 ⟨76, [13], [], [], []⟩,
 ⟨77, [14, 19, 39], [], [], []⟩,
 ⟨78, [10], [], [], []⟩,
 ⟨79, [7], [], [], []⟩,
 ⟨80, [25], [], [], []⟩,
 ⟨81, [8], [], [], []⟩,
 ⟨82, [11], [], [], []⟩,
 ⟨84, [7], [], [], []⟩,
 ⟨85, [6, 11, 28, 38, 45, 49, 55, 59, 70, 74, 83], [], [], []⟩,
 ⟨86, [5, 8, 11], [], [], []⟩,
 ⟨87, [15], [], [], []⟩,
 ⟨108, [], [], [], []⟩,
 ⟨109, [8, 13, 30], [], [], []⟩,
 ⟨110, [5, 8], [], [], []⟩,
 ⟨111, [13], [], [], []⟩,
 ⟨113, [24], [], [], []⟩,
 ⟨114, [9, 13, 17, 23], [], [], []⟩,
 ⟨115, [13], [], [], []⟩,
 ⟨116, [7], [], [], []⟩,
 ⟨118, [], [], [], []⟩,
 ⟨119, [12], [], [], []⟩,
 ⟨120, [7, 11, 17, 27, 43], [], [], []⟩,
 ⟨121, [17], [], [], []⟩,
 ⟨122, [10], [], [], []⟩,
 ⟨123, [5, 9, 14], [], [], []⟩,
 ⟨124, [], [], [], []⟩,
 ⟨132, [13], [], [], []⟩,
 ⟨135, [28], [], [], []⟩,
 ⟨136, [7, 16, 17], [], [], []⟩,
 ⟨137, [], [], [], []⟩,
 ⟨138, [6, 14], [], [], []⟩,
 ⟨139, [7, 10], [8], [], []⟩,
 ⟨140, [], [], [], []⟩,
 ⟨141, [], [], [], []⟩,
 ⟨142, [], [], [], []⟩,
 ⟨143, [], [], [], []⟩,
 ⟨144, [], [], [], []⟩,
 ⟨145, [], [], [], []⟩,
 ⟨146, [6, 19], [], [], []⟩,
 ⟨147, [12], [], [], []⟩,
 ⟨149, [], [], [], []⟩,
 ⟨150, [15], [], [], []⟩,
 ⟨151, [11], [], [], []⟩,
 ⟨152, [35], [], [], []⟩,
 ⟨153, [14], [], [], []⟩,
 ⟨163, [4], [], [], []⟩,
 ⟨164, [7], [], [], []⟩,
 ⟨165, [16], [], [], []⟩,
 ⟨166, [30, 46], [], [], []⟩,
 ⟨167, [9], [], [], []⟩,
 ⟨168, [8, 10], [], [], []⟩,
 ⟨169, [], [], [], []⟩,
 ⟨170, [], [], [], []⟩,
 ⟨181, [9, 24, 40, 47], [], [], []⟩,
 ⟨182, [10], [], [], []⟩,
 ⟨183, [], [], [], []⟩,
 ⟨184, [], [], [], []⟩,
 ⟨187, [], [], [], []⟩,
 ⟨188, [8, 17, 18], [], [], []⟩,
 ⟨189, [16], [], [], []⟩,
 ⟨190, [], [], [], []⟩,
 ⟨191, [8, 12, 17, 19], [17], [17], []⟩,
 ⟨192, [13, 17, 26, 31, 39], [34], [34], []⟩,
 ⟨193, [15], [], [], []⟩,
 ⟨194, [7], [], [], []⟩,
 ⟨195, [14], [], [], []⟩,
 ⟨199, [11, 32], [], [], []⟩,
 ⟨201, [11, 13], [7], [], []⟩,
 ⟨203, [8, 11, 12], [], [], []⟩,
 ⟨204, [], [], [], []⟩,
 ⟨205, [], [], [], []⟩,
 ⟨206, [13, 17, 22, 35], [], [], []⟩,
 ⟨207, [10, 24, 34], [30], [30], []⟩,
 ⟨208, [12, 16, 21, 40, 44], [], [], []⟩,
 ⟨215, [16], [], [], []⟩,
 ⟨216, [], [], [], []⟩,
 ⟨223, [26], [], [], []⟩,
 ⟨227, [11, 15, 16], [], [], []⟩,
 ⟨228, [30, 46], [], [], []⟩,
 ⟨229, [], [], [], []⟩,
 ⟨234, [30, 37, 44, 52, 61, 80, 94, 103, 111, 134, 146], [26, 33, 40, 48, 57, 76, 98, 106, 129, 140], [], []⟩,
 ⟨237, [30, 46], [], [], []⟩,
 ⟨244, [32], [], [], []⟩]
theorem z76 : (xtab.all fun x => x.ovl.isEmpty && (SFof PP x.f x.lend).isSome) = true := by kernel_rfl
def LH : List (Nat × List D × D × List Blk) := [
 (200, [.fn 202 [] [.mem [.sl [[i 3], [i 9]] 2]]], .ref 0 0 2, [⟨[[i 3], [i 9]], 1, .mut⟩]),
 (235, [.int .u64 2], i 2, [])]
def LG : List (Nat × List (List D) × Nat × List D × List (List D)) := [
 (236, [[i 0, i 3, i 9, .sl [] 0, i 0, i 0, i 0, i 0, i 0, .bool false, .bool false]], 11, [i 0, i 1], []),
 (225, [], 1, [.fn 224 [] [.mem [i 3]]], []),
 (226, [], 2, [i 0, .sl [[i 3, i 0]] 1], [[i 3, i 0]]),
 (236, [[i 0, i 3, i 9, .sl [] 0, i 0, i 0, i 0, i 0, i 0, .bool false, .bool false], [i 0, i 9, i 3, .sl [[i 3]] 1, i 0, i 0, i 0, i 0, i 0, .bool false, .bool false]], 11, [i 0, i 1], [[i 0, i 9, i 3, .sl [[i 3]] 1, i 0, i 0, i 0, i 0, i 0, .bool false, .bool false]]),
 (236, [[i 0, i 9, i 3, .sl [[i 3]] 1, i 0, i 0, i 0, i 0, i 0, .bool false, .bool false]], 11, [i 0, i 1], []),
 (225, [[i 9]], 1, [.fn 224 [] [.mem [i 9]]], []),
 (226, [], 2, [i 0, .sl [[i 9, i 0]] 1], [[i 9, i 0]])]
theorem LH_ok : ∀ x ∈ LH, Den PP x.1 x.2.1 [] x.2.2.1 x.2.2.2 := by
 intro x hx
 simp only [LH, List.mem_cons, List.not_mem_nil, or_false] at hx
 rcases hx with rfl | rfl
 ·exact zx2 [3, 9] (by simp) (by simp)
 ·exact z8x
theorem LG_ok : ∀ x ∈ LG, GivesC (DenF PP [0]) x.1 x.2.1 x.2.2.1 x.2.2.2.1 x.2.2.2.2 := by
 intro x hx
 simp only [LG, List.mem_cons, List.not_mem_nil, or_false] at hx
 rcases hx with rfl | rfl | rfl | rfl | rfl | rfl | rfl
 ·exact zka _ 0 (zww rfl) (zto rfl) (by simp) (by simp)
 ·exact zhb [] 224 [.mem [.int .i64 3]] (fun a => decide (a = 3)) ⟨fun _ => rfl, fun _ _ => rfl, fun a _ => zfc 3 a⟩ (by simp)
 ·exact zk5 [] _ 0 (by intro r hr; cases hr) (by intro r hr; cases hr) (by intro r hr; rw [List.mem_singleton.1 hr]; exact ⟨rfl, rfl⟩) (fun d hd => List.all_eq_true.1 (rfl : List.all _ D.still = true) d hd) (by simp) (by simp)
 ·exact zka _ 0 (zww rfl) (zto rfl) (by simp) (by simp)
 ·exact zka _ 0 (zww rfl) (zto rfl) (by simp) (by simp)
 ·exact zhb [9] 224 [.mem [.int .i64 9]] (fun a => decide (a = 9)) ⟨fun _ => rfl, fun _ _ => rfl, fun a _ => zfc 9 a⟩ (by simp)
 ·exact zk5 [] _ 0 (by intro r hr; cases hr) (by intro r hr; cases hr) (by intro r hr; rw [List.mem_singleton.1 hr]; exact ⟨rfl, rfl⟩) (fun d hd => List.all_eq_true.1 (rfl : List.all _ D.still = true) d hd) (by simp) (by simp)
noncomputable def mkX (fe : FE) (n : Nat) : Cfg := cfx n fe.own fe.lend fe.give [] fe.ovl
noncomputable abbrev XX (L : List (Nat × List D × D × List Blk)) : XC := run mkX (tabX PP xtab) (known L) (knownG LG) 1000 40
theorem zs9 (L : List (Nat × List D × D × List Blk)) (hL : ∀ x ∈ L, Den PP x.1 x.2.1 [] x.2.2.1 x.2.2.2) (f : Nat) (args : List D) (bs : List Blk) (r : D) (bs' : List Blk) (h : XX L f args bs = some (r, bs')) : Den PP f args bs r bs' := by
 refine z3h (C := Den PP) (fun _ _ => rfl) (fun fe n f rows esz rest R hR => zvt LG LG_ok _ _ _ _ _ hR) (zx7 L hL) ?_ ?_ 40 f args bs r bs' h
 ·intro f fe args bs r bs' hfe h
  unfold tabX at hfe
  split at hfe
  ·rename_i x hx
   cases hfe
   obtain ⟨hm, rfl⟩ := z5u _ _ _ hx
   have hk := List.all_eq_true.1 z76 x hm
   simp only [Bool.and_eq_true, List.isEmpty_iff] at hk
   refine zgc x.own x.lend x.give x.ovl (fun f hf => by rw [hk.1] at hf; exact absurd hf List.not_mem_nil) (zwo hk.2) ?_
   simpa only [mkX] using h
  ·cases hfe
 ·intro f x r nbs hx h1 h2
  have key : Den PP f [.sl [] 0] [] r nbs := znu (pre := []) (post := []) h1 h2
  unfold D.empty at hx
  split at hx
  ·exact zc5 (by simpa using key)
  ·exact key
  ·cases hx
theorem chkL {L M : List (Nat × List D × D × List Blk)} (hL : ∀ x ∈ L, Den PP x.1 x.2.1 [] x.2.2.1 x.2.2.2) (h : chkX (XX L) M = true) : ∀ x ∈ M ++ L, Den PP x.1 x.2.1 [] x.2.2.1 x.2.2.2 := by
 intro x hx
 rcases List.mem_append.1 hx with h1 | h1
 ·exact z0q (C := Den PP) h (fun f args r nbs h => zs9 L hL _ _ _ _ _ h) x h1
 ·exact hL x h1
def VW1 : List (Nat × List D × D × List Blk) := [
 (23, [.agg [.sl [[.bool true, i 3, .nil, .sl [[i 9]] 1, .sl [[i 5, i 1, i 3, i 7, .bool false]] 1, .nil], [.bool true, i 9, .nil, .sl [] 0, .nil, .nil]] 2, .nil, .nil]], .bool true, []),
 (23, [.agg [.sl [[.bool true, i 3, .sl [] 0, .sl [[i 9]] 1, .sl [[i 5, i 1, i 3, i 7, .bool false]] 1, .sl [] 0], [.bool true, i 9, .sl [] 0, .sl [] 0, .sl [] 0, .sl [] 0]] 2, .sl [] 0, .sl [] 0]], .bool true, []),
 (23, [.agg [.sl [[.bool true, i 3, .sl [] 0, .sl [[i 9]] 1, .sl [[i 5, i 1, i 3, i 7, .bool false]] 1, .sl [] 0], [.bool true, i 9, .sl [] 0, .sl [] 0, .sl [] 0, .sl [] 0]] 2, .sl [] 0, .sl [[i 0, i 3, i 9, .sl [] 0, i 0, i 0, i 0, i 0, i 0, .bool false, .bool false]] 1]], .bool true, []),
 (23, [.agg [.sl [[.bool true, i 3, .sl [] 0, .sl [[i 9]] 1, .sl [[i 5, i 1, i 3, i 7, .bool false]] 1, .sl [] 0], [.bool true, i 9, .sl [[i 3, i 0]] 1, .sl [] 0, .sl [] 0, .sl [] 0]] 2, .sl [] 0, .sl [] 0]], .bool true, []),
 (23, [.agg [.sl [[.bool true, i 3, .sl [] 0, .sl [[i 9]] 1, .sl [[i 5, i 1, i 3, i 7, .bool false]] 1, .sl [] 0], [.bool true, i 9, .sl [[i 3, i 0]] 1, .sl [] 0, .sl [] 0, .sl [] 0]] 2, .sl [] 0, .nil]], .bool true, []),
 (23, [.agg [.sl [[.bool true, i 3, .sl [] 0, .sl [[i 9]] 1, .sl [[i 5, i 1, i 3, i 7, .bool false]] 1, .sl [] 0], [.bool true, i 9, .sl [[i 3, i 0]] 1, .sl [] 0, .sl [] 0, .sl [] 0]] 2, .sl [] 0, .sl [[i 0, i 3, i 9, .sl [] 0, i 0, i 0, i 0, i 0, i 0, .bool false, .bool false]] 1]], .bool true, [])]
theorem ck_W1 : chkX (XX LH) VW1 = true := by kernel_rfl
abbrev LW1 : List (Nat × List D × D × List Blk) := VW1 ++ LH
theorem qbc : ∀ x ∈ LW1, Den PP x.1 x.2.1 [] x.2.2.1 x.2.2.2 := chkL LH_ok ck_W1
def VW2 : List (Nat × List D × D × List Blk) := [
 (23, [.agg [.sl [[.bool true, i 3, .sl [] 0, .sl [[i 9]] 1, .sl [[i 5, i 1, i 3, i 7, .bool false]] 1, .sl [] 0], [.bool true, i 9, .sl [[i 3, i 1]] 1, .sl [] 0, .sl [] 0, .sl [] 0]] 2, .sl [] 0, .sl [[i 0, i 3, i 9, .sl [] 0, i 0, i 0, i 0, i 0, i 0, .bool false, .bool false]] 1]], .bool true, []),
 (23, [.agg [.sl [[.bool true, i 3, .sl [] 0, .sl [[i 9]] 1, .sl [[i 5, i 1, i 3, i 7, .bool false]] 1, .sl [] 0], [.bool true, i 9, .sl [[i 3, i 1]] 1, .sl [] 0, .sl [] 0, .sl [] 0]] 2, .sl [] 0, .sl [[i 0, i 9, i 3, .sl [[i 3]] 1, i 0, i 0, i 0, i 0, i 0, .bool false, .bool false]] 1]], .bool true, []),
 (23, [.agg [.sl [[.bool true, i 3, .sl [] 0, .sl [[i 9]] 1, .sl [[i 5, i 1, i 3, i 7, .bool false]] 1, .sl [] 0], [.bool true, i 9, .sl [[i 3, i 1]] 1, .sl [] 0, .sl [] 0, .sl [] 0]] 2, .sl [] 0, .sl [[i 0, i 3, i 9, .sl [] 0, i 0, i 0, i 0, i 0, i 0, .bool false, .bool false], [i 0, i 9, i 3, .sl [[i 3]] 1, i 0, i 0, i 0, i 0, i 0, .bool false, .bool false]] 2]], .bool true, []),
 (23, [.agg [.sl [[.bool true, i 3, .sl [] 0, .sl [[i 9]] 1, .sl [[i 5, i 1, i 3, i 7, .bool false]] 1, .sl [] 0], [.bool true, i 9, .sl [[i 3, i 0]] 1, .sl [] 0, .sl [] 0, .sl [] 0]] 2, .sl [] 0, .sl [[i 0, i 9, i 3, .sl [[i 3]] 1, i 0, i 0, i 0, i 0, i 0, .bool false, .bool false]] 1]], .bool true, []),
 (23, [.agg [.sl [[.bool true, i 3, .sl [[i 9, i 0]] 1, .sl [] 0, .sl [[i 5, i 1, i 3, i 7, .bool false]] 1, .sl [] 0], [.bool true, i 9, .sl [[i 3, i 0]] 1, .sl [] 0, .sl [] 0, .sl [] 0]] 2, .sl [] 0, .sl [] 0]], .bool true, []),
 (23, [.agg [.sl [[.bool true, i 3, .sl [[i 9, i 0]] 1, .sl [] 0, .sl [[i 5, i 1, i 3, i 7, .bool false]] 1, .sl [] 0], [.bool true, i 9, .sl [[i 3, i 0]] 1, .sl [] 0, .sl [] 0, .sl [] 0]] 2, .sl [] 0, .nil]], .bool true, [])]
theorem ck_W2 : chkX (XX LW1) VW2 = true := by kernel_rfl
abbrev LW2 : List (Nat × List D × D × List Blk) := VW2 ++ LW1
theorem qa0 : ∀ x ∈ LW2, Den PP x.1 x.2.1 [] x.2.2.1 x.2.2.2 := chkL qbc ck_W2
def VA1 : List (Nat × List D × D × List Blk) := [
 (20, [.agg [.sl [[.bool true, i 3, .sl [] 0, .sl [[i 9]] 1, .sl [[i 5, i 1, i 3, i 7, .bool false]] 1, .sl [] 0], [.bool true, i 9, .sl [] 0, .sl [] 0, .sl [] 0, .sl [] 0]] 2, .sl [] 0, .sl [] 0], .agg [i 0, i 3, i 0, i 0, .nil, i 0, i 0]], .tup [.agg [.ref 0 0 2, .ref 1 0 0, .ref 2 0 1], i 0], [⟨[[.bool true, i 3, .sl [] 0, .sl [[i 9]] 1, .sl [[i 5, i 1, i 3, i 7, .bool false]] 1, .sl [] 0], [.bool true, i 9, .sl [] 0, .sl [] 0, .sl [] 0, .sl [] 0]], 6, .mut⟩, ⟨[], 2, .mut⟩, ⟨[[i 0, i 3, i 9, .sl [] 0, i 0, i 0, i 0, i 0, i 0, .bool false, .bool false]], 11, .mut⟩]),
 (20, [.agg [.sl [[.bool true, i 3, .sl [] 0, .sl [[i 9]] 1, .sl [[i 5, i 1, i 3, i 7, .bool false]] 1, .sl [] 0], [.bool true, i 9, .sl [] 0, .sl [] 0, .sl [] 0, .sl [] 0]] 2, .sl [] 0, .sl [[i 0, i 3, i 9, .sl [] 0, i 0, i 0, i 0, i 0, i 0, .bool false, .bool false]] 1], .agg [i 0, i 9, i 0, i 0, .nil, i 0, i 0]], .tup [.agg [.ref 0 0 2, .ref 1 0 0, .ref 2 0 1], i 0], [⟨[[.bool true, i 3, .sl [] 0, .sl [[i 9]] 1, .sl [[i 5, i 1, i 3, i 7, .bool false]] 1, .sl [] 0], [.bool true, i 9, .sl [] 0, .sl [] 0, .sl [] 0, .sl [] 0]], 6, .mut⟩, ⟨[], 2, .mut⟩, ⟨[[i 0, i 3, i 9, .sl [] 0, i 0, i 0, i 0, i 0, i 0, .bool false, .bool false]], 11, .mut⟩]),
 (20, [.agg [.sl [[.bool true, i 3, .sl [] 0, .sl [[i 9]] 1, .sl [[i 5, i 1, i 3, i 7, .bool false]] 1, .sl [] 0], [.bool true, i 9, .sl [] 0, .sl [] 0, .sl [] 0, .sl [] 0]] 2, .sl [] 0, .sl [[i 0, i 3, i 9, .sl [] 0, i 0, i 0, i 0, i 0, i 0, .bool false, .bool false]] 1], .agg [i 1, i 0, i 0, i 0, .nil, i 0, i 0]], .tup [.agg [.ref 0 0 2, .ref 1 0 0, .ref 2 0 0], i 0], [⟨[[.bool true, i 3, .sl [] 0, .sl [[i 9]] 1, .sl [[i 5, i 1, i 3, i 7, .bool false]] 1, .sl [] 0], [.bool true, i 9, .sl [[i 3, i 0]] 1, .sl [] 0, .sl [] 0, .sl [] 0]], 6, .mut⟩, ⟨[], 2, .mut⟩, ⟨[], 11, .mut⟩]),
 (20, [.agg [.sl [[.bool true, i 3, .sl [] 0, .sl [[i 9]] 1, .sl [[i 5, i 1, i 3, i 7, .bool false]] 1, .sl [] 0], [.bool true, i 9, .sl [[i 3, i 0]] 1, .sl [] 0, .sl [] 0, .sl [] 0]] 2, .sl [] 0, .sl [] 0], .agg [i 0, i 3, i 0, i 0, .nil, i 0, i 0]], .tup [.agg [.ref 0 0 2, .ref 1 0 0, .ref 2 0 1], i 0], [⟨[[.bool true, i 3, .sl [] 0, .sl [[i 9]] 1, .sl [[i 5, i 1, i 3, i 7, .bool false]] 1, .sl [] 0], [.bool true, i 9, .sl [[i 3, i 0]] 1, .sl [] 0, .sl [] 0, .sl [] 0]], 6, .mut⟩, ⟨[], 2, .mut⟩, ⟨[[i 0, i 3, i 9, .sl [] 0, i 0, i 0, i 0, i 0, i 0, .bool false, .bool false]], 11, .mut⟩])]
theorem ck_A1 : chkX (XX LW2) VA1 = true := by kernel_rfl
abbrev LA1 : List (Nat × List D × D × List Blk) := VA1 ++ LW2
theorem qaz : ∀ x ∈ LA1, Den PP x.1 x.2.1 [] x.2.2.1 x.2.2.2 := chkL qa0 ck_A1
def VA2 : List (Nat × List D × D × List Blk) := [
 (20, [.agg [.sl [[.bool true, i 3, .sl [] 0, .sl [[i 9]] 1, .sl [[i 5, i 1, i 3, i 7, .bool false]] 1, .sl [] 0], [.bool true, i 9, .sl [[i 3, i 0]] 1, .sl [] 0, .sl [] 0, .sl [] 0]] 2, .sl [] 0, .sl [[i 0, i 3, i 9, .sl [] 0, i 0, i 0, i 0, i 0, i 0, .bool false, .bool false]] 1], .agg [i 0, i 9, i 0, i 0, .nil, i 0, i 0]], .tup [.agg [.ref 0 0 2, .ref 1 0 0, .ref 2 0 2], i 0], [⟨[[.bool true, i 3, .sl [] 0, .sl [[i 9]] 1, .sl [[i 5, i 1, i 3, i 7, .bool false]] 1, .sl [] 0], [.bool true, i 9, .sl [[i 3, i 1]] 1, .sl [] 0, .sl [] 0, .sl [] 0]], 6, .mut⟩, ⟨[], 2, .mut⟩, ⟨[[i 0, i 3, i 9, .sl [] 0, i 0, i 0, i 0, i 0, i 0, .bool false, .bool false], [i 0, i 9, i 3, .sl [[i 3]] 1, i 0, i 0, i 0, i 0, i 0, .bool false, .bool false]], 11, .mut⟩]),
 (20, [.agg [.sl [[.bool true, i 3, .sl [] 0, .sl [[i 9]] 1, .sl [[i 5, i 1, i 3, i 7, .bool false]] 1, .sl [] 0], [.bool true, i 9, .sl [[i 3, i 1]] 1, .sl [] 0, .sl [] 0, .sl [] 0]] 2, .sl [] 0, .sl [[i 0, i 3, i 9, .sl [] 0, i 0, i 0, i 0, i 0, i 0, .bool false, .bool false], [i 0, i 9, i 3, .sl [[i 3]] 1, i 0, i 0, i 0, i 0, i 0, .bool false, .bool false]] 2], .agg [i 1, i 0, i 0, i 0, .nil, i 0, i 0]], .tup [.agg [.ref 0 0 2, .ref 1 0 0, .ref 2 0 1], i 0], [⟨[[.bool true, i 3, .sl [] 0, .sl [[i 9]] 1, .sl [[i 5, i 1, i 3, i 7, .bool false]] 1, .sl [] 0], [.bool true, i 9, .sl [[i 3, i 0]] 1, .sl [] 0, .sl [] 0, .sl [] 0]], 6, .mut⟩, ⟨[], 2, .mut⟩, ⟨[[i 0, i 9, i 3, .sl [[i 3]] 1, i 0, i 0, i 0, i 0, i 0, .bool false, .bool false]], 11, .mut⟩]),
 (20, [.agg [.sl [[.bool true, i 3, .sl [] 0, .sl [[i 9]] 1, .sl [[i 5, i 1, i 3, i 7, .bool false]] 1, .sl [] 0], [.bool true, i 9, .sl [[i 3, i 0]] 1, .sl [] 0, .sl [] 0, .sl [] 0]] 2, .sl [] 0, .sl [[i 0, i 9, i 3, .sl [[i 3]] 1, i 0, i 0, i 0, i 0, i 0, .bool false, .bool false]] 1], .agg [i 1, i 0, i 0, i 0, .nil, i 0, i 0]], .tup [.agg [.ref 0 0 2, .ref 1 0 0, .ref 2 0 0], i 0], [⟨[[.bool true, i 3, .sl [[i 9, i 0]] 1, .sl [] 0, .sl [[i 5, i 1, i 3, i 7, .bool false]] 1, .sl [] 0], [.bool true, i 9, .sl [[i 3, i 0]] 1, .sl [] 0, .sl [] 0, .sl [] 0]], 6, .mut⟩, ⟨[], 2, .mut⟩, ⟨[], 11, .mut⟩]),
 (20, [.agg [.sl [[.bool true, i 3, .nil, .sl [[i 9]] 1, .sl [[i 5, i 1, i 3, i 7, .bool false]] 1, .nil], [.bool true, i 9, .nil, .sl [] 0, .nil, .nil]] 2, .nil, .nil], .agg [i 0, i 3, i 0, i 0, .nil, i 0, i 0]], .tup [.agg [.ref 0 0 2, .ref 1 0 0, .ref 2 0 1], i 0], [⟨[[.bool true, i 3, .sl [] 0, .sl [[i 9]] 1, .sl [[i 5, i 1, i 3, i 7, .bool false]] 1, .sl [] 0], [.bool true, i 9, .sl [] 0, .sl [] 0, .sl [] 0, .sl [] 0]], 6, .mut⟩, ⟨[], 2, .mut⟩, ⟨[[i 0, i 3, i 9, .sl [] 0, i 0, i 0, i 0, i 0, i 0, .bool false, .bool false]], 11, .mut⟩])]
theorem ck_A2 : chkX (XX LA1) VA2 = true := by kernel_rfl
abbrev LA2 : List (Nat × List D × D × List Blk) := VA2 ++ LA1
theorem qau : ∀ x ∈ LA2, Den PP x.1 x.2.1 [] x.2.2.1 x.2.2.2 := chkL qaz ck_A2
def VO1 : List (Nat × List D × D × List Blk) := [
 (14, [.agg [.sl [[.bool true, i 3, .sl [[i 9, i 0]] 1, .sl [] 0, .sl [[i 5, i 1, i 3, i 7, .bool false]] 1, .sl [] 0], [.bool true, i 9, .sl [[i 3, i 0]] 1, .sl [] 0, .sl [] 0, .sl [] 0]] 2, .sl [] 0, .sl [] 0]], .tup [.bool true, i 0], [])]
theorem ck_O1 : chkX (XX LA2) VO1 = true := by kernel_rfl
abbrev LO1 : List (Nat × List D × D × List Blk) := VO1 ++ LA2
theorem qa8 : ∀ x ∈ LO1, Den PP x.1 x.2.1 [] x.2.2.1 x.2.2.2 := chkL qau ck_O1
def VR1 : List (Nat × List D × D × List Blk) := [
 (21, [.agg [.sl [[.bool true, i 3, .nil, .sl [[i 9]] 1, .sl [[i 5, i 1, i 3, i 7, .bool false]] 1, .nil], [.bool true, i 9, .nil, .sl [] 0, .nil, .nil]] 2, .nil, .nil]], .tup [.agg [.ref 0 0 2, .ref 1 0 0, .ref 2 0 0], i 0], [⟨[[.bool true, i 3, .sl [] 0, .sl [[i 9]] 1, .sl [[i 5, i 1, i 3, i 7, .bool false]] 1, .sl [] 0], [.bool true, i 9, .sl [[i 3, i 0]] 1, .sl [] 0, .sl [] 0, .sl [] 0]], 6, .mut⟩, ⟨[], 2, .mut⟩, ⟨[], 11, .mut⟩]),
 (21, [.agg [.sl [[.bool true, i 3, .sl [] 0, .sl [[i 9]] 1, .sl [[i 5, i 1, i 3, i 7, .bool false]] 1, .sl [] 0], [.bool true, i 9, .sl [[i 3, i 0]] 1, .sl [] 0, .sl [] 0, .sl [] 0]] 2, .sl [] 0, .sl [] 0]], .tup [.agg [.ref 0 0 2, .ref 1 0 0, .ref 2 0 0], i 0], [⟨[[.bool true, i 3, .sl [[i 9, i 0]] 1, .sl [] 0, .sl [[i 5, i 1, i 3, i 7, .bool false]] 1, .sl [] 0], [.bool true, i 9, .sl [[i 3, i 0]] 1, .sl [] 0, .sl [] 0, .sl [] 0]], 6, .mut⟩, ⟨[], 2, .mut⟩, ⟨[], 11, .mut⟩])]
theorem ck_R1 : chkX (XX LO1) VR1 = true := by kernel_rfl
abbrev LR1 : List (Nat × List D × D × List Blk) := VR1 ++ LO1
theorem qai : ∀ x ∈ LR1, Den PP x.1 x.2.1 [] x.2.2.1 x.2.2.2 := chkL qa8 ck_R1
theorem z27 : XX LR1 11 [] [] = some (.bool true, []) := by kernel_rfl
theorem awake : Den PP 11 [] [] (.bool true) [] := zs9 LR1 qai _ _ _ _ _ z27
end Go.AM
/- AM: contracts: peers: one is heard, all age. -/
namespace Go.AM
set_option linter.unusedSimpArgs false
set_option linter.unusedVariables false
set_option maxRecDepth 8000
set_option maxHeartbeats 0
theorem zr5 (p : Peer) : ∀ d ∈ p.row, d.still = true := by
 intro d hd
 simp [Peer.row] at hd
 rcases hd with rfl | rfl <;> rfl
theorem zyu (base : Int) (ps : List Peer) (id : Int) (hl : ps.length ≤ cap16) : Den PP 192 [.int .i64 base, peersD ps, .int .i64 id] [] (.tup [.ref 0 0 (refHeard base ps id).1.length, .int .i64 (refHeard base ps id).2]) [⟨(refHeard base ps id).1.map Peer.row, 2, .mut⟩] := by
 have c1 := zpd base ps (zrj hl)
 have c0 := zau id
 have c2 := fun h : ps.length ≤ 16 => zq6 (ps.map Peer.row) (by intro r hr; obtain ⟨a, _, rfl⟩ := List.mem_map.1 hr; exact ⟨rfl, rfl⟩) (by simp; omega)
 have c3 := fun h => zrv base ps id (zrj hl) h
 obtain ⟨r, hr⟩ : ∃ r, refHeard base ps id = r := ⟨_, rfl⟩
 have hr' := hr
 unfold refHeard at hr'
 rw [zo9] at hr'
 rw [hr]
 clear hr
 simp only [peersD, List.length_map] at c1 c2 c3
 refine zgc [26, 34] [34] [34] [] (fun _ h => absurd h List.not_mem_nil) zqf ?_
 simp -implicitDefEqProofs [zlm, peersD]
 refine zaa c1 ?_
 simp -implicitDefEqProofs
 cases h1 : peersMay base ps with
 | false =>
   rw [h1] at hr'
   simp at hr'
   subst hr'
   simp -implicitDefEqProofs
 | true =>
 cases h2 : place id with
 | false =>
   rw [h2] at hr' c0
   simp at hr'
   subst hr'
   simp -implicitDefEqProofs
   repeat' ((first | refine zaa (by first | exact c0) ?_ | ((with_reducible first | refine zal ?_ ?_ | refine zaj ?_ ?_ | refine zaf ?_ ?_ | refine zae ?_ ?_) <;> intro _) | ((with_reducible first | refine zap ?_ ?_ | refine zaq ?_ ?_ | refine zan ?_ ?_ | refine zad ?_ ?_ | refine zak ?_ ?_ | refine zao ?_ ?_ | refine zai ?_ ?_ | refine zab ?_ ?_) <;> intro hq <;> (try simp at hq)) | refine zag (by omega) ?_ | refine zam (by omega) ?_) <;> simp -implicitDefEqProofs [*])
 | true =>
 rw [h1, h2] at hr'
 rw [h2] at c0
 by_cases h3 : id = base
 ·simp [h3] at hr'
  subst hr'
  simp -implicitDefEqProofs
  repeat' ((first | refine zaa (by first | exact c0) ?_ | ((with_reducible first | refine zal ?_ ?_ | refine zaj ?_ ?_ | refine zaf ?_ ?_ | refine zae ?_ ?_) <;> intro _) | ((with_reducible first | refine zap ?_ ?_ | refine zaq ?_ ?_ | refine zan ?_ ?_ | refine zad ?_ ?_ | refine zak ?_ ?_ | refine zao ?_ ?_ | refine zai ?_ ?_ | refine zab ?_ ?_) <;> intro hq <;> (try simp at hq)) | refine zag (by omega) ?_ | refine zam (by omega) ?_) <;> simp -implicitDefEqProofs [*, h3])
 obtain ⟨hb, h16, hp, hd⟩ := zbn.1 h1
 obtain ⟨ha1, ha2⟩ := z6m hb h2 ps (fun p hp' => (hp p hp').1) hd
 have hlen := znw base id ps
 have hple := zt6 base ps id
 have c4 := c3 (zdn h1)
 clear c3
 generalize peerIs base ps id = A at *
 generalize findAt base ps id = p at *
 have h3' : (id == base) = false := by simpa using h3
 simp only [h3', Bool.not_false, Bool.and_self, if_true] at hr'
 simp -implicitDefEqProofs
 refine zaa c0 ?_
 simp -implicitDefEqProofs [h3]
 refine zaa (c2 h16) ?_
 simp -implicitDefEqProofs [downTo]
 refine zaa c4 ?_
 simp -implicitDefEqProofs [downTo]
 cases A with
 | true =>
   obtain ⟨hlt, ⟨m, hy⟩, hput⟩ := ha1 rfl
   have hr2 : r = (ps.set p ⟨id, 0⟩, 0) := by
    rw [← hr', hput]
    simp [h16]
   subst hr2
   have hlt' : (p : Int) < ps.length := by omega
   have hy2 : ps[p] = ⟨id, m⟩ := by simpa [hlt] using hy
   clear hr' hput ha1 ha2 hlen c4 hp hd
   simp -implicitDefEqProofs [hlt, hlt', hy2, Peer.row]
 | false =>
   have hput := ha2 rfl
   rw [hput] at hr' hlen
   simp only [zpk] at hr' hlen
   by_cases h5 : ps.length = 16
   ·have hr2 : r = ([], 701) := by
     rw [← hr']
     simp [h5]
    subst hr2
    clear hr' hput ha1 ha2 hlen c4 hp hd
    simp -implicitDefEqProofs [h5]
   ·have hr2 : r = (insL ps p ⟨id, 0⟩, 0) := by
     rw [← hr', if_pos (by omega)]
    subst hr2
    clear hr' hput ha1 ha2 hlen c4 hp hd
    have h5' : ¬ (ps.length : Int) = 16 := by omega
    simp -implicitDefEqProofs [h5']
    refine zel rfl (by simp) (by simp) (by simp) (zk5 (ps.map Peer.row) (Peer.row ⟨id, 0⟩) p (by simp [Peer.row]) (StillR.map _ _ fun a _ => zr5 a) (by intro r hr; rw [List.mem_singleton.1 hr]; exact ⟨rfl, rfl⟩) (zr5 _) (by simpa using hple) (by simp; omega)) ?_
    rw [← zoh]
    simp -implicitDefEqProofs [downTo]
theorem z3k (base : Int) (ps : List Peer) (hl : ps.length ≤ cap16) : Den PP 111 [.int .i64 base, peersD ps] [] (.tup [.ref 0 0 (ageR base ps).1.length, .ref 1 0 (ageR base ps).2.1.length, .int .i64 (ageR base ps).2.2]) [⟨(ageR base ps).1.map Peer.row, 2, .mut⟩, ⟨(ageR base ps).2.1.map irow, 1, .mut⟩] := by
 have c1 := zpd base ps (zrj hl)
 refine zah [] [] zua ?_
 simp -implicitDefEqProofs [zp8, peersD]
 refine zaa c1 ?_
 unfold ageR
 cases h1 : peersMay base ps with
 | false => simp -implicitDefEqProofs
 | true =>
   obtain ⟨hb, h16, hp, hd⟩ := zbn.1 h1
   simp -implicitDefEqProofs
   refine za7 ps (fun i rest => fun ⟨fr, bs⟩ => bs = [⟨[], 2, .mut⟩, ⟨[], 1, .mut⟩, ⟨(ageL (ps.take i)).map Peer.row, 2, .mut⟩, ⟨(lostL (ps.take i)).map irow, 1, .mut⟩] ∧ fr 7 = .ref 2 0 (ageL (ps.take i)).length ∧ fr 8 = .ref 3 0 (lostL (ps.take i)).length ∧ fr 15 = .sl (ps.map Peer.row) ps.length ∧ fr 16 = .int .i64 ps.length ∧ fr 17 = .int .i64 i)
    (fun ⟨fr, bs⟩ => bs = [⟨[], 2, .mut⟩, ⟨[], 1, .mut⟩, ⟨(ageL ps).map Peer.row, 2, .mut⟩, ⟨(lostL ps).map irow, 1, .mut⟩] ∧ fr 7 = .ref 2 0 (ageL ps).length ∧ fr 8 = .ref 3 0 (lostL ps).length) (fun _ => False) zko.eq_1 ?_ ?_ ?_ ?_ ?_
   ·exact ⟨rfl, rfl, rfl, rfl, rfl, rfl⟩
   ·rintro i ⟨fr, bs⟩ hi ⟨rfl, h7, h8, h15, h16, h17⟩
    subst hi
    rw [List.take_length] at *
    simp -implicitDefEqProofs [h7, h8, h15, h16, h17]
   ·rintro i q rest ⟨fr, bs⟩ hlt hget hg hd hd2 ⟨rfl, h7, h8, h15, h16, h17⟩
    have hlt' : (i : Int) < ps.length := by omega
    have hw := za1 (n := i) (by omega)
    have hm := hp q (List.mem_of_getElem? hget)
    have hwm : IntKind.wrap .i64 (q.missed + 1) = q.missed + 1 := zax (by have := hm.2.1; omega) (by have := hm.2.2.1; omega)
    have e1 : ps.take (i + 1) = ps.take i ++ [q] := by rw [List.take_add_one, hget]; rfl
    have e2 := z4f (ps.take i) q
    have e3 := z2c (ps.take i) q
    rw [← e1] at e2 e3
    have hal := zj9 (ps.take i)
    have htl : (ps.take i).length ≤ 16 := by simp; omega
    have ha16 : (ageL (ps.take i)).length ≤ 16 := by omega
    have hl16 : (lostL (ps.take i)).length ≤ 16 := by omega
    have w3 : IntKind.wrap .i64 3 = 3 := zax (by omega) (by omega)
    clear hal htl
    generalize ageL (ps.take (i + 1)) = a' at *
    generalize ageL (ps.take i) = a at *
    generalize lostL (ps.take (i + 1)) = l' at *
    generalize lostL (ps.take i) = l at *
    by_cases hq : q.missed + 1 = 3
    ·rw [if_pos hq] at e2 e3
     subst e2 e3
     obtain ⟨qi, qm⟩ := q
     have hq2 : qm = 2 := by simp at hq; omega
     subst hq2
     clear hwm hq hm
     simp -implicitDefEqProofs [h7, h8, h15, h16, h17, hlt, hlt', hget, hg, w3, Peer.row]
     refine ⟨by simp [Fits], ?_⟩
     repeat' ((first | refine zaa (by first | exact zau _ | exact zc5 (zau _) | exact zc5 (by simpa using zau _)) ?_ | ((with_reducible first | refine zal ?_ ?_ | refine zaj ?_ ?_ | refine zaf ?_ ?_ | refine zae ?_ ?_) <;> intro _) | ((with_reducible first | refine zap ?_ ?_ | refine zaq ?_ ?_ | refine zan ?_ ?_ | refine zad ?_ ?_ | refine zak ?_ ?_ | refine zao ?_ ?_ | refine zai ?_ ?_ | refine zab ?_ ?_) <;> intro hq <;> (try simp at hq)) | refine zag (by omega) ?_ | refine zam (by omega) ?_) <;> simp -implicitDefEqProofs [*, h7, h8, h15, h16, h17, hlt, hlt', hw, irow, Fits])
     exact fun _ _ => rfl
    ·rw [if_neg hq] at e2 e3
     subst e2 e3
     simp -implicitDefEqProofs [h7, h8, h15, h16, h17, hlt, hlt', hget, hg, hwm, hq, Peer.row]
     refine ⟨by simp [Fits], ?_⟩
     repeat' ((first | refine zaa (by first | exact zau _ | exact zc5 (zau _) | exact zc5 (by simpa using zau _)) ?_ | ((with_reducible first | refine zal ?_ ?_ | refine zaj ?_ ?_ | refine zaf ?_ ?_ | refine zae ?_ ?_) <;> intro _) | ((with_reducible first | refine zap ?_ ?_ | refine zaq ?_ ?_ | refine zan ?_ ?_ | refine zad ?_ ?_ | refine zak ?_ ?_ | refine zao ?_ ?_ | refine zai ?_ ?_ | refine zab ?_ ?_) <;> intro hq <;> (try simp at hq)) | refine zag (by omega) ?_ | refine zam (by omega) ?_) <;> simp -implicitDefEqProofs [*, h7, h8, h15, h16, h17, hlt, hlt', hw, Peer.row, Fits])
   ·rintro ⟨fr, bs⟩ ⟨rfl, h7, h8⟩
    simp -implicitDefEqProofs [h7, h8]
   ·rintro ⟨fr, bs⟩ h
    exact h.elim
end Go.AM
/- AM: contracts: age.Tick. -/
namespace Go.AM
set_option linter.unusedSimpArgs false
set_option linter.unusedVariables false
set_option maxRecDepth 8000
set_option maxHeartbeats 0
theorem zxj : Den PP 113 [.sl [[.sl [] 0], [.sl [] 0]] 2] [] (.ref 0 0 0) [⟨[], 1, .mut⟩] := zs9 LH LH_ok _ _ _ _ _ (by kernel_rfl)
theorem concat2 (xs ys : List Int) (hl : xs.length + ys.length ≤ cap16) : Den PP 113 [.sl [[.sl (xs.map irow) xs.length], [.sl (ys.map irow) ys.length]] 2] [] (.ref 0 0 (xs ++ ys).length) [⟨(xs ++ ys).map irow, 1, .mut⟩] := by
 by_cases h : 0 < (xs ++ ys).length
 ·have := zxd [xs, ys] (by unfold cap16; simp) (by simpa [tot] using h) (by simpa [tot] using hl)
  simpa [tot, frow, lrow] using this
 ·have h1 : xs = [] := List.length_eq_zero_iff.1 (by simp at h; simp [h])
  have h2 : ys = [] := List.length_eq_zero_iff.1 (by simp at h; simp [h])
  subst h1 h2
  exact zxj
theorem z1h {L : List Int} {i : Nat} {x : Int} (h : L[i]? = some x) (p : List Int) : agedP (L.take (i + 1)) p = (withP (agedP (L.take i) p) x).1 := by
 have e1 : L.take (i + 1) = L.take i ++ [x] := by rw [List.take_add_one, h]; rfl
 unfold agedP
 rw [e1, List.foldl_append]
 rfl
theorem z3q (L : List Int) (p : List Int) (h : p.length ≤ 16) : (agedP L p).length ≤ 16 := by
 unfold agedP
 induction L generalizing p with
 | nil => exact h
 | cons x L ih => exact ih _ (z5f p x)
theorem z6i (v : View) (h : viewMay v = true) : Den PP 38 [viewD v] [] (.tup [viewD (ageV v), intsD (greetV (ageV v)), .int .i64 0]) [] := by
 obtain ⟨m1, m2, m3, m4⟩ := za2 h
 have hs : v.small := ⟨by unfold cap16; omega, by unfold cap; omega⟩
 have c1 := zj5 v hs
 have c2 := zl1 v hs
 have c3 := z3k v.id v.peers hs.1
 have c4 := zme (ageV v) (by have := (zjn h).2.1; unfold cap16; omega)
 have c5 := concat2 ((ageV v).peers.map Peer.id) (ageV v).passive (by have := (zjn h).2.1; unfold cap16; simp; omega)
 have hal := zj9 v.peers
 have c6 := fun i => z3q ((lostL v.peers).take i) v.passive (by omega)
 have e0 : ageR v.id v.peers = (ageL v.peers, lostL v.peers, 0) := by simp [ageR, m1]
 have hnx : ∀ i x, (lostL v.peers)[i]? = some x → _ := fun i x hx => z1h hx v.passive
 have e9 : agedP (lostL v.peers) v.passive = (ageV v).passive := rfl
 have e8 : ageL v.peers = (ageV v).peers := rfl
 have e7 : (ageV v).id = v.id := rfl
 have e6 : agedP [] v.passive = v.passive := rfl
 unfold greetV
 rw [h] at c1
 rw [e0] at c3
 rw [e8] at c3 hal
 simp only [viewD, View.cells, peersD, intsD, e7] at c1 c2 c3 c4 c5 ⊢
 have hll : (lostL v.peers).length ≤ 16 := by omega
 generalize lostL v.peers = lost at *
 clear e0 e8 hal m1 m4 h
 generalize (ageV v).peers = ps at *
 generalize (ageV v).passive = xs at *
 simp only [List.map_map, Function.comp_def, List.length_map, List.map_append, List.length_append] at c5
 refine zah [] [] zyd ?_
 simp -implicitDefEqProofs [zrd]
 refine zaa c1 ?_
 simp -implicitDefEqProofs
 refine zaa c2 ?_
 simp -implicitDefEqProofs
 refine zaa c3 ?_
 simp -implicitDefEqProofs
 refine za7 lost (fun i rest => fun ⟨fr, bs⟩ => bs = [⟨[[.int .i64 v.id, .sl (v.peers.map Peer.row) v.peers.length, .sl (v.passive.map irow) v.passive.length]], 3, .box⟩, ⟨[[.int .i64 0, .nil, .nil]], 3, .box⟩, ⟨[], 1, .mut⟩, ⟨[[.int .i64 v.id, .sl (ps.map Peer.row) ps.length, .sl ((agedP (lost.take i) v.passive).map irow) (agedP (lost.take i) v.passive).length]], 3, .box⟩] ∧ fr 2 = .ptr 1 0 0 ∧ fr 5 = .ptr 3 0 0 ∧ fr 28 = .sl (lost.map irow) lost.length ∧ fr 29 = .int .i64 lost.length ∧ fr 30 = .int .i64 i)
  (fun ⟨fr, bs⟩ => bs = [⟨[[.int .i64 v.id, .sl (v.peers.map Peer.row) v.peers.length, .sl (v.passive.map irow) v.passive.length]], 3, .box⟩, ⟨[[.int .i64 0, .nil, .nil]], 3, .box⟩, ⟨[], 1, .mut⟩, ⟨[[.int .i64 v.id, .sl (ps.map Peer.row) ps.length, .sl (xs.map irow) xs.length]], 3, .box⟩] ∧ fr 2 = .ptr 1 0 0 ∧ fr 5 = .ptr 3 0 0) (fun _ => False) zlb.eq_1 ?_ ?_ ?_ ?_ ?_
 ·refine ⟨?_, rfl, rfl, rfl, rfl, rfl⟩
  simp [e6]
 ·rintro i ⟨fr, bs⟩ hi ⟨rfl, h2, h5, h28, h29, h30⟩
  subst hi
  rw [List.take_length] at *
  rw [e9]
  simp -implicitDefEqProofs [h2, h5, h28, h29, h30]
 ·rintro i x rest ⟨fr, bs⟩ hlt hget hg hd hd2 ⟨rfl, h2, h5, h28, h29, h30⟩
  have hlt' : (i : Int) < lost.length := by omega
  have hx := hnx i x hget
  have hc := znq (agedP (lost.take i) v.passive) x (by have := c6 i; unfold cap; omega)
  rw [hx]
  clear hx
  simp only [intsD] at hc
  generalize withP (agedP (lost.take i) v.passive) x = r at *
  generalize agedP (lost.take i) v.passive = p at *
  obtain ⟨q, e⟩ := r
  simp only at hc
  simp -implicitDefEqProofs [h2, h5, h28, h29, h30, hlt, hlt', hget, hg, irow]
  refine zaa hc ?_
  simp -implicitDefEqProofs [h2, h5, h28, h29, h30, irow]
  exact zax (by omega) (by omega)
 ·rintro ⟨fr, bs⟩ ⟨rfl, h2, h5⟩
  simp -implicitDefEqProofs [h2, h5]
  repeat' ((first | refine zaa (by first | exact c4 | exact c5) ?_ | ((with_reducible first | refine zal ?_ ?_ | refine zaj ?_ ?_ | refine zaf ?_ ?_ | refine zae ?_ ?_) <;> intro _) | ((with_reducible first | refine zap ?_ ?_ | refine zaq ?_ ?_ | refine zan ?_ ?_ | refine zad ?_ ?_ | refine zak ?_ ?_ | refine zao ?_ ?_ | refine zai ?_ ?_ | refine zab ?_ ?_) <;> intro hq <;> (try simp at hq)) | refine zag (by omega) ?_ | refine zam (by omega) ?_) <;> simp -implicitDefEqProofs [*, h2, h5, downTo])
 ·rintro ⟨fr, bs⟩ h
  exact h.elim
end Go.AM
/- AM: chapter 20's statements: Takes. -/
namespace Go.AM
set_option linter.unusedSimpArgs false
set_option linter.unusedVariables false
set_option maxRecDepth 8000
set_option maxHeartbeats 0
theorem zcb {x : Node} (h : nodeUp x = true) : x.up = true ∧ viewMay x.view = true ∧ storeMay x.items = true ∧ x.log.length ≤ 64 ∧ x.log.any toldOdd = false := by
 simp only [nodeUp, nodeMay, Bool.and_eq_true, decide_eq_true_eq, Bool.not_eq_true'] at h
 exact ⟨h.1, h.2.1.1.1.2, h.2.1.1.2, h.2.1.2, h.2.2⟩
theorem zhu {x : Node} (h1 : x.up = true) (h2 : viewMay x.view = true) (h3 : storeMay x.items = true) (h4 : x.log.length ≤ 64) (h5 : x.log.any toldOdd = false) : nodeUp x = true := by
 simp [nodeUp, nodeMay, h1, h2, h3, h4, h5]
theorem z62 {x : Node} {i : Item} (h : nodeUp x = true) : nodeUp (takeI x i) = true := by
 obtain ⟨h1, h2, h3, h4, h5⟩ := zcb h
 unfold takeI
 split
 ·rename_i h6
  obtain ⟨_, _, h7, h8⟩ := zte h6
  rw [h7]
  exact zhu h1 h2 h8 h4 h5
 ·exact h
theorem zjv {x : Node} (h : nodeUp x = true) : x.view.peers.length ≤ 16 ∧ x.view.passive.length ≤ 16 ∧ x.items.length ≤ 16 ∧ x.log.length ≤ 64 := by
 obtain ⟨h1, h2, h3, h4, h5⟩ := zcb h
 have h6 := (za2 h2).2.2.1
 have h7 := ((zc1 _).1 h3).2.2
 omega
theorem zln {x : Node} (h : nodeUp x = true) : x.small := by
 obtain ⟨h1, h2, h3, h4⟩ := zjv h
 unfold Node.small View.small cap16 cap
 omega
end Go.AM
/- AM: contracts: tick.Step. -/
namespace Go.AM
set_option linter.unusedSimpArgs false
set_option linter.unusedVariables false
set_option maxRecDepth 8000
set_option maxHeartbeats 0
def tickN (x : Node) : Node := { x with view := ageV x.view }
def greetR (w : View) (to : Int) : List D := [.int .i64 0, .int .i64 w.id, .int .i64 to, .sl (w.peers.map fun p => irow p.id) w.peers.length, .int .i64 0, .int .i64 0, .int .i64 0, .int .i64 0, .int .i64 0, .bool false, .bool false]
def greetsR (w : View) (L : List Int) : List (List D) := L.map (greetR w)
theorem zu0 {w : View} {L : List Int} {i : Nat} {x : Int} (h : L[i]? = some x) : greetsR w (L.take (i + 1)) = greetsR w (L.take i) ++ [greetR w x] := by
 have e1 : L.take (i + 1) = L.take i ++ [x] := by rw [List.take_add_one, h]; rfl
 rw [e1]; simp [greetsR]
theorem ztm (w : View) (L : List Int) (S : Nat → Bool) : (greetsR w L).map (fun r => r.map (D.sweep S)) = greetsR w L := by
 unfold greetsR
 rw [List.map_map]
 rfl
theorem zwk (x : Node) (hs : x.small) (h : nodeUp x = false) : Den PP 37 [nodeD x] [] (.tup [.agg [.bool false, .int .i64 0, .nil, .nil, .nil, .nil], .ref 0 0 0, .int .i64 1900]) [⟨[], 11, .mut⟩] := by
 have c1 := zd6 x hs
 rw [h] at c1
 simp only [nodeD, Node.cells, viewD, View.cells, peersD, intsD, itemsD, toldsD] at c1 ⊢
 refine zah [] [] znh ?_
 simp -implicitDefEqProofs [zkq]
 refine zaa c1 ?_
 simp -implicitDefEqProofs
theorem z3e (x : Node) (h : nodeUp x = true) : Den PP 37 [nodeD x] [] (.tup [nodeD (tickN x), .ref 0 0 ((greetV (ageV x.view)).length + (shareOf (tickN x)).1.length), .int .i64 0]) [⟨greetsR (ageV x.view) (greetV (ageV x.view)) ++ (shareOf (tickN x)).1.map Msg.row0, 11, .mut⟩] := by
 obtain ⟨p1, p2, p3, p4, p5⟩ := zcb h
 obtain ⟨v1, v2, v3⟩ := zjn p2
 obtain ⟨l1, l2, l3, l4⟩ := zjv h
 have hs := zln h
 have hu : nodeUp (tickN x) = true := zhu p1 v1 p3 p4 p5
 have c1 := zd6 x hs
 have c2 := zds x hs
 have c3 := z6i x.view p2
 have c4 := zme (ageV x.view) (by unfold cap16; omega)
 have c5 := z7e (tickN x) (zln hu)
 have hgl : (greetV (ageV x.view)).length ≤ 16 := by have := (za2 v1).2.2.1; unfold greetV; simp; omega
 have hsl : (shareOf (tickN x)).1.length ≤ 4096 := by
  have h1 : (shareOf (tickN x)).1.length ≤ x.items.length := by
   unfold shareOf
   rw [hu]
   exact List.length_filterMap_le ..
  omega
 have e0 : (shareOf (tickN x)).2 = 0 := by unfold shareOf; rw [hu]; rfl
 rw [e0] at c5
 rw [h] at c1
 generalize (shareOf (tickN x)).1 = ms at *
 have e7 : (ageV x.view).id = x.view.id := rfl
 unfold tickN at c5 ⊢
 generalize hw : ageV x.view = w at *
 generalize greetV w = gs at *
 simp only [nodeD, Node.cells, viewD, View.cells, peersD, intsD, itemsD, toldsD, copyD, nodeB, e7] at c1 c2 c3 c4 c5 ⊢
 have hnx := fun i y (hy : gs[i]? = some y) => zu0 (w := w) hy
 have hsw := ztm w
 clear e0 hw hu h p1 p2 p3 p4 p5 v1 v2 v3
 refine zah [] [] znh ?_
 simp -implicitDefEqProofs [zkq]
 refine zaa c1 ?_
 simp -implicitDefEqProofs
 refine zaa c2 ?_
 simp -implicitDefEqProofs
 refine zaa c3 ?_
 simp -implicitDefEqProofs
 refine za7 gs (fun i rest => fun ⟨fr, bs⟩ => (bs = [⟨[[.bool x.up, .int .i64 x.view.id, .sl (x.view.peers.map Peer.row) x.view.peers.length, .sl (x.view.passive.map irow) x.view.passive.length, .sl (x.items.map Item.row) x.items.length, .sl (x.log.map Told.row) x.log.length]], 6, .box⟩, ⟨[[.bool false, .int .i64 0, .nil, .nil, .nil, .nil]], 6, .box⟩, ⟨[], 11, .mut⟩, ⟨[[.bool x.up, .int .i64 x.view.id, .sl (w.peers.map Peer.row) w.peers.length, .sl (w.passive.map irow) w.passive.length, .sl (x.items.map Item.row) x.items.length, .sl (x.log.map Told.row) x.log.length]], 6, .box⟩, ⟨[[.int .i64 x.view.id, .sl (w.peers.map Peer.row) w.peers.length, .sl (w.passive.map irow) w.passive.length]], 3, .box⟩, ⟨greetsR w (gs.take i), 11, .mut⟩] ∨ bs = [⟨[[.bool x.up, .int .i64 x.view.id, .sl (x.view.peers.map Peer.row) x.view.peers.length, .sl (x.view.passive.map irow) x.view.passive.length, .sl (x.items.map Item.row) x.items.length, .sl (x.log.map Told.row) x.log.length]], 6, .box⟩, ⟨[[.bool false, .int .i64 0, .nil, .nil, .nil, .nil]], 6, .box⟩, ⟨[], 11, .mut⟩, ⟨[[.bool x.up, .int .i64 x.view.id, .sl (w.peers.map Peer.row) w.peers.length, .sl (w.passive.map irow) w.passive.length, .sl (x.items.map Item.row) x.items.length, .sl (x.log.map Told.row) x.log.length]], 6, .box⟩, ⟨[[.int .i64 x.view.id, .sl (w.peers.map Peer.row) w.peers.length, .sl (w.passive.map irow) w.passive.length]], 3, .ibox⟩, ⟨greetsR w (gs.take i), 11, .mut⟩]) ∧ fr 2 = .ptr 1 0 0 ∧ fr 5 = .ptr 3 0 0 ∧ fr 6 = .ptr 4 0 0 ∧ fr 9 = .ref 5 0 i ∧ fr 29 = .sl (gs.map irow) gs.length ∧ fr 30 = .int .i64 gs.length ∧ fr 31 = .int .i64 i)
  (fun ⟨fr, bs⟩ => (bs = [⟨[[.bool x.up, .int .i64 x.view.id, .sl (x.view.peers.map Peer.row) x.view.peers.length, .sl (x.view.passive.map irow) x.view.passive.length, .sl (x.items.map Item.row) x.items.length, .sl (x.log.map Told.row) x.log.length]], 6, .box⟩, ⟨[[.bool false, .int .i64 0, .nil, .nil, .nil, .nil]], 6, .box⟩, ⟨[], 11, .mut⟩, ⟨[[.bool x.up, .int .i64 x.view.id, .sl (w.peers.map Peer.row) w.peers.length, .sl (w.passive.map irow) w.passive.length, .sl (x.items.map Item.row) x.items.length, .sl (x.log.map Told.row) x.log.length]], 6, .box⟩, ⟨[[.int .i64 x.view.id, .sl (w.peers.map Peer.row) w.peers.length, .sl (w.passive.map irow) w.passive.length]], 3, .box⟩, ⟨greetsR w gs, 11, .mut⟩] ∨ bs = [⟨[[.bool x.up, .int .i64 x.view.id, .sl (x.view.peers.map Peer.row) x.view.peers.length, .sl (x.view.passive.map irow) x.view.passive.length, .sl (x.items.map Item.row) x.items.length, .sl (x.log.map Told.row) x.log.length]], 6, .box⟩, ⟨[[.bool false, .int .i64 0, .nil, .nil, .nil, .nil]], 6, .box⟩, ⟨[], 11, .mut⟩, ⟨[[.bool x.up, .int .i64 x.view.id, .sl (w.peers.map Peer.row) w.peers.length, .sl (w.passive.map irow) w.passive.length, .sl (x.items.map Item.row) x.items.length, .sl (x.log.map Told.row) x.log.length]], 6, .box⟩, ⟨[[.int .i64 x.view.id, .sl (w.peers.map Peer.row) w.peers.length, .sl (w.passive.map irow) w.passive.length]], 3, .ibox⟩, ⟨greetsR w gs, 11, .mut⟩]) ∧ fr 2 = .ptr 1 0 0 ∧ fr 5 = .ptr 3 0 0 ∧ fr 9 = .ref 5 0 gs.length) (fun _ => False) zkm.eq_1 ?_ ?_ ?_ ?_ ?_
 ·exact ⟨.inl (by simp [greetsR]), rfl, rfl, rfl, rfl, rfl, rfl, rfl⟩
 ·rintro i ⟨fr, bs⟩ hi ⟨hb, h2, h5, h6, h9, h29, h30, h31⟩
  subst hi
  rw [List.take_length] at *
  simp -implicitDefEqProofs [h2, h5, h6, h9, h29, h30, h31]
  exact hb
 ·rintro i y rest ⟨fr, bs⟩ hlt hget hg hd hd2 ⟨hb, h2, h5, h6, h9, h29, h30, h31⟩
  have hlt' : (i : Int) < gs.length := by omega
  have hgr : (greetsR w (gs.take i)).length = i := by simp [greetsR]; omega
  rw [hnx i y hget]
  have hsG := hsw (gs.take i)
  generalize greetsR w (gs.take i) = G at *
  rcases hb with rfl | rfl
  all_goals
   simp -implicitDefEqProofs [h2, h5, h6, h9, h29, h30, h31, hlt, hlt', hget, hg, irow]
   repeat' ((first | refine zaa (by first | exact c4) ?_ | ((with_reducible first | refine zal ?_ ?_ | refine zaj ?_ ?_ | refine zaf ?_ ?_ | refine zae ?_ ?_) <;> intro _) | ((with_reducible first | refine zap ?_ ?_ | refine zaq ?_ ?_ | refine zan ?_ ?_ | refine zad ?_ ?_ | refine zak ?_ ?_ | refine zao ?_ ?_ | refine zai ?_ ?_ | refine zab ?_ ?_) <;> intro hq <;> (try simp at hq)) | refine zag (by omega) ?_ | refine zam (by omega) ?_) <;> simp -implicitDefEqProofs [*, h2, h5, h6, h9, h29, h30, h31, hlt, hlt', hgr, irow, downTo])
   refine ⟨by simp [Fits], ?_⟩
   refine zag ⟨by omega, by omega⟩ ?_
   simp -implicitDefEqProofs [h2, h5, h6, h9, h29, h30, h31, hgr, irow, downTo, greetR, hsG]
   exact ⟨e7.symm, zax (by omega) (by omega)⟩
 ·rintro ⟨fr, bs⟩ ⟨hb, h2, h5, h9⟩
  have hgr : (greetsR w gs).length = gs.length := by simp [greetsR]
  have hsG := hsw gs
  generalize greetsR w gs = G at *
  rcases hb with rfl | rfl
  all_goals
   simp -implicitDefEqProofs [h2, h5, h9]
   refine zaa c5 ?_
   simp -implicitDefEqProofs [h2, h5, h9]
   repeat' apply And.intro
  all_goals
   refine zag ⟨by omega, by omega⟩ ?_
   refine zag (by omega) ?_
   simp -implicitDefEqProofs [h2, h5, h9, hsG]
 ·rintro ⟨fr, bs⟩ h
  exact h.elim
end Go.AM
/- AM: contracts: a tick as an act. -/
namespace Go.AM
set_option linter.unusedSimpArgs false
set_option linter.unusedVariables false
set_option maxRecDepth 8000
set_option maxHeartbeats 0
def tickM (x : Node) : List Msg := (greetV (ageV x.view)).map (greetM (ageV x.view)) ++ (shareOf (tickN x)).1
theorem z41 {x : Node} {m : Msg} (h : m ∈ (shareOf x).1) : m.ids = [] := by
 unfold shareOf at h
 split at h
 ·obtain ⟨i, -, hi⟩ := List.mem_filterMap.1 h
  unfold shareOne at hi
  generalize (if (ownerV x.view i.key).1 = x.view.id then (succV x.view).1 else (ownerV x.view i.key).1) = to at hi
  by_cases hc : to = x.view.id
  ·rw [if_pos hc] at hi; cases hi
  ·rw [if_neg hc] at hi; cases hi; rfl
 ·cases h
theorem z1n (x : Node) : (shareOf x).1.map Msg.bare = (shareOf x).1 := by
 rw [List.map_congr_left (g := id) (fun m hm => ?_), List.map_id]
 have := z41 hm
 cases m
 simp only at this
 subst this
 rfl
theorem z5j (x : Node) : nrmLL (greetsR (ageV x.view) (greetV (ageV x.view)) ++ (shareOf (tickN x)).1.map Msg.row0) = (tickM x).map Msg.row := by
 have h := zk7 (shareOf (tickN x)).1
 rw [z1n, zdp] at h
 rw [zdp, List.map_append, h]
 unfold tickM
 rw [List.map_append]
 congr 1
 unfold greetsR
 rw [List.map_map, List.map_map]
 apply List.map_congr_left
 intro to _
 simp [greetR, greetM, Msg.row, intsD, zeroItem, irow, zdp, Function.comp_def]
theorem zub (w : Wld) (a : Act) (x : Node) (hw : w.tiny) (hr : MonoC (cmpN a.node) w.nodes) (hi : isN a.node w.nodes = true) (hx : w.nodes[posN a.node w.nodes]? = some x) (h : nodeUp x = false) : Den PP 59 [.ptr 0 0 0, .ptr 4 0 0] (actB w a) (.tup []) (actB w a) := by
 have c1 := zdm w a (by have := hw.nodes; unfold cap; omega) hr hi
 have c2 := zwk x (za3 (hw.node x (List.mem_of_getElem? hx))) h
 have hp := zdg hi
 have hg : ∀ h : posN a.node w.nodes < w.nodes.length, w.nodes[posN a.node w.nodes] = x := fun h => by rw [List.getElem?_eq_getElem h] at hx; exact Option.some.inj hx
 generalize posN a.node w.nodes = P at *
 have hp' : (P : Int) < w.nodes.length := by omega
 clear hi hr hw h
 simp only [actB, doA, doC, doS, copyD, nodeB, nodeD, intsD, Act.cells, Wld.cells, nodesD, cutsD, msgsD, msgD] at c1 c2 ⊢
 refine zah [] [8, 24] zij ?_
 simp -implicitDefEqProofs [zgs]
 refine zac [0, 1, 2, 3, 4] rfl (by decide) (by simp) c1 (by simp) (by simp [lentBs]) ?_
 simp -implicitDefEqProofs [framed, hp, hp', hx, hg]
 refine zaa c2 ?_
 simp -implicitDefEqProofs [-leave, hp, hp', hx, hg]
 exact leave5 (zaz rfl) (za9 5 _) (zbt 5 _) (zbu 5 _) (zaz rfl)
theorem z4t (w : Wld) (a : Act) (x : Node) (hw : w.tiny) (hr : MonoC (cmpN a.node) w.nodes) (hi : isN a.node w.nodes = true) (hx : w.nodes[posN a.node w.nodes]? = some x) (h : nodeUp x = true)
 (hm1 : worldMay { w with nodes := w.nodes.set (posN a.node w.nodes) (tickN x) } = true) (hm2 : worldMay { w with nodes := w.nodes.set (posN a.node w.nodes) (tickN x), packets := tickM x } = true) :
 Den PP 59 [.ptr 0 0 0, .ptr 4 0 0] (actB w a) (.tup []) (doS { w with nodes := w.nodes.set (posN a.node w.nodes) (tickN x) } (sendW { w with nodes := w.nodes.set (posN a.node w.nodes) (tickN x) } (tickM x)) w.packets a) := by
 have c1 := zdm w a (by have := hw.nodes; unfold cap; omega) hr hi
 have c2 := z3e x h
 have c3 := zpp { w with nodes := w.nodes.set (posN a.node w.nodes) (tickN x) } (tickM x) hm1 hm2
 have hp := zdg hi
 have hn := z5j x
 have hlen : (tickM x).length = (greetV (ageV x.view)).length + (shareOf (tickN x)).1.length := by simp [tickM]
 have hg : ∀ h : posN a.node w.nodes < w.nodes.length, w.nodes[posN a.node w.nodes] = x := fun h => by rw [List.getElem?_eq_getElem h] at hx; exact Option.some.inj hx
 have c3 : Den PP 151 [.ptr 0 0 0, .sl (greetsR (ageV x.view) (greetV (ageV x.view)) ++ (shareOf (tickN x)).1.map Msg.row0) ((greetV (ageV x.view)).length + (shareOf (tickN x)).1.length)] _ _ _ := zc5 (by
  simp only [List.map_cons, List.map_nil, D.nrm, hn, ← hlen]
  exact c3)
 generalize posN a.node w.nodes = P at *
 have hp' : (P : Int) < w.nodes.length := by omega
 generalize (greetsR (ageV x.view) (greetV (ageV x.view)) ++ (shareOf (tickN x)).1.map Msg.row0) = R at *
 generalize ((greetV (ageV x.view)).length + (shareOf (tickN x)).1.length) = k at *
 generalize tickM x = ms at *
 generalize tickN x = y at *
 have e1 : (sendW { w with nodes := w.nodes.set P y } ms).nodes = w.nodes.set P y := rfl
 have e2 : (sendW { w with nodes := w.nodes.set P y } ms).cuts = w.cuts := rfl
 generalize sendW { w with nodes := w.nodes.set P y } ms = v at *
 obtain ⟨ns, cs, ps⟩ := v
 simp only at e1 e2
 subst e1 e2
 clear hi hr hw h hm1 hm2 hn hlen
 simp only [actB, doA, doC, doS, copyD, nodeB, nodeD, intsD, Act.cells, Wld.cells, nodesD, cutsD, msgsD, msgD, List.length_set, List.map_set] at c1 c2 c3 ⊢
 rw [zdi y] at c2 c3 ⊢
 refine zah [] [8, 24] zij ?_
 simp -implicitDefEqProofs [zgs]
 refine zac [0, 1, 2, 3, 4] rfl (by decide) (by simp) c1 (by simp) (by simp [lentBs]) ?_
 simp -implicitDefEqProofs [framed, hp, hp', hx, hg]
 refine zaa c2 ?_
 simp -implicitDefEqProofs [-leave, hp, hp', hx, hg]
 refine zac [0, 1, 2, 3] rfl (by decide) (by simp) c3 (by simp) (by simp [lentBs]) ?_
 simp -implicitDefEqProofs [framed, -leave]

 exact leave5 (zaz rfl) (zgd (za9 5 _) (List.all_eq_true.1 rfl)) (zbt 5 _) (zbu 5 _) (zaz rfl)
end Go.AM
/- AM: contracts: what a node was told is noted. -/
namespace Go.AM
set_option linter.unusedSimpArgs false
set_option linter.unusedVariables false
set_option maxRecDepth 8000
set_option maxHeartbeats 0
def toldOf (key : Int) (i : Item) (has : Bool) : Told := ⟨key, has && !i.gone, if has && !i.gone then i.value else 0⟩
theorem z66 (x : Node) (key : Int) (i : Item) (has : Bool) (hs : x.small) (hl : x.log.length ≤ 64) : Den PP 131 [nodeD x, .int .i64 key, .agg i.row, .bool has] [] (.agg [.bool x.up, .int .i64 x.view.id, .ref 0 0 x.view.peers.length, .ref 1 0 x.view.passive.length, .ref 2 0 x.items.length, .ref 3 (x.log.length + 1 - 64) (x.log.length + 1 - (x.log.length + 1 - 64))])
 [⟨x.view.peers.map Peer.row, 2, .mut⟩, ⟨x.view.passive.map irow, 1, .mut⟩, ⟨x.items.map Item.row, 5, .mut⟩, ⟨(x.log ++ [toldOf key i has]).map Told.row, 3, .mut⟩] := by
 have c1 := zds x hs
 obtain ⟨ik, ic, iw, iv, ig⟩ := i
 simp only [nodeD, Node.cells, peersD, intsD, itemsD, toldsD, Item.row, copyD, nodeB] at c1 ⊢
 have hm : (if IntKind.wrap .i64 ((x.log.length : Int) + 1 - 64) < 0 then 0 else IntKind.wrap .i64 ((x.log.length : Int) + 1 - 64)) = ((x.log.length + 1 - 64 : Nat) : Int) := by
  rw [zax (by omega) (by omega)]; split <;> omega
 refine zah [12] [] zyi ?_
 cases has <;> cases ig
 all_goals
  simp -implicitDefEqProofs [zq7]
  refine zaa c1 ?_
  simp -implicitDefEqProofs [downTo]
 case false.false | false.true | true.true =>
  refine ⟨by simp [Fits], ?_⟩
  repeat' ((first | refine zaa (by first | exact zau _ | exact zc5 (zau _) | exact zc5 (by simpa using zau _)) ?_ | ((with_reducible first | refine zal ?_ ?_ | refine zaj ?_ ?_ | refine zaf ?_ ?_ | refine zae ?_ ?_) <;> intro _) | ((with_reducible first | refine zap ?_ ?_ | refine zaq ?_ ?_ | refine zan ?_ ?_ | refine zad ?_ ?_ | refine zak ?_ ?_ | refine zao ?_ ?_ | refine zai ?_ ?_ | refine zab ?_ ?_) <;> intro hq <;> (try simp at hq)) | refine zag (by omega) ?_ | refine zam (by omega) ?_) <;> simp -implicitDefEqProofs [*, downTo])
  simp -implicitDefEqProofs [minL, minF, hm]
  refine zhk (x.log.length + 1 - 64) (x.log.length + 1) (by simp; rfl) rfl (by simp [boundD, hm]) (by first | rfl | omega | (simp [boundD]; done) | (simp [boundD]; omega) | (simp; done) | (simp; omega) | (simp [*]; done) | (simp [*]; omega)) (by omega) (by first | rfl | omega | (simp [boundD]; done) | (simp [boundD]; omega) | (simp; done) | (simp; omega) | (simp [*]; done) | (simp [*]; omega)) rfl (by first | rfl | omega | (simp [boundD]; done) | (simp [boundD]; omega) | (simp; done) | (simp; omega) | (simp [*]; done) | (simp [*]; omega)) ?_
  simp -implicitDefEqProofs [toldOf, Told.row]
 case true.false =>
  repeat' apply And.intro
  all_goals try (simp [Fits]; done)
  all_goals
   repeat' ((first | refine zaa (by first | exact zau _ | exact zc5 (zau _) | exact zc5 (by simpa using zau _)) ?_ | ((with_reducible first | refine zal ?_ ?_ | refine zaj ?_ ?_ | refine zaf ?_ ?_ | refine zae ?_ ?_) <;> intro _) | ((with_reducible first | refine zap ?_ ?_ | refine zaq ?_ ?_ | refine zan ?_ ?_ | refine zad ?_ ?_ | refine zak ?_ ?_ | refine zao ?_ ?_ | refine zai ?_ ?_ | refine zab ?_ ?_) <;> intro hq <;> (try simp at hq)) | refine zag (by omega) ?_ | refine zam (by omega) ?_) <;> simp -implicitDefEqProofs [*, downTo])
   simp -implicitDefEqProofs [minL, minF, hm]
   refine zhk (x.log.length + 1 - 64) (x.log.length + 1) (by simp; rfl) rfl (by simp [boundD, hm]) (by first | rfl | omega | (simp [boundD]; done) | (simp [boundD]; omega) | (simp; done) | (simp; omega) | (simp [*]; done) | (simp [*]; omega)) (by omega) (by first | rfl | omega | (simp [boundD]; done) | (simp [boundD]; omega) | (simp; done) | (simp; omega) | (simp [*]; done) | (simp [*]; omega)) rfl (by first | rfl | omega | (simp [boundD]; done) | (simp [boundD]; omega) | (simp; done) | (simp; omega) | (simp [*]; done) | (simp [*]; omega)) ?_
   simp -implicitDefEqProofs [toldOf, Told.row]
end Go.AM
/- AM: chapter 20's statements: TakeTwice, TakeBest. -/
namespace Go.AM
set_option linter.unusedSimpArgs false
set_option linter.unusedVariables false
set_option maxRecDepth 8000
set_option maxHeartbeats 0
end Go.AM
/- AM: contracts: asking, answering, being told; the document's. -/
namespace Go.AM
set_option linter.unusedSimpArgs false
set_option linter.unusedVariables false
set_option maxRecDepth 8000
set_option maxHeartbeats 0
def noteD (x : Node) (pre xs : List Told) : D := .agg [.bool x.up, .int .i64 x.view.id, .ref 0 0 x.view.peers.length, .ref 1 0 x.view.passive.length, .ref 2 0 x.items.length, .ref 3 pre.length xs.length]
def noteB (x : Node) (pre xs : List Told) : List Blk := [⟨x.view.peers.map Peer.row, 2, .mut⟩, ⟨x.view.passive.map irow, 1, .mut⟩, ⟨x.items.map Item.row, 5, .mut⟩, ⟨(pre ++ xs).map Told.row, 3, .mut⟩]
def logPre (x : Node) (t : Told) : List Told := (x.log ++ [t]).take (x.log.length + 1 - 64)
def logOf (x : Node) (t : Told) : List Told := (x.log ++ [t]).drop (x.log.length + 1 - 64)
theorem z5w (x : Node) (t : Told) : (logPre x t).length = x.log.length + 1 - 64 ∧ (logOf x t).length = x.log.length + 1 - (x.log.length + 1 - 64) ∧ logPre x t ++ logOf x t = x.log ++ [t] := by
 unfold logPre logOf
 refine ⟨by simp; omega, by simp, List.take_append_drop _ _⟩
theorem zu9 (x : Node) (key : Int) (i : Item) (has : Bool) (hs : x.small) (hl : x.log.length ≤ 64) : Den PP 131 [nodeD x, .int .i64 key, .agg i.row, .bool has] [] (noteD x (logPre x (toldOf key i has)) (logOf x (toldOf key i has))) (noteB x (logPre x (toldOf key i has)) (logOf x (toldOf key i has))) := by
 have := z66 x key i has hs hl
 obtain ⟨h1, h2, h3⟩ := z5w x (toldOf key i has)
 unfold noteD noteB
 rw [h1, h2, h3]
 exact this
def toB (x : Node) (m : Msg) (kind : Int) : Bool := nodeUp x && (msgMay m && (decide (m.kind = kind) && decide (m.to = x.view.id)))
theorem z74 (x : Node) (m : Msg) (kind : Int) (hs : x.small) (hl : m.ids.length ≤ cap) : Den PP 129 [.mem x.cells, .mem m.row, .int .i64 kind] [] (.bool (toB x m kind)) [] := by
 have c1 := zd6 x hs
 have c2 := zkr m hl
 unfold toB
 generalize nodeUp x = U at *
 generalize msgMay m = M at *
 simp only [nodeD, Node.cells, peersD, intsD, itemsD, toldsD, Item.row, msgD, Msg.row] at c1 c2 ⊢
 refine zah [] [] z24 ?_
 cases U <;> cases M
 all_goals
  simp -implicitDefEqProofs [zzx]
  repeat' ((first | refine zaa (by first | exact c1 | exact c2) ?_ | ((with_reducible first | refine zal ?_ ?_ | refine zaj ?_ ?_ | refine zaf ?_ ?_ | refine zae ?_ ?_) <;> intro _) | ((with_reducible first | refine zap ?_ ?_ | refine zaq ?_ ?_ | refine zan ?_ ?_ | refine zad ?_ ?_ | refine zak ?_ ?_ | refine zao ?_ ?_ | refine zai ?_ ?_ | refine zab ?_ ?_) <;> intro hq <;> (try simp at hq)) | refine zag (by omega) ?_ | refine zam (by omega) ?_) <;> simp -implicitDefEqProofs [*])
 all_goals (first | (simp [*]; done) | grind)
def askOf (x : Node) (to key : Int) : Msg := ⟨2, x.view.id, to, [], key, zeroItem, false⟩
def gotT (x : Node) (key : Int) : Told := toldOf key (getR x.items key).1 (getR x.items key).2
theorem zr0 {x : Node} (h : nodeUp x = true) : x.log.length ≤ 64 := (zcb h).2.2.2.1
theorem z1j (x : Node) (key : Int) (hs : x.small) (h : (nodeUp x && place key) = false) : Den PP 158 [nodeD x, .int .i64 key] [] (.tup [.agg [.bool false, .int .i64 0, .nil, .nil, .nil, .nil], .ref 0 0 0, .int .i64 2100]) [⟨[], 11, .mut⟩] := by
 have c1 := zd6 x hs
 have c2 := zau key
 generalize nodeUp x = U at *
 generalize place key = M at *
 simp only [nodeD, Node.cells, peersD, intsD, itemsD, toldsD, Item.row] at c1 c2 ⊢
 refine zah [] [] zna ?_
 cases U <;> cases M
 all_goals
  simp at h
 all_goals
  simp -implicitDefEqProofs [zlg]
  repeat' ((first | refine zaa (by first | exact c1 | exact c2) ?_ | ((with_reducible first | refine zal ?_ ?_ | refine zaj ?_ ?_ | refine zaf ?_ ?_ | refine zae ?_ ?_) <;> intro _) | ((with_reducible first | refine zap ?_ ?_ | refine zaq ?_ ?_ | refine zan ?_ ?_ | refine zad ?_ ?_ | refine zak ?_ ?_ | refine zao ?_ ?_ | refine zai ?_ ?_ | refine zab ?_ ?_) <;> intro hq <;> (try simp at hq)) | refine zag (by omega) ?_ | refine zam (by omega) ?_) <;> simp -implicitDefEqProofs [*])
theorem zyb (x : Node) (key : Int) (hs : x.small) (h1 : nodeUp x = true) (h2 : place key = true) (h3 : (ownerV x.view key).1 = x.view.id) : Den PP 158 [nodeD x, .int .i64 key] [] (.tup [noteD x (logPre x (gotT x key)) (logOf x (gotT x key)), .ref 4 0 0, .int .i64 0]) (noteB x (logPre x (gotT x key)) (logOf x (gotT x key)) ++ [⟨[], 11, .mut⟩]) := by
 have c1 := zd6 x hs
 have c2 := zau key
 have c3 := zm0 x.view key hs.1
 have c4 := zlx x.items key (by have := hs.2.1; unfold cap16; omega)
 have c5 := zu9 x key (getR x.items key).1 (getR x.items key).2 hs (zr0 h1)
 rw [h1] at c1
 rw [h2] at c2
 unfold gotT
 generalize getR x.items key = r at *
 obtain ⟨⟨ik, ic, iw, iv, ig⟩, g2⟩ := r
 generalize hlp : logPre x (toldOf key _ _) = pre at *
 generalize hlo : logOf x (toldOf key _ _) = xs at *
 clear hlp hlo
 generalize ownerV x.view key = o at *
 obtain ⟨o1, o2⟩ := o
 simp only at h3
 subst h3
 simp only [nodeD, Node.cells, viewD, View.cells, peersD, intsD, itemsD, toldsD, Item.row, noteD, noteB, pairD] at c1 c2 c3 c4 c5 ⊢
 clear h1 h2
 refine zah [45] [] zna ?_
 simp -implicitDefEqProofs [zlg]
 repeat' ((first | refine zaa (by first | exact c1 | exact c2 | exact c3 | exact c4 | exact c5) ?_ | ((with_reducible first | refine zal ?_ ?_ | refine zaj ?_ ?_ | refine zaf ?_ ?_ | refine zae ?_ ?_) <;> intro _) | ((with_reducible first | refine zap ?_ ?_ | refine zaq ?_ ?_ | refine zan ?_ ?_ | refine zad ?_ ?_ | refine zak ?_ ?_ | refine zao ?_ ?_ | refine zai ?_ ?_ | refine zab ?_ ?_) <;> intro hq <;> (try simp at hq)) | refine zag (by omega) ?_ | refine zam (by omega) ?_) <;> simp -implicitDefEqProofs [*, downTo])
theorem zye (x : Node) (key : Int) (hs : x.small) (h1 : nodeUp x = true) (h2 : place key = true) (h3 : (ownerV x.view key).1 ≠ x.view.id) : Den PP 158 [nodeD x, .int .i64 key] [] (.tup [copyD x, .ref 4 0 1, .int .i64 0]) (nodeB x ++ [⟨[askOf x (ownerV x.view key).1 key].map Msg.row0, 11, .mut⟩]) := by
 have c1 := zd6 x hs
 have c2 := zau key
 have c3 := zm0 x.view key hs.1
 have c5 := zds x hs
 rw [h1] at c1
 rw [h2] at c2
 generalize ownerV x.view key = o at *
 obtain ⟨o1, o2⟩ := o
 simp only at h3
 simp only [nodeD, Node.cells, viewD, View.cells, peersD, intsD, itemsD, toldsD, Item.row, copyD, nodeB, pairD, askOf, zeroItem, Msg.row0, List.map_cons, List.map_nil] at c1 c2 c3 c5 ⊢
 clear h1 h2
 refine zah [47] [] zna ?_
 simp -implicitDefEqProofs [zlg]
 repeat' ((first | refine zaa (by first | exact c1 | exact c2 | exact c3) ?_ | ((with_reducible first | refine zal ?_ ?_ | refine zaj ?_ ?_ | refine zaf ?_ ?_ | refine zae ?_ ?_) <;> intro _) | ((with_reducible first | refine zap ?_ ?_ | refine zaq ?_ ?_ | refine zan ?_ ?_ | refine zad ?_ ?_ | refine zak ?_ ?_ | refine zao ?_ ?_ | refine zai ?_ ?_ | refine zab ?_ ?_) <;> intro hq <;> (try simp at hq)) | refine zag (by omega) ?_ | refine zam (by omega) ?_) <;> simp -implicitDefEqProofs [*, downTo, h3])
 repeat' apply And.intro
 all_goals repeat' ((first | refine zaa (by first | exact c5) ?_ | ((with_reducible first | refine zal ?_ ?_ | refine zaj ?_ ?_ | refine zaf ?_ ?_ | refine zae ?_ ?_) <;> intro _) | ((with_reducible first | refine zap ?_ ?_ | refine zaq ?_ ?_ | refine zan ?_ ?_ | refine zad ?_ ?_ | refine zak ?_ ?_ | refine zao ?_ ?_ | refine zai ?_ ?_ | refine zab ?_ ?_) <;> intro hq <;> (try simp at hq)) | refine zag (by omega) ?_ | refine zam (by omega) ?_) <;> simp -implicitDefEqProofs [*, downTo, h3])
def tellOf (x : Node) (m : Msg) : Msg := ⟨3, x.view.id, m.from_, [], m.key, (getR x.items m.key).1, (getR x.items m.key).2⟩
theorem ztj (x : Node) (m : Msg) (hs : x.small) (hl : m.ids.length ≤ cap) (h : toB x m 2 = true) : Den PP 45 [nodeD x, msgD m] [] (.tup [.ref 0 0 1, .int .i64 0]) [⟨[tellOf x m].map Msg.row0, 11, .mut⟩] := by
 have c1 := z74 x m 2 hs hl
 have c4 := zlx x.items m.key (by have := hs.2.1; unfold cap16; omega)
 rw [h] at c1
 unfold tellOf
 generalize getR x.items m.key = r at *
 obtain ⟨⟨ik, ic, iw, iv, ig⟩, g2⟩ := r
 simp only [nodeD, Node.cells, peersD, intsD, itemsD, toldsD, Item.row, msgD, Msg.row, Msg.row0, List.map_cons, List.map_nil] at c1 c4 ⊢
 clear h
 refine zah [] [] zsd ?_
 simp -implicitDefEqProofs [znl]
 repeat' ((first | refine zaa (by first | exact c1 | exact c4) ?_ | ((with_reducible first | refine zal ?_ ?_ | refine zaj ?_ ?_ | refine zaf ?_ ?_ | refine zae ?_ ?_) <;> intro _) | ((with_reducible first | refine zap ?_ ?_ | refine zaq ?_ ?_ | refine zan ?_ ?_ | refine zad ?_ ?_ | refine zak ?_ ?_ | refine zao ?_ ?_ | refine zai ?_ ?_ | refine zab ?_ ?_) <;> intro hq <;> (try simp at hq)) | refine zag (by omega) ?_ | refine zam (by omega) ?_) <;> simp -implicitDefEqProofs [*, downTo])
 repeat' apply And.intro
 all_goals repeat' ((first | ((with_reducible first | refine zal ?_ ?_ | refine zaj ?_ ?_ | refine zaf ?_ ?_ | refine zae ?_ ?_) <;> intro _) | ((with_reducible first | refine zap ?_ ?_ | refine zaq ?_ ?_ | refine zan ?_ ?_ | refine zad ?_ ?_ | refine zak ?_ ?_ | refine zao ?_ ?_ | refine zai ?_ ?_ | refine zab ?_ ?_) <;> intro hq <;> (try simp at hq)) | refine zag (by omega) ?_ | refine zam (by omega) ?_) <;> simp -implicitDefEqProofs [*, downTo])
def mT (m : Msg) : Told := toldOf m.key m.item m.has
theorem zx5 (x : Node) (m : Msg) (hs : x.small) (hl : m.ids.length ≤ cap) (h : toB x m 3 = true) : Den PP 46 [nodeD x, msgD m] [] (.tup [noteD x (logPre x (mT m)) (logOf x (mT m)), .int .i64 0]) (noteB x (logPre x (mT m)) (logOf x (mT m))) := by
 have c1 := z74 x m 3 hs hl
 rw [h] at c1
 unfold toB at h
 simp only [Bool.and_eq_true, decide_eq_true_eq] at h
 have c5 := zu9 x m.key m.item m.has hs (zr0 h.1)
 clear h
 unfold mT
 generalize logPre x (toldOf m.key m.item m.has) = pre at *
 generalize logOf x (toldOf m.key m.item m.has) = xs at *
 simp only [nodeD, Node.cells, peersD, intsD, itemsD, toldsD, Item.row, msgD, Msg.row, noteD, noteB] at c1 c5 ⊢
 refine zah [16] [] zwr ?_
 simp -implicitDefEqProofs [zq9]
 repeat' ((first | refine zaa (by first | exact c1 | exact c5) ?_ | ((with_reducible first | refine zal ?_ ?_ | refine zaj ?_ ?_ | refine zaf ?_ ?_ | refine zae ?_ ?_) <;> intro _) | ((with_reducible first | refine zap ?_ ?_ | refine zaq ?_ ?_ | refine zan ?_ ?_ | refine zad ?_ ?_ | refine zak ?_ ?_ | refine zao ?_ ?_ | refine zai ?_ ?_ | refine zab ?_ ?_) <;> intro hq <;> (try simp at hq)) | refine zag (by omega) ?_ | refine zam (by omega) ?_) <;> simp -implicitDefEqProofs [*, downTo])
end Go.AM
/- AM: contracts: a get as an act. -/
namespace Go.AM
set_option linter.unusedSimpArgs false
set_option linter.unusedVariables false
set_option maxRecDepth 8000
set_option maxHeartbeats 0
theorem zxl (w : Wld) (a : Act) (x : Node) (hw : w.tiny) (hr : MonoC (cmpN a.node) w.nodes) (hi : isN a.node w.nodes = true) (hx : w.nodes[posN a.node w.nodes]? = some x) (h : (nodeUp x && place a.key) = false) : Den PP 69 [.ptr 0 0 0, .ptr 4 0 0] (actB w a) (.tup []) (actB w a) := by
 have c1 := zdm w a (by have := hw.nodes; unfold cap; omega) hr hi
 have c2 := z1j x a.key (za3 (hw.node x (List.mem_of_getElem? hx))) h
 have hp := zdg hi
 have hg : ∀ h : posN a.node w.nodes < w.nodes.length, w.nodes[posN a.node w.nodes] = x := fun h => by rw [List.getElem?_eq_getElem h] at hx; exact Option.some.inj hx
 generalize posN a.node w.nodes = P at *
 have hp' : (P : Int) < w.nodes.length := by omega
 clear hi hr hw h
 simp only [actB, doA, doC, doS, copyD, nodeB, noteD, noteB, nodeD, intsD, Act.cells, Wld.cells, nodesD, cutsD, msgsD, msgD] at c1 c2 ⊢
 refine zah [] [8, 28] zgk ?_
 simp -implicitDefEqProofs [zff]
 refine zac [0, 1, 2, 3, 4] rfl (by decide) (by simp) c1 (by simp) (by simp [lentBs]) ?_
 simp -implicitDefEqProofs [framed, hp, hp', hx, hg]
 refine zaa c2 ?_
 simp -implicitDefEqProofs [-leave, hp, hp', hx, hg]
 exact leave5 (zaz rfl) (za9 5 _) (zbt 5 _) (zbu 5 _) (zaz rfl)
theorem zvv (w : Wld) (a : Act) (x : Node) (hw : w.tiny) (hr : MonoC (cmpN a.node) w.nodes) (hi : isN a.node w.nodes = true) (hx : w.nodes[posN a.node w.nodes]? = some x) (h1 : nodeUp x = true) (h2 : place a.key = true) (h3 : (ownerV x.view a.key).1 = x.view.id) (hm1 : worldMay { w with nodes := w.nodes.set (posN a.node w.nodes) ({ x with log := logOf x (gotT x a.key) }) } = true) (hm2 : worldMay { w with nodes := w.nodes.set (posN a.node w.nodes) ({ x with log := logOf x (gotT x a.key) }), packets := [] } = true) :
 Den PP 69 [.ptr 0 0 0, .ptr 4 0 0] (actB w a) (.tup []) (doS { w with nodes := w.nodes.set (posN a.node w.nodes) ({ x with log := logOf x (gotT x a.key) }) } (sendW { w with nodes := w.nodes.set (posN a.node w.nodes) ({ x with log := logOf x (gotT x a.key) }) } []) w.packets a) := by
 have c1 := zdm w a (by have := hw.nodes; unfold cap; omega) hr hi
 have c2 := zyb x a.key (za3 (hw.node x (List.mem_of_getElem? hx))) h1 h2 h3
 have c3 := zpp { w with nodes := w.nodes.set (posN a.node w.nodes) ({ x with log := logOf x (gotT x a.key) }) } [] hm1 hm2
 generalize logPre x (gotT x a.key) = pre at *
 generalize hlog : logOf x (gotT x a.key) = ys at *
 have c3 : Den PP 151 [.ptr 0 0 0, .sl [] 0] _ _ _ := c3
 have hp := zdg hi
 have hg : ∀ h : posN a.node w.nodes < w.nodes.length, w.nodes[posN a.node w.nodes] = x := fun h => by rw [List.getElem?_eq_getElem h] at hx; exact Option.some.inj hx
 generalize posN a.node w.nodes = P at *
 have hp' : (P : Int) < w.nodes.length := by omega
 have e1 : (sendW { w with nodes := w.nodes.set P ({ x with log := ys }) } []).nodes = w.nodes.set P ({ x with log := ys }) := rfl
 have e2 : (sendW { w with nodes := w.nodes.set P ({ x with log := ys }) } []).cuts = w.cuts := rfl
 generalize sendW { w with nodes := w.nodes.set P ({ x with log := ys }) } [] = v at *
 obtain ⟨ns, cs, ps⟩ := v
 simp only at e1 e2
 subst e1 e2
 clear hi hr hw h1 h2 h3 hm1 hm2
 simp only [actB, doA, doC, doS, copyD, nodeB, noteD, noteB, nodeD, intsD, Act.cells, Wld.cells, nodesD, cutsD, msgsD, msgD, List.length_set, List.map_set, List.map_cons, List.map_nil, List.length_cons, List.length_nil, List.nil_append, List.cons_append] at c1 c2 c3 ⊢
 rw [zdi ({ x with log := ys })] at c3 ⊢
 simp only at c3 ⊢
 refine zah [] [8, 28] zgk ?_
 simp -implicitDefEqProofs [zff]
 refine zac [0, 1, 2, 3, 4] rfl (by decide) (by simp) c1 (by simp) (by simp [lentBs]) ?_
 simp -implicitDefEqProofs [framed, hp, hp', hx, hg]
 refine zaa c2 ?_
 simp -implicitDefEqProofs [-leave, hp, hp', hx, hg]
 refine zac [0, 1, 2, 3] rfl (by decide) (by simp) c3 (by simp) (by simp [lentBs]) ?_
 simp -implicitDefEqProofs [framed, -leave]
 exact leave5 (zaz rfl) (zgd (za9 5 _) (List.all_eq_true.1 rfl)) (zbt 5 _) (zbu 5 _) (zaz rfl)
theorem zud (w : Wld) (a : Act) (x : Node) (hw : w.tiny) (hr : MonoC (cmpN a.node) w.nodes) (hi : isN a.node w.nodes = true) (hx : w.nodes[posN a.node w.nodes]? = some x) (h1 : nodeUp x = true) (h2 : place a.key = true) (h3 : (ownerV x.view a.key).1 ≠ x.view.id) (hm1 : worldMay { w with nodes := w.nodes.set (posN a.node w.nodes) (x) } = true) (hm2 : worldMay { w with nodes := w.nodes.set (posN a.node w.nodes) (x), packets := [askOf x (ownerV x.view a.key).1 a.key] } = true) :
 Den PP 69 [.ptr 0 0 0, .ptr 4 0 0] (actB w a) (.tup []) (doS { w with nodes := w.nodes.set (posN a.node w.nodes) (x) } (sendW { w with nodes := w.nodes.set (posN a.node w.nodes) (x) } [askOf x (ownerV x.view a.key).1 a.key]) w.packets a) := by
 have c1 := zdm w a (by have := hw.nodes; unfold cap; omega) hr hi
 have c2 := zye x a.key (za3 (hw.node x (List.mem_of_getElem? hx))) h1 h2 h3
 have c3 := zpp { w with nodes := w.nodes.set (posN a.node w.nodes) (x) } [askOf x (ownerV x.view a.key).1 a.key] hm1 hm2
 have c3 : Den PP 151 [.ptr 0 0 0, .sl [(askOf x (ownerV x.view a.key).1 a.key).row0] 1] _ _ _ := zc5 (by
  have hn := zk7 [askOf x (ownerV x.view a.key).1 a.key]
  simp only [List.map_cons, List.map_nil] at hn
  simp only [List.map_cons, List.map_nil, D.nrm, hn]
  exact c3)
 generalize askOf x (ownerV x.view a.key).1 a.key = m at *
 have hp := zdg hi
 have hg : ∀ h : posN a.node w.nodes < w.nodes.length, w.nodes[posN a.node w.nodes] = x := fun h => by rw [List.getElem?_eq_getElem h] at hx; exact Option.some.inj hx
 generalize posN a.node w.nodes = P at *
 have hp' : (P : Int) < w.nodes.length := by omega
 have e1 : (sendW { w with nodes := w.nodes.set P (x) } [m]).nodes = w.nodes.set P (x) := rfl
 have e2 : (sendW { w with nodes := w.nodes.set P (x) } [m]).cuts = w.cuts := rfl
 generalize sendW { w with nodes := w.nodes.set P (x) } [m] = v at *
 obtain ⟨ns, cs, ps⟩ := v
 simp only at e1 e2
 subst e1 e2
 clear hi hr hw h1 h2 h3 hm1 hm2
 simp only [actB, doA, doC, doS, copyD, nodeB, noteD, noteB, nodeD, intsD, Act.cells, Wld.cells, nodesD, cutsD, msgsD, msgD, List.length_set, List.map_set, List.map_cons, List.map_nil, List.length_cons, List.length_nil, List.nil_append, List.cons_append] at c1 c2 c3 ⊢
 rw [zdi (x)] at c3 ⊢
 simp only [Msg.row0] at c2 c3
 refine zah [] [8, 28] zgk ?_
 simp -implicitDefEqProofs [zff]
 refine zac [0, 1, 2, 3, 4] rfl (by decide) (by simp) c1 (by simp) (by simp [lentBs]) ?_
 simp -implicitDefEqProofs [framed, hp, hp', hx, hg]
 refine zaa c2 ?_
 simp -implicitDefEqProofs [-leave, hp, hp', hx, hg]
 refine zac [0, 1, 2, 3] rfl (by decide) (by simp) c3 (by simp) (by simp [lentBs]) ?_
 simp -implicitDefEqProofs [framed, -leave]
 exact leave5 (zaz rfl) (zgd (za9 5 _) (List.all_eq_true.1 rfl)) (zbt 5 _) (zbu 5 _) (zaz rfl)
end Go.AM
/- AM: contracts: one is heard, of a view that is lent. -/
namespace Go.AM
set_option linter.unusedSimpArgs false
set_option linter.unusedVariables false
set_option maxRecDepth 8000
set_option maxHeartbeats 0
theorem zn6 (xs : List Int) (y : Int) (hl : xs.length ≤ cap) : Den PP 229 [intsD xs, .int .i64 y] [] (.int .i64 (fIdx (fun x => decide (y = x)) 0 xs)) [] := by
 unfold cap at hl
 refine zah [] [] zh4 ?_
 simp -implicitDefEqProofs [ze1, intsD]
 refine zdy (xs.length + 1) ?_
 have key : ∀ (Q : Ex → St → Prop) (r : Int) (hQ1 : ∀ fr, r = -1 → Q .normal ⟨fr, []⟩) (hQ2 : ∀ fr bs, fr 4 = .int .i64 r → Q .ret ⟨fr, bs⟩) (rest : List Int) (i : Nat) (fr : Nat → D), xs.drop i = rest → i ≤ xs.length →
  fr 0 = .sl (xs.map irow) xs.length → fr 1 = .int .i64 y → fr 7 = .int .i64 xs.length → fr 8 = .int .i64 i → fIdx (fun x => decide (y = x)) i rest = r → sLoop (cf 0 [] []) 0 zcg (blockQ 0 Q) (rest.length + 1) ⟨fr, []⟩ := by
  intro Q r hQ1 hQ2 rest
  induction rest with
  | nil =>
    intro i fr e hi h0 h1 h7 h8 hm
    refine zby zcg.eq_1 ?_
    have hi' := zgv e hi
    simp -implicitDefEqProofs [h0, h1, h7, h8, hi']
    exact hQ1 _ hm.symm
  | cons x rest ih =>
    intro i fr e hi h0 h1 h7 h8 hm
    refine zby zcg.eq_1 ?_
    obtain ⟨hlt, hget, hd, hlen⟩ := zfu e
    have hlt' : (i : Int) < xs.length := by omega
    have hw := za1 (show i ≤ 140737488355328 by omega)
    simp only [fIdx] at hm
    simp -implicitDefEqProofs [h0, h1, h7, h8, hlt', hget, irow]
    refine zaf (fun h2 => ?_) (fun h2 => ?_)
    all_goals simp -implicitDefEqProofs [h2, h0, h1, h7, h8, hw]
    ·exact hQ2 _ _ (by rw [← hm]; simp [h2])
    ·exact ih (i + 1) _ hd (by omega) (by simp [h0]) (by simp [h1]) (by simp [h7]) (by simp) (by rw [← hm]; simp [h2])
 refine key _ (fIdx (fun x => decide (y = x)) 0 xs) (fun fr h => ?_) (fun fr bs h => ?_) xs 0 _ rfl (Nat.zero_le _) rfl rfl rfl rfl rfl
 ·simp -implicitDefEqProofs [h]
 ·simp -implicitDefEqProofs [h]
theorem zkz (xs : List Int) (y : Int) (hl : xs.length ≤ cap) : Den PP 194 [intsD xs, .int .i64 y] [] (.bool (xs.contains y)) [] := by
 have c1 := zn6 xs y hl
 have e := zz1 (fun x => decide (y = x)) xs 0
 have e2 : xs.contains y = xs.any fun x => decide (y = x) := by
  rw [Bool.eq_iff_iff]
  simp
 rw [e2]
 simp only [intsD] at c1 ⊢
 refine zah [] [] zgu ?_
 simp -implicitDefEqProofs [zea]
 refine zaa c1 ?_
 simp -implicitDefEqProofs [← e]
theorem zjj (v : View) (id : Int) (hl : v.passive.length ≤ cap) : Den PP 122 [.mem v.cells, .int .i64 id] [] (.bool (v.passive.contains id)) [] := by
 have c1 := zkz v.passive id hl
 simp only [intsD, View.cells, peersD] at c1 ⊢
 generalize v.passive.contains id = B at *
 refine zah [] [] zpv ?_
 simp -implicitDefEqProofs [zkg]
 repeat' ((first | refine zaa (by first | exact c1) ?_ | ((with_reducible first | refine zal ?_ ?_ | refine zaj ?_ ?_ | refine zaf ?_ ?_ | refine zae ?_ ?_) <;> intro _) | ((with_reducible first | refine zap ?_ ?_ | refine zaq ?_ ?_ | refine zan ?_ ?_ | refine zad ?_ ?_ | refine zak ?_ ?_ | refine zao ?_ ?_ | refine zai ?_ ?_ | refine zab ?_ ?_) <;> intro hq <;> (try simp at hq)) | refine zag (by omega) ?_ | refine zam (by omega) ?_) <;> simp -implicitDefEqProofs [*])
theorem z2o (v : View) (h1 : v.peers.length ≤ 16) (h2 : v.passive.length ≤ 16) : Den PP 190 [.mem v.cells] [] (.bool (decide (v.peers.length + v.passive.length < 16))) [] := by
 have w : IntKind.wrap .i64 ((v.peers.length : Int) + v.passive.length) = v.peers.length + v.passive.length := zax (by omega) (by omega)
 have e : decide (v.peers.length + v.passive.length < 16) = decide ((v.peers.length : Int) + v.passive.length < 16) := by
  rw [decide_eq_decide]; omega
 rw [e]
 simp only [View.cells, peersD, intsD]
 refine zah [] [] zsh ?_
 simp -implicitDefEqProofs [znx, w]
def viewBox (v : View) (p q : Nat) : Blk := ⟨[[.int .i64 v.id, .ref p 0 v.peers.length, .ref q 0 v.passive.length]], 3, .box⟩
def psB (v : View) : Blk := ⟨v.peers.map Peer.row, 2, .mut⟩
def xsB (v : View) : Blk := ⟨v.passive.map irow, 1, .mut⟩
theorem zie (v : View) (id : Int) (hv : viewMay v = true) (hp : place id = true) (hn : id ≠ v.id) : Den PP 120 [.ptr 0 0 0, .int .i64 id] [viewBox v 1 2, psB v, xsB v] (.tup [])
 (if roomV v id then [viewBox (knownV v id) 3 4, ⟨v.peers.map Peer.row, 2, .app⟩, ⟨v.passive.map irow, 1, .app⟩, psB (knownV v id), xsB (knownV v id)] else [viewBox v 1 2, psB v, xsB v]) := by
 obtain ⟨p1, p2, p3, p4⟩ := za2 hv
 have c1 := zl5 v id (by unfold cap; omega) (zdn p1)
 rw [zhq p1 hp] at c1
 have c2 := zjj v id (by unfold cap; omega)
 have c3 := z2o v (by omega) (by omega)
 have c4 := zp2 v.passive id (by unfold cap; omega)
 rw [show withoutP v.passive id = (v.passive.filter fun y => !decide (y = id), 0) by simp [withoutP, p2, hp]] at c4
 have c5 := zyu v.id v.peers id (by unfold cap16; omega)
 have hk := (zj4 hv hp hn).2
 have hkv : roomV v id = true → knownV v id = ⟨v.id, hearG v.id id false v.peers, v.passive.filter fun y => !decide (y = id)⟩ := by intro h; unfold knownV; rw [if_pos h]
 unfold viewBox psB xsB
 cases hr : roomV v id with
 | false =>
   clear hk hkv c4 c5
   simp only [Bool.false_eq_true, if_false]
   simp only [roomV, knowsV] at hr
   generalize (v.peers.map Peer.id).contains id = A at *
   generalize v.passive.contains id = B at *
   generalize decide (v.peers.length + v.passive.length < 16) = R at *
   simp only [View.cells, peersD, intsD] at c1 c2 c3
   clear p1 p2 p3 p4 hv hp hn
   simp only [Bool.or_eq_false_iff] at hr
   obtain ⟨⟨rfl, rfl⟩, rfl⟩ := hr
   refine zah [27, 43] [] zkh ?_
   simp -implicitDefEqProofs [zh5]
   repeat' ((first | refine zaa (by first | exact c1 | exact c2 | exact c3) ?_ | ((with_reducible first | refine zal ?_ ?_ | refine zaj ?_ ?_ | refine zaf ?_ ?_ | refine zae ?_ ?_) <;> intro _) | ((with_reducible first | refine zap ?_ ?_ | refine zaq ?_ ?_ | refine zan ?_ ?_ | refine zad ?_ ?_ | refine zak ?_ ?_ | refine zao ?_ ?_ | refine zai ?_ ?_ | refine zab ?_ ?_) <;> intro hq <;> (try simp at hq)) | refine zag (by omega) ?_ | refine zam (by omega) ?_) <;> simp -implicitDefEqProofs [*, downTo])
 | true =>
   simp only [if_true]
   rw [hkv hr]
   rw [hk hr] at c5
   clear hk hkv
   simp only [roomV, knowsV] at hr
   generalize hearG v.id id false v.peers = ps at *
   generalize (v.passive.filter fun y => !decide (y = id)) = xs at *
   generalize (v.peers.map Peer.id).contains id = A at *
   generalize v.passive.contains id = B at *
   generalize decide (v.peers.length + v.passive.length < 16) = R at *
   simp only [View.cells, peersD, intsD] at c1 c2 c3 c4 c5
   clear p1 p2 p3 p4 hv hp hn
   refine zah [27, 43] [] zkh ?_
   cases A <;> cases B <;> cases R
   all_goals try (simp at hr; done)
   all_goals
    clear hr
    simp -implicitDefEqProofs [zh5]
    repeat' ((first | refine zaa (by first | exact c1 | exact c2 | exact c3 | exact c4 | exact c5) ?_ | ((with_reducible first | refine zal ?_ ?_ | refine zaj ?_ ?_ | refine zaf ?_ ?_ | refine zae ?_ ?_) <;> intro _) | ((with_reducible first | refine zap ?_ ?_ | refine zaq ?_ ?_ | refine zan ?_ ?_ | refine zad ?_ ?_ | refine zak ?_ ?_ | refine zao ?_ ?_ | refine zai ?_ ?_ | refine zab ?_ ?_) <;> intro hq <;> (try simp at hq)) | refine zag (by omega) ?_ | refine zam (by omega) ?_) <;> simp -implicitDefEqProofs [*, downTo])
end Go.AM
/- AM: contracts: a greeting is taken. -/
namespace Go.AM
set_option linter.unusedSimpArgs false
set_option linter.unusedVariables false
set_option maxRecDepth 8000
set_option maxHeartbeats 0
theorem z14 {v : View} (h : 16 ≤ sizeV v) (x : Int) : tellV v x = v := by
 unfold tellV
 split
 ·rename_i hc
  simp only [Bool.and_eq_true, Bool.not_eq_true'] at hc
  apply zjb
  unfold roomV
  rw [hc.2]
  unfold sizeV at h
  simp
  omega
 ·rfl
theorem z2a {v : View} (h : 16 ≤ sizeV v) : ∀ ids : List Int, ids.foldl tellV v = v := by
 intro ids
 induction ids with
 | nil => rfl
 | cons x ids ih => rw [List.foldl_cons, z14 h, ih]
theorem z4v {ids : List Int} {i : Nat} {x : Int} (h : ids[i]? = some x) (w0 : View) : (ids.take (i + 1)).foldl tellV w0 = tellV ((ids.take i).foldl tellV w0) x := by
 rw [List.take_add_one, h]
 simp
def z7t (w : View) (bs : List Blk) : Prop := (∃ d0 d2 d3, bs = [d0, ⟨[[.int .i64 0, .nil, .nil]], 3, .box⟩, d2, d3, viewBox w 5 6, psB w, xsB w]) ∨ ∃ d0 d2 d3 d5 d6, bs = [d0, ⟨[[.int .i64 0, .nil, .nil]], 3, .box⟩, d2, d3, viewBox w 7 8, d5, d6, psB w, xsB w]
theorem zqr (v : View) (a : Int) (ids : List Int) (hs : v.small) (h : helloOk v a ids = true) (hr : roomV v a = true) : Den PP 41 [viewD v, .int .i64 a, intsD ids] [] (.tup [.agg [.int .i64 v.id, .ref 0 0 (helloV v a ids).peers.length, .ref 1 0 (helloV v a ids).passive.length], .int .i64 0]) [psB (helloV v a ids), xsB (helloV v a ids)] := by
 obtain ⟨k1, k2, k3, k4, k5⟩ := zh1 h
 have hcap : ids.length ≤ cap := by unfold cap; omega
 have c1 := zj5 v hs
 have c2 := zau a
 have c3 := zgl ids hcap
 have c4 := zl1 v hs
 rw [k1] at c1
 rw [k2] at c2
 rw [show ids.all place = true from List.all_eq_true.2 k5] at c3
 have c5 := zie v a k1 k2 k3
 rw [if_pos hr] at c5
 have hw0 := (zj4 k1 k2 k3).1
 have hid0 := zjt v a
 have hk4 : ¬ (16 : Int) < ids.length := by omega
 unfold helloV
 generalize knownV v a = w0 at *
 have key : ∀ i, viewMay ((ids.take i).foldl tellV w0) = true ∧ ((ids.take i).foldl tellV w0).id = v.id := by
  intro i
  obtain ⟨e1, e2⟩ := zvq (ids.take i) w0 hw0 (fun x hx => k5 x (List.mem_of_mem_take hx))
  exact ⟨e1, by rw [e2, hid0]⟩
 simp only [viewD, View.cells, peersD, intsD, viewBox, psB, xsB] at c1 c3 c4 c5 ⊢
 clear k1 k2 hs h hr
 refine zah [37] [38, 60] zk9 ?_
 simp -implicitDefEqProofs [zjr, hk4, k3]
 repeat' ((first | refine zaa (by first | exact c1 | exact c2 | exact c3 | exact c4) ?_ | ((with_reducible first | refine zal ?_ ?_ | refine zaj ?_ ?_ | refine zaf ?_ ?_ | refine zae ?_ ?_) <;> intro _) | ((with_reducible first | refine zap ?_ ?_ | refine zaq ?_ ?_ | refine zan ?_ ?_ | refine zad ?_ ?_ | refine zak ?_ ?_ | refine zao ?_ ?_ | refine zai ?_ ?_ | refine zab ?_ ?_) <;> intro hq <;> (try simp at hq)) | refine zag (by omega) ?_ | refine zam (by omega) ?_) <;> simp -implicitDefEqProofs [*, downTo, hk4, k3])
 refine zac [4, 2, 3] rfl (by decide) (by simp) c5 (by simp) (by simp [lentBs]) ?_
 simp -implicitDefEqProofs [framed]
 refine zqe ids (fun i rest => fun ⟨fr, bs⟩ => z7t ((ids.take i).foldl tellV w0) bs ∧ fr 6 = .ptr 1 0 0 ∧ fr 8 = .ptr 4 0 0 ∧ fr 40 = .sl (ids.map irow) ids.length ∧ fr 41 = .int .i64 ids.length ∧ fr 42 = .int .i64 i)
  (fun ⟨fr, bs⟩ => z7t (ids.foldl tellV w0) bs ∧ fr 6 = .ptr 1 0 0 ∧ fr 8 = .ptr 4 0 0) (fun _ => False) zgm.eq_1 ?_ ?_ ?_ ?_ ?_
 ·exact ⟨.inl ⟨_, _, _, by simp [viewBox, psB, xsB]; exact ⟨rfl, rfl, rfl⟩⟩, by simp, by simp, by simp, by simp, by simp⟩
 ·rintro i ⟨fr, bs⟩ hi ⟨hB, h6, h8, h40, h41, h42⟩
  rw [hi, List.take_length] at hB
  simp -implicitDefEqProofs [h6, h8, h40, h41, h42, hi]
  exact hB
 ·rintro i x rest ⟨fr, bs⟩ hlt hget hg hd hd2 ⟨hB, h6, h8, h40, h41, h42⟩
  obtain ⟨w, hw⟩ : ∃ w, w = (ids.take i).foldl tellV w0 := ⟨_, rfl⟩
  rw [← hw] at hB
  have hlt' : (i : Int) < ids.length := by omega
  have hwr := za1 (n := i) (by omega)
  have hx := k5 x (List.mem_of_getElem? hget)
  have hkey := key i
  rw [← hw] at hkey
  obtain ⟨hm, hid⟩ := hkey
  have hnext := z4v hget w0
  rw [← hw] at hnext
  obtain ⟨p1, p2, p3, p4⟩ := za2 hm
  have v1 := zl5 w x (by unfold cap; omega) (zdn p1)
  rw [zhq p1 hx] at v1
  have v2 := zjj w x (by unfold cap; omega)
  have v3 : x ≠ w.id → _ := fun hn => zie w x hm hx hn
  clear c1 c2 c3 c4 c5 key hw p1 p2 p3 p4
  obtain ⟨A, hA⟩ : ∃ A, (w.peers.map Peer.id).contains x = A := ⟨_, rfl⟩
  obtain ⟨C, hC⟩ : ∃ C, w.passive.contains x = C := ⟨_, rfl⟩
  have hkn : knowsV w x = (A || C) := by rw [← hA, ← hC]; rfl
  rw [hA] at v1
  rw [hC] at v2
  clear hA hC
  simp only [View.cells, peersD, intsD] at v1 v2
  have hr7 : List.range 7 = [0, 1, 2, 3, 4, 5, 6] := rfl
  clear hid hm
  by_cases hn : x = w.id
  ·have ht : tellV w x = w := by unfold tellV; simp [hn]
   rw [ht] at hnext
   rcases hB with ⟨d0, d2, d3, rfl⟩ | ⟨d0, d2, d3, d5, d6, rfl⟩
   ·simp -implicitDefEqProofs [h6, h8, h40, h41, h42, hlt, hlt', hget, hg, hn, hwr, viewBox, psB, xsB, irow]
    refine ⟨[], ⟨by simp, by simp, by simp⟩, ?_⟩
    unfold keepSt pickSt
    dsimp only
    try rw [hnext]
    exact ⟨.inl ⟨_, _, _, by simp [lentBs, hr7, viewBox, psB, xsB, irow]; repeat' (first | rfl | apply And.intro)⟩, by simp [h6, hr7], by simp [h8, hr7], by simp [h40], by simp [h41], by simp⟩
   ·simp -implicitDefEqProofs [h6, h8, h40, h41, h42, hlt, hlt', hget, hg, hn, hwr, viewBox, psB, xsB, irow]
    refine ⟨[7, 8], ⟨by simp, by simp, by simp⟩, ?_⟩
    unfold keepSt pickSt
    dsimp only
    try rw [hnext]
    exact ⟨.inr ⟨_, _, _, _, _, by simp [lentBs, hr7, viewBox, psB, xsB, irow]; repeat' (first | rfl | apply And.intro)⟩, by simp [h6, hr7], by simp [h8, hr7], by simp [h40], by simp [h41], by simp⟩
  ·have v4 := v3 hn
   clear v3
   cases hAC : (A || C) with
   | true =>
     have ht : tellV w x = w := by unfold tellV; simp [hkn, hAC]
     rw [ht] at hnext
     clear v4 hkn ht
     rcases hB with ⟨d0, d2, d3, rfl⟩ | ⟨d0, d2, d3, d5, d6, rfl⟩
     ·cases A <;> cases C
      all_goals try (simp at hAC; done)
      all_goals
       clear hAC
       simp -implicitDefEqProofs [h6, h8, h40, h41, h42, hlt, hlt', hget, hg, hn, hwr, viewBox, psB, xsB, irow]
       repeat' ((first | refine zaa (by first | exact v1 | exact v2) ?_ | ((with_reducible first | refine zal ?_ ?_ | refine zaj ?_ ?_ | refine zaf ?_ ?_ | refine zae ?_ ?_) <;> intro _) | ((with_reducible first | refine zap ?_ ?_ | refine zaq ?_ ?_ | refine zan ?_ ?_ | refine zad ?_ ?_ | refine zak ?_ ?_ | refine zao ?_ ?_ | refine zai ?_ ?_ | refine zab ?_ ?_) <;> intro hq <;> (try simp at hq)) | refine zag (by omega) ?_ | refine zam (by omega) ?_) <;> simp -implicitDefEqProofs [*, h6, h8, h40, h41, h42, hlt, hlt', hget, hg, hn, hwr, viewBox, psB, xsB, irow])
       refine ⟨[], ⟨by simp, by simp, by simp⟩, ?_⟩
       unfold keepSt pickSt
       dsimp only
       try rw [hnext]
       exact ⟨.inl ⟨_, _, _, by simp [lentBs, hr7, viewBox, psB, xsB, irow]; repeat' (first | rfl | apply And.intro)⟩, by simp [h6, hr7], by simp [h8, hr7], by simp [h40], by simp [h41], by simp⟩
     ·cases A <;> cases C
      all_goals try (simp at hAC; done)
      all_goals
       clear hAC
       simp -implicitDefEqProofs [h6, h8, h40, h41, h42, hlt, hlt', hget, hg, hn, hwr, viewBox, psB, xsB, irow]
       repeat' ((first | refine zaa (by first | exact v1 | exact v2) ?_ | ((with_reducible first | refine zal ?_ ?_ | refine zaj ?_ ?_ | refine zaf ?_ ?_ | refine zae ?_ ?_) <;> intro _) | ((with_reducible first | refine zap ?_ ?_ | refine zaq ?_ ?_ | refine zan ?_ ?_ | refine zad ?_ ?_ | refine zak ?_ ?_ | refine zao ?_ ?_ | refine zai ?_ ?_ | refine zab ?_ ?_) <;> intro hq <;> (try simp at hq)) | refine zag (by omega) ?_ | refine zam (by omega) ?_) <;> simp -implicitDefEqProofs [*, h6, h8, h40, h41, h42, hlt, hlt', hget, hg, hn, hwr, viewBox, psB, xsB, irow])
       refine ⟨[7, 8], ⟨by simp, by simp, by simp⟩, ?_⟩
       unfold keepSt pickSt
       dsimp only
       try rw [hnext]
       exact ⟨.inr ⟨_, _, _, _, _, by simp [lentBs, hr7, viewBox, psB, xsB, irow]; repeat' (first | rfl | apply And.intro)⟩, by simp [h6, hr7], by simp [h8, hr7], by simp [h40], by simp [h41], by simp⟩
   | false =>
     simp only [Bool.or_eq_false_iff] at hAC
     obtain ⟨rfl, rfl⟩ := hAC
     have ht : tellV w x = knownV w x := by unfold tellV; simp [hkn, hn]
     rw [ht] at hnext
     clear ht hkn
     cases hr : roomV w x with
     | false =>
       rw [zjb hr] at hnext
       rw [if_neg (by simp [hr])] at v4
       clear hr
       simp only [viewBox, psB, xsB] at v4
       rcases hB with ⟨d0, d2, d3, rfl⟩ | ⟨d0, d2, d3, d5, d6, rfl⟩
       ·simp -implicitDefEqProofs [h6, h8, h40, h41, h42, hlt, hlt', hget, hg, hn, hwr, viewBox, psB, xsB, irow]
        repeat' ((first | refine zaa (by first | exact v1 | exact v2) ?_ | ((with_reducible first | refine zal ?_ ?_ | refine zaj ?_ ?_ | refine zaf ?_ ?_ | refine zae ?_ ?_) <;> intro _) | ((with_reducible first | refine zap ?_ ?_ | refine zaq ?_ ?_ | refine zan ?_ ?_ | refine zad ?_ ?_ | refine zak ?_ ?_ | refine zao ?_ ?_ | refine zai ?_ ?_ | refine zab ?_ ?_) <;> intro hq <;> (try simp at hq)) | refine zag (by omega) ?_ | refine zam (by omega) ?_) <;> simp -implicitDefEqProofs [*, h6, h8, h40, h41, h42, hlt, hlt', hget, hg, hn, hwr, viewBox, psB, xsB, irow])
        refine zac [4, 5, 6] rfl (by decide) (by simp) v4 (by simp) (by simp [lentBs]) ?_
        simp -implicitDefEqProofs [framed, h6, h8, h40, h41, h42, hlt, hlt', hget, hg, hn, hwr, viewBox, psB, xsB, irow]
        refine ⟨[], ⟨by simp, by simp, by simp⟩, ?_⟩
        unfold keepSt pickSt
        dsimp only
        try rw [hnext]
        exact ⟨.inl ⟨_, _, _, by simp [lentBs, hr7, viewBox, psB, xsB, irow]; repeat' (first | rfl | apply And.intro)⟩, by simp [h6, hr7], by simp [h8, hr7], by simp [h40], by simp [h41], by simp⟩
       ·simp -implicitDefEqProofs [h6, h8, h40, h41, h42, hlt, hlt', hget, hg, hn, hwr, viewBox, psB, xsB, irow]
        repeat' ((first | refine zaa (by first | exact v1 | exact v2) ?_ | ((with_reducible first | refine zal ?_ ?_ | refine zaj ?_ ?_ | refine zaf ?_ ?_ | refine zae ?_ ?_) <;> intro _) | ((with_reducible first | refine zap ?_ ?_ | refine zaq ?_ ?_ | refine zan ?_ ?_ | refine zad ?_ ?_ | refine zak ?_ ?_ | refine zao ?_ ?_ | refine zai ?_ ?_ | refine zab ?_ ?_) <;> intro hq <;> (try simp at hq)) | refine zag (by omega) ?_ | refine zam (by omega) ?_) <;> simp -implicitDefEqProofs [*, h6, h8, h40, h41, h42, hlt, hlt', hget, hg, hn, hwr, viewBox, psB, xsB, irow])
        refine zac [4, 7, 8] rfl (by decide) (by simp) v4 (by simp) (by simp [lentBs]) ?_
        simp -implicitDefEqProofs [framed, h6, h8, h40, h41, h42, hlt, hlt', hget, hg, hn, hwr, viewBox, psB, xsB, irow]
        refine ⟨[7, 8], ⟨by simp, by simp, by simp⟩, ?_⟩
        unfold keepSt pickSt
        dsimp only
        try rw [hnext]
        exact ⟨.inr ⟨_, _, _, _, _, by simp [lentBs, hr7, viewBox, psB, xsB, irow]; repeat' (first | rfl | apply And.intro)⟩, by simp [h6, hr7], by simp [h8, hr7], by simp [h40], by simp [h41], by simp⟩
     | true =>
       rw [if_pos hr] at v4
       generalize knownV w x = w2 at *
       clear hr
       simp only [viewBox, psB, xsB] at v4
       rcases hB with ⟨d0, d2, d3, rfl⟩ | ⟨d0, d2, d3, d5, d6, rfl⟩
       ·simp -implicitDefEqProofs [h6, h8, h40, h41, h42, hlt, hlt', hget, hg, hn, hwr, viewBox, psB, xsB, irow]
        repeat' ((first | refine zaa (by first | exact v1 | exact v2) ?_ | ((with_reducible first | refine zal ?_ ?_ | refine zaj ?_ ?_ | refine zaf ?_ ?_ | refine zae ?_ ?_) <;> intro _) | ((with_reducible first | refine zap ?_ ?_ | refine zaq ?_ ?_ | refine zan ?_ ?_ | refine zad ?_ ?_ | refine zak ?_ ?_ | refine zao ?_ ?_ | refine zai ?_ ?_ | refine zab ?_ ?_) <;> intro hq <;> (try simp at hq)) | refine zag (by omega) ?_ | refine zam (by omega) ?_) <;> simp -implicitDefEqProofs [*, h6, h8, h40, h41, h42, hlt, hlt', hget, hg, hn, hwr, viewBox, psB, xsB, irow])
        refine zac [4, 5, 6] rfl (by decide) (by simp) v4 (by simp) (by simp [lentBs]) ?_
        simp -implicitDefEqProofs [framed, h6, h8, h40, h41, h42, hlt, hlt', hget, hg, hn, hwr, viewBox, psB, xsB, irow]
        refine ⟨[7, 8], ⟨by simp, by simp, by simp⟩, ?_⟩
        unfold keepSt pickSt
        dsimp only
        try rw [hnext]
        exact ⟨.inr ⟨_, _, _, _, _, by simp [lentBs, hr7, viewBox, psB, xsB, irow]; repeat' (first | rfl | apply And.intro)⟩, by simp [h6, hr7], by simp [h8, hr7], by simp [h40], by simp [h41], by simp⟩
       ·simp -implicitDefEqProofs [h6, h8, h40, h41, h42, hlt, hlt', hget, hg, hn, hwr, viewBox, psB, xsB, irow]
        repeat' ((first | refine zaa (by first | exact v1 | exact v2) ?_ | ((with_reducible first | refine zal ?_ ?_ | refine zaj ?_ ?_ | refine zaf ?_ ?_ | refine zae ?_ ?_) <;> intro _) | ((with_reducible first | refine zap ?_ ?_ | refine zaq ?_ ?_ | refine zan ?_ ?_ | refine zad ?_ ?_ | refine zak ?_ ?_ | refine zao ?_ ?_ | refine zai ?_ ?_ | refine zab ?_ ?_) <;> intro hq <;> (try simp at hq)) | refine zag (by omega) ?_ | refine zam (by omega) ?_) <;> simp -implicitDefEqProofs [*, h6, h8, h40, h41, h42, hlt, hlt', hget, hg, hn, hwr, viewBox, psB, xsB, irow])
        refine zac [4, 7, 8] rfl (by decide) (by simp) v4 (by simp) (by simp [lentBs]) ?_
        simp -implicitDefEqProofs [framed, h6, h8, h40, h41, h42, hlt, hlt', hget, hg, hn, hwr, viewBox, psB, xsB, irow]
        refine ⟨[9, 10], ⟨by simp, by simp, by simp⟩, ?_⟩
        unfold keepSt pickSt
        dsimp only
        try rw [hnext]
        exact ⟨.inr ⟨_, _, _, _, _, by simp [lentBs, hr7, viewBox, psB, xsB, irow]; repeat' (first | rfl | apply And.intro)⟩, by simp [h6, hr7], by simp [h8, hr7], by simp [h40], by simp [h41], by simp⟩
 ·rintro ⟨fr, bs⟩ ⟨hB, h6, h8⟩
  have hWid := (key ids.length).2
  rw [List.take_length] at hWid
  generalize ids.foldl tellV w0 = W at *
  rcases hB with ⟨d0, d2, d3, rfl⟩ | ⟨d0, d2, d3, d5, d6, rfl⟩
  ·simp -implicitDefEqProofs [h6, h8, viewBox, psB, xsB, hWid]
  ·simp -implicitDefEqProofs [h6, h8, viewBox, psB, xsB, hWid]
 ·rintro ⟨fr, bs⟩ h
  exact h.elim
theorem zpx (v : View) (a : Int) (ids : List Int) (hs : v.small) (h : helloOk v a ids = true) (hr : roomV v a = false) : Den PP 41 [viewD v, .int .i64 a, intsD ids] [] (.tup [.agg [.int .i64 v.id, .ref 0 0 (helloV v a ids).peers.length, .ref 1 0 (helloV v a ids).passive.length], .int .i64 0]) [psB (helloV v a ids), xsB (helloV v a ids)] := by
 obtain ⟨k1, k2, k3, k4, k5⟩ := zh1 h
 have hcap : ids.length ≤ cap := by unfold cap; omega
 have hsz : 16 ≤ sizeV v := by
  unfold roomV at hr
  simp at hr
  unfold sizeV
  exact hr.2
 have hW : helloV v a ids = v := by unfold helloV; rw [zjb hr, z2a hsz]
 rw [hW]
 clear hW
 have c1 := zj5 v hs
 have c2 := zau a
 have c3 := zgl ids hcap
 have c4 := zl1 v hs
 have hm := k1
 rw [k1] at c1
 rw [k2] at c2
 rw [show ids.all place = true from List.all_eq_true.2 k5] at c3
 have c5 := zie v a k1 k2 k3
 rw [if_neg (by simp [hr])] at c5
 have hk4 : ¬ (16 : Int) < ids.length := by omega
 simp only [viewD, View.cells, peersD, intsD, viewBox, psB, xsB] at c1 c3 c4 c5 ⊢
 clear k1 k2 hs h hr
 refine zah [37] [38, 60] zk9 ?_
 simp -implicitDefEqProofs [zjr, hk4, k3]
 repeat' ((first | refine zaa (by first | exact c1 | exact c2 | exact c3 | exact c4) ?_ | ((with_reducible first | refine zal ?_ ?_ | refine zaj ?_ ?_ | refine zaf ?_ ?_ | refine zae ?_ ?_) <;> intro _) | ((with_reducible first | refine zap ?_ ?_ | refine zaq ?_ ?_ | refine zan ?_ ?_ | refine zad ?_ ?_ | refine zak ?_ ?_ | refine zao ?_ ?_ | refine zai ?_ ?_ | refine zab ?_ ?_) <;> intro hq <;> (try simp at hq)) | refine zag (by omega) ?_ | refine zam (by omega) ?_) <;> simp -implicitDefEqProofs [*, downTo, hk4, k3])
 refine zac [4, 2, 3] rfl (by decide) (by simp) c5 (by simp) (by simp [lentBs]) ?_
 simp -implicitDefEqProofs [framed]
 refine zqe ids (fun i rest => fun ⟨fr, bs⟩ => (∃ d0, bs = [d0, ⟨[[.int .i64 0, .nil, .nil]], 3, .box⟩, psB v, xsB v, viewBox v 2 3]) ∧ fr 6 = .ptr 1 0 0 ∧ fr 8 = .ptr 4 0 0 ∧ fr 40 = .sl (ids.map irow) ids.length ∧ fr 41 = .int .i64 ids.length ∧ fr 42 = .int .i64 i)
  (fun ⟨fr, bs⟩ => (∃ d0, bs = [d0, ⟨[[.int .i64 0, .nil, .nil]], 3, .box⟩, psB v, xsB v, viewBox v 2 3]) ∧ fr 6 = .ptr 1 0 0 ∧ fr 8 = .ptr 4 0 0) (fun _ => False) zgm.eq_1 ?_ ?_ ?_ ?_ ?_
 ·exact ⟨⟨_, by simp [viewBox, psB, xsB]; rfl⟩, by simp, by simp, by simp, by simp, by simp⟩
 ·rintro i ⟨fr, bs⟩ hi ⟨hB, h6, h8, h40, h41, h42⟩
  simp -implicitDefEqProofs [h6, h8, h40, h41, h42, hi]
  exact hB
 ·rintro i x rest ⟨fr, bs⟩ hlt hget hg hd hd2 ⟨⟨d0, rfl⟩, h6, h8, h40, h41, h42⟩
  have hlt' : (i : Int) < ids.length := by omega
  have hwr := za1 (n := i) (by omega)
  have hx := k5 x (List.mem_of_getElem? hget)
  obtain ⟨p1, p2, p3, p4⟩ := za2 hm
  have v1 := zl5 v x (by unfold cap; omega) (zdn p1)
  rw [zhq p1 hx] at v1
  have v2 := zjj v x (by unfold cap; omega)
  have v3 : x ≠ v.id → _ := fun hn => zie v x hm hx hn
  clear c1 c2 c3 c4 c5 p1 p2 p3 p4
  have hroom : knowsV v x = false → roomV v x = false := by
   intro hk
   unfold roomV
   unfold sizeV at hsz
   simp [hk, hsz]
  obtain ⟨A, hA⟩ : ∃ A, (v.peers.map Peer.id).contains x = A := ⟨_, rfl⟩
  obtain ⟨C, hC⟩ : ∃ C, v.passive.contains x = C := ⟨_, rfl⟩
  have hkn : knowsV v x = (A || C) := by rw [← hA, ← hC]; rfl
  rw [hA] at v1
  rw [hC] at v2
  clear hA hC
  simp only [View.cells, peersD, intsD] at v1 v2
  have hr5 : List.range 5 = [0, 1, 2, 3, 4] := rfl
  clear hm hsz
  by_cases hn : x = v.id
  ·simp -implicitDefEqProofs [h6, h8, h40, h41, h42, hlt, hlt', hget, hg, hn, hwr, viewBox, psB, xsB, irow]
   refine ⟨[], ⟨by simp, by simp, by simp⟩, ?_⟩
   unfold keepSt pickSt
   dsimp only
   exact ⟨⟨_, by simp [lentBs, hr5, viewBox, psB, xsB, irow]; repeat' (first | rfl | apply And.intro)⟩, by simp [h6, hr5], by simp [h8, hr5], by simp [h40], by simp [h41], by simp⟩
  ·have v4 := v3 hn
   clear v3
   cases hAC : (A || C) with
   | true =>
     clear v4 hkn hroom
     cases A <;> cases C
     all_goals try (simp at hAC; done)
     all_goals
      clear hAC
      simp -implicitDefEqProofs [h6, h8, h40, h41, h42, hlt, hlt', hget, hg, hn, hwr, viewBox, psB, xsB, irow]
      repeat' ((first | refine zaa (by first | exact v1 | exact v2) ?_ | ((with_reducible first | refine zal ?_ ?_ | refine zaj ?_ ?_ | refine zaf ?_ ?_ | refine zae ?_ ?_) <;> intro _) | ((with_reducible first | refine zap ?_ ?_ | refine zaq ?_ ?_ | refine zan ?_ ?_ | refine zad ?_ ?_ | refine zak ?_ ?_ | refine zao ?_ ?_ | refine zai ?_ ?_ | refine zab ?_ ?_) <;> intro hq <;> (try simp at hq)) | refine zag (by omega) ?_ | refine zam (by omega) ?_) <;> simp -implicitDefEqProofs [*, h6, h8, h40, h41, h42, hlt, hlt', hget, hg, hn, hwr, viewBox, psB, xsB, irow])
      refine ⟨[], ⟨by simp, by simp, by simp⟩, ?_⟩
      unfold keepSt pickSt
      dsimp only
      exact ⟨⟨_, by simp [lentBs, hr5, viewBox, psB, xsB, irow]; repeat' (first | rfl | apply And.intro)⟩, by simp [h6, hr5], by simp [h8, hr5], by simp [h40], by simp [h41], by simp⟩
   | false =>
     rw [hAC] at hkn
     simp only [Bool.or_eq_false_iff] at hAC
     obtain ⟨rfl, rfl⟩ := hAC
     rw [if_neg (by simp [hroom hkn])] at v4
     clear hkn hroom
     simp only [viewBox, psB, xsB] at v4
     simp -implicitDefEqProofs [h6, h8, h40, h41, h42, hlt, hlt', hget, hg, hn, hwr, viewBox, psB, xsB, irow]
     repeat' ((first | refine zaa (by first | exact v1 | exact v2) ?_ | ((with_reducible first | refine zal ?_ ?_ | refine zaj ?_ ?_ | refine zaf ?_ ?_ | refine zae ?_ ?_) <;> intro _) | ((with_reducible first | refine zap ?_ ?_ | refine zaq ?_ ?_ | refine zan ?_ ?_ | refine zad ?_ ?_ | refine zak ?_ ?_ | refine zao ?_ ?_ | refine zai ?_ ?_ | refine zab ?_ ?_) <;> intro hq <;> (try simp at hq)) | refine zag (by omega) ?_ | refine zam (by omega) ?_) <;> simp -implicitDefEqProofs [*, h6, h8, h40, h41, h42, hlt, hlt', hget, hg, hn, hwr, viewBox, psB, xsB, irow])
     refine zac [4, 2, 3] rfl (by decide) (by simp) v4 (by simp) (by simp [lentBs]) ?_
     simp -implicitDefEqProofs [framed, h6, h8, h40, h41, h42, hlt, hlt', hget, hg, hn, hwr, viewBox, psB, xsB, irow]
     refine ⟨[], ⟨by simp, by simp, by simp⟩, ?_⟩
     unfold keepSt pickSt
     dsimp only
     exact ⟨⟨_, by simp [lentBs, hr5, viewBox, psB, xsB, irow]; repeat' (first | rfl | apply And.intro)⟩, by simp [h6, hr5], by simp [h8, hr5], by simp [h40], by simp [h41], by simp⟩
 ·rintro ⟨fr, bs⟩ ⟨⟨d0, rfl⟩, h6, h8⟩
  simp -implicitDefEqProofs [h6, h8, viewBox, psB, xsB]
 ·rintro ⟨fr, bs⟩ h
  exact h.elim
theorem z1v (v : View) (a : Int) (ids : List Int) (hs : v.small) (h : helloOk v a ids = true) : Den PP 41 [viewD v, .int .i64 a, intsD ids] [] (.tup [.agg [.int .i64 v.id, .ref 0 0 (helloV v a ids).peers.length, .ref 1 0 (helloV v a ids).passive.length], .int .i64 0]) [psB (helloV v a ids), xsB (helloV v a ids)] := by
 cases hr : roomV v a with
 | true => exact zqr v a ids hs h hr
 | false => exact zpx v a ids hs h hr
end Go.AM
/- AM: contracts: a message that comes is handled. -/
namespace Go.AM
set_option linter.unusedSimpArgs false
set_option linter.unusedVariables false
set_option maxRecDepth 8000
set_option maxHeartbeats 0
def hBox (x : Node) (p q i l : Nat) (s : D) : Blk := ⟨[[.bool x.up, .int .i64 x.view.id, .ref p 0 x.view.peers.length, .ref q 0 x.view.passive.length, .ref i 0 x.items.length, .ref l 0 x.log.length, s]], 7, .box⟩
theorem zs4 {x : Node} {m : Msg} (h : nodeUp x = true) (hm : msgMay m = true) (hk : m.kind = 0) (ht : m.to = x.view.id) : helloOk x.view m.from_ m.ids = true := by
 have hv : viewMay x.view = true := by simp only [nodeUp, nodeMay, Bool.and_eq_true] at h; grind
 simp only [msgMay, hk, if_true, Bool.and_eq_true, Bool.not_eq_true', decide_eq_false_iff_not, decide_eq_true_eq] at hm
 obtain ⟨h1, h2, h3, ⟨⟨_, h5⟩, h6⟩⟩ := hm
 simp [helloOk, hv, h1, h5, h6]
 rw [← ht]
 exact h3
theorem zsl (x : Node) (m : Msg) (hs : x.small) (h : helloOk x.view m.from_ m.ids = true) : Den PP 87 [.ptr 0 0 0, msgD m] [hBox x 1 2 3 4 .nil, ⟨x.view.peers.map Peer.row, 2, .mut⟩, ⟨x.view.passive.map irow, 1, .mut⟩, ⟨x.items.map Item.row, 5, .mut⟩, ⟨x.log.map Told.row, 3, .mut⟩] (.tup [])
 [hBox { x with view := helloV x.view m.from_ m.ids } 5 6 3 4 .nil, ⟨x.view.peers.map Peer.row, 2, .app⟩, ⟨x.view.passive.map irow, 1, .app⟩, ⟨x.items.map Item.row, 5, .mut⟩, ⟨x.log.map Told.row, 3, .mut⟩, psB (helloV x.view m.from_ m.ids), xsB (helloV x.view m.from_ m.ids)] := by
 have c1 := z1v x.view m.from_ m.ids hs.1 h
 have hid := (zm5 h).2
 generalize helloV x.view m.from_ m.ids = w at *
 clear h
 simp only [hBox, psB, xsB, viewD, View.cells, peersD, intsD, msgD, Msg.row, hid] at c1 ⊢
 refine zah [15] [] zia ?_
 simp -implicitDefEqProofs [ze2]
 repeat' ((first | refine zaa (by first | exact c1) ?_ | ((with_reducible first | refine zal ?_ ?_ | refine zaj ?_ ?_ | refine zaf ?_ ?_ | refine zae ?_ ?_) <;> intro _) | ((with_reducible first | refine zap ?_ ?_ | refine zaq ?_ ?_ | refine zan ?_ ?_ | refine zad ?_ ?_ | refine zak ?_ ?_ | refine zao ?_ ?_ | refine zai ?_ ?_ | refine zab ?_ ?_) <;> intro hq <;> (try simp at hq)) | refine zag (by omega) ?_ | refine zam (by omega) ?_) <;> simp -implicitDefEqProofs [*, downTo])
theorem zvg (x : Node) (m : Msg) (hs : x.small) (h : (nodeUp x && itemMay m.item) = true) : Den PP 88 [.ptr 0 0 0, msgD m] [hBox x 1 2 3 4 .nil, ⟨x.view.peers.map Peer.row, 2, .mut⟩, ⟨x.view.passive.map irow, 1, .mut⟩, ⟨x.items.map Item.row, 5, .mut⟩, ⟨x.log.map Told.row, 3, .mut⟩] (.tup [])
 [hBox (takeI x m.item) 5 6 7 8 .nil, ⟨x.view.peers.map Peer.row, 2, .app⟩, ⟨x.view.passive.map irow, 1, .app⟩, ⟨x.items.map Item.row, 5, .app⟩, ⟨x.log.map Told.row, 3, .app⟩, ⟨(takeI x m.item).view.peers.map Peer.row, 2, .mut⟩, ⟨(takeI x m.item).view.passive.map irow, 1, .mut⟩, ⟨(takeI x m.item).items.map Item.row, 5, .mut⟩, ⟨(takeI x m.item).log.map Told.row, 3, .mut⟩] := by
 have c1 := z4w x m.item hs h
 generalize takeI x m.item = y at *
 clear h
 simp only [hBox, nodeD, Node.cells, viewD, View.cells, peersD, intsD, itemsD, toldsD, Item.row, copyD, nodeB, msgD, Msg.row] at c1 ⊢
 refine zah [12] [] zi1 ?_
 simp -implicitDefEqProofs [zfp]
 repeat' ((first | refine zaa (by first | exact c1) ?_ | ((with_reducible first | refine zal ?_ ?_ | refine zaj ?_ ?_ | refine zaf ?_ ?_ | refine zae ?_ ?_) <;> intro _) | ((with_reducible first | refine zap ?_ ?_ | refine zaq ?_ ?_ | refine zan ?_ ?_ | refine zad ?_ ?_ | refine zak ?_ ?_ | refine zao ?_ ?_ | refine zai ?_ ?_ | refine zab ?_ ?_) <;> intro hq <;> (try simp at hq)) | refine zag (by omega) ?_ | refine zam (by omega) ?_) <;> simp -implicitDefEqProofs [*, downTo])
theorem zxg (x : Node) (m : Msg) (hs : x.small) (hl : m.ids.length ≤ cap) (h : toB x m 2 = true) : ∃ k : Kind, k.isBox = false ∧ Den PP 89 [.ptr 0 0 0, msgD m] [hBox x 1 2 3 4 .nil, ⟨x.view.peers.map Peer.row, 2, .mut⟩, ⟨x.view.passive.map irow, 1, .mut⟩, ⟨x.items.map Item.row, 5, .mut⟩, ⟨x.log.map Told.row, 3, .mut⟩] (.tup [])
 [hBox x 1 2 3 4 (.ref 5 0 1), ⟨x.view.peers.map Peer.row, 2, k⟩, ⟨x.view.passive.map irow, 1, k⟩, ⟨x.items.map Item.row, 5, k⟩, ⟨x.log.map Told.row, 3, k⟩, ⟨[tellOf x m].map Msg.row0, 11, .mut⟩] := by
 refine ⟨.app, rfl, ?_⟩
 have c1 := ztj x m hs hl h
 generalize tellOf x m = t at *
 clear h
 simp only [hBox, nodeD, Node.cells, viewD, View.cells, peersD, intsD, itemsD, toldsD, Item.row, copyD, nodeB, msgD, Msg.row, List.map_cons, List.map_nil] at c1 ⊢
 refine zah [11] [] zjh ?_
 simp -implicitDefEqProofs [zf1]
 repeat' ((first | refine zaa (by first | exact c1) ?_ | ((with_reducible first | refine zal ?_ ?_ | refine zaj ?_ ?_ | refine zaf ?_ ?_ | refine zae ?_ ?_) <;> intro _) | ((with_reducible first | refine zap ?_ ?_ | refine zaq ?_ ?_ | refine zan ?_ ?_ | refine zad ?_ ?_ | refine zak ?_ ?_ | refine zao ?_ ?_ | refine zai ?_ ?_ | refine zab ?_ ?_) <;> intro hq <;> (try simp at hq)) | refine zag (by omega) ?_ | refine zam (by omega) ?_) <;> simp -implicitDefEqProofs [*, downTo])
theorem zu4 (x : Node) (m : Msg) (hs : x.small) (hl : m.ids.length ≤ cap) (h : toB x m 3 = true) : Den PP 90 [.ptr 0 0 0, msgD m] [hBox x 1 2 3 4 .nil, ⟨x.view.peers.map Peer.row, 2, .mut⟩, ⟨x.view.passive.map irow, 1, .mut⟩, ⟨x.items.map Item.row, 5, .mut⟩, ⟨x.log.map Told.row, 3, .mut⟩] (.tup [])
 [⟨[[.bool x.up, .int .i64 x.view.id, .ref 5 0 x.view.peers.length, .ref 6 0 x.view.passive.length, .ref 7 0 x.items.length, .ref 8 (logPre x (mT m)).length (logOf x (mT m)).length, .nil]], 7, .box⟩, ⟨x.view.peers.map Peer.row, 2, .app⟩, ⟨x.view.passive.map irow, 1, .app⟩, ⟨x.items.map Item.row, 5, .app⟩, ⟨x.log.map Told.row, 3, .app⟩, ⟨x.view.peers.map Peer.row, 2, .mut⟩, ⟨x.view.passive.map irow, 1, .mut⟩, ⟨x.items.map Item.row, 5, .mut⟩, ⟨(logPre x (mT m) ++ logOf x (mT m)).map Told.row, 3, .mut⟩] := by
 have c1 := zx5 x m hs hl h
 generalize logPre x (mT m) = pre at *
 generalize logOf x (mT m) = xs at *
 clear h
 simp only [hBox, nodeD, Node.cells, viewD, View.cells, peersD, intsD, itemsD, toldsD, Item.row, noteD, noteB, msgD, Msg.row] at c1 ⊢
 refine zah [11] [] ziy ?_
 simp -implicitDefEqProofs [zfi]
 repeat' ((first | refine zaa (by first | exact c1) ?_ | ((with_reducible first | refine zal ?_ ?_ | refine zaj ?_ ?_ | refine zaf ?_ ?_ | refine zae ?_ ?_) <;> intro _) | ((with_reducible first | refine zap ?_ ?_ | refine zaq ?_ ?_ | refine zan ?_ ?_ | refine zad ?_ ?_ | refine zak ?_ ?_ | refine zao ?_ ?_ | refine zai ?_ ?_ | refine zab ?_ ?_) <;> intro hq <;> (try simp at hq)) | refine zag (by omega) ?_ | refine zam (by omega) ?_) <;> simp -implicitDefEqProofs [*, downTo])
end Go.AM
/- AM: contracts: handle.Do. -/
namespace Go.AM
set_option linter.unusedSimpArgs false
set_option linter.unusedVariables false
set_option maxRecDepth 8000
set_option maxHeartbeats 0
def doB (x : Node) (m : Msg) : Bool := nodeUp x && (msgMay m && decide (m.to = x.view.id))
theorem zes {x : Node} {m : Msg} (h : doB x m = true) : nodeUp x = true ∧ msgMay m = true ∧ m.to = x.view.id := by
 simp only [doB, Bool.and_eq_true, decide_eq_true_eq] at h
 exact h
theorem z2k {m : Msg} (h : msgMay m = true) : m.kind = 0 ∨ m.kind = 1 ∨ m.kind = 2 ∨ m.kind = 3 := by
 simp only [msgMay, Bool.and_eq_true] at h
 obtain ⟨_, _, _, h⟩ := h
 by_cases h0 : m.kind = 0
 ·exact .inl h0
 by_cases h1 : m.kind = 1
 ·exact .inr (.inl h1)
 by_cases h2 : m.kind = 2
 ·exact .inr (.inr (.inl h2))
 by_cases h3 : m.kind = 3
 ·exact .inr (.inr (.inr h3))
 simp [h0, h1, h2, h3] at h
theorem z89 {m : Msg} (h : msgMay m = true) (hk : m.kind = 1) : itemMay m.item = true := by
 simp [msgMay, hk] at h
 exact h.2.2.2.2
theorem z7z {x : Node} {m : Msg} (h : doB x m = true) {k : Int} (hk : m.kind = k) : toB x m k = true := by
 obtain ⟨h1, h2, h3⟩ := zes h
 simp [toB, h1, h2, h3, hk]
theorem zvd (x : Node) (m : Msg) (hs : x.small) (hl : m.ids.length ≤ cap) (h : doB x m = false) : Den PP 28 [nodeD x, msgD m] [] (.tup [.agg [.bool false, .int .i64 0, .nil, .nil, .nil, .nil], .ref 0 0 0, .int .i64 2200]) [⟨[], 11, .mut⟩] := by
 have c1 := zd6 x hs
 have c2 := zkr m hl
 unfold doB at h
 generalize nodeUp x = U at *
 generalize msgMay m = M at *
 simp only [nodeD, Node.cells, peersD, intsD, itemsD, toldsD, Item.row, msgD, Msg.row] at c1 c2 ⊢
 refine zah [27] [43] zfh ?_
 cases U <;> cases M
 all_goals
  simp at h
 all_goals
  simp -implicitDefEqProofs [ze8]
  repeat' ((first | refine zaa (by first | exact c1 | exact c2) ?_ | ((with_reducible first | refine zal ?_ ?_ | refine zaj ?_ ?_ | refine zaf ?_ ?_ | refine zae ?_ ?_) <;> intro _) | ((with_reducible first | refine zap ?_ ?_ | refine zaq ?_ ?_ | refine zan ?_ ?_ | refine zad ?_ ?_ | refine zak ?_ ?_ | refine zao ?_ ?_ | refine zai ?_ ?_ | refine zab ?_ ?_) <;> intro hq <;> (try simp at hq)) | refine zag (by omega) ?_ | refine zam (by omega) ?_) <;> simp -implicitDefEqProofs [*])
theorem zxh (x : Node) (m : Msg) (hs : x.small) (hl : m.ids.length ≤ cap) (h : doB x m = true) (hk : m.kind = 0) : Den PP 28 [nodeD x, msgD m] [] (.tup [copyD { x with view := helloV x.view m.from_ m.ids }, .nil, .int .i64 0]) (nodeB { x with view := helloV x.view m.from_ m.ids }) := by
 have c1 := zd6 x hs
 have c2 := zkr m hl
 obtain ⟨h1, h2, h3⟩ := zes h
 have c4 := zsl x m hs (zs4 h1 h2 hk h3)
 rw [h1] at c1
 rw [h2] at c2
 have c3 := zds x hs
 generalize helloV x.view m.from_ m.ids = w at *
 clear h h1 h2
 simp only [hBox, psB, xsB, nodeD, Node.cells, viewD, View.cells, peersD, intsD, itemsD, toldsD, Item.row, copyD, nodeB, noteD, noteB, msgD, Msg.row, hk, h3, List.map_cons, List.map_nil] at c1 c2 c3 c4 ⊢
 refine zah [27] [43] zfh ?_
 simp -implicitDefEqProofs [ze8, h3, hk]
 repeat' ((first | refine zaa (by first | exact c1 | exact c2 | exact c3) ?_ | ((with_reducible first | refine zal ?_ ?_ | refine zaj ?_ ?_ | refine zaf ?_ ?_ | refine zae ?_ ?_) <;> intro _) | ((with_reducible first | refine zap ?_ ?_ | refine zaq ?_ ?_ | refine zan ?_ ?_ | refine zad ?_ ?_ | refine zak ?_ ?_ | refine zao ?_ ?_ | refine zai ?_ ?_ | refine zab ?_ ?_) <;> intro hq <;> (try simp at hq)) | refine zag (by omega) ?_ | refine zam (by omega) ?_) <;> simp -implicitDefEqProofs [*, downTo, h3, hk])
 refine zac [8, 4, 5, 6, 7] rfl (by decide) (by simp) c4 (by simp) (by simp [lentBs]) ?_
 simp -implicitDefEqProofs [framed]
 repeat' apply And.intro
 all_goals repeat' ((first | ((with_reducible first | refine zal ?_ ?_ | refine zaj ?_ ?_ | refine zaf ?_ ?_ | refine zae ?_ ?_) <;> intro _) | ((with_reducible first | refine zap ?_ ?_ | refine zaq ?_ ?_ | refine zan ?_ ?_ | refine zad ?_ ?_ | refine zak ?_ ?_ | refine zao ?_ ?_ | refine zai ?_ ?_ | refine zab ?_ ?_) <;> intro hq <;> (try simp at hq)) | refine zag (by omega) ?_ | refine zam (by omega) ?_) <;> simp -implicitDefEqProofs [*, downTo])
theorem zxb (x : Node) (m : Msg) (hs : x.small) (hl : m.ids.length ≤ cap) (h : doB x m = true) (hk : m.kind = 1) : Den PP 28 [nodeD x, msgD m] [] (.tup [copyD (takeI x m.item), .nil, .int .i64 0]) (nodeB (takeI x m.item)) := by
 have c1 := zd6 x hs
 have c2 := zkr m hl
 obtain ⟨h1, h2, h3⟩ := zes h
 have c4 := zvg x m hs (by rw [h1, z89 h2 hk]; rfl)
 rw [h1] at c1
 rw [h2] at c2
 have c3 := zds x hs
 generalize takeI x m.item = y at *
 clear h h1 h2
 simp only [hBox, psB, xsB, nodeD, Node.cells, viewD, View.cells, peersD, intsD, itemsD, toldsD, Item.row, copyD, nodeB, noteD, noteB, msgD, Msg.row, hk, h3, List.map_cons, List.map_nil] at c1 c2 c3 c4 ⊢
 refine zah [27] [43] zfh ?_
 simp -implicitDefEqProofs [ze8, h3, hk]
 repeat' ((first | refine zaa (by first | exact c1 | exact c2 | exact c3) ?_ | ((with_reducible first | refine zal ?_ ?_ | refine zaj ?_ ?_ | refine zaf ?_ ?_ | refine zae ?_ ?_) <;> intro _) | ((with_reducible first | refine zap ?_ ?_ | refine zaq ?_ ?_ | refine zan ?_ ?_ | refine zad ?_ ?_ | refine zak ?_ ?_ | refine zao ?_ ?_ | refine zai ?_ ?_ | refine zab ?_ ?_) <;> intro hq <;> (try simp at hq)) | refine zag (by omega) ?_ | refine zam (by omega) ?_) <;> simp -implicitDefEqProofs [*, downTo, h3, hk])
 refine zac [8, 4, 5, 6, 7] rfl (by decide) (by simp) c4 (by simp) (by simp [lentBs]) ?_
 simp -implicitDefEqProofs [framed]
 repeat' apply And.intro
 all_goals repeat' ((first | ((with_reducible first | refine zal ?_ ?_ | refine zaj ?_ ?_ | refine zaf ?_ ?_ | refine zae ?_ ?_) <;> intro _) | ((with_reducible first | refine zap ?_ ?_ | refine zaq ?_ ?_ | refine zan ?_ ?_ | refine zad ?_ ?_ | refine zak ?_ ?_ | refine zao ?_ ?_ | refine zai ?_ ?_ | refine zab ?_ ?_) <;> intro hq <;> (try simp at hq)) | refine zag (by omega) ?_ | refine zam (by omega) ?_) <;> simp -implicitDefEqProofs [*, downTo])
theorem zw2 (x : Node) (m : Msg) (hs : x.small) (hl : m.ids.length ≤ cap) (h : doB x m = true) (hk : m.kind = 2) : ∃ kk : Kind, kk.isBox = false ∧ Den PP 28 [nodeD x, msgD m] [] (.tup [copyD x, .ref 4 0 1, .int .i64 0]) [⟨x.view.peers.map Peer.row, 2, kk⟩, ⟨x.view.passive.map irow, 1, kk⟩, ⟨x.items.map Item.row, 5, kk⟩, ⟨x.log.map Told.row, 3, kk⟩, ⟨[tellOf x m].map Msg.row0, 11, .mut⟩] := by
 have c1 := zd6 x hs
 have c2 := zkr m hl
 obtain ⟨h1, h2, h3⟩ := zes h
 have c4 := zxg x m hs hl (z7z h hk)
 rw [h1] at c1
 rw [h2] at c2
 have c3 := zds x hs
 obtain ⟨kk, hkk, c4⟩ := c4
 refine ⟨kk, hkk, ?_⟩
 generalize tellOf x m = t at *
 clear h h1 h2
 simp only [hBox, psB, xsB, nodeD, Node.cells, viewD, View.cells, peersD, intsD, itemsD, toldsD, Item.row, copyD, nodeB, noteD, noteB, msgD, Msg.row, hk, h3, List.map_cons, List.map_nil] at c1 c2 c3 c4 ⊢
 refine zah [27] [43] zfh ?_
 cases kk <;> simp [Kind.isBox] at hkk
 all_goals
  simp -implicitDefEqProofs [ze8, h3, hk]
  repeat' ((first | refine zaa (by first | exact c1 | exact c2 | exact c3) ?_ | ((with_reducible first | refine zal ?_ ?_ | refine zaj ?_ ?_ | refine zaf ?_ ?_ | refine zae ?_ ?_) <;> intro _) | ((with_reducible first | refine zap ?_ ?_ | refine zaq ?_ ?_ | refine zan ?_ ?_ | refine zad ?_ ?_ | refine zak ?_ ?_ | refine zao ?_ ?_ | refine zai ?_ ?_ | refine zab ?_ ?_) <;> intro hq <;> (try simp at hq)) | refine zag (by omega) ?_ | refine zam (by omega) ?_) <;> simp -implicitDefEqProofs [*, downTo, h3, hk])
  refine zac [8, 4, 5, 6, 7] rfl (by decide) (by simp) c4 (by simp) (by simp [lentBs]) ?_
  simp -implicitDefEqProofs [framed]
  repeat' apply And.intro
  all_goals repeat' ((first | ((with_reducible first | refine zal ?_ ?_ | refine zaj ?_ ?_ | refine zaf ?_ ?_ | refine zae ?_ ?_) <;> intro _) | ((with_reducible first | refine zap ?_ ?_ | refine zaq ?_ ?_ | refine zan ?_ ?_ | refine zad ?_ ?_ | refine zak ?_ ?_ | refine zao ?_ ?_ | refine zai ?_ ?_ | refine zab ?_ ?_) <;> intro hq <;> (try simp at hq)) | refine zag (by omega) ?_ | refine zam (by omega) ?_) <;> simp -implicitDefEqProofs [*, downTo])
theorem zyl (x : Node) (m : Msg) (hs : x.small) (hl : m.ids.length ≤ cap) (h : doB x m = true) (hk : m.kind = 3) : Den PP 28 [nodeD x, msgD m] [] (.tup [noteD x (logPre x (mT m)) (logOf x (mT m)), .nil, .int .i64 0]) (noteB x (logPre x (mT m)) (logOf x (mT m))) := by
 have c1 := zd6 x hs
 have c2 := zkr m hl
 obtain ⟨h1, h2, h3⟩ := zes h
 have c4 := zu4 x m hs hl (z7z h hk)
 rw [h1] at c1
 rw [h2] at c2
 have c3 := zds x hs
 generalize logPre x (mT m) = pre at *
 generalize logOf x (mT m) = xs at *
 clear h h1 h2
 simp only [hBox, psB, xsB, nodeD, Node.cells, viewD, View.cells, peersD, intsD, itemsD, toldsD, Item.row, copyD, nodeB, noteD, noteB, msgD, Msg.row, hk, h3, List.map_cons, List.map_nil] at c1 c2 c3 c4 ⊢
 refine zah [27] [43] zfh ?_
 simp -implicitDefEqProofs [ze8, h3, hk]
 repeat' ((first | refine zaa (by first | exact c1 | exact c2 | exact c3) ?_ | ((with_reducible first | refine zal ?_ ?_ | refine zaj ?_ ?_ | refine zaf ?_ ?_ | refine zae ?_ ?_) <;> intro _) | ((with_reducible first | refine zap ?_ ?_ | refine zaq ?_ ?_ | refine zan ?_ ?_ | refine zad ?_ ?_ | refine zak ?_ ?_ | refine zao ?_ ?_ | refine zai ?_ ?_ | refine zab ?_ ?_) <;> intro hq <;> (try simp at hq)) | refine zag (by omega) ?_ | refine zam (by omega) ?_) <;> simp -implicitDefEqProofs [*, downTo, h3, hk])
 refine zac [8, 4, 5, 6, 7] rfl (by decide) (by simp) c4 (by simp) (by simp [lentBs]) ?_
 simp -implicitDefEqProofs [framed]
 repeat' apply And.intro
 all_goals repeat' ((first | ((with_reducible first | refine zal ?_ ?_ | refine zaj ?_ ?_ | refine zaf ?_ ?_ | refine zae ?_ ?_) <;> intro _) | ((with_reducible first | refine zap ?_ ?_ | refine zaq ?_ ?_ | refine zan ?_ ?_ | refine zad ?_ ?_ | refine zak ?_ ?_ | refine zao ?_ ?_ | refine zai ?_ ?_ | refine zab ?_ ?_) <;> intro hq <;> (try simp at hq)) | refine zag (by omega) ?_ | refine zam (by omega) ?_) <;> simp -implicitDefEqProofs [*, downTo])
end Go.AM
/- AM: contracts: a packet delivered. -/
namespace Go.AM
set_option linter.unusedSimpArgs false
set_option linter.unusedVariables false
set_option maxRecDepth 8000
set_option maxHeartbeats 0
theorem zm4 (w : Wld) (a : Act) (h : w.packets = []) : Den PP 60 [.ptr 0 0 0, .ptr 4 0 0] (actB w a) (.tup []) (actB w a) := by
 have c1 := zg5 w a h
 clear h
 simp only [actB, doA, doC, doS, copyD, nodeB, noteD, noteB, nodeD, intsD, Act.cells, Wld.cells, nodesD, cutsD, msgsD, msgD, List.cons_append, List.nil_append] at c1 ⊢
 refine zah [] [14, 41, 61] zb3 ?_
 simp -implicitDefEqProofs [zbv]
 refine zac [0, 1, 2, 3, 4] rfl (by decide) (by simp) c1 (by simp) (by simp [lentBs]) ?_
 simp -implicitDefEqProofs [framed, -leave]
 exact leave5 (zaz rfl) (za9 5 _) (zbt 5 _) (zbu 5 _) (zaz rfl)
theorem zn5 (w : Wld) (a : Act) (m : Msg) (hw : worldMay w = true) (h0 : 0 ≤ a.pick) (hp : a.pick ≤ 65535) (hm : w.packets[pickP w a]? = some m) (hr : MonoC (cmpN m.to) w.nodes) (hcut : (isC w.cuts m.from_ m.to).1 = true) : Den PP 60 [.ptr 0 0 0, .ptr 4 0 0] (actB w a) (.tup []) (doC w a (leftP w (pickP w a))) := by
 have c1 := zdt w a m (zat hw) (zar hw).2.2.1 h0 hp hm
 have c2 := zm8 w.cuts m.from_ m.to (by have := (zat hw).cuts; unfold cap; omega)
 rw [hcut] at c2
 generalize (isC w.cuts m.from_ m.to).2 = e at *
 generalize leftP w (pickP w a) = ls at *
 clear hw h0 hp hm hr hcut
 simp only [actB, doA, doC, doS, copyD, nodeB, noteD, noteB, nodeD, intsD, Act.cells, Wld.cells, nodesD, cutsD, msgsD, msgD, Msg.row] at c1 c2 ⊢
 refine zah [] [14, 41, 61] zb3 ?_
 simp -implicitDefEqProofs [zbv]
 refine zac [0, 1, 2, 3, 4] rfl (by decide) (by simp) c1 (by simp) (by simp [lentBs]) ?_
 simp -implicitDefEqProofs [framed, -leave]
 refine zaa c2 ?_
 simp -implicitDefEqProofs [-leave]
 exact leave5 (zaz rfl) (za9 5 _) (zbt 5 _) (zbu 5 _) (zaz rfl)
theorem zpz (w : Wld) (a : Act) (m : Msg) (x : Node) (hw : worldMay w = true) (h0 : 0 ≤ a.pick) (hp : a.pick ≤ 65535) (hm : w.packets[pickP w a]? = some m) (hr : MonoC (cmpN m.to) w.nodes) (hcut : (isC w.cuts m.from_ m.to).1 = false) (hi : isN m.to w.nodes = true) (hx : w.nodes[posN m.to w.nodes]? = some x) (h : doB x m = false) : Den PP 60 [.ptr 0 0 0, .ptr 4 0 0] (actB w a) (.tup []) (doC w a (leftP w (pickP w a))) := by
 have c1 := zdt w a m (zat hw) (zar hw).2.2.1 h0 hp hm
 have c2 := zm8 w.cuts m.from_ m.to (by have := (zat hw).cuts; unfold cap; omega)
 have c3 := zft { w with packets := leftP w (pickP w a) } m.to w.packets (by have := (zat hw).nodes; unfold cap; simp only; omega) hr hi
 have c4 := zvd x m (za3 ((zat hw).node x (List.mem_of_getElem? hx))) (by have := (zat hw).packet m (List.mem_of_getElem? hm); unfold cap; omega) h
 have hpp := zdg hi
 have hg : ∀ h : posN m.to w.nodes < w.nodes.length, w.nodes[posN m.to w.nodes] = x := fun h => by rw [List.getElem?_eq_getElem h] at hx; exact Option.some.inj hx
 rw [hcut] at c2
 simp only at c3
 generalize (isC w.cuts m.from_ m.to).2 = e at *
 generalize leftP w (pickP w a) = ls at *
 generalize posN m.to w.nodes = P at *
 have hp' : (P : Int) < w.nodes.length := by omega
 clear hw h0 hp hm hr hcut hi h
 simp only [actB, doA, doC, doS, copyD, nodeB, noteD, noteB, nodeD, intsD, Act.cells, Wld.cells, nodesD, cutsD, msgsD, msgD, Msg.row] at c1 c2 c3 c4 ⊢
 refine zah [] [14, 41, 61] zb3 ?_
 simp -implicitDefEqProofs [zbv]
 refine zac [0, 1, 2, 3, 4] rfl (by decide) (by simp) c1 (by simp) (by simp [lentBs]) ?_
 simp -implicitDefEqProofs [framed, -leave]
 refine zaa c2 ?_
 simp -implicitDefEqProofs [-leave]
 refine zac [0, 1, 2, 3, 6] rfl (by decide) (by simp) c3 (by simp) (by simp [lentBs]) ?_
 simp -implicitDefEqProofs [framed, -leave, hpp, hp', hx, hg]
 refine zaa c4 ?_
 simp -implicitDefEqProofs [-leave, hpp, hp', hx, hg]
 exact leave5 (zaz rfl) (za9 5 _) (zbt 5 _) (zbu 5 _) (zaz rfl)
theorem zqz (w : Wld) (a : Act) (m : Msg) (x : Node) (hw : worldMay w = true) (h0 : 0 ≤ a.pick) (hp : a.pick ≤ 65535) (hm : w.packets[pickP w a]? = some m) (hr : MonoC (cmpN m.to) w.nodes) (hcut : (isC w.cuts m.from_ m.to).1 = false) (hi : isN m.to w.nodes = true) (hx : w.nodes[posN m.to w.nodes]? = some x) (h : doB x m = true) (hk : m.kind = 0) (hm1 : worldMay ({ nodes := w.nodes.set (posN m.to w.nodes) ({ x with view := helloV x.view m.from_ m.ids }), cuts := w.cuts, packets := leftP w (pickP w a) } : Wld) = true) (hm2 : worldMay ({ nodes := w.nodes.set (posN m.to w.nodes) ({ x with view := helloV x.view m.from_ m.ids }), cuts := w.cuts, packets := [] } : Wld) = true) :
 Den PP 60 [.ptr 0 0 0, .ptr 4 0 0] (actB w a) (.tup []) (doS ({ nodes := w.nodes.set (posN m.to w.nodes) ({ x with view := helloV x.view m.from_ m.ids }), cuts := w.cuts, packets := leftP w (pickP w a) } : Wld) (sendW ({ nodes := w.nodes.set (posN m.to w.nodes) ({ x with view := helloV x.view m.from_ m.ids }), cuts := w.cuts, packets := leftP w (pickP w a) } : Wld) []) w.packets a) := by
 have c1 := zdt w a m (zat hw) (zar hw).2.2.1 h0 hp hm
 have c2 := zm8 w.cuts m.from_ m.to (by have := (zat hw).cuts; unfold cap; omega)
 have c3 := zft { w with packets := leftP w (pickP w a) } m.to w.packets (by have := (zat hw).nodes; unfold cap; simp only; omega) hr hi
 have c4 := zxh x m (za3 ((zat hw).node x (List.mem_of_getElem? hx))) (by have := (zat hw).packet m (List.mem_of_getElem? hm); unfold cap; omega) h hk
 have c5 := zgx ({ nodes := w.nodes.set (posN m.to w.nodes) ({ x with view := helloV x.view m.from_ m.ids }), cuts := w.cuts, packets := leftP w (pickP w a) } : Wld) [] w.packets hm1 hm2
 have hpp := zdg hi
 have hg : ∀ h : posN m.to w.nodes < w.nodes.length, w.nodes[posN m.to w.nodes] = x := fun h => by rw [List.getElem?_eq_getElem h] at hx; exact Option.some.inj hx
 rw [hcut] at c2
 simp only at c3
 have c5 : Den PP 151 [.ptr 0 0 0, .nil] _ _ _ := zc5 (by
  simp only [List.map_cons, List.map_nil, D.nrm]
  exact c5)
 have hid : (helloV x.view m.from_ m.ids).id = x.view.id := (zm5 (zs4 (zes h).1 (zes h).2.1 hk (zes h).2.2)).2
 generalize helloV x.view m.from_ m.ids = vw at *
 generalize (isC w.cuts m.from_ m.to).2 = e at *
 generalize leftP w (pickP w a) = ls at *
 generalize posN m.to w.nodes = P at *
 have hp' : (P : Int) < w.nodes.length := by omega
 have e1 : (sendW { nodes := w.nodes.set P ({ x with view := vw }), cuts := w.cuts, packets := ls } []).nodes = w.nodes.set P ({ x with view := vw }) := rfl
 have e2 : (sendW { nodes := w.nodes.set P ({ x with view := vw }), cuts := w.cuts, packets := ls } []).cuts = w.cuts := rfl
 generalize sendW { nodes := w.nodes.set P ({ x with view := vw }), cuts := w.cuts, packets := ls } [] = v at *
 obtain ⟨ns, cs, ps⟩ := v
 simp only at e1 e2
 subst e1 e2
 clear hw h0 hp hm hr hcut hi h hm1 hm2
 simp only [actB, doA, doC, doS, copyD, nodeB, noteD, noteB, nodeD, intsD, Act.cells, Wld.cells, nodesD, cutsD, msgsD, msgD, Msg.row, Msg.row0, hk, List.length_set, List.map_set, List.map_cons, List.map_nil, List.length_cons, List.length_nil, List.nil_append, List.cons_append] at c1 c2 c3 c4 c5 ⊢
 rw [zdi ({ x with view := vw })] at c5 ⊢
 try simp only at c5 ⊢
 skip
 all_goals
  refine zah [] [14, 41, 61] zb3 ?_
  simp -implicitDefEqProofs [zbv]
  refine zac [0, 1, 2, 3, 4] rfl (by decide) (by simp) c1 (by simp) (by simp [lentBs]) ?_
  simp -implicitDefEqProofs [framed, -leave]
  refine zaa c2 ?_
  simp -implicitDefEqProofs [-leave]
  refine zac [0, 1, 2, 3, 6] rfl (by decide) (by simp) c3 (by simp) (by simp [lentBs]) ?_
  simp -implicitDefEqProofs [framed, -leave, hpp, hp', hx, hg]
  refine zaa c4 ?_
  simp -implicitDefEqProofs [-leave, hpp, hp', hx, hg]
  refine zac [0, 1, 2, 3] rfl (by decide) (by simp) c5 (by simp) (by simp [lentBs]) ?_
  simp -implicitDefEqProofs [framed, -leave]
  exact leave5 (zaz rfl) (zgd (za9 5 _) (List.all_eq_true.1 rfl)) (zbt 5 _) (zbu 5 _) (zaz rfl)
theorem zqy (w : Wld) (a : Act) (m : Msg) (x : Node) (hw : worldMay w = true) (h0 : 0 ≤ a.pick) (hp : a.pick ≤ 65535) (hm : w.packets[pickP w a]? = some m) (hr : MonoC (cmpN m.to) w.nodes) (hcut : (isC w.cuts m.from_ m.to).1 = false) (hi : isN m.to w.nodes = true) (hx : w.nodes[posN m.to w.nodes]? = some x) (h : doB x m = true) (hk : m.kind = 1) (hm1 : worldMay ({ nodes := w.nodes.set (posN m.to w.nodes) (takeI x m.item), cuts := w.cuts, packets := leftP w (pickP w a) } : Wld) = true) (hm2 : worldMay ({ nodes := w.nodes.set (posN m.to w.nodes) (takeI x m.item), cuts := w.cuts, packets := [] } : Wld) = true) :
 Den PP 60 [.ptr 0 0 0, .ptr 4 0 0] (actB w a) (.tup []) (doS ({ nodes := w.nodes.set (posN m.to w.nodes) (takeI x m.item), cuts := w.cuts, packets := leftP w (pickP w a) } : Wld) (sendW ({ nodes := w.nodes.set (posN m.to w.nodes) (takeI x m.item), cuts := w.cuts, packets := leftP w (pickP w a) } : Wld) []) w.packets a) := by
 have c1 := zdt w a m (zat hw) (zar hw).2.2.1 h0 hp hm
 have c2 := zm8 w.cuts m.from_ m.to (by have := (zat hw).cuts; unfold cap; omega)
 have c3 := zft { w with packets := leftP w (pickP w a) } m.to w.packets (by have := (zat hw).nodes; unfold cap; simp only; omega) hr hi
 have c4 := zxb x m (za3 ((zat hw).node x (List.mem_of_getElem? hx))) (by have := (zat hw).packet m (List.mem_of_getElem? hm); unfold cap; omega) h hk
 have c5 := zgx ({ nodes := w.nodes.set (posN m.to w.nodes) (takeI x m.item), cuts := w.cuts, packets := leftP w (pickP w a) } : Wld) [] w.packets hm1 hm2
 have hpp := zdg hi
 have hg : ∀ h : posN m.to w.nodes < w.nodes.length, w.nodes[posN m.to w.nodes] = x := fun h => by rw [List.getElem?_eq_getElem h] at hx; exact Option.some.inj hx
 rw [hcut] at c2
 simp only at c3
 have c5 : Den PP 151 [.ptr 0 0 0, .nil] _ _ _ := zc5 (by
  simp only [List.map_cons, List.map_nil, D.nrm]
  exact c5)
 generalize takeI x m.item = y at *
 generalize (isC w.cuts m.from_ m.to).2 = e at *
 generalize leftP w (pickP w a) = ls at *
 generalize posN m.to w.nodes = P at *
 have hp' : (P : Int) < w.nodes.length := by omega
 have e1 : (sendW { nodes := w.nodes.set P (y), cuts := w.cuts, packets := ls } []).nodes = w.nodes.set P (y) := rfl
 have e2 : (sendW { nodes := w.nodes.set P (y), cuts := w.cuts, packets := ls } []).cuts = w.cuts := rfl
 generalize sendW { nodes := w.nodes.set P (y), cuts := w.cuts, packets := ls } [] = v at *
 obtain ⟨ns, cs, ps⟩ := v
 simp only at e1 e2
 subst e1 e2
 clear hw h0 hp hm hr hcut hi h hm1 hm2
 simp only [actB, doA, doC, doS, copyD, nodeB, noteD, noteB, nodeD, intsD, Act.cells, Wld.cells, nodesD, cutsD, msgsD, msgD, Msg.row, Msg.row0, hk, List.length_set, List.map_set, List.map_cons, List.map_nil, List.length_cons, List.length_nil, List.nil_append, List.cons_append] at c1 c2 c3 c4 c5 ⊢
 rw [zdi (y)] at c5 ⊢
 try simp only at c5 ⊢
 skip
 all_goals
  refine zah [] [14, 41, 61] zb3 ?_
  simp -implicitDefEqProofs [zbv]
  refine zac [0, 1, 2, 3, 4] rfl (by decide) (by simp) c1 (by simp) (by simp [lentBs]) ?_
  simp -implicitDefEqProofs [framed, -leave]
  refine zaa c2 ?_
  simp -implicitDefEqProofs [-leave]
  refine zac [0, 1, 2, 3, 6] rfl (by decide) (by simp) c3 (by simp) (by simp [lentBs]) ?_
  simp -implicitDefEqProofs [framed, -leave, hpp, hp', hx, hg]
  refine zaa c4 ?_
  simp -implicitDefEqProofs [-leave, hpp, hp', hx, hg]
  refine zac [0, 1, 2, 3] rfl (by decide) (by simp) c5 (by simp) (by simp [lentBs]) ?_
  simp -implicitDefEqProofs [framed, -leave]
  exact leave5 (zaz rfl) (zgd (za9 5 _) (List.all_eq_true.1 rfl)) (zbt 5 _) (zbu 5 _) (zaz rfl)
theorem zqq (w : Wld) (a : Act) (m : Msg) (x : Node) (hw : worldMay w = true) (h0 : 0 ≤ a.pick) (hp : a.pick ≤ 65535) (hm : w.packets[pickP w a]? = some m) (hr : MonoC (cmpN m.to) w.nodes) (hcut : (isC w.cuts m.from_ m.to).1 = false) (hi : isN m.to w.nodes = true) (hx : w.nodes[posN m.to w.nodes]? = some x) (h : doB x m = true) (hk : m.kind = 2) (hm1 : worldMay ({ nodes := w.nodes.set (posN m.to w.nodes) (x), cuts := w.cuts, packets := leftP w (pickP w a) } : Wld) = true) (hm2 : worldMay ({ nodes := w.nodes.set (posN m.to w.nodes) (x), cuts := w.cuts, packets := [tellOf x m] } : Wld) = true) :
 Den PP 60 [.ptr 0 0 0, .ptr 4 0 0] (actB w a) (.tup []) (doS ({ nodes := w.nodes.set (posN m.to w.nodes) (x), cuts := w.cuts, packets := leftP w (pickP w a) } : Wld) (sendW ({ nodes := w.nodes.set (posN m.to w.nodes) (x), cuts := w.cuts, packets := leftP w (pickP w a) } : Wld) [tellOf x m]) w.packets a) := by
 have c1 := zdt w a m (zat hw) (zar hw).2.2.1 h0 hp hm
 have c2 := zm8 w.cuts m.from_ m.to (by have := (zat hw).cuts; unfold cap; omega)
 have c3 := zft { w with packets := leftP w (pickP w a) } m.to w.packets (by have := (zat hw).nodes; unfold cap; simp only; omega) hr hi
 have c4 := zw2 x m (za3 ((zat hw).node x (List.mem_of_getElem? hx))) (by have := (zat hw).packet m (List.mem_of_getElem? hm); unfold cap; omega) h hk
 have c5 := zgx ({ nodes := w.nodes.set (posN m.to w.nodes) (x), cuts := w.cuts, packets := leftP w (pickP w a) } : Wld) [tellOf x m] w.packets hm1 hm2
 have hpp := zdg hi
 have hg : ∀ h : posN m.to w.nodes < w.nodes.length, w.nodes[posN m.to w.nodes] = x := fun h => by rw [List.getElem?_eq_getElem h] at hx; exact Option.some.inj hx
 rw [hcut] at c2
 simp only at c3
 obtain ⟨kk, hkk, c4⟩ := c4
 have c5 : Den PP 151 [.ptr 0 0 0, .sl [(tellOf x m).row0] 1] _ _ _ := zc5 (by
  have hn := zk7 [tellOf x m]
  simp only [List.map_cons, List.map_nil] at hn
  simp only [List.map_cons, List.map_nil, D.nrm, hn]
  exact c5)
 generalize tellOf x m = t at *
 generalize (isC w.cuts m.from_ m.to).2 = e at *
 generalize leftP w (pickP w a) = ls at *
 generalize posN m.to w.nodes = P at *
 have hp' : (P : Int) < w.nodes.length := by omega
 have e1 : (sendW { nodes := w.nodes.set P (x), cuts := w.cuts, packets := ls } [t]).nodes = w.nodes.set P (x) := rfl
 have e2 : (sendW { nodes := w.nodes.set P (x), cuts := w.cuts, packets := ls } [t]).cuts = w.cuts := rfl
 generalize sendW { nodes := w.nodes.set P (x), cuts := w.cuts, packets := ls } [t] = v at *
 obtain ⟨ns, cs, ps⟩ := v
 simp only at e1 e2
 subst e1 e2
 clear hw h0 hp hm hr hcut hi h hm1 hm2
 simp only [actB, doA, doC, doS, copyD, nodeB, noteD, noteB, nodeD, intsD, Act.cells, Wld.cells, nodesD, cutsD, msgsD, msgD, Msg.row, Msg.row0, hk, List.length_set, List.map_set, List.map_cons, List.map_nil, List.length_cons, List.length_nil, List.nil_append, List.cons_append] at c1 c2 c3 c4 c5 ⊢
 rw [zdi (x)] at c5 ⊢
 try simp only at c5 ⊢
 cases kk <;> simp [Kind.isBox] at hkk
 all_goals
  refine zah [] [14, 41, 61] zb3 ?_
  simp -implicitDefEqProofs [zbv]
  refine zac [0, 1, 2, 3, 4] rfl (by decide) (by simp) c1 (by simp) (by simp [lentBs]) ?_
  simp -implicitDefEqProofs [framed, -leave]
  refine zaa c2 ?_
  simp -implicitDefEqProofs [-leave]
  refine zac [0, 1, 2, 3, 6] rfl (by decide) (by simp) c3 (by simp) (by simp [lentBs]) ?_
  simp -implicitDefEqProofs [framed, -leave, hpp, hp', hx, hg]
  refine zaa c4 ?_
  simp -implicitDefEqProofs [-leave, hpp, hp', hx, hg]
  refine zac [0, 1, 2, 3] rfl (by decide) (by simp) c5 (by simp) (by simp [lentBs]) ?_
  simp -implicitDefEqProofs [framed, -leave]
  exact leave5 (zaz rfl) (zgd (za9 5 _) (List.all_eq_true.1 rfl)) (zbt 5 _) (zbu 5 _) (zaz rfl)
theorem zq0 (w : Wld) (a : Act) (m : Msg) (x : Node) (hw : worldMay w = true) (h0 : 0 ≤ a.pick) (hp : a.pick ≤ 65535) (hm : w.packets[pickP w a]? = some m) (hr : MonoC (cmpN m.to) w.nodes) (hcut : (isC w.cuts m.from_ m.to).1 = false) (hi : isN m.to w.nodes = true) (hx : w.nodes[posN m.to w.nodes]? = some x) (h : doB x m = true) (hk : m.kind = 3) (hm1 : worldMay ({ nodes := w.nodes.set (posN m.to w.nodes) ({ x with log := logOf x (mT m) }), cuts := w.cuts, packets := leftP w (pickP w a) } : Wld) = true) (hm2 : worldMay ({ nodes := w.nodes.set (posN m.to w.nodes) ({ x with log := logOf x (mT m) }), cuts := w.cuts, packets := [] } : Wld) = true) :
 Den PP 60 [.ptr 0 0 0, .ptr 4 0 0] (actB w a) (.tup []) (doS ({ nodes := w.nodes.set (posN m.to w.nodes) ({ x with log := logOf x (mT m) }), cuts := w.cuts, packets := leftP w (pickP w a) } : Wld) (sendW ({ nodes := w.nodes.set (posN m.to w.nodes) ({ x with log := logOf x (mT m) }), cuts := w.cuts, packets := leftP w (pickP w a) } : Wld) []) w.packets a) := by
 have c1 := zdt w a m (zat hw) (zar hw).2.2.1 h0 hp hm
 have c2 := zm8 w.cuts m.from_ m.to (by have := (zat hw).cuts; unfold cap; omega)
 have c3 := zft { w with packets := leftP w (pickP w a) } m.to w.packets (by have := (zat hw).nodes; unfold cap; simp only; omega) hr hi
 have c4 := zyl x m (za3 ((zat hw).node x (List.mem_of_getElem? hx))) (by have := (zat hw).packet m (List.mem_of_getElem? hm); unfold cap; omega) h hk
 have c5 := zgx ({ nodes := w.nodes.set (posN m.to w.nodes) ({ x with log := logOf x (mT m) }), cuts := w.cuts, packets := leftP w (pickP w a) } : Wld) [] w.packets hm1 hm2
 have hpp := zdg hi
 have hg : ∀ h : posN m.to w.nodes < w.nodes.length, w.nodes[posN m.to w.nodes] = x := fun h => by rw [List.getElem?_eq_getElem h] at hx; exact Option.some.inj hx
 rw [hcut] at c2
 simp only at c3
 have c5 : Den PP 151 [.ptr 0 0 0, .nil] _ _ _ := zc5 (by
  simp only [List.map_cons, List.map_nil, D.nrm]
  exact c5)
 generalize logPre x (mT m) = pre at *
 generalize logOf x (mT m) = ys at *
 generalize (isC w.cuts m.from_ m.to).2 = e at *
 generalize leftP w (pickP w a) = ls at *
 generalize posN m.to w.nodes = P at *
 have hp' : (P : Int) < w.nodes.length := by omega
 have e1 : (sendW { nodes := w.nodes.set P ({ x with log := ys }), cuts := w.cuts, packets := ls } []).nodes = w.nodes.set P ({ x with log := ys }) := rfl
 have e2 : (sendW { nodes := w.nodes.set P ({ x with log := ys }), cuts := w.cuts, packets := ls } []).cuts = w.cuts := rfl
 generalize sendW { nodes := w.nodes.set P ({ x with log := ys }), cuts := w.cuts, packets := ls } [] = v at *
 obtain ⟨ns, cs, ps⟩ := v
 simp only at e1 e2
 subst e1 e2
 clear hw h0 hp hm hr hcut hi h hm1 hm2
 simp only [actB, doA, doC, doS, copyD, nodeB, noteD, noteB, nodeD, intsD, Act.cells, Wld.cells, nodesD, cutsD, msgsD, msgD, Msg.row, Msg.row0, hk, List.length_set, List.map_set, List.map_cons, List.map_nil, List.length_cons, List.length_nil, List.nil_append, List.cons_append] at c1 c2 c3 c4 c5 ⊢
 rw [zdi ({ x with log := ys })] at c5 ⊢
 try simp only at c5 ⊢
 skip
 all_goals
  refine zah [] [14, 41, 61] zb3 ?_
  simp -implicitDefEqProofs [zbv]
  refine zac [0, 1, 2, 3, 4] rfl (by decide) (by simp) c1 (by simp) (by simp [lentBs]) ?_
  simp -implicitDefEqProofs [framed, -leave]
  refine zaa c2 ?_
  simp -implicitDefEqProofs [-leave]
  refine zac [0, 1, 2, 3, 6] rfl (by decide) (by simp) c3 (by simp) (by simp [lentBs]) ?_
  simp -implicitDefEqProofs [framed, -leave, hpp, hp', hx, hg]
  refine zaa c4 ?_
  simp -implicitDefEqProofs [-leave, hpp, hp', hx, hg]
  refine zac [0, 1, 2, 3] rfl (by decide) (by simp) c5 (by simp) (by simp [lentBs]) ?_
  simp -implicitDefEqProofs [framed, -leave]
  exact leave5 (zaz rfl) (zgd (za9 5 _) (List.all_eq_true.1 rfl)) (zbt 5 _) (zbu 5 _) (zaz rfl)
end Go.AM
/- AM: contracts: a node that starts. -/
namespace Go.AM
set_option linter.unusedSimpArgs false
set_option linter.unusedVariables false
set_option maxRecDepth 8000
set_option maxHeartbeats 0
theorem zzy (id : Int) (L : List Int) (hid : place id = true) (hp : ∀ y ∈ L, place y = true) (hl : L.length ≤ 16) : Den PP 133 [.int .i64 id, intsD L] [] (.tup [.agg [.bool true, .int .i64 id, .nil, newZ id L, .nil, .nil], .int .i64 0]) [] := by
 have c1 := zau id
 have c2 := zgl L (by unfold cap; omega)
 have hall : L.all place = true := List.all_eq_true.2 hp
 rw [hid] at c1
 rw [hall] at c2
 simp only [intsD] at c2 ⊢
 refine zah [] [] zxw ?_
 simp -implicitDefEqProofs [zq3]
 refine zaa c1 ?_
 simp -implicitDefEqProofs
 refine zaa c2 ?_
 simp -implicitDefEqProofs
 refine za7 L (fun i rest => fun ⟨fr, bs⟩ => bs = [⟨[[.bool false, .int .i64 0, .nil, .nil, .nil, .nil]], 6, .box⟩, ⟨[[.bool true, .int .i64 id, .nil, newZ id (L.take i), .nil, .nil]], 6, .box⟩] ∧ fr 0 = .int .i64 id ∧ fr 4 = .ptr 0 0 0 ∧ fr 6 = .ptr 1 0 0 ∧ fr 23 = .sl (L.map irow) L.length ∧ fr 24 = .int .i64 L.length ∧ fr 25 = .int .i64 i)
  (fun ⟨fr, bs⟩ => bs = [⟨[[.bool false, .int .i64 0, .nil, .nil, .nil, .nil]], 6, .box⟩, ⟨[[.bool true, .int .i64 id, .nil, newZ id L, .nil, .nil]], 6, .box⟩] ∧ fr 4 = .ptr 0 0 0 ∧ fr 6 = .ptr 1 0 0) (fun _ => False) zmg.eq_1 ?_ ?_ ?_ ?_ ?_
 ·exact ⟨rfl, rfl, rfl, rfl, rfl, rfl, rfl⟩
 ·rintro i ⟨fr, bs⟩ hi ⟨rfl, h0, h4, h6, h23, h24, h25⟩
  subst hi
  rw [List.take_length] at *
  simp -implicitDefEqProofs [h0, h4, h6, h23, h24, h25]
 ·rintro i y rest ⟨fr, bs⟩ hlt hget hg hd hd2 ⟨rfl, h0, h4, h6, h23, h24, h25⟩
  have hlt' : (i : Int) < L.length := by omega
  have hpl : ∀ x ∈ L.take i, place x = true := fun x hx => hp x (List.mem_of_mem_take hx)
  obtain ⟨s1, s2, s3⟩ := zp6 (id := id) hpl (by simp; omega)
  have hz := zz4 (id := id) hpl (by simp; omega)
  have e1 := zv9 (id := id) hget
  have e2 := z4z (id := id) hget
  have hy := hp y (List.mem_of_getElem? hget)
  have hlen : (newP id (L.take i)).length < 16 := by simp at s2; omega
  obtain ⟨w1, w2, w3, w4⟩ := zzg s1 hy hlen
  have c3 := znq (newP id (L.take i)) y (by unfold cap; omega)
  rw [w1] at c3 e1
  generalize (if y ∈ newP id (L.take i) then newP id (L.take i) else insU y (newP id (L.take i))) = q at *
  have hzs : (newZ id (L.take i) = .nil) ∨ (newZ id (L.take i) = .sl ((newP id (L.take i)).map irow) (newP id (L.take i)).length) := by
   unfold newZ intsD
   split
   ·exact .inl rfl
   ·exact .inr rfl
  have c3 : Den PP 112 [newZ id (L.take i), .int .i64 y] [] (.tup [.ref 0 0 q.length, .int .i64 0]) [⟨q.map irow, 1, .mut⟩] := zc5 (by simp only [List.map_cons, List.map_nil, hz]; exact c3)
  rw [e1] at e2
  rw [e2]
  clear hp hpl s1 s2 s3 hz e1 e2 hall hlen w1 w2 w3 w4
  simp only [intsD] at *
  generalize (newP id (L.take i)) = p at *
  generalize newZ id (L.take i) = Z at *
  by_cases hyi : y = id
  ·rw [if_pos hyi]
   rcases hzs with rfl | rfl
   all_goals
    simp -implicitDefEqProofs [h0, h4, h6, h23, h24, h25, hlt, hlt', hget, hg, hyi, irow]
    exact zax (by omega) (by omega)
  ·rw [if_neg hyi]
   rcases hzs with rfl | rfl
   all_goals
    simp -implicitDefEqProofs [h0, h4, h6, h23, h24, h25, hlt, hlt', hget, hg, hyi, irow]
    refine zaa c3 ?_
    simp -implicitDefEqProofs [h0, h4, h6, h23, h24, h25, hlt, hlt', hget, hg, hyi, irow]
    exact zax (by omega) (by omega)
 ·rintro ⟨fr, bs⟩ ⟨rfl, h4, h6⟩
  have hzs : (newZ id L = .nil) ∨ (newZ id L = .sl ((newP id L).map irow) (newP id L).length) := by
   unfold newZ intsD
   split
   ·exact .inl rfl
   ·exact .inr rfl
  generalize newZ id L = Z at *
  rcases hzs with rfl | rfl
  all_goals simp -implicitDefEqProofs [h4, h6]
 ·rintro ⟨fr, bs⟩ h
  exact h.elim
theorem ztl (w : Wld) (a : Act) (x : Node) (hw : w.tiny) (hr : MonoC (cmpN a.node) w.nodes) (hi : isN a.node w.nodes = true) (hx : w.nodes[posN a.node w.nodes]? = some x) (h : x.up = true) : Den PP 66 [.ptr 0 0 0, .ptr 4 0 0] (actB w a) (.tup []) (actB w a) := by
 have c1 := zdm w a (by have := hw.nodes; unfold cap; omega) hr hi
 have hp := zdg hi
 have hg : ∀ h : posN a.node w.nodes < w.nodes.length, w.nodes[posN a.node w.nodes] = x := fun h => by rw [List.getElem?_eq_getElem h] at hx; exact Option.some.inj hx
 generalize posN a.node w.nodes = P at *
 have hp' : (P : Int) < w.nodes.length := by omega
 clear hi hr hw
 simp only [actB, doA, copyD, nodeB, nodeD, intsD, Act.cells, Wld.cells, nodesD, cutsD, msgsD] at c1 ⊢
 refine zah [] [5] zhf ?_
 simp -implicitDefEqProofs [zfx]
 refine zac [0, 1, 2, 3, 4] rfl (by decide) (by simp) c1 (by simp) (by simp [lentBs]) ?_
 simp -implicitDefEqProofs [framed, -leave, hp, hp', hx, hg, zdi x, h]
 exact leave5 (zaz rfl) (za9 5 _) (zbt 5 _) (zbu 5 _) (zaz rfl)
theorem z08 (w : Wld) (a : Act) (x : Node) (hw : w.tiny) (hr : MonoC (cmpN a.node) w.nodes) (hi : isN a.node w.nodes = true) (hx : w.nodes[posN a.node w.nodes]? = some x) (h : x.up = false) (hid : place a.node = true) (hpl : ∀ y ∈ a.ids, place y = true) (hl : a.ids.length ≤ 16) :
 Den PP 66 [.ptr 0 0 0, .ptr 4 0 0] (actB w a) (.tup []) (doA w a (posN a.node w.nodes) [.bool true, .int .i64 a.node, .nil, newZ a.node a.ids, .nil, .nil]) := by
 have c1 := zdm w a (by have := hw.nodes; unfold cap; omega) hr hi
 have c2 := zzy a.node a.ids hid hpl hl
 have hp := zdg hi
 have hg : ∀ h : posN a.node w.nodes < w.nodes.length, w.nodes[posN a.node w.nodes] = x := fun h => by rw [List.getElem?_eq_getElem h] at hx; exact Option.some.inj hx
 generalize posN a.node w.nodes = P at *
 have hp' : (P : Int) < w.nodes.length := by omega
 have hzs : (newZ a.node a.ids = .nil) ∨ (newZ a.node a.ids = .sl ((newP a.node a.ids).map irow) (newP a.node a.ids).length) := by
  unfold newZ intsD
  split
  ·exact .inl rfl
  ·exact .inr rfl
 generalize newZ a.node a.ids = Z at *
 clear hi hr hw hid hpl hl
 simp only [actB, doA, copyD, nodeB, nodeD, intsD, Act.cells, Wld.cells, nodesD, cutsD, msgsD] at c1 c2 ⊢
 refine zah [] [5] zhf ?_
 simp -implicitDefEqProofs [zfx]
 refine zac [0, 1, 2, 3, 4] rfl (by decide) (by simp) c1 (by simp) (by simp [lentBs]) ?_
 rcases hzs with rfl | rfl
 all_goals
  simp -implicitDefEqProofs [framed, -leave, hp, hp', hx, hg, zdi x, h]
  refine zaa c2 ?_
  simp -implicitDefEqProofs [framed, -leave, hp, hp', hx, hg, zdi x, h]
  exact leave5 (zaz rfl) (zgd (za9 5 _) (List.all_eq_true.1 rfl)) (zbt 5 _) (zbu 5 _) (zaz rfl)
end Go.AM
/- AM: contracts: act.Do. -/
namespace Go.AM
set_option linter.unusedSimpArgs false
set_option linter.unusedVariables false
set_option maxRecDepth 8000
set_option maxHeartbeats 0
theorem z3d (w : Wld) (a : Act) (hi : a.ids.length ≤ cap) (hw : worldMay w = true) (h : mayA w a = false) : Den PP 20 [wldD w, actD a] [] (.tup [.agg [.nil, .nil, .nil], .int .i64 2400]) [] := by
 have t := zat hw
 have c1 := zbf w t.small
 have c2 := za8 w t
 have c3 := zcc w a (by have := t.nodes; unfold cap; omega) (fun id => zay (zar hw).1 id) hi
 rw [hw] at c1
 rw [h] at c3
 clear hw h t hi
 simp only [actB, doA, doC, doS, wldD, actD, Act.cells, Wld.cells, nodesD, cutsD, msgsD, wldR, wldB, intsD] at c1 c2 c3 ⊢
 refine zah [13] [46] zbr ?_
 simp -implicitDefEqProofs [zb4]
 refine zaa c1 ?_
 simp -implicitDefEqProofs
 refine zaa c2 ?_
 simp -implicitDefEqProofs
 refine zaa c3 ?_
 simp -implicitDefEqProofs
theorem z4k (w : Wld) (a : Act) (hi : a.ids.length ≤ cap) (hw : worldMay w = true) (h : mayA w a = true) (hk : a.kind = 0) (hd : Den PP 59 [.ptr 0 0 0, .ptr 4 0 0] (actB w a) (.tup []) (actB w a)) :
 Den PP 20 [wldD w, actD a] [] (.tup [.agg [.sl (w.nodes.map Node.cells) w.nodes.length, .sl (w.cuts.map Cut.row) w.cuts.length, .sl (w.packets.map Msg.row) w.packets.length], .int .i64 0]) [] := by
 have t := zat hw
 have c1 := zbf w t.small
 have c2 := za8 w t
 have c3 := zcc w a (by have := t.nodes; unfold cap; omega) (fun id => zay (zar hw).1 id) hi
 rw [hw] at c1
 rw [h] at c3
 clear hw h t hi
 suffices hh : Den PP 20 [wldD w, actD a] [] (.tup [.agg [.ref 0 0 w.nodes.length, .ref 1 0 w.cuts.length, .ref 2 0 w.packets.length], .int .i64 0]) [⟨w.nodes.map Node.cells, 6, .mut⟩, ⟨w.cuts.map Cut.row, 2, .mut⟩, ⟨w.packets.map Msg.row, 11, .mut⟩] by
  have := zba hh
  simpa [D.freeze, D.mapR, mapRL, frzRef, nodesD, cutsD, msgsD] using this
 simp only [actB, doA, doC, doS, wldD, actD, Act.cells, Wld.cells, nodesD, cutsD, msgsD, wldR, wldB, intsD, hk] at c1 c2 c3 hd ⊢
 refine zah [13] [46] zbr ?_
 simp -implicitDefEqProofs [zb4]
 refine zaa c1 ?_
 simp -implicitDefEqProofs
 refine zaa c2 ?_
 simp -implicitDefEqProofs
 refine zaa c3 ?_
 simp -implicitDefEqProofs
 refine zac [6, 3, 4, 5, 1] rfl (by decide) (by simp) hd (by simp) (by simp [lentBs]) ?_
 simp -implicitDefEqProofs [framed]
theorem z5g (w : Wld) (a : Act) (hi : a.ids.length ≤ cap) (hw : worldMay w = true) (h : mayA w a = true) (hk : a.kind = 1) (hd : Den PP 60 [.ptr 0 0 0, .ptr 4 0 0] (actB w a) (.tup []) (actB w a)) :
 Den PP 20 [wldD w, actD a] [] (.tup [.agg [.sl (w.nodes.map Node.cells) w.nodes.length, .sl (w.cuts.map Cut.row) w.cuts.length, .sl (w.packets.map Msg.row) w.packets.length], .int .i64 0]) [] := by
 have t := zat hw
 have c1 := zbf w t.small
 have c2 := za8 w t
 have c3 := zcc w a (by have := t.nodes; unfold cap; omega) (fun id => zay (zar hw).1 id) hi
 rw [hw] at c1
 rw [h] at c3
 clear hw h t hi
 suffices hh : Den PP 20 [wldD w, actD a] [] (.tup [.agg [.ref 0 0 w.nodes.length, .ref 1 0 w.cuts.length, .ref 2 0 w.packets.length], .int .i64 0]) [⟨w.nodes.map Node.cells, 6, .mut⟩, ⟨w.cuts.map Cut.row, 2, .mut⟩, ⟨w.packets.map Msg.row, 11, .mut⟩] by
  have := zba hh
  simpa [D.freeze, D.mapR, mapRL, frzRef, nodesD, cutsD, msgsD] using this
 simp only [actB, doA, doC, doS, wldD, actD, Act.cells, Wld.cells, nodesD, cutsD, msgsD, wldR, wldB, intsD, hk] at c1 c2 c3 hd ⊢
 refine zah [13] [46] zbr ?_
 simp -implicitDefEqProofs [zb4]
 refine zaa c1 ?_
 simp -implicitDefEqProofs
 refine zaa c2 ?_
 simp -implicitDefEqProofs
 refine zaa c3 ?_
 simp -implicitDefEqProofs
 refine zac [6, 3, 4, 5, 1] rfl (by decide) (by simp) hd (by simp) (by simp [lentBs]) ?_
 simp -implicitDefEqProofs [framed]
theorem z4n (w : Wld) (a : Act) (hi : a.ids.length ≤ cap) (hw : worldMay w = true) (h : mayA w a = true) (hk : a.kind = 2) (hd : Den PP 61 [.ptr 0 0 0, .ptr 4 0 0] (actB w a) (.tup []) (actB w a)) :
 Den PP 20 [wldD w, actD a] [] (.tup [.agg [.sl (w.nodes.map Node.cells) w.nodes.length, .sl (w.cuts.map Cut.row) w.cuts.length, .sl (w.packets.map Msg.row) w.packets.length], .int .i64 0]) [] := by
 have t := zat hw
 have c1 := zbf w t.small
 have c2 := za8 w t
 have c3 := zcc w a (by have := t.nodes; unfold cap; omega) (fun id => zay (zar hw).1 id) hi
 rw [hw] at c1
 rw [h] at c3
 clear hw h t hi
 suffices hh : Den PP 20 [wldD w, actD a] [] (.tup [.agg [.ref 0 0 w.nodes.length, .ref 1 0 w.cuts.length, .ref 2 0 w.packets.length], .int .i64 0]) [⟨w.nodes.map Node.cells, 6, .mut⟩, ⟨w.cuts.map Cut.row, 2, .mut⟩, ⟨w.packets.map Msg.row, 11, .mut⟩] by
  have := zba hh
  simpa [D.freeze, D.mapR, mapRL, frzRef, nodesD, cutsD, msgsD] using this
 simp only [actB, doA, doC, doS, wldD, actD, Act.cells, Wld.cells, nodesD, cutsD, msgsD, wldR, wldB, intsD, hk] at c1 c2 c3 hd ⊢
 refine zah [13] [46] zbr ?_
 simp -implicitDefEqProofs [zb4]
 refine zaa c1 ?_
 simp -implicitDefEqProofs
 refine zaa c2 ?_
 simp -implicitDefEqProofs
 refine zaa c3 ?_
 simp -implicitDefEqProofs
 refine zac [6, 3, 4, 5, 1] rfl (by decide) (by simp) hd (by simp) (by simp [lentBs]) ?_
 simp -implicitDefEqProofs [framed]
theorem z5i (w : Wld) (a : Act) (hi : a.ids.length ≤ cap) (hw : worldMay w = true) (h : mayA w a = true) (hk : a.kind = 3) (hd : Den PP 62 [.ptr 0 0 0, .ptr 4 0 0] (actB w a) (.tup []) (actB w a)) :
 Den PP 20 [wldD w, actD a] [] (.tup [.agg [.sl (w.nodes.map Node.cells) w.nodes.length, .sl (w.cuts.map Cut.row) w.cuts.length, .sl (w.packets.map Msg.row) w.packets.length], .int .i64 0]) [] := by
 have t := zat hw
 have c1 := zbf w t.small
 have c2 := za8 w t
 have c3 := zcc w a (by have := t.nodes; unfold cap; omega) (fun id => zay (zar hw).1 id) hi
 rw [hw] at c1
 rw [h] at c3
 clear hw h t hi
 suffices hh : Den PP 20 [wldD w, actD a] [] (.tup [.agg [.ref 0 0 w.nodes.length, .ref 1 0 w.cuts.length, .ref 2 0 w.packets.length], .int .i64 0]) [⟨w.nodes.map Node.cells, 6, .mut⟩, ⟨w.cuts.map Cut.row, 2, .mut⟩, ⟨w.packets.map Msg.row, 11, .mut⟩] by
  have := zba hh
  simpa [D.freeze, D.mapR, mapRL, frzRef, nodesD, cutsD, msgsD] using this
 simp only [actB, doA, doC, doS, wldD, actD, Act.cells, Wld.cells, nodesD, cutsD, msgsD, wldR, wldB, intsD, hk] at c1 c2 c3 hd ⊢
 refine zah [13] [46] zbr ?_
 simp -implicitDefEqProofs [zb4]
 refine zaa c1 ?_
 simp -implicitDefEqProofs
 refine zaa c2 ?_
 simp -implicitDefEqProofs
 refine zaa c3 ?_
 simp -implicitDefEqProofs
 refine zac [6, 3, 4, 5, 1] rfl (by decide) (by simp) hd (by simp) (by simp [lentBs]) ?_
 simp -implicitDefEqProofs [framed]
theorem z3x (w : Wld) (a : Act) (hi : a.ids.length ≤ cap) (hw : worldMay w = true) (h : mayA w a = true) (hk : a.kind = 7) (hd : Den PP 66 [.ptr 0 0 0, .ptr 4 0 0] (actB w a) (.tup []) (actB w a)) :
 Den PP 20 [wldD w, actD a] [] (.tup [.agg [.sl (w.nodes.map Node.cells) w.nodes.length, .sl (w.cuts.map Cut.row) w.cuts.length, .sl (w.packets.map Msg.row) w.packets.length], .int .i64 0]) [] := by
 have t := zat hw
 have c1 := zbf w t.small
 have c2 := za8 w t
 have c3 := zcc w a (by have := t.nodes; unfold cap; omega) (fun id => zay (zar hw).1 id) hi
 rw [hw] at c1
 rw [h] at c3
 clear hw h t hi
 suffices hh : Den PP 20 [wldD w, actD a] [] (.tup [.agg [.ref 0 0 w.nodes.length, .ref 1 0 w.cuts.length, .ref 2 0 w.packets.length], .int .i64 0]) [⟨w.nodes.map Node.cells, 6, .mut⟩, ⟨w.cuts.map Cut.row, 2, .mut⟩, ⟨w.packets.map Msg.row, 11, .mut⟩] by
  have := zba hh
  simpa [D.freeze, D.mapR, mapRL, frzRef, nodesD, cutsD, msgsD] using this
 simp only [actB, doA, doC, doS, wldD, actD, Act.cells, Wld.cells, nodesD, cutsD, msgsD, wldR, wldB, intsD, hk] at c1 c2 c3 hd ⊢
 refine zah [13] [46] zbr ?_
 simp -implicitDefEqProofs [zb4]
 refine zaa c1 ?_
 simp -implicitDefEqProofs
 refine zaa c2 ?_
 simp -implicitDefEqProofs
 refine zaa c3 ?_
 simp -implicitDefEqProofs
 refine zac [6, 3, 4, 5, 1] rfl (by decide) (by simp) hd (by simp) (by simp [lentBs]) ?_
 simp -implicitDefEqProofs [framed]
theorem z45 (w : Wld) (a : Act) (hi : a.ids.length ≤ cap) (hw : worldMay w = true) (h : mayA w a = true) (hk : a.kind = 8) (hd : Den PP 67 [.ptr 0 0 0, .ptr 4 0 0] (actB w a) (.tup []) (actB w a)) :
 Den PP 20 [wldD w, actD a] [] (.tup [.agg [.sl (w.nodes.map Node.cells) w.nodes.length, .sl (w.cuts.map Cut.row) w.cuts.length, .sl (w.packets.map Msg.row) w.packets.length], .int .i64 0]) [] := by
 have t := zat hw
 have c1 := zbf w t.small
 have c2 := za8 w t
 have c3 := zcc w a (by have := t.nodes; unfold cap; omega) (fun id => zay (zar hw).1 id) hi
 rw [hw] at c1
 rw [h] at c3
 clear hw h t hi
 suffices hh : Den PP 20 [wldD w, actD a] [] (.tup [.agg [.ref 0 0 w.nodes.length, .ref 1 0 w.cuts.length, .ref 2 0 w.packets.length], .int .i64 0]) [⟨w.nodes.map Node.cells, 6, .mut⟩, ⟨w.cuts.map Cut.row, 2, .mut⟩, ⟨w.packets.map Msg.row, 11, .mut⟩] by
  have := zba hh
  simpa [D.freeze, D.mapR, mapRL, frzRef, nodesD, cutsD, msgsD] using this
 simp only [actB, doA, doC, doS, wldD, actD, Act.cells, Wld.cells, nodesD, cutsD, msgsD, wldR, wldB, intsD, hk] at c1 c2 c3 hd ⊢
 refine zah [13] [46] zbr ?_
 simp -implicitDefEqProofs [zb4]
 refine zaa c1 ?_
 simp -implicitDefEqProofs
 refine zaa c2 ?_
 simp -implicitDefEqProofs
 refine zaa c3 ?_
 simp -implicitDefEqProofs
 refine zac [6, 3, 4, 5, 1] rfl (by decide) (by simp) hd (by simp) (by simp [lentBs]) ?_
 simp -implicitDefEqProofs [framed]
theorem z5r (w : Wld) (a : Act) (hi : a.ids.length ≤ cap) (hw : worldMay w = true) (h : mayA w a = true) (hk : a.kind = 9) (hd : Den PP 68 [.ptr 0 0 0, .ptr 4 0 0] (actB w a) (.tup []) (actB w a)) :
 Den PP 20 [wldD w, actD a] [] (.tup [.agg [.sl (w.nodes.map Node.cells) w.nodes.length, .sl (w.cuts.map Cut.row) w.cuts.length, .sl (w.packets.map Msg.row) w.packets.length], .int .i64 0]) [] := by
 have t := zat hw
 have c1 := zbf w t.small
 have c2 := za8 w t
 have c3 := zcc w a (by have := t.nodes; unfold cap; omega) (fun id => zay (zar hw).1 id) hi
 rw [hw] at c1
 rw [h] at c3
 clear hw h t hi
 suffices hh : Den PP 20 [wldD w, actD a] [] (.tup [.agg [.ref 0 0 w.nodes.length, .ref 1 0 w.cuts.length, .ref 2 0 w.packets.length], .int .i64 0]) [⟨w.nodes.map Node.cells, 6, .mut⟩, ⟨w.cuts.map Cut.row, 2, .mut⟩, ⟨w.packets.map Msg.row, 11, .mut⟩] by
  have := zba hh
  simpa [D.freeze, D.mapR, mapRL, frzRef, nodesD, cutsD, msgsD] using this
 simp only [actB, doA, doC, doS, wldD, actD, Act.cells, Wld.cells, nodesD, cutsD, msgsD, wldR, wldB, intsD, hk] at c1 c2 c3 hd ⊢
 refine zah [13] [46] zbr ?_
 simp -implicitDefEqProofs [zb4]
 refine zaa c1 ?_
 simp -implicitDefEqProofs
 refine zaa c2 ?_
 simp -implicitDefEqProofs
 refine zaa c3 ?_
 simp -implicitDefEqProofs
 refine zac [6, 3, 4, 5, 1] rfl (by decide) (by simp) hd (by simp) (by simp [lentBs]) ?_
 simp -implicitDefEqProofs [framed]
theorem z0n (w : Wld) (a : Act) (hi : a.ids.length ≤ cap) (hw : worldMay w = true) (h : mayA w a = true) (hk : a.kind = 10) (hd : Den PP 69 [.ptr 0 0 0, .ptr 4 0 0] (actB w a) (.tup []) (actB w a)) :
 Den PP 20 [wldD w, actD a] [] (.tup [.agg [.sl (w.nodes.map Node.cells) w.nodes.length, .sl (w.cuts.map Cut.row) w.cuts.length, .sl (w.packets.map Msg.row) w.packets.length], .int .i64 0]) [] := by
 have t := zat hw
 have c1 := zbf w t.small
 have c2 := za8 w t
 have c3 := zcc w a (by have := t.nodes; unfold cap; omega) (fun id => zay (zar hw).1 id) hi
 rw [hw] at c1
 rw [h] at c3
 clear hw h t hi
 suffices hh : Den PP 20 [wldD w, actD a] [] (.tup [.agg [.ref 0 0 w.nodes.length, .ref 1 0 w.cuts.length, .ref 2 0 w.packets.length], .int .i64 0]) [⟨w.nodes.map Node.cells, 6, .mut⟩, ⟨w.cuts.map Cut.row, 2, .mut⟩, ⟨w.packets.map Msg.row, 11, .mut⟩] by
  have := zba hh
  simpa [D.freeze, D.mapR, mapRL, frzRef, nodesD, cutsD, msgsD] using this
 simp only [actB, doA, doC, doS, wldD, actD, Act.cells, Wld.cells, nodesD, cutsD, msgsD, wldR, wldB, intsD, hk] at c1 c2 c3 hd ⊢
 refine zah [13] [46] zbr ?_
 simp -implicitDefEqProofs [zb4]
 refine zaa c1 ?_
 simp -implicitDefEqProofs
 refine zaa c2 ?_
 simp -implicitDefEqProofs
 refine zaa c3 ?_
 simp -implicitDefEqProofs
 refine zac [6, 3, 4, 5, 1] rfl (by decide) (by simp) hd (by simp) (by simp [lentBs]) ?_
 simp -implicitDefEqProofs [framed]
theorem z5v (w : Wld) (a : Act) (hi : a.ids.length ≤ cap) (hw : worldMay w = true) (h : mayA w a = true) (hk : a.kind = 6) (p : Nat) (cs : List D) (hcs : ∀ d ∈ cs, lowD 0 d = true) (hd : Den PP 65 [.ptr 0 0 0, .ptr 4 0 0] (actB w a) (.tup []) (doA w a p cs)) :
 Den PP 20 [wldD w, actD a] [] (.tup [.agg [.sl ((w.nodes.map Node.cells).set p cs) w.nodes.length, .sl (w.cuts.map Cut.row) w.cuts.length, .sl (w.packets.map Msg.row) w.packets.length], .int .i64 0]) [] := by
 have t := zat hw
 have c1 := zbf w t.small
 have c2 := za8 w t
 have c3 := zcc w a (by have := t.nodes; unfold cap; omega) (fun id => zay (zar hw).1 id) hi
 rw [hw] at c1
 rw [h] at c3
 clear hw h t hi
 suffices hh : Den PP 20 [wldD w, actD a] [] (.tup [.agg [.ref 0 0 w.nodes.length, .ref 1 0 w.cuts.length, .ref 2 0 w.packets.length], .int .i64 0]) [⟨(w.nodes.map Node.cells).set p cs, 6, .mut⟩, ⟨w.cuts.map Cut.row, 2, .mut⟩, ⟨w.packets.map Msg.row, 11, .mut⟩] by
  have := zba hh
  simpa [D.freeze, D.mapR, mapRL, frzRef, nodesD, cutsD, msgsD] using this
 simp only [actB, doA, doC, doS, wldD, actD, Act.cells, Wld.cells, nodesD, cutsD, msgsD, wldR, wldB, intsD, hk] at c1 c2 c3 hd ⊢
 refine zah [13] [46] zbr ?_
 simp -implicitDefEqProofs [zb4]
 refine zaa c1 ?_
 simp -implicitDefEqProofs
 refine zaa c2 ?_
 simp -implicitDefEqProofs
 refine zaa c3 ?_
 simp -implicitDefEqProofs
 refine zac [6, 3, 4, 5, 1] rfl (by decide) (by simp) hd (by simp) (by simp [lentBs]) ?_
 simp -implicitDefEqProofs [framed]
 rw [zl6 hcs]
theorem z32 (w : Wld) (a : Act) (hi : a.ids.length ≤ cap) (hw : worldMay w = true) (h : mayA w a = true) (hk : a.kind = 7) (p : Nat) (cs : List D) (hcs : ∀ d ∈ cs, lowD 0 d = true) (hd : Den PP 66 [.ptr 0 0 0, .ptr 4 0 0] (actB w a) (.tup []) (doA w a p cs)) :
 Den PP 20 [wldD w, actD a] [] (.tup [.agg [.sl ((w.nodes.map Node.cells).set p cs) w.nodes.length, .sl (w.cuts.map Cut.row) w.cuts.length, .sl (w.packets.map Msg.row) w.packets.length], .int .i64 0]) [] := by
 have t := zat hw
 have c1 := zbf w t.small
 have c2 := za8 w t
 have c3 := zcc w a (by have := t.nodes; unfold cap; omega) (fun id => zay (zar hw).1 id) hi
 rw [hw] at c1
 rw [h] at c3
 clear hw h t hi
 suffices hh : Den PP 20 [wldD w, actD a] [] (.tup [.agg [.ref 0 0 w.nodes.length, .ref 1 0 w.cuts.length, .ref 2 0 w.packets.length], .int .i64 0]) [⟨(w.nodes.map Node.cells).set p cs, 6, .mut⟩, ⟨w.cuts.map Cut.row, 2, .mut⟩, ⟨w.packets.map Msg.row, 11, .mut⟩] by
  have := zba hh
  simpa [D.freeze, D.mapR, mapRL, frzRef, nodesD, cutsD, msgsD] using this
 simp only [actB, doA, doC, doS, wldD, actD, Act.cells, Wld.cells, nodesD, cutsD, msgsD, wldR, wldB, intsD, hk] at c1 c2 c3 hd ⊢
 refine zah [13] [46] zbr ?_
 simp -implicitDefEqProofs [zb4]
 refine zaa c1 ?_
 simp -implicitDefEqProofs
 refine zaa c2 ?_
 simp -implicitDefEqProofs
 refine zaa c3 ?_
 simp -implicitDefEqProofs
 refine zac [6, 3, 4, 5, 1] rfl (by decide) (by simp) hd (by simp) (by simp [lentBs]) ?_
 simp -implicitDefEqProofs [framed]
 rw [zl6 hcs]
theorem z5q (w : Wld) (a : Act) (hi : a.ids.length ≤ cap) (hw : worldMay w = true) (h : mayA w a = true) (hk : a.kind = 8) (p : Nat) (cs : List D) (hcs : ∀ d ∈ cs, lowD 0 d = true) (hd : Den PP 67 [.ptr 0 0 0, .ptr 4 0 0] (actB w a) (.tup []) (doA w a p cs)) :
 Den PP 20 [wldD w, actD a] [] (.tup [.agg [.sl ((w.nodes.map Node.cells).set p cs) w.nodes.length, .sl (w.cuts.map Cut.row) w.cuts.length, .sl (w.packets.map Msg.row) w.packets.length], .int .i64 0]) [] := by
 have t := zat hw
 have c1 := zbf w t.small
 have c2 := za8 w t
 have c3 := zcc w a (by have := t.nodes; unfold cap; omega) (fun id => zay (zar hw).1 id) hi
 rw [hw] at c1
 rw [h] at c3
 clear hw h t hi
 suffices hh : Den PP 20 [wldD w, actD a] [] (.tup [.agg [.ref 0 0 w.nodes.length, .ref 1 0 w.cuts.length, .ref 2 0 w.packets.length], .int .i64 0]) [⟨(w.nodes.map Node.cells).set p cs, 6, .mut⟩, ⟨w.cuts.map Cut.row, 2, .mut⟩, ⟨w.packets.map Msg.row, 11, .mut⟩] by
  have := zba hh
  simpa [D.freeze, D.mapR, mapRL, frzRef, nodesD, cutsD, msgsD] using this
 simp only [actB, doA, doC, doS, wldD, actD, Act.cells, Wld.cells, nodesD, cutsD, msgsD, wldR, wldB, intsD, hk] at c1 c2 c3 hd ⊢
 refine zah [13] [46] zbr ?_
 simp -implicitDefEqProofs [zb4]
 refine zaa c1 ?_
 simp -implicitDefEqProofs
 refine zaa c2 ?_
 simp -implicitDefEqProofs
 refine zaa c3 ?_
 simp -implicitDefEqProofs
 refine zac [6, 3, 4, 5, 1] rfl (by decide) (by simp) hd (by simp) (by simp [lentBs]) ?_
 simp -implicitDefEqProofs [framed]
 rw [zl6 hcs]
theorem z3w (w : Wld) (a : Act) (hi : a.ids.length ≤ cap) (hw : worldMay w = true) (h : mayA w a = true) (hk : a.kind = 9) (p : Nat) (cs : List D) (hcs : ∀ d ∈ cs, lowD 0 d = true) (hd : Den PP 68 [.ptr 0 0 0, .ptr 4 0 0] (actB w a) (.tup []) (doA w a p cs)) :
 Den PP 20 [wldD w, actD a] [] (.tup [.agg [.sl ((w.nodes.map Node.cells).set p cs) w.nodes.length, .sl (w.cuts.map Cut.row) w.cuts.length, .sl (w.packets.map Msg.row) w.packets.length], .int .i64 0]) [] := by
 have t := zat hw
 have c1 := zbf w t.small
 have c2 := za8 w t
 have c3 := zcc w a (by have := t.nodes; unfold cap; omega) (fun id => zay (zar hw).1 id) hi
 rw [hw] at c1
 rw [h] at c3
 clear hw h t hi
 suffices hh : Den PP 20 [wldD w, actD a] [] (.tup [.agg [.ref 0 0 w.nodes.length, .ref 1 0 w.cuts.length, .ref 2 0 w.packets.length], .int .i64 0]) [⟨(w.nodes.map Node.cells).set p cs, 6, .mut⟩, ⟨w.cuts.map Cut.row, 2, .mut⟩, ⟨w.packets.map Msg.row, 11, .mut⟩] by
  have := zba hh
  simpa [D.freeze, D.mapR, mapRL, frzRef, nodesD, cutsD, msgsD] using this
 simp only [actB, doA, doC, doS, wldD, actD, Act.cells, Wld.cells, nodesD, cutsD, msgsD, wldR, wldB, intsD, hk] at c1 c2 c3 hd ⊢
 refine zah [13] [46] zbr ?_
 simp -implicitDefEqProofs [zb4]
 refine zaa c1 ?_
 simp -implicitDefEqProofs
 refine zaa c2 ?_
 simp -implicitDefEqProofs
 refine zaa c3 ?_
 simp -implicitDefEqProofs
 refine zac [6, 3, 4, 5, 1] rfl (by decide) (by simp) hd (by simp) (by simp [lentBs]) ?_
 simp -implicitDefEqProofs [framed]
 rw [zl6 hcs]
theorem zvb (w : Wld) (a : Act) (hi : a.ids.length ≤ cap) (hw : worldMay w = true) (h : mayA w a = true) (hk : a.kind = 1) (ls : List Msg) (hd : Den PP 60 [.ptr 0 0 0, .ptr 4 0 0] (actB w a) (.tup []) (doC w a ls)) :
 Den PP 20 [wldD w, actD a] [] (.tup [.agg [.sl (w.nodes.map Node.cells) w.nodes.length, .sl (w.cuts.map Cut.row) w.cuts.length, .sl (ls.map Msg.row) ls.length], .int .i64 0]) [] := by
 have t := zat hw
 have c1 := zbf w t.small
 have c2 := za8 w t
 have c3 := zcc w a (by have := t.nodes; unfold cap; omega) (fun id => zay (zar hw).1 id) hi
 rw [hw] at c1
 rw [h] at c3
 clear hw h t hi
 suffices hh : Den PP 20 [wldD w, actD a] [] (.tup [.agg [.ref 0 0 w.nodes.length, .ref 1 0 w.cuts.length, .sl (ls.map Msg.row) ls.length], .int .i64 0]) [⟨w.nodes.map Node.cells, 6, .mut⟩, ⟨w.cuts.map Cut.row, 2, .mut⟩] by
  have := zba hh
  simpa [D.freeze, D.mapR, mapRL, frzRef, nodesD, cutsD, msgsD] using this
 simp only [actB, doA, doC, doS, wldD, actD, Act.cells, Wld.cells, nodesD, cutsD, msgsD, wldR, wldB, intsD, hk] at c1 c2 c3 hd ⊢
 refine zah [13] [46] zbr ?_
 simp -implicitDefEqProofs [zb4]
 refine zaa c1 ?_
 simp -implicitDefEqProofs
 refine zaa c2 ?_
 simp -implicitDefEqProofs
 refine zaa c3 ?_
 simp -implicitDefEqProofs
 refine zac [6, 3, 4, 5, 1] rfl (by decide) (by simp) hd (by simp) (by simp [lentBs]) ?_
 simp -implicitDefEqProofs [framed]
theorem z3a (w : Wld) (a : Act) (hi : a.ids.length ≤ cap) (hw : worldMay w = true) (h : mayA w a = true) (hk : a.kind = 2) (ls : List Msg) (hd : Den PP 61 [.ptr 0 0 0, .ptr 4 0 0] (actB w a) (.tup []) (doC w a ls)) :
 Den PP 20 [wldD w, actD a] [] (.tup [.agg [.sl (w.nodes.map Node.cells) w.nodes.length, .sl (w.cuts.map Cut.row) w.cuts.length, .sl (ls.map Msg.row) ls.length], .int .i64 0]) [] := by
 have t := zat hw
 have c1 := zbf w t.small
 have c2 := za8 w t
 have c3 := zcc w a (by have := t.nodes; unfold cap; omega) (fun id => zay (zar hw).1 id) hi
 rw [hw] at c1
 rw [h] at c3
 clear hw h t hi
 suffices hh : Den PP 20 [wldD w, actD a] [] (.tup [.agg [.ref 0 0 w.nodes.length, .ref 1 0 w.cuts.length, .sl (ls.map Msg.row) ls.length], .int .i64 0]) [⟨w.nodes.map Node.cells, 6, .mut⟩, ⟨w.cuts.map Cut.row, 2, .mut⟩] by
  have := zba hh
  simpa [D.freeze, D.mapR, mapRL, frzRef, nodesD, cutsD, msgsD] using this
 simp only [actB, doA, doC, doS, wldD, actD, Act.cells, Wld.cells, nodesD, cutsD, msgsD, wldR, wldB, intsD, hk] at c1 c2 c3 hd ⊢
 refine zah [13] [46] zbr ?_
 simp -implicitDefEqProofs [zb4]
 refine zaa c1 ?_
 simp -implicitDefEqProofs
 refine zaa c2 ?_
 simp -implicitDefEqProofs
 refine zaa c3 ?_
 simp -implicitDefEqProofs
 refine zac [6, 3, 4, 5, 1] rfl (by decide) (by simp) hd (by simp) (by simp [lentBs]) ?_
 simp -implicitDefEqProofs [framed]
theorem z5o (w : Wld) (a : Act) (hi : a.ids.length ≤ cap) (hw : worldMay w = true) (h : mayA w a = true) (hk : a.kind = 4) (cs : List Cut) (hd : Den PP 63 [.ptr 0 0 0, .ptr 4 0 0] (actB w a) (.tup []) ([⟨[[.ref 1 0 w.nodes.length, .sl (cs.map Cut.row) cs.length, .ref 3 0 w.packets.length]], 3, .box⟩, ⟨w.nodes.map Node.cells, 6, .mut⟩, ⟨w.cuts.map Cut.row, 2, .app⟩, ⟨w.packets.map Msg.row, 11, .mut⟩, ⟨[a.cells], 7, .box⟩])) :
 Den PP 20 [wldD w, actD a] [] (.tup [.agg [.sl (w.nodes.map Node.cells) w.nodes.length, .sl (cs.map Cut.row) cs.length, .sl (w.packets.map Msg.row) w.packets.length], .int .i64 0]) [] := by
 have t := zat hw
 have c1 := zbf w t.small
 have c2 := za8 w t
 have c3 := zcc w a (by have := t.nodes; unfold cap; omega) (fun id => zay (zar hw).1 id) hi
 rw [hw] at c1
 rw [h] at c3
 clear hw h t hi
 suffices hh : Den PP 20 [wldD w, actD a] [] (.tup [.agg [.ref 0 0 w.nodes.length, .sl (cs.map Cut.row) cs.length, .ref 1 0 w.packets.length], .int .i64 0]) [⟨w.nodes.map Node.cells, 6, .mut⟩, ⟨w.packets.map Msg.row, 11, .mut⟩] by
  have := zba hh
  simpa [D.freeze, D.mapR, mapRL, frzRef, nodesD, cutsD, msgsD] using this
 simp only [actB, doA, doC, doS, wldD, actD, Act.cells, Wld.cells, nodesD, cutsD, msgsD, wldR, wldB, intsD, hk] at c1 c2 c3 hd ⊢
 refine zah [13] [46] zbr ?_
 simp -implicitDefEqProofs [zb4]
 refine zaa c1 ?_
 simp -implicitDefEqProofs
 refine zaa c2 ?_
 simp -implicitDefEqProofs
 refine zaa c3 ?_
 simp -implicitDefEqProofs
 refine zac [6, 3, 4, 5, 1] rfl (by decide) (by simp) hd (by simp) (by simp [lentBs]) ?_
 simp -implicitDefEqProofs [framed]
theorem z5c (w : Wld) (a : Act) (hi : a.ids.length ≤ cap) (hw : worldMay w = true) (h : mayA w a = true) (hk : a.kind = 5) (cs : List Cut) (hd : Den PP 64 [.ptr 0 0 0, .ptr 4 0 0] (actB w a) (.tup []) ([⟨[[.ref 1 0 w.nodes.length, .sl (cs.map Cut.row) cs.length, .ref 3 0 w.packets.length]], 3, .box⟩, ⟨w.nodes.map Node.cells, 6, .mut⟩, ⟨w.cuts.map Cut.row, 2, .app⟩, ⟨w.packets.map Msg.row, 11, .mut⟩, ⟨[a.cells], 7, .box⟩])) :
 Den PP 20 [wldD w, actD a] [] (.tup [.agg [.sl (w.nodes.map Node.cells) w.nodes.length, .sl (cs.map Cut.row) cs.length, .sl (w.packets.map Msg.row) w.packets.length], .int .i64 0]) [] := by
 have t := zat hw
 have c1 := zbf w t.small
 have c2 := za8 w t
 have c3 := zcc w a (by have := t.nodes; unfold cap; omega) (fun id => zay (zar hw).1 id) hi
 rw [hw] at c1
 rw [h] at c3
 clear hw h t hi
 suffices hh : Den PP 20 [wldD w, actD a] [] (.tup [.agg [.ref 0 0 w.nodes.length, .sl (cs.map Cut.row) cs.length, .ref 1 0 w.packets.length], .int .i64 0]) [⟨w.nodes.map Node.cells, 6, .mut⟩, ⟨w.packets.map Msg.row, 11, .mut⟩] by
  have := zba hh
  simpa [D.freeze, D.mapR, mapRL, frzRef, nodesD, cutsD, msgsD] using this
 simp only [actB, doA, doC, doS, wldD, actD, Act.cells, Wld.cells, nodesD, cutsD, msgsD, wldR, wldB, intsD, hk] at c1 c2 c3 hd ⊢
 refine zah [13] [46] zbr ?_
 simp -implicitDefEqProofs [zb4]
 refine zaa c1 ?_
 simp -implicitDefEqProofs
 refine zaa c2 ?_
 simp -implicitDefEqProofs
 refine zaa c3 ?_
 simp -implicitDefEqProofs
 refine zac [6, 3, 4, 5, 1] rfl (by decide) (by simp) hd (by simp) (by simp [lentBs]) ?_
 simp -implicitDefEqProofs [framed]
theorem z2b (w : Wld) (a : Act) (hi : a.ids.length ≤ cap) (hw : worldMay w = true) (h : mayA w a = true) (hk : a.kind = 4) (hd : Den PP 63 [.ptr 0 0 0, .ptr 4 0 0] (actB w a) (.tup []) ([⟨[[.ref 1 0 w.nodes.length, .ref 2 0 w.cuts.length, .ref 3 0 w.packets.length]], 3, .box⟩, ⟨w.nodes.map Node.cells, 6, .mut⟩, ⟨w.cuts.map Cut.row, 2, .app⟩, ⟨w.packets.map Msg.row, 11, .mut⟩, ⟨[a.cells], 7, .box⟩])) :
 Den PP 20 [wldD w, actD a] [] (.tup [.agg [.sl (w.nodes.map Node.cells) w.nodes.length, .sl (w.cuts.map Cut.row) w.cuts.length, .sl (w.packets.map Msg.row) w.packets.length], .int .i64 0]) [] := by
 have t := zat hw
 have c1 := zbf w t.small
 have c2 := za8 w t
 have c3 := zcc w a (by have := t.nodes; unfold cap; omega) (fun id => zay (zar hw).1 id) hi
 rw [hw] at c1
 rw [h] at c3
 clear hw h t hi
 suffices hh : Den PP 20 [wldD w, actD a] [] (.tup [.agg [.ref 0 0 w.nodes.length, .ref 1 0 w.cuts.length, .ref 2 0 w.packets.length], .int .i64 0]) [⟨w.nodes.map Node.cells, 6, .mut⟩, ⟨w.cuts.map Cut.row, 2, .app⟩, ⟨w.packets.map Msg.row, 11, .mut⟩] by
  have := zba hh
  simpa [D.freeze, D.mapR, mapRL, frzRef, nodesD, cutsD, msgsD] using this
 simp only [actB, doA, doC, doS, wldD, actD, Act.cells, Wld.cells, nodesD, cutsD, msgsD, wldR, wldB, intsD, hk] at c1 c2 c3 hd ⊢
 refine zah [13] [46] zbr ?_
 simp -implicitDefEqProofs [zb4]
 refine zaa c1 ?_
 simp -implicitDefEqProofs
 refine zaa c2 ?_
 simp -implicitDefEqProofs
 refine zaa c3 ?_
 simp -implicitDefEqProofs
 refine zac [6, 3, 4, 5, 1] rfl (by decide) (by simp) hd (by simp) (by simp [lentBs]) ?_
 simp -implicitDefEqProofs [framed]
theorem z49 (w : Wld) (a : Act) (hi : a.ids.length ≤ cap) (hw : worldMay w = true) (h : mayA w a = true) (hk : a.kind = 0) (u v : Wld) (qs : List Msg) (hd : Den PP 59 [.ptr 0 0 0, .ptr 4 0 0] (actB w a) (.tup []) (doS u v qs a)) :
 Den PP 20 [wldD w, actD a] [] (.tup [.agg [nodesD v.nodes, cutsD v.cuts, msgsD v.packets], .int .i64 0]) [] := by
 have t := zat hw
 have c1 := zbf w t.small
 have c2 := za8 w t
 have c3 := zcc w a (by have := t.nodes; unfold cap; omega) (fun id => zay (zar hw).1 id) hi
 rw [hw] at c1
 rw [h] at c3
 clear hw h t hi
 suffices hh : Den PP 20 [wldD w, actD a] [] (.tup [.agg [nodesD v.nodes, cutsD v.cuts, msgsD v.packets], .int .i64 0]) [] by
  have := zba hh
  simpa [D.freeze, D.mapR, mapRL, frzRef, nodesD, cutsD, msgsD] using this
 simp only [actB, doA, doC, doS, wldD, actD, Act.cells, Wld.cells, nodesD, cutsD, msgsD, wldR, wldB, intsD, hk] at c1 c2 c3 hd ⊢
 refine zah [13] [46] zbr ?_
 simp -implicitDefEqProofs [zb4]
 refine zaa c1 ?_
 simp -implicitDefEqProofs
 refine zaa c2 ?_
 simp -implicitDefEqProofs
 refine zaa c3 ?_
 simp -implicitDefEqProofs
 refine zac [6, 3, 4, 5, 1] rfl (by decide) (by simp) hd (by simp) (by simp [lentBs]) ?_
 simp -implicitDefEqProofs [framed]
theorem z3o (w : Wld) (a : Act) (hi : a.ids.length ≤ cap) (hw : worldMay w = true) (h : mayA w a = true) (hk : a.kind = 1) (u v : Wld) (qs : List Msg) (hd : Den PP 60 [.ptr 0 0 0, .ptr 4 0 0] (actB w a) (.tup []) (doS u v qs a)) :
 Den PP 20 [wldD w, actD a] [] (.tup [.agg [nodesD v.nodes, cutsD v.cuts, msgsD v.packets], .int .i64 0]) [] := by
 have t := zat hw
 have c1 := zbf w t.small
 have c2 := za8 w t
 have c3 := zcc w a (by have := t.nodes; unfold cap; omega) (fun id => zay (zar hw).1 id) hi
 rw [hw] at c1
 rw [h] at c3
 clear hw h t hi
 suffices hh : Den PP 20 [wldD w, actD a] [] (.tup [.agg [nodesD v.nodes, cutsD v.cuts, msgsD v.packets], .int .i64 0]) [] by
  have := zba hh
  simpa [D.freeze, D.mapR, mapRL, frzRef, nodesD, cutsD, msgsD] using this
 simp only [actB, doA, doC, doS, wldD, actD, Act.cells, Wld.cells, nodesD, cutsD, msgsD, wldR, wldB, intsD, hk] at c1 c2 c3 hd ⊢
 refine zah [13] [46] zbr ?_
 simp -implicitDefEqProofs [zb4]
 refine zaa c1 ?_
 simp -implicitDefEqProofs
 refine zaa c2 ?_
 simp -implicitDefEqProofs
 refine zaa c3 ?_
 simp -implicitDefEqProofs
 refine zac [6, 3, 4, 5, 1] rfl (by decide) (by simp) hd (by simp) (by simp [lentBs]) ?_
 simp -implicitDefEqProofs [framed]
theorem z38 (w : Wld) (a : Act) (hi : a.ids.length ≤ cap) (hw : worldMay w = true) (h : mayA w a = true) (hk : a.kind = 3) (u v : Wld) (qs : List Msg) (hd : Den PP 62 [.ptr 0 0 0, .ptr 4 0 0] (actB w a) (.tup []) (doS u v qs a)) :
 Den PP 20 [wldD w, actD a] [] (.tup [.agg [nodesD v.nodes, cutsD v.cuts, msgsD v.packets], .int .i64 0]) [] := by
 have t := zat hw
 have c1 := zbf w t.small
 have c2 := za8 w t
 have c3 := zcc w a (by have := t.nodes; unfold cap; omega) (fun id => zay (zar hw).1 id) hi
 rw [hw] at c1
 rw [h] at c3
 clear hw h t hi
 suffices hh : Den PP 20 [wldD w, actD a] [] (.tup [.agg [nodesD v.nodes, cutsD v.cuts, msgsD v.packets], .int .i64 0]) [] by
  have := zba hh
  simpa [D.freeze, D.mapR, mapRL, frzRef, nodesD, cutsD, msgsD] using this
 simp only [actB, doA, doC, doS, wldD, actD, Act.cells, Wld.cells, nodesD, cutsD, msgsD, wldR, wldB, intsD, hk] at c1 c2 c3 hd ⊢
 refine zah [13] [46] zbr ?_
 simp -implicitDefEqProofs [zb4]
 refine zaa c1 ?_
 simp -implicitDefEqProofs
 refine zaa c2 ?_
 simp -implicitDefEqProofs
 refine zaa c3 ?_
 simp -implicitDefEqProofs
 refine zac [6, 3, 4, 5, 1] rfl (by decide) (by simp) hd (by simp) (by simp [lentBs]) ?_
 simp -implicitDefEqProofs [framed]
theorem zr7 (w : Wld) (a : Act) (hi : a.ids.length ≤ cap) (hw : worldMay w = true) (h : mayA w a = true) (hk : a.kind = 10) (u v : Wld) (qs : List Msg) (hd : Den PP 69 [.ptr 0 0 0, .ptr 4 0 0] (actB w a) (.tup []) (doS u v qs a)) :
 Den PP 20 [wldD w, actD a] [] (.tup [.agg [nodesD v.nodes, cutsD v.cuts, msgsD v.packets], .int .i64 0]) [] := by
 have t := zat hw
 have c1 := zbf w t.small
 have c2 := za8 w t
 have c3 := zcc w a (by have := t.nodes; unfold cap; omega) (fun id => zay (zar hw).1 id) hi
 rw [hw] at c1
 rw [h] at c3
 clear hw h t hi
 suffices hh : Den PP 20 [wldD w, actD a] [] (.tup [.agg [nodesD v.nodes, cutsD v.cuts, msgsD v.packets], .int .i64 0]) [] by
  have := zba hh
  simpa [D.freeze, D.mapR, mapRL, frzRef, nodesD, cutsD, msgsD] using this
 simp only [actB, doA, doC, doS, wldD, actD, Act.cells, Wld.cells, nodesD, cutsD, msgsD, wldR, wldB, intsD, hk] at c1 c2 c3 hd ⊢
 refine zah [13] [46] zbr ?_
 simp -implicitDefEqProofs [zb4]
 refine zaa c1 ?_
 simp -implicitDefEqProofs
 refine zaa c2 ?_
 simp -implicitDefEqProofs
 refine zaa c3 ?_
 simp -implicitDefEqProofs
 refine zac [6, 3, 4, 5, 1] rfl (by decide) (by simp) hd (by simp) (by simp [lentBs]) ?_
 simp -implicitDefEqProofs [framed]
end Go.AM
/- AM: chapter 17's statements: WriteNewer, WriteOther. -/
namespace Go.AM
set_option linter.unusedSimpArgs false
set_option linter.unusedVariables false
set_option maxRecDepth 8000
set_option maxHeartbeats 0
theorem qbj {x : Node} {i : Item} (h : wrAll x i = true) : storeMay x.items = true ∧ itemMay (wrI x i) = true ∧ (wrN x i).items = putS (wrI x i) x.items ∧ storeMay (putS (wrI x i) x.items) = true := by
 obtain ⟨h1, h2⟩ := ze7 h
 have hp : (putR x.items (wrI x i)).2 = 0 := by simp only [wrOk, Bool.and_eq_true, decide_eq_true_eq] at h2; exact h2.2
 obtain ⟨e1, e2, e3, e4⟩ := zte hp
 exact ⟨e1, e2, by unfold wrN; rw [e3], e4⟩
end Go.AM
/- Plain law: cuts among eight places, in any row. -/
namespace Go.AM
set_option linter.unusedSimpArgs false
set_option linter.unusedVariables false

theorem z03 {cs : List Cut} {a b : Int} (h : askMay cs a b = true) : withC cs a b = ([], 1501) ∨ ∃ P, withC cs a b = (P, 0) ∧ cutsMay P = true ∧ ∀ y, y ∈ P ↔ y = cutAB a b ∨ y ∈ cs := by
 obtain ⟨h1, h2, h3, h4⟩ := zf9.1 h
 have hc := zoi h2 h3 h4
 unfold withC
 rw [if_pos h]
 by_cases hin : cutAB a b ∈ cs
 ·rw [if_pos hin]
  refine .inr ⟨cs, rfl, h1, fun y => ⟨.inr, ?_⟩⟩
  rintro (rfl | h)
  ·exact hin
  ·exact h
 ·rw [if_neg hin]
  by_cases h5 : cs.length = 32
  ·rw [if_pos h5]; exact .inl rfl
  ·rw [if_neg h5]
   exact .inr ⟨_, rfl, zya h1 hc hin h5, fun y => zsm⟩
end Go.AM
/- AM: plain: what keeps a world such as may be. -/
namespace Go.AM
set_option linter.unusedSimpArgs false
set_option linter.unusedVariables false
def idsN (xs : List Node) : List Int := xs.map fun x => x.view.id
theorem zjx {xs : List Node} {i : Int} : i ∈ idsN xs ↔ ∃ x ∈ xs, x.view.id = i := List.mem_map
theorem zif {xs : List Node} {id : Int} (h : isN id xs = true) : ∃ x, xs[posN id xs]? = some x ∧ x.view.id = id := by
 obtain ⟨_, x, hx, hc⟩ := zl7 h
 exact ⟨x, hx, (zli _ _).1 hc⟩
theorem qav {xs : List Node} (h : xs.Pairwise (fun x y => x.view.id < y.view.id)) {id : Int} (hi : id ∈ idsN xs) : isN id xs = true := by
 obtain ⟨x, hx, rfl⟩ := zjx.1 hi
 obtain ⟨j, hj, hxj⟩ := List.getElem_of_mem hx
 have hxj' : xs[j]? = some x := by rw [List.getElem?_eq_getElem hj, hxj]
 have hcx : cmpN x.view.id x = 0 := (zli _ _).2 rfl
 have hle : posC (cmpN x.view.id) xs ≤ j := by
  apply Classical.byContradiction
  intro hn
  have := zsk (cmpN x.view.id) xs j x (by omega) hxj'
  omega
 have hlt : posC (cmpN x.view.id) xs < xs.length := by omega
 obtain ⟨y, hy⟩ : ∃ y, xs[posC (cmpN x.view.id) xs]? = some y := ⟨_, List.getElem?_eq_getElem hlt⟩
 have hy0 := z4a (cmpN x.view.id) xs y hy
 have : y = x := by
  rcases Nat.lt_or_ge (posC (cmpN x.view.id) xs) j with h1 | h1
  ·obtain ⟨hl, rfl⟩ := List.getElem?_eq_some_iff.1 hy
   have := List.pairwise_iff_getElem.1 h _ _ hl hj h1
   rw [hxj] at this
   have h2 : cmpN x.view.id (xs[posC (cmpN x.view.id) xs]) < 0 := (zof _ _).2 this
   omega
  ·have : posC (cmpN x.view.id) xs = j := by omega
   rw [this, hxj'] at hy
   exact (Option.some.inj hy).symm
 subst this
 show (xs[posC (cmpN y.view.id) xs]?).any _ = true
 rw [hy]
 simp [hcx]
theorem zge {xs : List Node} (h : nodesMay xs = true) {id : Int} : isN id xs = true ↔ id ∈ idsN xs := by
 constructor
 ·intro hi
  obtain ⟨x, hx, he⟩ := zif hi
  exact zjx.2 ⟨x, List.mem_of_getElem? hx, he⟩
 ·exact qav (zc4 h).2.1
theorem z0v : ∀ (xs : List Node) (q : Option Int), (∀ x ∈ xs, nodeMay x = true ∧ ∀ y, q = some y → y < x.view.id) → xs.Pairwise (fun x y => x.view.id < y.view.id) → nodesOk q xs = true := by
 intro xs
 induction xs with
 | nil => intro q _ _; rfl
 | cons x xs ih =>
   intro q h hp
   rw [List.pairwise_cons] at hp
   simp only [nodesOk, Bool.and_eq_true]
   refine ⟨(h x (by simp)).1, ?_, ih _ (fun y hy => ⟨(h y (by simp [hy])).1, fun z hz => ?_⟩) hp.2⟩
   ·cases q with
    | none => rfl
    | some y => simpa using (h x (by simp)).2 y rfl
   ·cases hz
    exact hp.1 y hy
theorem zox {xs : List Node} (h1 : ∀ x ∈ xs, nodeMay x = true) (h2 : xs.Pairwise (fun x y => x.view.id < y.view.id)) (h3 : 1 ≤ xs.length) (h4 : xs.length ≤ 8) : nodesMay xs = true := by
 simp only [nodesMay, Bool.and_eq_true, decide_eq_true_eq]
 exact ⟨z0v xs none (fun x hx => ⟨h1 x hx, fun y hy => by cases hy⟩) h2, h3, h4⟩
theorem zlp {xs : List Node} {P : Nat} {x y : Node} (hx : xs[P]? = some x) (hid : y.view.id = x.view.id) : idsN (xs.set P y) = idsN xs := by
 unfold idsN
 rw [List.map_set, hid]
 apply List.ext_getElem?
 intro j
 rw [List.getElem?_set]
 split
 ·rename_i hij
  subst hij
  have hlt := (List.getElem?_eq_some_iff.1 hx).1
  have he : xs[P] = x := by rw [List.getElem?_eq_getElem hlt] at hx; exact Option.some.inj hx
  simp [hlt, he]
 ·rfl
theorem zm7 {α : Type} {xs : List α} {P : Nat} {y z : α} (h : z ∈ xs.set P y) : z = y ∨ z ∈ xs := by
 rcases List.mem_or_eq_of_mem_set h with h | h
 ·exact .inr h
 ·exact .inl h
theorem zt5 {xs : List Node} {P : Nat} {x y : Node} (h : nodesMay xs = true) (hx : xs[P]? = some x) (hy : nodeMay y = true) (hid : y.view.id = x.view.id) : nodesMay (xs.set P y) = true := by
 obtain ⟨h1, h2, h3, h4⟩ := zc4 h
 refine zox (fun z hz => ?_) ?_ (by simpa using h3) (by simpa using h4)
 ·rcases zm7 hz with rfl | hz
  ·exact hy
  ·exact h1 z hz
 ·have e := zlp hx hid
  unfold idsN at e
  rw [← List.pairwise_map (f := fun x : Node => x.view.id) (R := fun a b => a < b)] at h2 ⊢
  rw [e]
  exact h2
theorem qa5 {ns : List Node} {cs : List Cut} {ps : List Msg} (hn : nodesMay ns = true) (hc : cutsMay cs = true) (hl : ps.length ≤ 512) (h1 : ∀ x ∈ ns, ∀ i ∈ namedN x, i ∈ idsN ns) (h2 : ∀ c ∈ cs, ∀ i ∈ namedC c, i ∈ idsN ns) (h3 : ∀ m ∈ ps, msgMay m = true ∧ ∀ i ∈ namedM m, i ∈ idsN ns) : worldMay ⟨ns, cs, ps⟩ = true := by
 have hq : queueMay ps = true := by
  simp only [queueMay, Bool.and_eq_true, decide_eq_true_eq, Bool.not_eq_true']
  refine ⟨hl, List.any_eq_false.2 fun m hm => ?_⟩
  simp [oddM, (h3 m hm).1]
 simp only [worldMay, Bool.and_eq_true, Bool.not_eq_true']
 refine ⟨hn, hc, hq, List.any_eq_false.2 fun i hi => ?_⟩
 have : i ∈ idsN ns := by
  simp only [namedW, List.mem_append, List.mem_flatMap] at hi
  rcases hi with (⟨x, hx, hi⟩ | ⟨c, hc, hi⟩) | ⟨m, hm, hi⟩
  ·exact h1 x hx i hi
  ·exact h2 c hc i hi
  ·exact (h3 m hm).2 i hi
 simp [(zge hn).2 this]
structure May (w : Wld) : Prop where
 nodes : nodesMay w.nodes = true
 cuts : cutsMay w.cuts = true
 len : w.packets.length ≤ 512
 inN : ∀ x ∈ w.nodes, ∀ i ∈ namedN x, i ∈ idsN w.nodes
 inC : ∀ c ∈ w.cuts, ∀ i ∈ namedC c, i ∈ idsN w.nodes
 inM : ∀ m ∈ w.packets, msgMay m = true ∧ ∀ i ∈ namedM m, i ∈ idsN w.nodes
theorem zcy {w : Wld} : worldMay w = true ↔ May w := by
 constructor
 ·intro h
  obtain ⟨h1, h2, h3, h4⟩ := zar h
  obtain ⟨q1, q2⟩ := zkk h3
  have key : ∀ i ∈ namedW w, i ∈ idsN w.nodes := fun i hi => (zge h1).1 (h4 i hi)
  refine ⟨h1, h2, q1, fun x hx i hi => key i ?_, fun c hc i hi => key i ?_, fun m hm => ⟨q2 m hm, fun i hi => key i ?_⟩⟩
  ·simp only [namedW, List.mem_append, List.mem_flatMap]; exact .inl (.inl ⟨x, hx, hi⟩)
  ·simp only [namedW, List.mem_append, List.mem_flatMap]; exact .inl (.inr ⟨c, hc, hi⟩)
  ·simp only [namedW, List.mem_append, List.mem_flatMap]; exact .inr ⟨m, hm, hi⟩
 ·intro h
  exact qa5 h.nodes h.cuts h.len h.inN h.inC h.inM
theorem May.node {w : Wld} (h : May w) {x : Node} (hx : x ∈ w.nodes) : nodeMay x = true := (zc4 h.nodes).1 x hx
theorem May.place {w : Wld} (h : May w) {i : Int} (hi : i ∈ idsN w.nodes) : AM.place i = true := by
 obtain ⟨x, hx, rfl⟩ := zjx.1 hi
 exact zdx (zev (h.node hx)).2.1
theorem May.set {w : Wld} (h : May w) {P : Nat} {x y : Node} (hx : w.nodes[P]? = some x) (hy : nodeMay y = true) (hid : y.view.id = x.view.id) (hn : ∀ i ∈ namedN y, i ∈ idsN w.nodes) {ps : List Msg} (hl : ps.length ≤ 512) (hm : ∀ m ∈ ps, msgMay m = true ∧ ∀ i ∈ namedM m, i ∈ idsN w.nodes) : May ⟨w.nodes.set P y, w.cuts, ps⟩ := by
 have e := zlp hx hid
 refine ⟨zt5 h.nodes hx hy hid, h.cuts, hl, ?_, ?_, ?_⟩
 ·intro z hz i hi
  show i ∈ idsN (w.nodes.set P y)
  rw [e]
  rcases zm7 hz with rfl | hz
  ·exact hn i hi
  ·exact h.inN z hz i hi
 ·intro c hc i hi
  show i ∈ idsN (w.nodes.set P y)
  rw [e]
  exact h.inC c hc i hi
 ·intro m hmm
  refine ⟨(hm m hmm).1, fun i hi => ?_⟩
  show i ∈ idsN (w.nodes.set P y)
  rw [e]
  exact (hm m hmm).2 i hi
theorem May.packs {w : Wld} (h : May w) {ps : List Msg} (hl : ps.length ≤ 512) (hm : ∀ m ∈ ps, msgMay m = true ∧ ∀ i ∈ namedM m, i ∈ idsN w.nodes) : May ⟨w.nodes, w.cuts, ps⟩ := ⟨h.nodes, h.cuts, hl, h.inN, h.inC, hm⟩
theorem May.send {w : Wld} (h : May w) {ms : List Msg} (hm : ∀ m ∈ ms, msgMay m = true ∧ ∀ i ∈ namedM m, i ∈ idsN w.nodes) : May (sendW w ms) := by
 refine ⟨h.nodes, h.cuts, ?_, h.inN, h.inC, fun m hmm => ?_⟩
 ·have := h.len
  simp [sendW]; omega
 ·rcases List.mem_append.1 hmm with h1 | h1
  ·exact h.inM m h1
  ·exact hm m (List.mem_of_mem_take h1)
end Go.AM
/- AM: plain: whom a view names. -/
namespace Go.AM
set_option linter.unusedSimpArgs false
set_option linter.unusedVariables false
def namesV (v : View) : List Int := v.peers.map Peer.id ++ v.passive
theorem zdc {v : View} {y : Int} : y ∈ namesV v ↔ (∃ q ∈ v.peers, q.id = y) ∨ y ∈ v.passive := by
 simp [namesV]
theorem zno (v : View) (x : Int) : (∀ y, y ∈ namesV (knownV v x) → y = x ∨ y ∈ namesV v) ∧ ∀ y, y ∈ namesV v → y ∈ namesV (knownV v x) := by
 cases hr : roomV v x with
 | false => rw [zjb hr]; exact ⟨fun y h => .inr h, fun y h => h⟩
 | true =>
   constructor
   ·intro y hy
    rcases zdc.1 hy with ⟨q, hq, rfl⟩ | hy
    ·rcases (zgy hr q).1 hq with rfl | ⟨hq, _⟩
     ·exact .inl rfl
     ·exact .inr (zdc.2 (.inl ⟨q, hq, rfl⟩))
    ·exact .inr (zdc.2 (.inr ((zg9 hr y).1 hy).1))
   ·intro y hy
    by_cases hyx : y = x
    ·subst hyx
     exact zdc.2 (.inl ⟨⟨y, 0⟩, (zgy hr _).2 (.inl rfl), rfl⟩)
    ·rcases zdc.1 hy with ⟨q, hq, rfl⟩ | hy
     ·exact zdc.2 (.inl ⟨q, (zgy hr q).2 (.inr ⟨hq, hyx⟩), rfl⟩)
     ·exact zdc.2 (.inr ((zg9 hr y).2 ⟨hy, hyx⟩))
theorem zyp (v : View) (x : Int) : (∀ y, y ∈ namesV (tellV v x) → y = x ∨ y ∈ namesV v) ∧ ∀ y, y ∈ namesV v → y ∈ namesV (tellV v x) := by
 unfold tellV
 split
 ·exact zno v x
 ·exact ⟨fun y h => .inr h, fun y h => h⟩
theorem zw4 : ∀ (ids : List Int) (v : View), (∀ y, y ∈ namesV (ids.foldl tellV v) → y ∈ ids ∨ y ∈ namesV v) ∧ ∀ y, y ∈ namesV v → y ∈ namesV (ids.foldl tellV v) := by
 intro ids
 induction ids with
 | nil => intro v; exact ⟨fun y h => .inr h, fun y h => h⟩
 | cons x ids ih =>
   intro v
   obtain ⟨a, b⟩ := ih (tellV v x)
   obtain ⟨c, d⟩ := zyp v x
   refine ⟨fun y hy => ?_, fun y hy => b y (d y hy)⟩
   rcases a y hy with h | h
   ·exact .inl (by simp [h])
   ·rcases c y h with rfl | h
    ·exact .inl (by simp)
    ·exact .inr h
theorem zux (v : View) (x : Int) (ids : List Int) : (∀ y, y ∈ namesV (helloV v x ids) → y = x ∨ y ∈ ids ∨ y ∈ namesV v) ∧ ∀ y, y ∈ namesV v → y ∈ namesV (helloV v x ids) := by
 obtain ⟨a, b⟩ := zw4 ids (knownV v x)
 obtain ⟨c, d⟩ := zno v x
 refine ⟨fun y hy => ?_, fun y hy => b y (d y hy)⟩
 rcases a y hy with h | h
 ·exact .inr (.inl h)
 ·rcases c y h with h | h
  ·exact .inl h
  ·exact .inr (.inr h)
theorem zhs {v : View} (h : viewMay v = true) (y : Int) : y ∈ namesV (ageV v) ↔ y ∈ namesV v := by
 obtain ⟨_, _, h3⟩ := zjn h
 rw [zdc, zdc, h3]
 constructor
 ·rintro (⟨q, hq, rfl⟩ | hy | hy)
  ·obtain ⟨p, hp, _, rfl⟩ := zs6 hq
   exact .inl ⟨p, hp, rfl⟩
  ·exact .inr hy
  ·obtain ⟨p, hp, _, rfl⟩ := zom hy
   exact .inl ⟨p, hp, rfl⟩
 ·rintro (⟨p, hp, rfl⟩ | hy)
  ·by_cases hm : p.missed + 1 = 3
   ·exact .inr (.inr (List.mem_map.2 ⟨p, List.mem_filter.2 ⟨hp, by simpa using hm⟩, rfl⟩))
   ·exact .inl ⟨⟨p.id, p.missed + 1⟩, List.mem_map.2 ⟨p, List.mem_filter.2 ⟨hp, by simpa using hm⟩, rfl⟩, rfl⟩
  ·exact .inr (.inl hy)
end Go.AM
/- AM: what an act makes of a world: it stays one that may be; nodes forget nothing. -/
namespace Go.AM
set_option linter.unusedSimpArgs false
set_option linter.unusedVariables false
set_option maxRecDepth 8000
set_option maxHeartbeats 0
def Better (is js : List Item) : Prop := ∀ i ∈ is, ∃ j, getS js i.key = some j ∧ bestI i j = j
structure NRel (x y : Node) : Prop where
 id : y.view.id = x.view.id
 items : x.up = true → y.up = true → Better x.items y.items
 names : x.up = true → y.up = true → ∀ n ∈ namesV x.view, n ∈ namesV y.view
theorem zh9 {is : List Item} (h : storeMay is = true) : Better is is := fun i hi => ⟨i, zy8 ((zc1 is).1 h).2.1 hi, zm6 i⟩
theorem zra {is : List Item} {n : Item} (h : storeMay is = true) : Better is (putS n is) := by
 intro i hi
 have hr := ((zc1 is).1 h).2.1
 have hg := zy8 hr hi
 rw [z31 n is hr]
 by_cases hk : i.key = n.key
 ·rw [if_pos hk, hg]
  refine ⟨bestI i n, rfl, ?_⟩
  rw [← zw0 rfl hk, zm6]
 ·rw [if_neg hk, hg]
  exact ⟨i, rfl, zm6 i⟩
theorem zjf {x : Node} (h : nodeMay x = true) : NRel x x := ⟨rfl, fun _ _ => zh9 (zev h).2.2.1, fun _ _ n hn => hn⟩
def LoneN (x : Node) : Prop := x.view.peers = [] ∧ x.view.passive = []
def Lonely (w : Wld) : Prop := w.packets = [] ∧ w.cuts = [] ∧ ∀ x ∈ w.nodes, LoneN x
structure Step (w : Wld) (a : Act) (v : Wld) : Prop where
 len : v.nodes.length = w.nodes.length
 rel : ∀ (k : Nat) (x y : Node), w.nodes[k]? = some x → v.nodes[k]? = some y → NRel x y
 lone : a.kind ≠ 4 → a.kind ≠ 5 → a.kind ≠ 7 → Lonely w → Lonely v ∧ ∀ k, k ≠ posN a.node w.nodes → v.nodes[k]? = w.nodes[k]?
theorem zhn {w v : Wld} {a : Act} (h : May w) (hn : v.nodes = w.nodes) (hl : a.kind ≠ 4 → a.kind ≠ 5 → a.kind ≠ 7 → Lonely w → v.packets = [] ∧ v.cuts = []) : Step w a v := by
 refine ⟨by rw [hn], fun k x y hx hy => ?_, fun h1 h2 h3 hL => ⟨⟨(hl h1 h2 h3 hL).1, (hl h1 h2 h3 hL).2, by rw [hn]; exact hL.2.2⟩, fun k _ => by rw [hn]⟩⟩
 rw [hn, hx] at hy
 cases hy
 exact zjf (h.node (List.mem_of_getElem? hx))
theorem zg3 {w v : Wld} {a : Act} {P : Nat} {x y : Node} (h : May w) (hx : w.nodes[P]? = some x) (hv : v.nodes = w.nodes.set P y) (hr : NRel x y)
 (hl : a.kind ≠ 4 → a.kind ≠ 5 → a.kind ≠ 7 → Lonely w → P = posN a.node w.nodes ∧ LoneN y ∧ v.packets = [] ∧ v.cuts = []) : Step w a v := by
 have hlt := (List.getElem?_eq_some_iff.1 hx).1
 refine ⟨by rw [hv]; simp, fun k u z hu hz => ?_, fun h1 h2 h3 hL => ?_⟩
 ·rw [hv, List.getElem?_set] at hz
  by_cases hk : P = k
  ·subst hk
   rw [if_pos rfl, if_pos hlt] at hz
   cases hz
   rw [hx] at hu
   cases hu
   exact hr
  ·rw [if_neg hk, hu] at hz
   cases hz
   exact zjf (h.node (List.mem_of_getElem? hu))
 ·obtain ⟨e1, e2, e3, e4⟩ := hl h1 h2 h3 hL
  refine ⟨⟨e3, e4, fun z hz => ?_⟩, fun k hk => ?_⟩
  ·rw [hv] at hz
   rcases zm7 hz with rfl | hz
   ·exact e2
   ·exact hL.2.2 z hz
  ·rw [hv, List.getElem?_set, if_neg (by rw [e1]; exact fun e => hk e.symm)]
theorem zf8 {x : Node} (h : nodeUp x = true) : nodeMay x = true := by
 simp only [nodeUp, Bool.and_eq_true] at h
 exact h.2
theorem z36 {is : List Item} (h : storeMay is = true) (k : Int) : (getR is k = (zeroItem, false)) ∨ ∃ i ∈ is, i.key = k ∧ itemMay i = true ∧ getR is k = (i, true) := by
 rw [zt8 h]
 cases hg : getS is k with
 | none => exact .inl rfl
 | some i =>
   obtain ⟨h1, h2⟩ := zzn hg
   exact .inr ⟨i, h2, h1, ((zc1 is).1 h).1 i h2, rfl⟩
theorem zvl {key : Int} {i : Item} {has : Bool} (hk : byte key = true) (h : has = true → itemMay i = true) : toldOdd (toldOf key i has) = false := by
 unfold toldOdd toldOf
 cases hh : (has && !i.gone) with
 | false => simp [hk]; rfl
 | true =>
   simp only [Bool.and_eq_true] at hh
   have := h hh.1
   simp only [itemMay, Bool.and_eq_true] at this
   simp [hk, this.1.1.2]
theorem z69 {x : Node} {t : Told} (h : x.log.length ≤ 64) (h1 : x.log.any toldOdd = false) (h2 : toldOdd t = false) : (logOf x t).length ≤ 64 ∧ (logOf x t).any toldOdd = false := by
 obtain ⟨l1, l2, _⟩ := z5w x t
 refine ⟨by omega, List.any_eq_false.2 fun u hu => ?_⟩
 have hu : u ∈ x.log ++ [t] := List.mem_of_mem_drop hu
 rcases List.mem_append.1 hu with hu | hu
 ·exact List.any_eq_false.1 h1 u hu
 ·rw [List.mem_singleton.1 hu]; simp [h2]
theorem zxv {w : Wld} {a : Act} (he : w.packets ≠ []) (h0 : 0 ≤ a.pick) : pickP w a < w.packets.length := by
 have hl : 0 < w.packets.length := List.length_pos_iff.2 he
 have h1 : a.pick % (w.packets.length : Int) < w.packets.length := Int.emod_lt_of_pos _ (by omega)
 have h2 : 0 ≤ a.pick % (w.packets.length : Int) := Int.emod_nonneg _ (by omega)
 unfold pickP
 omega
theorem zzp {w : Wld} {p : Nat} {u : Msg} (h : u ∈ leftP w p) : u ∈ w.packets := by
 rcases List.mem_append.1 h with h | h
 ·exact List.mem_of_mem_take h
 ·exact List.mem_of_mem_drop h
theorem z34 {v : View} (h : viewMay v = true) {to : Int} (ht : to ∈ greetV v) : msgMay (greetM v to) = true ∧ ∀ i ∈ namedM (greetM v to), i = v.id ∨ i ∈ namesV v := by
 obtain ⟨h1, h2, h3, h4⟩ := za2 h
 have hpl := zcs h1
 have hto : place to = true ∧ to ≠ v.id := by
  rcases List.mem_append.1 ht with h5 | h5
  ·obtain ⟨q, hq, rfl⟩ := List.mem_map.1 h5
   exact ⟨(hpl q hq).1, z25 h hq⟩
  ·exact ⟨zd1 h2 to h5, (h4 to h5).1⟩
 constructor
 ·have hall : (v.peers.map Peer.id).all place = true := by
   rw [List.all_eq_true]
   intro y hy
   obtain ⟨q, hq, rfl⟩ := List.mem_map.1 hy
   exact (hpl q hq).1
  have hl := zwl h1
  simp [msgMay, greetM, zdx h, hto.1, Ne.symm hto.2, hl]
  intro q hq
  exact (hpl q hq).1
 ·intro i hi
  simp only [namedM, greetM, List.mem_cons] at hi
  rcases hi with rfl | rfl | hi
  ·exact .inl rfl
  ·exact .inr ht
  ·exact .inr (List.mem_append.2 (.inl hi))
theorem zz0 {x : Node} (h : nodeUp x = true) {m : Msg} (hm : m ∈ (shareOf x).1) : msgMay m = true ∧ ∀ i ∈ namedM m, i = x.view.id ∨ i ∈ namesV x.view := by
 obtain ⟨p1, p2, p3, p4, p5⟩ := zcb h
 unfold shareOf at hm
 rw [if_pos h] at hm
 obtain ⟨i, hi, hs⟩ := List.mem_filterMap.1 hm
 have hmay := ((zc1 _).1 p3).1 i hi
 have hkey : place i.key = true := by
  simp only [itemMay, Bool.and_eq_true] at hmay
  exact hmay.1.1.1
 have hown := zmy p2 hkey
 unfold shareOne at hs
 have hto : ∀ t, t = (if (ownerV x.view i.key).1 = x.view.id then (succV x.view).1 else (ownerV x.view i.key).1) → t ≠ x.view.id → ∃ q ∈ x.view.peers, q.id = t := by
  rintro t rfl hne
  rw [hown]
  simp only
  rw [hown] at hne
  simp only at hne
  split
  ·rename_i h1
   rw [if_pos h1] at hne
   unfold succV at hne ⊢
   rw [if_pos p2] at hne ⊢
   cases hps : x.view.peers with
   | nil => rw [hps] at hne; exact absurd rfl hne
   | cons p ps => exact ⟨p, by simp, rfl⟩
  ·rename_i h1
   rcases zwv x.view i.key with h2 | h2
   ·exact absurd h2 h1
   ·exact h2
 generalize (if (ownerV x.view i.key).1 = x.view.id then (succV x.view).1 else (ownerV x.view i.key).1) = t at *
 by_cases hc : t = x.view.id
 ·rw [if_pos hc] at hs; cases hs
 ·rw [if_neg hc] at hs
  cases hs
  obtain ⟨q, hq, hqt⟩ := hto t rfl hc
  have hqp := (zcs (za2 p2).1 q hq).1
  rw [hqt] at hqp
  constructor
  ·simp [msgMay, zdx p2, hqp, Ne.symm hc, hmay]
  ·intro j hj
   simp only [namedM, List.mem_cons, List.not_mem_nil, or_false] at hj
   rcases hj with rfl | rfl
   ·exact .inl rfl
   ·exact .inr (zdc.2 (.inl ⟨q, hq, hqt⟩))
theorem z7o {x : Node} (h : nodeUp x = true) : nodeUp (tickN x) = true ∧ (tickM x).length ≤ 512 ∧ ∀ m ∈ tickM x, msgMay m = true ∧ ∀ i ∈ namedM m, i = x.view.id ∨ i ∈ namesV x.view := by
 obtain ⟨p1, p2, p3, p4, p5⟩ := zcb h
 obtain ⟨v1, v2, v3⟩ := zjn p2
 obtain ⟨l1, l2, l3, l4⟩ := zjv h
 have hu : nodeUp (tickN x) = true := zhu p1 v1 p3 p4 p5
 refine ⟨hu, ?_, fun m hm => ?_⟩
 ·have h1 : (shareOf (tickN x)).1.length ≤ x.items.length := by
   unfold shareOf
   rw [hu]
   exact List.length_filterMap_le ..
  have h2 := (za2 v1).2.2.1
  simp [tickM, greetV]
  omega
 ·rcases List.mem_append.1 hm with hm | hm
  ·obtain ⟨to, ht, rfl⟩ := List.mem_map.1 hm
   obtain ⟨a, b⟩ := z34 v1 ht
   refine ⟨a, fun i hi => ?_⟩
   rcases b i hi with rfl | hi
   ·exact .inl rfl
   ·exact .inr ((zhs p2 i).1 hi)
  ·obtain ⟨a, b⟩ := zz0 hu hm
   refine ⟨a, fun i hi => ?_⟩
   rcases b i hi with rfl | hi
   ·exact .inl rfl
   ·exact .inr ((zhs p2 i).1 hi)
end Go.AM
/- AM: every act: the world that it makes may be, and its nodes forget nothing. -/
namespace Go.AM
set_option linter.unusedSimpArgs false
set_option linter.unusedVariables false
set_option maxRecDepth 8000
set_option maxHeartbeats 0
def Acted (w : Wld) (a : Act) : Prop := ∃ v, Den PP 20 [wldD w, actD a] [] (.tup [wldD v, .int .i64 0]) [] ∧ May v ∧ Step w a v
theorem zib {w : Wld} {a : Act} (h : May w) (hd : Den PP 20 [wldD w, actD a] [] (.tup [wldD w, .int .i64 0]) []) : Acted w a :=
 ⟨w, hd, h, zhn h rfl fun _ _ _ hL => ⟨hL.1, hL.2.1⟩⟩
theorem zfq {w : Wld} {a : Act} (h : mayA w a = true) (hk : a.kind ≠ 1 ∧ a.kind ≠ 2 ∧ a.kind ≠ 3) : isN a.node w.nodes = true := by
 unfold mayA at h
 rw [if_neg (by omega)] at h
 split at h
 ·cases h
 ·rename_i hn
  cases hi : isN a.node w.nodes with
  | true => rfl
  | false => exact absurd (.inr (.inr hi)) hn
theorem zol {w : Wld} {a : Act} (h : mayA w a = true) (hk : a.kind = 1 ∨ a.kind = 2 ∨ a.kind = 3) : 0 ≤ a.pick ∧ a.pick ≤ 65535 := by
 unfold mayA at h
 rw [if_pos hk] at h
 simpa using h
theorem z86 {w : Wld} {a : Act} (hi : a.ids.length ≤ cap) (hw : worldMay w = true) (h : mayA w a = true) (hk : a.kind = 0) : Acted w a := by
 have hM := zcy.1 hw
 have hn := zfq h (by omega)
 obtain ⟨x, hx, hid⟩ := zif hn
 have hr := zay hM.nodes a.node
 have hxm := List.mem_of_getElem? hx
 cases hu : nodeUp x with
 | false => exact zib hM (z4k w a hi hw h hk (zub w a x (zat hw) hr hn hx hu))
 | true =>
   obtain ⟨t1, t2, t3⟩ := z7o hu
   have hv := (zcb hu).2.1
   have hin : ∀ i, i = x.view.id ∨ i ∈ namesV x.view → i ∈ idsN w.nodes := by
    rintro i (rfl | hi)
    ·exact zjx.2 ⟨x, hxm, rfl⟩
    ·exact hM.inN x hxm i hi
   have hn1 : ∀ i ∈ namedN (tickN x), i ∈ idsN w.nodes := fun i hi => hin i (.inr ((zhs hv i).1 hi))
   have hms : ∀ m ∈ tickM x, msgMay m = true ∧ ∀ i ∈ namedM m, i ∈ idsN w.nodes := fun m hm => ⟨(t3 m hm).1, fun i hi => hin i ((t3 m hm).2 i hi)⟩
   have m1 := hM.set hx (zf8 t1) rfl hn1 hM.len hM.inM
   have m2 := hM.set hx (zf8 t1) rfl hn1 t2 hms
   have e := zlp (y := tickN x) hx rfl
   have ms := m1.send (ms := tickM x) fun m hm => ⟨(hms m hm).1, fun i hi => by show i ∈ idsN (w.nodes.set _ _); rw [e]; exact (hms m hm).2 i hi⟩
   refine ⟨_, z49 w a hi hw h hk _ _ _ (z4t w a x (zat hw) hr hn hx hu (zcy.2 m1) (zcy.2 m2)), ms, ?_⟩
   refine zg3 hM hx rfl ⟨rfl, fun _ _ => zh9 (zev (hM.node hxm)).2.2.1, fun _ _ n hn => (zhs hv n).2 hn⟩ fun _ _ _ hL => ⟨rfl, ?_, ?_, hL.2.1⟩
   ·obtain ⟨e1, e2⟩ := hL.2.2 x hxm
    exact ⟨by show ageL x.view.peers = []; rw [e1]; rfl, by show agedP (lostL x.view.peers) x.view.passive = []; rw [e1, e2]; rfl⟩
   ·obtain ⟨e1, e2⟩ := hL.2.2 x hxm
    have g0 : greetV (ageV x.view) = [] := by
     show (ageL x.view.peers).map Peer.id ++ agedP (lostL x.view.peers) x.view.passive = []
     rw [e1, e2]; rfl
    have s0 : (shareOf (tickN x)).1 = [] := by
     apply List.eq_nil_iff_forall_not_mem.2
     intro m hm
     obtain ⟨a1, a2⟩ := zz0 t1 hm
     have : ∀ i ∈ namedM m, i = x.view.id := fun i hi => by
      rcases a2 i hi with h1 | h1
      ·exact h1
      ·have := (zhs hv i).1 h1
       simp [namesV, e1, e2] at this
     have f1 := this m.from_ (by simp [namedM])
     have f2 := this m.to (by simp [namedM])
     simp only [msgMay, Bool.and_eq_true, Bool.not_eq_true', decide_eq_false_iff_not] at a1
     exact a1.2.2.1 (f1.trans f2.symm)
    have : tickM x = [] := by simp [tickM, g0, s0]
    rw [this]
    simp [sendW, hL.1]
theorem z9a {w : Wld} {a : Act} (hi : a.ids.length ≤ cap) (hw : worldMay w = true) (h : mayA w a = true) (hk : a.kind = 2) : Acted w a := by
 have hM := zcy.1 hw
 obtain ⟨h0, hp⟩ := zol h (by omega)
 by_cases he : w.packets = []
 ·exact zib hM (z4n w a hi hw h hk (zwh w a he))
 ·have hlt := zxv he h0
  obtain ⟨m, hm⟩ : ∃ m, w.packets[pickP w a]? = some m := ⟨_, List.getElem?_eq_getElem hlt⟩
  refine ⟨⟨w.nodes, w.cuts, leftP w (pickP w a)⟩, z3a w a hi hw h hk _ (z3t w a m (zat hw) (zar hw).2.2.1 h0 hp hm), hM.packs (by have := hM.len; simp [leftP]; omega) (fun u hu => hM.inM u (zzp hu)), ?_⟩
  exact zhn hM rfl fun _ _ _ hL => absurd hL.1 he
theorem z9h {w : Wld} {a : Act} (hi : a.ids.length ≤ cap) (hw : worldMay w = true) (h : mayA w a = true) (hk : a.kind = 3) : Acted w a := by
 have hM := zcy.1 hw
 obtain ⟨h0, hp⟩ := zol h (by omega)
 by_cases he : w.packets = []
 ·exact zib hM (z5i w a hi hw h hk (zta w a he))
 ·have hlt := zxv he h0
  obtain ⟨m, hm⟩ : ∃ m, w.packets[pickP w a]? = some m := ⟨_, List.getElem?_eq_getElem hlt⟩
  have hms : ∀ u ∈ [m], msgMay u = true ∧ ∀ i ∈ namedM u, i ∈ idsN w.nodes := fun u hu => by rw [List.mem_singleton.1 hu]; exact hM.inM m (List.mem_of_getElem? hm)
  refine ⟨_, z38 w a hi hw h hk _ _ _ (z01 w a m hw h0 hp hm (zcy.2 (hM.packs (by simp) hms))), hM.send hms, ?_⟩
  exact zhn hM rfl fun _ _ _ hL => absurd hL.1 he
theorem z80 {w : Wld} {a : Act} (hi : a.ids.length ≤ cap) (hw : worldMay w = true) (h : mayA w a = true) (hk : a.kind = 4) : Acted w a := by
 have hM := zcy.1 hw
 have hn := zfq h (by omega)
 have ho : isN a.other w.nodes = true ∧ a.node ≠ a.other := by
  unfold mayA at h
  rw [if_neg (by omega)] at h
  split at h
  ·cases h
  ·rw [if_pos (.inl hk)] at h
   simpa using h
 obtain ⟨Z, hZ, hd⟩ := z6x w a (zat hw)
 rcases hZ with ⟨rfl, _⟩ | ⟨rfl, he⟩
 ·exact zib hM (z2b w a hi hw h hk hd)
 ·have hin := (zge hM.nodes).1 hn
  have hio := (zge hM.nodes).1 ho.1
  have ha : askMay w.cuts a.node a.other = true := zf9.2 ⟨hM.cuts, hM.place hin, hM.place hio, ho.2⟩
  obtain ⟨cs, e, c1, c2⟩ : ∃ cs, withC w.cuts a.node a.other = (cs, 0) ∧ cutsMay cs = true ∧ ∀ y, y ∈ cs ↔ y = cutAB a.node a.other ∨ y ∈ w.cuts := by
   rcases z03 ha with e | e
   ·rw [e] at he; exact absurd he (by decide)
   ·exact e
  rw [e] at hd
  refine ⟨⟨w.nodes, cs, w.packets⟩, z5o w a hi hw h hk cs hd, ⟨hM.nodes, c1, hM.len, hM.inN, fun c hc i hi => ?_, hM.inM⟩, zhn hM rfl fun h4 => absurd hk h4⟩
  rcases (c2 c).1 hc with rfl | hc
  ·simp only [namedC, cutAB, List.mem_cons, List.not_mem_nil, or_false] at hi
   rcases hi with rfl | rfl
   ·have e : min a.node a.other = a.node ∨ min a.node a.other = a.other := by omega
    rcases e with e | e <;> (rw [e]; assumption)
   ·have e : max a.node a.other = a.node ∨ max a.node a.other = a.other := by omega
    rcases e with e | e <;> (rw [e]; assumption)
  ·exact hM.inC c hc i hi
theorem z9g {w : Wld} {a : Act} (hi : a.ids.length ≤ cap) (hw : worldMay w = true) (h : mayA w a = true) (hk : a.kind = 5) : Acted w a := by
 have hM := zcy.1 hw
 have hn := zfq h (by omega)
 have ho : isN a.other w.nodes = true ∧ a.node ≠ a.other := by
  unfold mayA at h
  rw [if_neg (by omega)] at h
  split at h
  ·cases h
  ·rw [if_pos (.inr hk)] at h
   simpa using h
 have hin := (zge hM.nodes).1 hn
 have hio := (zge hM.nodes).1 ho.1
 have ha : askMay w.cuts a.node a.other = true := zf9.2 ⟨hM.cuts, hM.place hin, hM.place hio, ho.2⟩
 have e : withoutC w.cuts a.node a.other = (w.cuts.filter fun x => !decide (x = cutAB a.node a.other), 0) := by unfold withoutC; rw [if_pos ha]
 have hd := z22 w a (zat hw)
 rw [e] at hd
 simp only at hd
 exact ⟨⟨w.nodes, w.cuts.filter fun x => !decide (x = cutAB a.node a.other), w.packets⟩, z5c w a hi hw h hk _ hd, ⟨hM.nodes, zqh hM.cuts, hM.len, hM.inN, fun c hc i hi => hM.inC c (List.mem_filter.1 hc).1 i hi, hM.inM⟩, zhn hM rfl fun _ h5 => absurd hk h5⟩
theorem zob {w : Wld} {a : Act} {p : Nat} {cs : List D} {y : Node} (h : Den PP 20 [wldD w, actD a] [] (.tup [.agg [.sl ((w.nodes.map Node.cells).set p cs) w.nodes.length, .sl (w.cuts.map Cut.row) w.cuts.length, .sl (w.packets.map Msg.row) w.packets.length], .int .i64 0]) []) (hc : cs.map D.nrm = y.cells) :
 Den PP 20 [wldD w, actD a] [] (.tup [wldD ⟨w.nodes.set p y, w.cuts, w.packets⟩, .int .i64 0]) [] := by
 have := zz2 h
 have e1 : nrmLL ((w.nodes.map Node.cells).set p cs) = (w.nodes.set p y).map Node.cells := by
  rw [zdp, List.map_set, hc, List.map_set, List.map_map]
  congr 1
  apply List.map_congr_left
  intro x _
  simp [Node.cells, peersD, intsD, itemsD, toldsD]
 simp only [D.nrm, nrmL, e1] at this
 simpa [wldD, Wld.cells, nodesD, cutsD, msgsD] using this
theorem zq4 (x : Node) : x.cells.map D.nrm = x.cells := by simp [Node.cells, peersD, intsD, itemsD, toldsD]
theorem zqc (x : Node) : ∀ d ∈ x.cells, lowD 0 d = true := zru 0 x
def crashN (id : Int) : Node := ⟨false, ⟨id, [], []⟩, [], []⟩
theorem z2v {id : Int} (h : place id = true) : nodeMay (crashN id) = true := by
 have hv : viewMay (⟨id, [], []⟩ : View) = true := zhm (zbn.2 ⟨h, by simp, by simp, List.Pairwise.nil⟩) (by rfl) (by simp) (by simp)
 simp [nodeMay, crashN, hv, emptyN]
 rfl
theorem z8v {w : Wld} {a : Act} (hi : a.ids.length ≤ cap) (hw : worldMay w = true) (h : mayA w a = true) (hk : a.kind = 6) : Acted w a := by
 have hM := zcy.1 hw
 have hn := zfq h (by omega)
 obtain ⟨x, hx, hid⟩ := zif hn
 have hpl := hM.place ((zge hM.nodes).1 hn)
 have hd := z5v w a hi hw h hk _ _ (List.all_eq_true.1 rfl) (z1q w a (zat hw) (zay hM.nodes a.node) hn)
 refine ⟨_, zob hd (y := crashN a.node) rfl, hM.set hx (z2v hpl) hid.symm (fun i hi => by simp [namedN, crashN] at hi) hM.len hM.inM, ?_⟩
 exact zg3 hM hx rfl ⟨hid.symm, (fun _ h => by cases h), (fun _ h => by cases h)⟩ fun _ _ _ hL => ⟨rfl, ⟨rfl, rfl⟩, hL.1, hL.2.1⟩
theorem z9l {w : Wld} {a : Act} (hi : a.ids.length ≤ cap) (hw : worldMay w = true) (h : mayA w a = true) (hk : a.kind = 7) : Acted w a := by
 have hM := zcy.1 hw
 have hn := zfq h (by omega)
 obtain ⟨x, hx, hid⟩ := zif hn
 have hr := zay hM.nodes a.node
 cases hu : x.up with
 | true => exact zib hM (z3x w a hi hw h hk (ztl w a x (zat hw) hr hn hx hu))
 | false =>
   have hids : a.ids.length ≤ 16 ∧ ∀ y ∈ a.ids, isN y w.nodes = true := by
    unfold mayA at h
    rw [if_neg (by omega)] at h
    split at h
    ·cases h
    ·try rw [if_neg (by omega)] at h
     try rw [if_pos hk] at h
     simp only [Bool.and_eq_true, decide_eq_true_eq, Bool.not_eq_true'] at h
     refine ⟨h.1, fun y hy => ?_⟩
     have := List.any_eq_false.1 h.2 y hy
     simpa using this
   have hin : ∀ y ∈ a.ids, y ∈ idsN w.nodes := fun y hy => (zge hM.nodes).1 (hids.2 y hy)
   have hpl := hM.place ((zge hM.nodes).1 hn)
   have hpp : ∀ y ∈ a.ids, place y = true := fun y hy => hM.place (hin y hy)
   obtain ⟨s1, s2, s3⟩ := zp6 (id := a.node) hpp hids.1
   have hlow : ∀ d ∈ [D.bool true, D.int .i64 a.node, D.nil, newZ a.node a.ids, D.nil, D.nil], lowD 0 d = true := by
    intro d hd
    simp only [List.mem_cons, List.not_mem_nil, or_false] at hd
    rcases hd with rfl | rfl | rfl | rfl | rfl | rfl
    ·rfl
    ·rfl
    ·rfl
    ·unfold newZ; split <;> rfl
    ·rfl
    ·rfl
   have hd := z32 w a hi hw h hk _ _ hlow (z08 w a x (zat hw) hr hn hx hu hpl hpp hids.1)
   have hv : viewMay (⟨a.node, [], newP a.node a.ids⟩ : View) = true := zhm (zbn.2 ⟨hpl, by simp, by simp, List.Pairwise.nil⟩) s1 (by simp; omega) (fun y hy => ⟨((s3 y).1 hy).2, by simp⟩)
   have hmay : nodeMay (newN a.node a.ids) = true := by
    simp [nodeMay, newN, hv]
    rfl
   refine ⟨_, zob hd (y := newN a.node a.ids) (by simp [newN, Node.cells, peersD, intsD, itemsD, toldsD, zz4 hpp hids.1]), hM.set hx hmay hid.symm (fun i hi => ?_) hM.len hM.inM, ?_⟩
   ·have hi : i ∈ newP a.node a.ids := by simpa [namedN, newN] using hi
    exact hin i ((s3 i).1 hi).1
   ·exact zg3 hM hx rfl ⟨hid.symm, (fun h _ => by rw [hu] at h; cases h), (fun h _ => by rw [hu] at h; cases h)⟩ fun _ _ h7 => absurd hk h7
theorem z46 {x : Node} {i : Item} (h : nodeMay x = true) (hu : nodeUp x = true) (hw : wrAll x i = true) : nodeMay (wrN x i) = true ∧ NRel x (wrN x i) ∧ (wrN x i).view = x.view := by
 obtain ⟨e1, e2, e3, e4⟩ := qbj hw
 obtain ⟨h1, h2, h3, h4, h5⟩ := zcb hu
 have hv : (wrN x i).view = x.view := rfl
 refine ⟨zf8 (zhu h1 h2 (by rw [e3]; exact e4) h4 h5), ⟨rfl, fun _ _ => by rw [e3]; exact zra e1, fun _ _ n hn => hn⟩, hv⟩
theorem zzd {x : Node} {i : Item} (h : wrAll x i = true) : nodeUp x = true := by
 have := (ze7 h).1
 simp only [wrMay, Bool.and_eq_true] at this
 exact this.1
theorem z8h {w : Wld} {a : Act} (hi : a.ids.length ≤ cap) (hw : worldMay w = true) (h : mayA w a = true) (hk : a.kind = 8) : Acted w a := by
 have hM := zcy.1 hw
 have hn := zfq h (by omega)
 obtain ⟨x, hx, hid⟩ := zif hn
 have hr := zay hM.nodes a.node
 have hxm := List.mem_of_getElem? hx
 cases hb : wrAll x (putI a.key a.value) with
 | false => exact zib hM (z45 w a hi hw h hk (zwg w a x (zat hw) hr hn hx hb))
 | true =>
   obtain ⟨m1, m2, m3⟩ := z46 (hM.node hxm) (zzd hb) hb
   have hd := z5q w a hi hw h hk _ _ (zqc _) (zyc w a x (zat hw) hr hn hx hb)
   refine ⟨_, zob hd (zq4 _), hM.set hx m1 m2.id (fun i hi => hM.inN x hxm i hi) hM.len hM.inM, ?_⟩
   exact zg3 hM hx rfl m2 fun _ _ _ hL => ⟨rfl, hL.2.2 x hxm, hL.1, hL.2.1⟩
theorem z82 {w : Wld} {a : Act} (hi : a.ids.length ≤ cap) (hw : worldMay w = true) (h : mayA w a = true) (hk : a.kind = 9) : Acted w a := by
 have hM := zcy.1 hw
 have hn := zfq h (by omega)
 obtain ⟨x, hx, hid⟩ := zif hn
 have hr := zay hM.nodes a.node
 have hxm := List.mem_of_getElem? hx
 cases hb : wrAll x (dropI a.key) with
 | false => exact zib hM (z5r w a hi hw h hk (zsf w a x (zat hw) hr hn hx hb))
 | true =>
   obtain ⟨m1, m2, m3⟩ := z46 (hM.node hxm) (zzd hb) hb
   have hd := z3w w a hi hw h hk _ _ (zqc _) (zuu w a x (zat hw) hr hn hx hb)
   refine ⟨_, zob hd (zq4 _), hM.set hx m1 m2.id (fun i hi => hM.inN x hxm i hi) hM.len hM.inM, ?_⟩
   exact zg3 hM hx rfl m2 fun _ _ _ hL => ⟨rfl, hL.2.2 x hxm, hL.1, hL.2.1⟩
end Go.AM
/- AM: every act, the rest: a get, a packet delivered. -/
namespace Go.AM
set_option linter.unusedSimpArgs false
set_option linter.unusedVariables false
set_option maxRecDepth 8000
set_option maxHeartbeats 0
theorem z48 {x : Node} {t : Told} (hu : nodeUp x = true) (ht : toldOdd t = false) : nodeMay { x with log := logOf x t } = true ∧ NRel x { x with log := logOf x t } := by
 obtain ⟨h1, h2, h3, h4, h5⟩ := zcb hu
 obtain ⟨l1, l2⟩ := z69 h4 h5 ht
 exact ⟨zf8 (zhu h1 h2 h3 l1 l2), ⟨rfl, fun _ _ => zh9 h3, fun _ _ n hn => hn⟩⟩
theorem qaf {x : Node} {k : Int} (hu : nodeUp x = true) (hk : place k = true) (hne : (ownerV x.view k).1 ≠ x.view.id) : msgMay (askOf x (ownerV x.view k).1 k) = true ∧ ∀ i ∈ namedM (askOf x (ownerV x.view k).1 k), i = x.view.id ∨ i ∈ namesV x.view := by
 obtain ⟨h1, h2, h3, h4, h5⟩ := zcb hu
 have hown := zmy h2 hk
 rw [hown] at hne ⊢
 simp only at hne ⊢
 rcases zwv x.view k with h6 | ⟨q, hq, hqt⟩
 ·exact absurd h6 hne
 ·have hqp := (zcs (za2 h2).1 q hq).1
  rw [hqt] at hqp
  refine ⟨by simp [msgMay, askOf, zdx h2, hqp, Ne.symm hne, hk], fun i hi => ?_⟩
  simp only [namedM, askOf, List.mem_cons, List.not_mem_nil, or_false] at hi
  rcases hi with rfl | rfl
  ·exact .inl rfl
  ·exact .inr (zdc.2 (.inl ⟨q, hq, hqt⟩))
theorem z54 {w : Wld} {a : Act} (hi : a.ids.length ≤ cap) (hw : worldMay w = true) (h : mayA w a = true) (hk : a.kind = 10) : Acted w a := by
 have hM := zcy.1 hw
 have hn := zfq h (by omega)
 obtain ⟨x, hx, hid⟩ := zif hn
 have hr := zay hM.nodes a.node
 have hxm := List.mem_of_getElem? hx
 have hin : ∀ i, i = x.view.id ∨ i ∈ namesV x.view → i ∈ idsN w.nodes := by
  rintro i (rfl | hi)
  ·exact zjx.2 ⟨x, hxm, rfl⟩
  ·exact hM.inN x hxm i hi
 cases hb : (nodeUp x && place a.key) with
 | false => exact zib hM (z0n w a hi hw h hk (zxl w a x (zat hw) hr hn hx hb))
 | true =>
   simp only [Bool.and_eq_true] at hb
   obtain ⟨hu, hkey⟩ := hb
   obtain ⟨p1, p2, p3, p4, p5⟩ := zcb hu
   by_cases ho : (ownerV x.view a.key).1 = x.view.id
   ·have ht : toldOdd (gotT x a.key) = false := by
     refine zvl hkey fun hh => ?_
     rcases z36 p3 a.key with e | ⟨i, _, _, hi, e⟩
     ·rw [e] at hh; cases hh
     ·rw [e]; exact hi
    obtain ⟨m1, m2⟩ := z48 hu ht
    have q1 := hM.set hx m1 rfl (fun i hi => hM.inN x hxm i hi) hM.len hM.inM
    have q2 := hM.set hx m1 rfl (fun i hi => hM.inN x hxm i hi) (ps := []) (by simp) (by simp)
    refine ⟨_, zr7 w a hi hw h hk _ _ _ (zvv w a x (zat hw) hr hn hx hu hkey ho (zcy.2 q1) (zcy.2 q2)), q1.send (by simp), ?_⟩
    exact zg3 hM hx rfl m2 fun _ _ _ hL => ⟨rfl, hL.2.2 x hxm, by simp [sendW, hL.1], hL.2.1⟩
   ·obtain ⟨a1, a2⟩ := qaf hu hkey ho
    have hms : ∀ m ∈ [askOf x (ownerV x.view a.key).1 a.key], msgMay m = true ∧ ∀ i ∈ namedM m, i ∈ idsN w.nodes := fun m hm => by
     rw [List.mem_singleton.1 hm]
     exact ⟨a1, fun i hi => hin i (a2 i hi)⟩
    have e := zlp (y := x) hx rfl
    have q1 := hM.set hx (hM.node hxm) rfl (fun i hi => hM.inN x hxm i hi) hM.len hM.inM
    have q2 := hM.set hx (hM.node hxm) rfl (fun i hi => hM.inN x hxm i hi) (ps := [askOf x (ownerV x.view a.key).1 a.key]) (by simp) hms
    refine ⟨_, zr7 w a hi hw h hk _ _ _ (zud w a x (zat hw) hr hn hx hu hkey ho (zcy.2 q1) (zcy.2 q2)), q1.send (fun m hm => ⟨(hms m hm).1, fun i hi => by show i ∈ idsN (w.nodes.set _ _); rw [e]; exact (hms m hm).2 i hi⟩), ?_⟩
    refine zg3 hM hx rfl (zjf (hM.node hxm)) fun _ _ _ hL => ?_
    obtain ⟨e1, e2⟩ := hL.2.2 x hxm
    rcases zwv x.view a.key with h6 | ⟨q, hq, _⟩
    ·rw [zmy p2 hkey] at ho; exact absurd h6 ho
    ·rw [e1] at hq; cases hq
theorem z8b {w : Wld} {a : Act} (hi : a.ids.length ≤ cap) (hw : worldMay w = true) (h : mayA w a = true) (hk : a.kind = 1) : Acted w a := by
 have hM := zcy.1 hw
 obtain ⟨h0, hp⟩ := zol h (by omega)
 by_cases he : w.packets = []
 ·exact zib hM (z5g w a hi hw h hk (zm4 w a he))
 have hlt := zxv he h0
 obtain ⟨m, hm⟩ : ∃ m, w.packets[pickP w a]? = some m := ⟨_, List.getElem?_eq_getElem hlt⟩
 obtain ⟨mm, hnm⟩ := hM.inM m (List.mem_of_getElem? hm)
 have hto : m.to ∈ idsN w.nodes := hnm m.to (by simp [namedM])
 have hn := (zge hM.nodes).2 hto
 obtain ⟨x, hx, hid⟩ := zif hn
 have hr := zay hM.nodes m.to
 have hxm := List.mem_of_getElem? hx
 have hll : (leftP w (pickP w a)).length ≤ 512 := by have := hM.len; simp [leftP]; omega
 have hlm : ∀ u ∈ leftP w (pickP w a), msgMay u = true ∧ ∀ i ∈ namedM u, i ∈ idsN w.nodes := fun u hu => hM.inM u (zzp hu)
 have hC : Step w a ⟨w.nodes, w.cuts, leftP w (pickP w a)⟩ := zhn hM rfl fun _ _ _ hL => absurd hL.1 he
 cases hcut : (isC w.cuts m.from_ m.to).1 with
 | true => exact ⟨⟨w.nodes, w.cuts, leftP w (pickP w a)⟩, zvb w a hi hw h hk _ (zn5 w a m hw h0 hp hm hr hcut), hM.packs hll hlm, hC⟩
 | false =>
   cases hb : doB x m with
   | false => exact ⟨⟨w.nodes, w.cuts, leftP w (pickP w a)⟩, zvb w a hi hw h hk _ (zpz w a m x hw h0 hp hm hr hcut hn hx hb), hM.packs hll hlm, hC⟩
   | true =>
     obtain ⟨hu, _, hmt⟩ := zes hb
     obtain ⟨p1, p2, p3, p4, p5⟩ := zcb hu
     have fin : ∀ (y : Node) (ms : List Msg), nodeMay y = true → NRel x y → (∀ i ∈ namedN y, i ∈ idsN w.nodes) → (∀ u ∈ ms, msgMay u = true ∧ ∀ i ∈ namedM u, i ∈ idsN w.nodes) → ms.length ≤ 512 →
      (worldMay ⟨w.nodes.set (posN m.to w.nodes) y, w.cuts, leftP w (pickP w a)⟩ = true → worldMay ⟨w.nodes.set (posN m.to w.nodes) y, w.cuts, ms⟩ = true →
        Den PP 60 [.ptr 0 0 0, .ptr 4 0 0] (actB w a) (.tup []) (doS ⟨w.nodes.set (posN m.to w.nodes) y, w.cuts, leftP w (pickP w a)⟩ (sendW ⟨w.nodes.set (posN m.to w.nodes) y, w.cuts, leftP w (pickP w a)⟩ ms) w.packets a)) → Acted w a := by
      intro y ms hy hrel hny hms hml hd
      have q1 := hM.set hx hy hrel.id hny hll hlm
      have q2 := hM.set hx hy hrel.id hny hml hms
      have e := zlp (y := y) hx hrel.id
      refine ⟨_, z3o w a hi hw h hk _ _ _ (hd (zcy.2 q1) (zcy.2 q2)), q1.send (fun u hu => ⟨(hms u hu).1, fun i hi => by show i ∈ idsN (w.nodes.set _ _); rw [e]; exact (hms u hu).2 i hi⟩), ?_⟩
      exact zg3 hM hx rfl hrel fun _ _ _ hL => absurd hL.1 he
     have hnx : ∀ i ∈ namedN x, i ∈ idsN w.nodes := hM.inN x hxm
     rcases z2k mm with hkm | hkm | hkm | hkm
     ·have hok := zs4 hu mm hkm hmt
      obtain ⟨v1, v2⟩ := zm5 hok
      obtain ⟨n1, n2⟩ := zux x.view m.from_ m.ids
      refine fin { x with view := helloV x.view m.from_ m.ids } [] (zf8 (zhu p1 v1 p3 p4 p5)) ⟨v2, fun _ _ => zh9 p3, fun _ _ n hn => n2 n hn⟩ (fun i hi => ?_) (by simp) (by simp) (zqz w a m x hw h0 hp hm hr hcut hn hx hb hkm)
      rcases n1 i hi with rfl | hi | hi
      ·exact hnm m.from_ (by simp [namedM])
      ·exact hnm i (by simp [namedM, hi])
      ·exact hnx i hi
     ·have hrel : NRel x (takeI x m.item) := by
       unfold takeI
       split
       ·rename_i h6
        obtain ⟨_, _, h7, h8⟩ := zte h6
        exact ⟨rfl, fun _ _ => by show Better x.items (putR x.items m.item).1; rw [h7]; exact zra p3, fun _ _ n hn => hn⟩
       ·exact zjf (hM.node hxm)
      have hvw : (takeI x m.item).view = x.view := by unfold takeI; split <;> rfl
      refine fin (takeI x m.item) [] (zf8 (z62 hu)) hrel (fun i hi => ?_) (by simp) (by simp) (zqy w a m x hw h0 hp hm hr hcut hn hx hb hkm)
      have hi : i ∈ namesV (takeI x m.item).view := hi
      rw [hvw] at hi
      exact hnx i hi
     ·refine fin x [tellOf x m] (hM.node hxm) (zjf (hM.node hxm)) hnx (fun u hu' => ?_) (by simp) (zqq w a m x hw h0 hp hm hr hcut hn hx hb hkm)
      rw [List.mem_singleton.1 hu']
      have mm' := mm
      simp [msgMay, hkm] at mm'
      obtain ⟨f1, f2, f3, ⟨⟨_, f4⟩, _⟩, _⟩ := mm'
      have hne : ¬ x.view.id = m.from_ := fun e => f3 (by rw [hmt]; exact e.symm)
      constructor
      ·rw [hmt] at f2
       rcases z36 p3 m.key with e | ⟨i, _, hik, hi, e⟩
       ·simp [msgMay, tellOf, e, f1, f2, f4, hne]
       ·simp [msgMay, tellOf, e, f1, f2, f4, hne, hi, hik]
      ·intro i hi
       simp only [namedM, tellOf, List.mem_cons, List.not_mem_nil, or_false] at hi
       rcases hi with rfl | rfl
       ·exact zjx.2 ⟨x, hxm, rfl⟩
       ·exact hnm m.from_ (by simp [namedM])
     ·have ht : toldOdd (mT m) = false := by
       have mm' := mm
       simp [msgMay, hkm] at mm'
       obtain ⟨_, _, _, ⟨_, f4⟩, f5⟩ := mm'
       refine zvl f4 fun hh => ?_
       rw [hh] at f5
       simp at f5
       exact f5.1
      obtain ⟨l1, l2⟩ := z48 hu ht
      exact fin { x with log := logOf x (mT m) } [] l1 l2 hnx (by simp) (by simp) (zq0 w a m x hw h0 hp hm hr hcut hn hx hb hkm)
theorem acted {w : Wld} {a : Act} (hi : a.ids.length ≤ cap) (hw : worldMay w = true) (h : mayA w a = true) : Acted w a := by
 by_cases hk : a.kind < 0 ∨ 10 < a.kind
 ·unfold mayA at h
  rw [if_neg (by omega), if_pos (by omega)] at h
  cases h
 ·have hk2 : a.kind = 0 ∨ a.kind = 1 ∨ a.kind = 2 ∨ a.kind = 3 ∨ a.kind = 4 ∨ a.kind = 5 ∨ a.kind = 6 ∨ a.kind = 7 ∨ a.kind = 8 ∨ a.kind = 9 ∨ a.kind = 10 := by omega
  rcases hk2 with hk | hk | hk | hk | hk | hk | hk | hk | hk | hk | hk
  ·exact z86 hi hw h hk
  ·exact z8b hi hw h hk
  ·exact z9a hi hw h hk
  ·exact z9h hi hw h hk
  ·exact z80 hi hw h hk
  ·exact z9g hi hw h hk
  ·exact z8v hi hw h hk
  ·exact z9l hi hw h hk
  ·exact z8h hi hw h hk
  ·exact z82 hi hw h hk
  ·exact z54 hi hw h hk
end Go.AM
/- AM: contracts: the document's answer to what world may be. -/
namespace Go.AM
set_option linter.unusedSimpArgs false
set_option linter.unusedVariables false
set_option maxRecDepth 8000
set_option maxHeartbeats 0
def hasN (id : Int) (x : Node) : Bool := decide (x.view.id = id)
theorem z6c {ns : List Node} {id : Int} : ns.any (hasN id) = true ↔ id ∈ idsN ns := by
 simp [hasN, idsN]
theorem qak (ns : List Node) (id : Int) (hl : ns.length ≤ cap) : Den PP 18 [nodesD ns, .int .i64 id] [] (.int .i64 (gIdx (hasN id) 0 ns)) [] := by
 obtain ⟨A, hA⟩ : ∃ A, gIdx (hasN id) 0 ns = A := ⟨_, rfl⟩
 unfold cap at hl
 refine zah [] [] znb ?_
 simp -implicitDefEqProofs [ziu, nodesD, hA]
 refine za7 ns (fun i rest => fun ⟨fr, bs⟩ => bs = [] ∧ fr 0 = nodesD ns ∧ fr 1 = .int .i64 id ∧ fr 5 = .int .i64 i ∧ gIdx (hasN id) i rest = A)
  (fun ⟨fr, bs⟩ => bs = [] ∧ A = -1) (fun ⟨fr, bs⟩ => fr 4 = .int .i64 A) zgg.eq_1 ?_ ?_ ?_ ?_ ?_
 ·exact ⟨rfl, rfl, rfl, rfl, hA⟩
 ·rintro i ⟨fr, bs⟩ hi ⟨rfl, h0, h1, h5, he⟩
  simp -implicitDefEqProofs [h0, h1, h5, hi, nodesD]
  simpa [gIdx] using he.symm
 ·rintro i a rest ⟨fr, bs⟩ hlt hget hg hd hd2 ⟨rfl, h0, h1, h5, he⟩
  have hlt' : (i : Int) < ns.length := by omega
  have hw := za1 (n := i) (by omega)
  simp only [gIdx] at he
  by_cases ha : a.view.id = id
  ·have hh : hasN id a = true := by simp [hasN, ha]
   rw [if_pos hh] at he
   simp -implicitDefEqProofs [h0, h1, h5, hlt, hlt', hget, hg, nodesD, Node.cells, peersD, intsD, itemsD, toldsD, ha]
   exact he
  ·have hh : ¬ hasN id a = true := by simp [hasN, ha]
   rw [if_neg hh] at he
   simp -implicitDefEqProofs [h0, h1, h5, hlt, hlt', hget, hg, nodesD, Node.cells, peersD, intsD, itemsD, toldsD, ha]
   exact ⟨zax (by omega) (by omega), he⟩
 ·rintro ⟨fr, bs⟩ ⟨rfl, h1⟩
  simp -implicitDefEqProofs [h1]
 ·rintro ⟨fr, bs⟩ h
  simp -implicitDefEqProofs [h]
theorem qag (ns : List Node) (id : Int) : decide (gIdx (hasN id) 0 ns < 0) = !ns.any (hasN id) := by
 rw [← zst (hasN id) ns 0]
 by_cases h : 0 ≤ gIdx (hasN id) 0 ns
 ·simp [h]
 ·simp [h]; omega
end Go.AM
/- AM: contracts: a new world; worlds held against each other. -/
namespace Go.AM
set_option linter.unusedSimpArgs false
set_option linter.unusedVariables false
set_option maxRecDepth 8000
set_option maxHeartbeats 0
theorem zwe (ids : List Int) (hl : ids.length ≤ cap) (h : ((decide (1 ≤ ids.length) && decide (ids.length ≤ 8)) && passiveMay ids) = false) : Den PP 47 [intsD ids] [] (.tup [.agg [.nil, .nil, .nil], .int .i64 2300]) [] := by
 have c1 := zgj ids hl
 generalize passiveMay ids = M at *
 simp only [intsD] at c1 ⊢
 refine zah [] [] znk ?_
 simp -implicitDefEqProofs [zkw]
 by_cases h0 : ids.length = 0
 ·have h1 : ids = [] := List.length_eq_zero_iff.1 h0
  subst h1
  simp -implicitDefEqProofs
 ·have h1 : ¬ ids = [] := by intro e; rw [e] at h0; simp at h0
  have h2 : 1 ≤ ids.length := by omega
  by_cases h8 : ids.length ≤ 8
  ·have h9 : ¬ 8 < (ids.length : Int) := by omega
   have h10 : ¬ 8 < ids.length := by omega
   simp [h2, h8] at h
   subst h
   simp -implicitDefEqProofs [h0, h1, h9, h10]
   refine zaa c1 ?_
   simp -implicitDefEqProofs
  ·have h9 : 8 < (ids.length : Int) := by omega
   have h10 : 8 < ids.length := by omega
   simp -implicitDefEqProofs [h0, h1, h9, h10]
def newR (id : Int) : List D := [.bool true, .int .i64 id, .nil, .nil, .nil, .nil]
@[simp] theorem z94 (S : Nat → Bool) (id : Int) : (newR id).map (D.sweep S) = newR id := rfl
@[simp] theorem qad (fr fp : Nat → Nat → Nat → D) (id : Int) : (newR id).map (D.mapR fr fp) = newR id := rfl
@[simp] theorem qbx (id : Int) : idsL (newR id) = [] := rfl
@[simp] theorem qbf (id : Int) : ridsL (newR id) = [] := rfl
def newW (ids : List Int) : Wld := ⟨ids.map fun id => newN id [], [], []⟩
theorem z4e (ids : List Int) (h0 : 1 ≤ ids.length) (h8 : ids.length ≤ 8) (hp : passiveMay ids = true) : Den PP 47 [intsD ids] [] (.tup [wldD (newW ids), .int .i64 0]) [] := by
 have c1 := zgj ids (by unfold cap; omega)
 rw [hp] at c1
 have hpl := zd1 hp
 suffices hh : Den PP 47 [intsD ids] [] (.tup [.agg [.ref 0 0 ids.length, .nil, .nil], .int .i64 0]) [⟨ids.map newR, 6, .mut⟩] by
  have h1 := zz2 (zba hh)
  have e1 : nrmLL (ids.map newR) = (ids.map fun id => newN id []).map Node.cells := by
   rw [zdp, List.map_map, List.map_map]
   apply List.map_congr_left
   intro id _
   simp [newR, newN, newP, Node.cells, peersD, intsD, itemsD, toldsD]
  simpa [D.freeze, D.mapR, mapRL, frzRef, e1, wldD, Wld.cells, newW, nodesD, cutsD, msgsD] using h1
 have a1 : ¬ ids = [] := by intro e; rw [e] at h0; simp at h0
 have a2 : ¬ 8 < ids.length := by omega
 have a3 : ¬ (ids.length : Int) = 0 := by omega
 have a4 : ¬ (8 : Int) < ids.length := by omega
 have a5 : ¬ ids.length = 0 := by omega
 simp only [intsD] at c1 ⊢
 refine zah [] [] znk ?_
 simp -implicitDefEqProofs [zkw, a1, a2, a3, a4, a5]
 refine zaa c1 ?_
 simp -implicitDefEqProofs
 refine zqe ids (fun i rest => fun ⟨fr, bs⟩ => (i = 0 ∧ bs = [⟨[[.nil, .nil, .nil]], 3, .box⟩, ⟨[[.nil, .nil, .nil]], 3, .box⟩] ∨ 0 < i ∧ bs = [⟨[[.nil, .nil, .nil]], 3, .box⟩, ⟨[[.ref 2 0 i, .nil, .nil]], 3, .box⟩, ⟨(ids.take i).map newR, 6, .mut⟩]) ∧ fr 2 = .ptr 0 0 0 ∧ fr 4 = .ptr 1 0 0 ∧ fr 23 = .sl (ids.map irow) ids.length ∧ fr 24 = .int .i64 ids.length ∧ fr 25 = .int .i64 i)
  (fun ⟨fr, bs⟩ => bs = [⟨[[.nil, .nil, .nil]], 3, .box⟩, ⟨[[.ref 2 0 ids.length, .nil, .nil]], 3, .box⟩, ⟨ids.map newR, 6, .mut⟩] ∧ fr 2 = .ptr 0 0 0 ∧ fr 4 = .ptr 1 0 0) (fun _ => False) zkj.eq_1 ?_ ?_ ?_ ?_ ?_
 ·exact ⟨.inl ⟨rfl, rfl⟩, rfl, rfl, rfl, rfl, rfl⟩
 ·rintro i ⟨fr, bs⟩ hi ⟨hb, h2, h4, h23, h24, h25⟩
  rcases hb with ⟨h, _⟩ | ⟨h, rfl⟩
  ·omega
  ·subst hi
   rw [List.take_length] at *
   simp -implicitDefEqProofs [h2, h4, h23, h24, h25]
 ·rintro i id rest ⟨fr, bs⟩ hlt hget hg hd hd2 ⟨hb, h2, h4, h23, h24, h25⟩
  have hlt' : (i : Int) < ids.length := by omega
  have hw : IntKind.wrap .i64 ((i : Int) + 1) = (i : Int) + 1 := zax (by omega) (by omega)
  have c2 := zzy id [] (hpl id (List.mem_of_getElem? hget)) (by simp) (by simp)
  have e1 : ids.take (i + 1) = ids.take i ++ [id] := by rw [List.take_add_one, hget]; rfl
  rw [show newZ id [] = .nil from rfl] at c2
  have c2 : Den PP 133 [.int .i64 id, .nil] [] _ _ := zc5 (by simp only [List.map_cons, List.map_nil, D.nrm]; exact c2)
  have e2 : List.take (i + 1) (List.map newR ids) = List.take i (List.map newR ids) ++ [newR id] := by rw [← List.map_take, e1, List.map_append, ← List.map_take]; rfl
  have hr2 : List.range 2 = [0, 1] := rfl
  rcases hb with ⟨rfl, rfl⟩ | ⟨h0, rfl⟩
  ·simp only [Nat.zero_add, List.take_zero, List.nil_append] at e2
   simp -implicitDefEqProofs [h2, h4, h23, h24, h25, hlt, hlt', hget, hg, irow]
   refine zaa c2 ?_
   simp -implicitDefEqProofs [h2, h4, h23, h24, h25]
   refine ⟨by simp [Fits], ?_⟩
   refine ⟨[4], ⟨by simp, by simp, by simp⟩, ?_⟩
   unfold keepSt pickSt
   dsimp only
   simp [lentBs, hr2, h2, h4, h23, h24, h25, e2, newR]
   exact zax (by omega) (by omega)
  ·simp -implicitDefEqProofs [h2, h4, h23, h24, h25, hlt, hlt', hget, hg, irow]
   refine zaa c2 ?_
   simp -implicitDefEqProofs [h2, h4, h23, h24, h25]
   refine ⟨by simp [Fits], ?_⟩
   refine zag ⟨by omega, by omega⟩ ?_
   refine zag (by omega) ?_
   simp -implicitDefEqProofs [h2, h4, h23, h24, h25, hw]
   refine ⟨[2], ⟨by simp, by simp, by simp⟩, ?_⟩
   unfold keepSt pickSt
   dsimp only
   simp [lentBs, hr2, h2, h4, h23, h24, h25, hw, e2, sweepF]
   rfl
 ·rintro ⟨fr, bs⟩ ⟨rfl, h2, h4⟩
  simp -implicitDefEqProofs [h2, h4]
 ·rintro ⟨fr, bs⟩ h
  exact h.elim
theorem zn4 : Den PP 134 [.nil, .nil] [] (.bool true) [] := by
 refine zah [] [] ziw ?_
 simp -implicitDefEqProofs [zfl]
 refine za7 ([] : List Int) (fun i rest => fun ⟨fr, bs⟩ => fr 0 = .nil ∧ fr 5 = .int .i64 0) (fun ⟨fr, bs⟩ => True) (fun _ => False) zen.eq_1 ?_ ?_ ?_ ?_ ?_
 ·exact ⟨rfl, rfl⟩
 ·rintro i ⟨fr, bs⟩ hi ⟨h0, h5⟩
  simp -implicitDefEqProofs [h0, h5]
 ·rintro i a rest ⟨fr, bs⟩ hlt
  simp at hlt
 ·rintro ⟨fr, bs⟩ _
  simp -implicitDefEqProofs
 ·rintro ⟨fr, bs⟩ h
  exact h.elim
theorem zmt : Den PP 48 [.agg [.nil, .nil, .nil], .agg [.nil, .nil, .nil]] [] (.bool true) [] := by
 have c2 : Den PP 31 [.nil, .nil] [] (.bool true) [] := zc5 (by simpa [msgsD] using zur [] [] (by unfold cap16; simp) (by simp))
 refine zah [] [] zh0 ?_
 simp -implicitDefEqProofs [ze3]
 refine za7 ([] : List Int) (fun i rest => fun ⟨fr, bs⟩ => bs = [⟨[[.nil, .nil, .nil]], 3, .box⟩, ⟨[[.nil, .nil, .nil]], 3, .box⟩] ∧ fr 2 = .ptr 0 0 0 ∧ fr 3 = .ptr 1 0 0 ∧ fr 5 = .int .i64 0) (fun ⟨fr, bs⟩ => bs = [⟨[[.nil, .nil, .nil]], 3, .box⟩, ⟨[[.nil, .nil, .nil]], 3, .box⟩] ∧ fr 2 = .ptr 0 0 0 ∧ fr 3 = .ptr 1 0 0) (fun _ => False) zed.eq_1 ?_ ?_ ?_ ?_ ?_
 ·exact ⟨rfl, rfl, rfl, rfl⟩
 ·rintro i ⟨fr, bs⟩ hi ⟨rfl, h2, h3, h5⟩
  simp -implicitDefEqProofs [h2, h3, h5]
 ·rintro i a rest ⟨fr, bs⟩ hlt
  simp at hlt
 ·rintro ⟨fr, bs⟩ ⟨rfl, h2, h3⟩
  simp -implicitDefEqProofs [h2, h3]
  refine zaa zn4 ?_
  simp -implicitDefEqProofs [h2, h3]
  refine zaa c2 ?_
  simp -implicitDefEqProofs
 ·rintro ⟨fr, bs⟩ h
  exact h.elim
end Go.AM
/- AM: worlds, acts handed in. -/
namespace Go.AM
set_option linter.unusedSimpArgs false
set_option linter.unusedVariables false
set_option maxRecDepth 8000
set_option maxHeartbeats 0
def Msg.tame (m : Msg) : Prop := m.ids.length * 8 ≤ 140737488351232 ∧ (∀ x ∈ m.ids, in64 x) ∧ in64 m.kind ∧ in64 m.from_ ∧ in64 m.to ∧ in64 m.key ∧ m.item.tame
theorem Msg.tame.ids {m : Msg} (h : m.tame) : m.ids.length ≤ cap := by
 have := h.1
 unfold cap
 omega
def actsD (us : List Act) : D := .sl (us.map Act.cells) us.length
theorem z7k {n : Nat} {cs : List D} (h : Tell TT (n + 3) 58 cs) : ∃ a : Act, cs = a.cells ∧ a.ids.length ≤ cap := by
 unfold Tell at h
 simp [Tell.TellFs] at h
 obtain ⟨a, r1, rfl, h1, b, r2, rfl, h2, c, r3, rfl, h3, d, r4, rfl, h4, e, r5, rfl, h5, f, g, rfl, h6, h7⟩ := h
 obtain ⟨k, rfl, hk⟩ := zc3 h1
 obtain ⟨u, rfl, hu⟩ := zc3 h2
 obtain ⟨v, rfl, hv⟩ := zc3 h3
 obtain ⟨p, rfl, hp⟩ := zc3 h4
 obtain ⟨is, rfl, h8, h9⟩ := zpg h5
 obtain ⟨w, rfl, hw⟩ := zc3 h6
 obtain ⟨i, rfl, hi⟩ := zc3 h7
 exact ⟨⟨k, u, v, p, is, w, i⟩, rfl, by show is.length ≤ cap; unfold cap; omega⟩
theorem z6w {n : Nat} {d : D} (h : TellArg TT (n + 4) 63 d) : ∃ us : List Act, d = actsD us ∧ us.length ≤ cap ∧ ∀ a ∈ us, a.ids.length ≤ cap := by
 simp [TellArg] at h
 unfold Tell at h
 simp at h
 obtain ⟨rows, rfl, hl, hr⟩ := h
 obtain ⟨xs, rfl, hx⟩ := zpf (f := Act.cells) (Q := fun a => a.ids.length ≤ cap) rows fun r h => z7k (hr r h)
 exact ⟨xs, by simp [actsD], by simp at hl; unfold cap; omega, hx⟩
end Go.AM
