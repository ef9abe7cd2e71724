/- What the proof of this claim stands on, part 13. -/
import Derived.RangeFuncBox
import Derived.RangeFuncLeaves
import Derived.Shelf.Abstract
import Derived.WalkKit
import Derived.OwnWalkIn
import Derived.TacticsInMore
import Derived.LoopNIn
import Derived.LoopIn
import Derived.Maps.AppendAt
import Derived.Shelf.Small.Bits
import Derived.KernelRfl
import Derived.Test.YtehagcggdepajaaGreatAmZ12
/- AM: contracts: an iterator's values collected; how many bits a number has. -/
namespace Go.AM
set_option linter.unusedSimpArgs false
set_option linter.unusedVariables false
open Go.RowKit Go.Shelf Go.Proofs
attribute [local go_sem] Oper.semAt_some
def upto (f : Nat → Int) (k : Nat) : List Int := (List.range k).map f
theorem zvl (f : Nat → Int) (k : Nat) : upto f (k + 1) = upto f k ++ [f k] := by simp [upto, List.range_succ]
theorem zxv (f : Nat → Int) (k : Nat) : (upto f k).length = k := by simp [upto]
theorem z7z (zs : List Int) : upto (fun j => zs[j]?.getD 0) zs.length = zs := by
 apply List.ext_getElem
 ·simp [upto]
 ·intro i h1 h2
  simp [upto, h2]
theorem z4m (zs : List Int) {k : Nat} (hk : k ≤ zs.length) : upto (fun j => zs[j]?.getD 0) k = zs.take k := by
 apply List.ext_getElem
 ·simp [upto, hk]
 ·intro i h1 h2
  have : i < zs.length := by simp [upto] at h1; omega
  simp [upto, this]
set_option maxRecDepth 100000 in
set_option maxHeartbeats 2000000 in
theorem z6n (n : Nat) (hn : 1 ≤ n) (l n₀ b off len cap : Nat) (p : Addr) (zs : List Int) (hreach : len * 8 ≤ 140737488351232) (hb : b < n₀) (J Jx : List Int → World → Prop)
 (hY : ∀ pre x W, J pre W → pre.length < len → YieldAt Fence.wide (n - 1) PP l #[.int .i64 x] W fun e W' =>
   (e = .returned (.bool true) ∧ J (pre ++ [x]) W' ∧ Below n₀ W W') ∨ (e = .returned (.bool false) ∧ Jx (pre ++ [x]) W'))
 (W : World) (hBs : W.cell? p = some (.slice (some ⟨b, off, none⟩) len cap)) (hc : ∀ j, j < len → W.cell? ⟨b, off + j, none⟩ = some (.int .i64 (zs[j]?.getD 0))) (h0 : J [] W) :
 CallsIn Fence.wide n PP 202 #[.func (.yield l) #[] #[], .pointer (some p)] W fun e W' => (∃ v, e = .returned v) ∧
  ((∃ ys, ys = upto (fun j => zs[j]?.getD 0) len ∧ J ys W') ∨ (∃ pre, (∃ k, k ≤ len ∧ pre = upto (fun j => zs[j]?.getD 0) k) ∧ Jx pre W')) := by
 refine callsIn_of_wp Tryz.func202 rfl trivial ?_ rfl
 simp only [Tryz.ntmps202, List.size_toArray, List.length_cons, List.length_nil, Nat.reduceAdd, Nat.reduceSub, Array.replicate_succ, Array.replicate_zero, List.push_toArray, List.append_toArray, List.nil_append, List.cons_append]
 gi_wp2
 gi_loopw [7] (fun i wr => ∃ k : Nat, k ≤ len ∧ i = .int .i64 k ∧ J (upto (fun j => zs[j]?.getD 0) k) wr ∧ Below n₀ W wr)
  (fun i _ => len - (intOf i).toNat)
 case atStart => exact ⟨0, Nat.zero_le _, rfl, h0, Below.refl _ _⟩
 case round =>
  obtain ⟨k, hk, rfl, hJs, hnx⟩ := hrel
  have hcx : k < len → wr.cell? ⟨b, off + k, none⟩ = some (.int .i64 (zs[k]?.getD 0)) := fun h => (hnx.cell (p := ⟨b, off + k, none⟩) hb).trans (hc k h)
  by_cases hlt : k < len
  ·obtain ⟨fn, tmps, assign, body, hy, hR⟩ := hY _ (zs[k]?.getD 0) wr hJs (by rw [zxv]; exact hlt)
   have hcx' := hcx hlt
   gi_wp2
   refine hR.mono ?_
   rintro e W3 (⟨rfl, hJ3, hk3⟩ | ⟨rfl, hJx3⟩)
   ·gi_wp2
    go_roundw
    case rel => exact ⟨k + 1, by omega, by simp, by rw [zvl]; exact hJ3, hnx.trans hk3⟩
    case measure => simp [intOf]; omega
   ·gi_wp2
    refine bodyPost_ret (results_none rfl _ _ _) rfl ?_
    exact ⟨⟨_, rfl⟩, .inr ⟨_, ⟨k + 1, by omega, (zvl _ _).symm⟩, hJx3⟩⟩
  ·obtain rfl : k = len := by omega
   gi_wp2
   go_end0
   exact ⟨⟨_, rfl⟩, .inl ⟨_, rfl, hJs⟩⟩
set_option maxRecDepth 100000 in
set_option maxHeartbeats 1000000 in
theorem zy8 (n : Nat) (l cap : Nat) (p : Addr) (a : Option Addr) (J : List Int → World → Prop) (W : World) (hBs : W.cell? p = some (.slice a 0 cap)) (h0 : J [] W) :
 CallsIn Fence.wide n PP 202 #[.func (.yield l) #[] #[], .pointer (some p)] W fun e W' => (∃ v, e = .returned v) ∧ J [] W' := by
 refine callsIn_of_wp Tryz.func202 rfl trivial ?_ rfl
 simp only [Tryz.ntmps202, List.size_toArray, List.length_cons, List.length_nil, Nat.reduceAdd, Nat.reduceSub, Array.replicate_succ, Array.replicate_zero, List.push_toArray, List.append_toArray, List.nil_append, List.cons_append]
 gi_wp2
 gi_loopw [7] (fun i wr => i = .int .i64 0 ∧ J [] wr) (fun _ _ => 0)
 case atStart => exact ⟨rfl, h0⟩
 case round =>
  obtain ⟨rfl, hJs⟩ := hrel
  gi_wp2
  go_end0
  exact ⟨⟨_, rfl⟩, hJs⟩
def IntsAt (n₀ : Nat) (W : World) (sv : Value) (zs : List Int) : Prop :=
 (∃ a cap, sv = .slice a 0 cap ∧ zs = []) ∨ ∃ b off cap, sv = .slice (some ⟨b, off, none⟩) zs.length cap ∧ b < n₀ ∧ ∀ j, j < zs.length → W.cell? ⟨b, off + j, none⟩ = some (.int .i64 (zs[j]?.getD 0))
theorem IntsAt.below {n₀ : Nat} {A B : World} (h : Below n₀ A B) {sv : Value} {zs : List Int} : IntsAt n₀ A sv zs → IntsAt n₀ B sv zs
 | .inl e => .inl e
 | .inr ⟨b, off, cap, e, hb, hc⟩ => .inr ⟨b, off, cap, e, hb, fun j hj => (h.cell (p := ⟨b, off + j, none⟩) hb).trans (hc j hj)⟩
theorem zv6 (n : Nat) (hn : 1 ≤ n) (n₀ : Nat) (p : Addr) (sv : Value) (zs : List Int) (hreach : zs.length * 8 ≤ 140737488351232) (w : World) (hBs : p.block < w.heap.size) (hn₀ : n₀ ≤ w.heap.size)
 (hc : w.cell? p = some sv) (hI : IntsAt n₀ w sv zs) :
 SeqStopsK Fence.wide n PP 202 #[.pointer (some p)] (fun x : Int => #[Value.int .i64 x]) (Below n₀) (fun ys => ys = zs) (fun pre => pre <+: zs) zs.length w := fun l J Jx W hW _ _ hY h0 => by
 have hc' := (hW.cell (p := p) hBs).trans hc
 rcases hI.below (hW.mono hn₀) with ⟨a, cap, rfl, rfl⟩ | ⟨b, off, cap, rfl, hb, hcs⟩
 ·exact (zy8 n l cap p a J W hc' h0).mono fun e W' ⟨he, hj⟩ => ⟨he, .inl ⟨_, rfl, hj⟩⟩
 ·refine (z6n n hn l n₀ b off zs.length cap p zs hreach hb J Jx hY W hc' hcs h0).mono ?_
  rintro e W' ⟨he, ⟨ys, rfl, hj⟩ | ⟨pre, ⟨k, hk, rfl⟩, hj⟩⟩
  ·exact ⟨he, .inl ⟨_, z7z zs, hj⟩⟩
  ·exact ⟨he, .inr ⟨_, by rw [z4m zs hk]; exact List.take_prefix _ _, hj⟩⟩
set_option maxRecDepth 100000 in
set_option maxHeartbeats 2000000 in
theorem zp5 (n : Nat) (hn : 3 ≤ n) (p : Addr) (sv : Value) (zs : List Int) (hlen : zs.length * 8 ≤ 140737488351232) (w : World) (hp : p.block < w.heap.size) (hc : w.cell? p = some sv) (hI : IntsAt w.heap.size w sv zs) :
 CallsIn Fence.wide n PP 233 #[.slice none 0 0, .func (.func 202) #[] #[.pointer (some p)]] w fun e W' => ∃ v, e = .returned v ∧
  W'.ownsRow w.heap.size 3 1 v zs.length (zs.map (Value.int .i64)) ∧ (v = .slice none 0 0 ↔ zs = []) ∧ Below w.heap.size w W' := by
 have h1 : 1 ≤ n := by omega
 have hmax : zs.length ≤ maxLen := by simp [maxLen]; omega
 obtain ⟨i0, hi, hz0, hz1, hz2⟩ := info_parts (by kernel_rfl : (PP.info? 3).map (fun i => (i.zero, i.size, i.bytes)) = some (some (.int .i64 0), 1, 8))
 refine callsIn_of_wp_marks Tryz.func233 rfl trivial ?_ rfl
 simp only [Tryz.ntmps233, List.size_toArray, List.length_cons, List.length_nil, Nat.reduceAdd, Nat.reduceSub, Array.replicate_succ, Array.replicate_zero, List.push_toArray, List.append_toArray, List.nil_append, List.cons_append]
 gi_wp2
 have bO := Boxed.new w 36 (.slice none 0 0)
 have hB0 : Below w.heap.size w (w.alloc (.cells #[.slice none 0 0] 36)) := (Below.refl _ w).alloc (Nat.le_refl _) _
 refine wpIn_rangeFunc_ownG rfl h1 (gf := 202) (lb := #[.pointer (some p)]) rfl trivial (enters_of Tryz.func202 (by kernel_rfl) rfl)
  (zv6 (n - 1) (by omega) w.heap.size p sv zs hlen _ (by simp; omega) (by simp) ((hB0.cell (p := p) hp).trans hc) (hI.below hB0)) belowK_t (belowK_b (by simp)) (Below.refl _ _) (fun _ => rfl)
  (fun pre W => (∃ v, Boxed W w.heap.size 36 v ∧ W.ownsRow w.heap.size 3 1 v pre.length (pre.map (Value.int .i64)) ∧ (v = .slice none 0 0 ↔ pre = [])) ∧ Below w.heap.size w W)
  (fun _ _ _ => False)
  (OwnFrom.and (Own.from (holdsRow_own w.heap.size w.heap.size 36 3 1 (fun pre => pre.length) (fun pre => pre.map (Value.int .i64)) (fun pre v => v = .slice none 0 0 ↔ pre = [])) _) (ownFrom_below (Nat.le_refl _) (by simp)))
  (fun _ _ _ _ _ hs _ _ => hs)
  ⟨⟨_, bO, World.ownsRow_nil _ _ _ _, by simp⟩, hB0⟩
  (fun x => { tmps := #[.slice none 0 0, .func (.func 202) #[] #[.pointer (some p)], .pointer (some ⟨w.heap.size, 0, none⟩), Go.undef, .slice none 0 0, .int .i64 x, .func (.func 202) #[] #[.pointer (some p)], .int .i64 x, Go.undef, Go.undef, Go.undef, Go.undef, Go.undef], defers := [] }) ?assign ?body ?done ?stop
 case assign =>
  intro l x W K hK
  gi_wp2
  exact hK
 case body =>
  rintro l pre x W ⟨⟨v, hv, hrow, hnil⟩, hB⟩ hlt
  have hc := hv.cell
  gi_wp2_with (gi_at_builtin; refine wpListIn_append_own _ rfl _ _ 36 rfl w.heap.size 3 i0 (.int .i64 0) 1 8 Tryz.underlying36 hi hz0 hz1 hz2 rfl (by decide) _ _ _ rfl (hrow.alloc _) ⟨W.heap.size, 0, none⟩ 1 1 [.int .i64 x] rfl rfl (cell_one_new _ _ _) (by simp [Value.oneCell']) (by omega) (by omega) (by have := hB.size; simp; omega) ?_; intro v' w1 hown' hgrow _; obtain ⟨g', cap', rfl⟩ := ownsRow_succ hown'; obtain ⟨hv1, hv2, hr2, hk2, hb2⟩ := hv.appended (by decide) hrow hB.size (Nat.le_refl _) hown' hgrow; have hc1 := hv1.cell; have hf1 := hv1.frozen)
  exact ⟨hk2.from _, hb2, ⟨_, hv2, by simpa using hr2, by simp⟩, hB.trans hb2⟩
 case done =>
  rintro D ys W hD rfl ⟨⟨v, hv, hrow, hnil⟩, hB⟩ hK
  have hc := hv.cell
  gi_wp2
  refine ⟨by simp, .inl ⟨_, _, rfl, run_takeDeferred hK, ?_⟩⟩
  exact ⟨_, results_tmp rfl _ _ _, v, rfl, ownsRow_putObj hrow _ hK rfl, hnil, hB.trans (belowK_b (w := w) (Nat.le_refl _) W D _ _ (by simp at hD; omega) hK rfl rfl)⟩
 case stop =>
  rintro D c pre W _ _ h _
  exact h.elim
end Go.AM
/- AM: contracts: slices.Collect of a slice's values; how many bits two takes. -/
namespace Go.AM
set_option linter.unusedSimpArgs false
set_option linter.unusedVariables false
open Go.RowKit Go.Shelf Go.Proofs
attribute [local go_sem] Oper.semAt_some
set_option maxRecDepth 100000 in
set_option maxHeartbeats 2000000 in
theorem zus (n : Nat) (hn : 4 ≤ n) (p : Addr) (sv : Value) (zs : List Int) (hlen : zs.length * 8 ≤ 140737488351232) (w : World) (hp : p.block < w.heap.size) (hc : w.cell? p = some sv) (hI : IntsAt w.heap.size w sv zs) :
 CallsIn Fence.wide n PP 200 #[.func (.func 202) #[] #[.pointer (some p)]] w fun e W' => ∃ v, e = .returned v ∧
  W'.ownsRow w.heap.size 3 1 v zs.length (zs.map (Value.int .i64)) ∧ (v = .slice none 0 0 ↔ zs = []) ∧ Below w.heap.size w W' := by
 have h1 : 1 ≤ n := by omega
 have hf : Fence.wide.fn 233 := trivial
 refine callsIn_of_wp Tryz.func200 rfl trivial ?_ rfl
 simp only [Tryz.ntmps200, List.size_toArray, List.length_cons, List.length_nil, Nat.reduceAdd, Nat.reduceSub, Array.replicate_succ, Array.replicate_zero, List.push_toArray, List.append_toArray, List.nil_append, List.cons_append]
 gi_wp2_with (gi_at_call 233; refine (zp5 (n - 1) (by omega) p sv zs hlen w hp hc hI).mono ?_; rintro e w1 ⟨v, rfl, hr, hnil, hB⟩)
 go_ret
 exact ⟨_, rfl, hr, hnil, hB⟩
theorem z0f {vs : Array Value} (h : vs.size = 1) : ∃ v, vs = #[v] := by
 obtain ⟨l⟩ := vs
 match l, h with
 | [v], _ => exact ⟨v, rfl⟩
theorem zya (zs : List Int) (hne : zs ≠ []) (hlen : zs.length * 8 ≤ 140737488351232) :
 Den PP 200 [.fn 202 [] [.mem [.sl (zs.map fun z => [.int .i64 z]) zs.length]]] [] (.ref 0 0 zs.length) [⟨zs.map fun z => [.int .i64 z], 1, .mut⟩] := by
 refine ⟨⟨_, Tryz.func200, by kernel_rfl, rfl⟩, fun w M0 ρ vals hM hS hs ha => ?_⟩
 obtain ⟨v0, rfl⟩ := z0f hs
 obtain ⟨va, vc, rfl, h1, h2, -, h4⟩ := (ha 0 v0 _ (by simp) rfl).fn_inv
 obtain rfl : va = #[] := Array.eq_empty_of_size_eq_zero (by simpa using h1)
 obtain ⟨v1, rfl⟩ := z0f h2
 have hm := (h4 0 v1 _ (by simp) rfl).mem_inv
 cases hm with
 | mem g off cs vs hc hv =>
 obtain ⟨-, hcell⟩ := hc 0 (by simp)
 have hsl := hv 0 _ rfl
 have key : ∃ b o cap, vs 0 = .slice (some ⟨b, o, none⟩) zs.length cap ∧ b < w.heap.size ∧ ∀ j, j < zs.length → w.cell? ⟨b, o + j, none⟩ = some (.int .i64 (zs[j]?.getD 0)) := by
  generalize vs 0 = sv at hsl
  cases hsl with
  | sl a len cap rows esz g off vals h1 h2 hr ha hc hv =>
    have h0 : 0 < zs.length := List.length_pos_iff.2 hne
    have he : esz = 1 := by
     cases zs with
     | nil => exact absurd rfl hne
     | cons z zs => exact (hr [.int .i64 z] (by simp)).symm
    subst he
    have hcc : ∀ j, j < zs.length → w.cell? ⟨g, off + j, none⟩ = some (.int .i64 (zs[j]?.getD 0)) := by
     intro j hj
     have hx := (hc j 0 (by simpa using hj) (by omega)).2
     have hy := hv j 0 [.int .i64 zs[j]] (.int .i64 zs[j]) (by simp [hj]) rfl
     have : vals j 0 = .int .i64 zs[j] := by
      generalize vals j 0 = u at hy
      cases hy; rfl
     rw [this] at hx
     simpa [hj] using hx
    exact ⟨g, off, cap, by rw [ha (by simpa using hne)], zii (hcc 0 h0), hcc⟩
 obtain ⟨b, o, cap, hsv, hb, hcc⟩ := key
 have hcell' : w.cell? ⟨g, off + 0, none⟩ = some (vs 0) := hcell
 refine ((callsIn_wide (n := 4)).1 (zus 4 (by omega) ⟨g, off, none⟩ (vs 0) zs hlen w (zii hcell') hcell' (.inr ⟨b, o, cap, hsv, hb, hcc⟩))).mono ?_
 rintro e W' ⟨v, rfl, ⟨hl, hrow⟩, hnil, hB⟩
 rcases hrow with ⟨rfl, h0⟩ | ⟨g', cap', cur, rfl, hg, hh, hn1, hn2, hsz, htk⟩
 ·exact absurd (hnil.1 rfl) hne
 have habs : ∀ i, ρ i = .absent := fun i => hS.out i (Nat.zero_le _)
 have hcur : ∀ i, i < zs.length → cur[i]? = some (.int .i64 (zs[i]?.getD 0)) := by
  intro i hi
  have : (cur.toList.take (zs.length * 1))[i]? = (zs.map (Value.int .i64))[i]? := by rw [htk]
  rw [List.getElem?_take_of_lt (by omega)] at this
  simpa [hi] using this
 have hgw : w.heap.size ≤ g' := hg
 have hMof : ∀ (x o : Nat), Mof M0 (updL ρ 0 (.at_ g' 0 cur.size zs.length 1)) [⟨zs.map fun z => [.int .i64 z], 1, .mut⟩] x o → M0 x o ∨ x = g' := by
  rintro x o (h | ⟨i, k, base, n, rl, esz, hi, hat, -⟩)
  ·exact .inl h
  ·by_cases h0 : i = 0
   ·subst h0
    rw [za2] at hat
    cases hat
    exact .inr rfl
   ·rw [zbg _ _ h0, habs] at hat
    cases hat
 refine ⟨_, updL ρ 0 (.at_ g' 0 cur.size zs.length 1), rfl, ?_, ?_, by simp, fun i hi => absurd hi (by simp), ?_, ?_⟩
 ·have := Rep.ref (w := W') (M := Mof M0 (updL ρ 0 (.at_ g' 0 cur.size zs.length 1)) [⟨zs.map fun z => [.int .i64 z], 1, .mut⟩]) 0 0 zs.length cap' g' 0 cur.size zs.length 1 (za2 ρ 0 _) (by omega) (by omega) (by omega)
  simpa using this
 ·refine ⟨?_, ?_, ?_, ?_, ?_⟩
  ·intro i k g2 base n rl esz hi hat
   by_cases h0 : i = 0
   ·subst h0
    rw [za2] at hat
    cases hat
    cases hi
    refine ⟨by simp, rfl, by simp, by omega, cur, 3, hh, Nat.le_refl _, ?_⟩
    intro kk j r d hr hd
    rw [List.getElem?_map] at hr
    cases hz : zs[kk]? with
    | none => simp [hz] at hr
    | some z =>
      simp [hz] at hr
      subst hr
      cases j with
      | succ j => simp at hd
      | zero =>
        simp at hd
        subst hd
        have hlt := (List.getElem?_eq_some_iff.1 hz).1
        exact ⟨_, by simpa using hcur kk hlt, by rw [hz]; exact .int _ _⟩
   ·rw [zbg _ _ h0, habs] at hat
    cases hat
  ·intro i k hi hv
   by_cases h0 : i = 0
   ·subst h0
    rw [za2] at hv
    cases hv
   ·rw [zbg _ _ h0, habs] at hv
    cases hv
  ·intro i hi
   have : i ≠ 0 := by simp at hi; omega
   rw [zbg _ _ this]
   exact habs i
  ·intro i j g2 base n rl esz base' n' rl' esz' hi hj
   have hz : ∀ i, ∀ {base n rl esz}, updL ρ 0 (.at_ g' 0 cur.size zs.length 1) i = .at_ g2 base n rl esz → i = 0 := by
    intro i base n rl esz h
    by_cases h0 : i = 0
    ·exact h0
    ·rw [zbg _ _ h0, habs] at h
     cases h
   rw [hz i hi, hz j hj]
  ·intro i g2 base n rl esz hi o hm
   by_cases h0 : i = 0
   ·subst h0
    rw [za2] at hi
    cases hi
    have := hM _ _ hm
    omega
   ·rw [zbg _ _ h0, habs] at hi
    cases hi
 ·intro x o v hn hv
  have hx := zii hv
  refine ⟨fun hm => ?_, (hB.cell (p := ⟨x, o, none⟩) hx).trans hv⟩
  rcases hMof _ _ hm with h | h
  ·exact hn (.inl h)
  ·subst h; omega
 ·refine ⟨hB.size, hB.os, hB.tape, hB.output, fun g2 h2 _ => hB.block g2 h2, ?_⟩
  intro i g2 base n rl esz _ hi
  by_cases h0 : i = 0
  ·subst h0
   rw [za2] at hi
   cases hi
   exact hgw
  ·rw [zbg _ _ h0, habs] at hi
   cases hi
set_option maxRecDepth 100000 in
set_option maxHeartbeats 2000000 in
theorem z68 (w : World) : Calls PP 253 #[.int .u64 2] w fun e w' => e = .returned (.int .i64 2) ∧ w' = w := by
 go_enter Tryz.func253, Tryz.ntmps253
 go_wp2
 all_goals go_ret
 all_goals refine ⟨congrArg Ending.returned (congrArg (Value.int IntKind.i64) ?_), rfl⟩
 all_goals first | decide | kernel_rfl | rfl
set_option maxRecDepth 100000 in
set_option maxHeartbeats 2000000 in
theorem qaw (w : World) : Calls PP 235 #[.int .u64 2] w fun e w' => e = .returned (.int .i64 2) ∧ w' = w := by
 go_enter Tryz.func235, Tryz.ntmps235
 go_wp2_with (go_at_call 253; refine (z68 _).mono ?_; rintro e w' ⟨rfl, rfl⟩)
 all_goals go_ret
 all_goals exact ⟨rfl, rfl⟩
theorem qas : Den PP 235 [.int .u64 2] [] (.int .i64 2) [] := by
 refine ⟨⟨_, Tryz.func235, by kernel_rfl, rfl⟩, fun w M0 ρ vals hM hS hs ha => ?_⟩
 obtain ⟨v0, rfl⟩ := z0f hs
 obtain rfl := (ha 0 v0 _ (by simp) rfl).int_inv
 refine (qaw w).mono ?_
 rintro e w' ⟨rfl, rfl⟩
 exact ⟨_, ρ, rfl, .imm _ _ (.int _ _), hS, Nat.le_refl _, fun _ _ => rfl, Pres.refl _ _, ⟨Nat.le_refl _, rfl, rfl, rfl, fun _ _ _ => rfl, fun i g base n rl esz hi hat => by rw [hS.out i hi] at hat; cases hat⟩⟩
end Go.AM
/- AM: awake: the program's own first answers, reckoned out. -/
namespace Go.AM
set_option linter.unusedSimpArgs false
set_option linter.unusedVariables false
set_option maxRecDepth 100000
theorem zz5 {n : Nat} {rows : List (List D)} (h : (rows.all fun r => Nat.beq r.length n && r.all D.isCell) = true) : Fits n rows := by
 intro r hr
 have := List.all_eq_true.1 h r hr
 simp only [Bool.and_eq_true, Nat.beq_eq] at this
 exact this
theorem ztk {rows : List (List D)} (h : (rows.all fun r => r.all D.still) = true) : StillR rows :=
 fun r hr d hd => List.all_eq_true.1 (List.all_eq_true.1 h r hr) d hd
abbrev i (n : Int) : D := .int .i64 n
def xtab : List XR := [
 ⟨11, [12, 13, 18, 23, 27, 29, 48, 52, 56, 64, 69, 74, 82], [], [], []⟩,
 ⟨14, [16, 46, 59, 65], [], [], []⟩,
 ⟨15, [], [], [], []⟩,
 ⟨20, [9, 13, 17, 47], [46], [], []⟩,
 ⟨21, [7, 11, 12, 29, 34], [], [], []⟩,
 ⟨23, [5, 10, 16, 19, 21], [], [], []⟩,
 ⟨28, [10, 14, 27, 44], [43], [], []⟩,
 ⟨37, [15, 19, 23, 39, 46], [], [], []⟩,
 ⟨38, [12, 16, 22, 38, 44, 48], [], [], []⟩,
 ⟨39, [12, 17, 32], [], [], []⟩,
 ⟨40, [28, 32, 43], [], [], []⟩,
 ⟨41, [12, 16, 32, 37, 39, 52, 57, 61], [38, 60], [], []⟩,
 ⟨49, [5], [], [], []⟩,
 ⟨50, [5], [], [], []⟩,
 ⟨51, [9, 12, 14, 15, 17], [], [], []⟩,
 ⟨52, [5], [], [], []⟩,
 ⟨53, [], [], [], []⟩,
 ⟨57, [6, 9, 12, 30], [], [], []⟩,
 ⟨58, [43, 58, 84, 93, 99, 108], [], [], []⟩,
 ⟨59, [10, 15, 26], [8, 24], [], []⟩,
 ⟨60, [16, 37, 46, 52, 63], [14, 41, 61], [], []⟩,
 ⟨70, [17], [], [], []⟩,
 ⟨76, [13], [], [], []⟩,
 ⟨77, [14, 19, 39], [], [], []⟩,
 ⟨78, [10], [], [], []⟩,
 ⟨79, [7], [], [], []⟩,
 ⟨80, [25], [], [], []⟩,
 ⟨81, [8], [], [], []⟩,
 ⟨82, [11], [], [], []⟩,
 ⟨84, [7], [], [], []⟩,
 ⟨85, [6, 11, 28, 38, 45, 49, 55, 59, 70, 74, 83], [], [], []⟩,
 ⟨86, [5, 8, 11], [], [], []⟩,
 ⟨87, [15], [], [], []⟩,
 ⟨108, [], [], [], []⟩,
 ⟨109, [8, 13, 30], [], [], []⟩,
 ⟨110, [5, 8], [], [], []⟩,
 ⟨111, [13], [], [], []⟩,
 ⟨113, [24], [], [], []⟩,
 ⟨114, [9, 13, 17, 23], [], [], []⟩,
 ⟨115, [13], [], [], []⟩,
 ⟨116, [7], [], [], []⟩,
 ⟨118, [], [], [], []⟩,
 ⟨119, [12], [], [], []⟩,
 ⟨120, [7, 11, 17, 27, 43], [], [], []⟩,
 ⟨121, [17], [], [], []⟩,
 ⟨122, [10], [], [], []⟩,
 ⟨123, [5, 9, 14], [], [], []⟩,
 ⟨124, [], [], [], []⟩,
 ⟨132, [13], [], [], []⟩,
 ⟨135, [28], [], [], []⟩,
 ⟨136, [7, 16, 17], [], [], []⟩,
 ⟨137, [], [], [], []⟩,
 ⟨138, [6, 14], [], [], []⟩,
 ⟨139, [7, 10], [8], [], []⟩,
 ⟨140, [], [], [], []⟩,
 ⟨141, [], [], [], []⟩,
 ⟨142, [], [], [], []⟩,
 ⟨143, [], [], [], []⟩,
 ⟨144, [], [], [], []⟩,
 ⟨145, [], [], [], []⟩,
 ⟨146, [6, 19], [], [], []⟩,
 ⟨147, [12], [], [], []⟩,
 ⟨149, [], [], [], []⟩,
 ⟨150, [15], [], [], []⟩,
 ⟨151, [11], [], [], []⟩,
 ⟨152, [35], [], [], []⟩,
 ⟨153, [14], [], [], []⟩,
 ⟨163, [4], [], [], []⟩,
 ⟨164, [7], [], [], []⟩,
 ⟨165, [16], [], [], []⟩,
 ⟨166, [30, 46], [], [], []⟩,
 ⟨167, [9], [], [], []⟩,
 ⟨168, [8, 10], [], [], []⟩,
 ⟨169, [], [], [], []⟩,
 ⟨170, [], [], [], []⟩,
 ⟨181, [9, 24, 40, 47], [], [], []⟩,
 ⟨182, [10], [], [], []⟩,
 ⟨183, [], [], [], []⟩,
 ⟨184, [], [], [], []⟩,
 ⟨187, [], [], [], []⟩,
 ⟨188, [8, 17, 18], [], [], []⟩,
 ⟨189, [16], [], [], []⟩,
 ⟨190, [], [], [], []⟩,
 ⟨191, [8, 12, 17, 19], [17], [17], []⟩,
 ⟨192, [13, 17, 26, 31, 39], [34], [34], []⟩,
 ⟨193, [15], [], [], []⟩,
 ⟨194, [7], [], [], []⟩,
 ⟨195, [14], [], [], []⟩,
 ⟨199, [11, 32], [], [], []⟩,
 ⟨201, [11, 13], [7], [], []⟩,
 ⟨203, [8, 11, 12], [], [], []⟩,
 ⟨204, [], [], [], []⟩,
 ⟨205, [], [], [], []⟩,
 ⟨206, [13, 17, 22, 35], [], [], []⟩,
 ⟨207, [10, 24, 34], [30], [30], []⟩,
 ⟨208, [12, 16, 21, 40, 44], [], [], []⟩,
 ⟨215, [16], [], [], []⟩,
 ⟨216, [], [], [], []⟩,
 ⟨223, [26], [], [], []⟩,
 ⟨227, [11, 15, 16], [], [], []⟩,
 ⟨228, [30, 46], [], [], []⟩,
 ⟨229, [], [], [], []⟩,
 ⟨234, [30, 37, 44, 52, 61, 80, 94, 103, 111, 134, 146], [26, 33, 40, 48, 57, 76, 98, 106, 129, 140], [], []⟩,
 ⟨237, [30, 46], [], [], []⟩,
 ⟨244, [32], [], [], []⟩]
theorem qah : (xtab.all fun x => x.ovl.isEmpty && (SFof PP x.f x.lend).isSome) = true := by kernel_rfl
def LH : List (Nat × List D × D × List Blk) := [
 (200, [.fn 202 [] [.mem [.sl [[i 3], [i 9]] 2]]], .ref 0 0 2, [⟨[[i 3], [i 9]], 1, .mut⟩]),
 (235, [.int .u64 2], i 2, [])]
def LG : List (Nat × List (List D) × Nat × List D × List (List D)) := [
 (236, [[i 0, i 3, i 9, .sl [] 0, i 0, i 0, i 0, i 0, i 0, .bool false, .bool false]], 11, [i 0, i 1], []),
 (225, [], 1, [.fn 224 [] [.mem [i 3]]], []),
 (226, [], 2, [i 0, .sl [[i 3, i 0]] 1], [[i 3, i 0]]),
 (236, [[i 0, i 3, i 9, .sl [] 0, i 0, i 0, i 0, i 0, i 0, .bool false, .bool false], [i 0, i 9, i 3, .sl [[i 3]] 1, i 0, i 0, i 0, i 0, i 0, .bool false, .bool false]], 11, [i 0, i 1], [[i 0, i 9, i 3, .sl [[i 3]] 1, i 0, i 0, i 0, i 0, i 0, .bool false, .bool false]]),
 (236, [[i 0, i 9, i 3, .sl [[i 3]] 1, i 0, i 0, i 0, i 0, i 0, .bool false, .bool false]], 11, [i 0, i 1], []),
 (225, [[i 9]], 1, [.fn 224 [] [.mem [i 9]]], []),
 (226, [], 2, [i 0, .sl [[i 9, i 0]] 1], [[i 9, i 0]])]
theorem LH_ok : ∀ x ∈ LH, Den PP x.1 x.2.1 [] x.2.2.1 x.2.2.2 := by
 intro x hx
 simp only [LH, List.mem_cons, List.not_mem_nil, or_false] at hx
 rcases hx with rfl | rfl
 ·exact zya [3, 9] (by simp) (by simp)
 ·exact qas
theorem LG_ok : ∀ x ∈ LG, GivesC (DenF PP [0]) x.1 x.2.1 x.2.2.1 x.2.2.2.1 x.2.2.2.2 := by
 intro x hx
 simp only [LG, List.mem_cons, List.not_mem_nil, or_false] at hx
 rcases hx with rfl | rfl | rfl | rfl | rfl | rfl | rfl
 ·exact zkt _ 0 (zz5 rfl) (ztk rfl) (by simp) (by simp)
 ·exact zhn [] 224 [.mem [.int .i64 3]] (fun a => decide (a = 3)) ⟨fun _ => rfl, fun _ _ => rfl, fun a _ => zfn 3 a⟩ (by simp)
 ·exact zlo [] _ 0 (by intro r hr; cases hr) (by intro r hr; cases hr) (by intro r hr; rw [List.mem_singleton.1 hr]; exact ⟨rfl, rfl⟩) (fun d hd => List.all_eq_true.1 (rfl : List.all _ D.still = true) d hd) (by simp) (by simp)
 ·exact zkt _ 0 (zz5 rfl) (ztk rfl) (by simp) (by simp)
 ·exact zkt _ 0 (zz5 rfl) (ztk rfl) (by simp) (by simp)
 ·exact zhn [9] 224 [.mem [.int .i64 9]] (fun a => decide (a = 9)) ⟨fun _ => rfl, fun _ _ => rfl, fun a _ => zfn 9 a⟩ (by simp)
 ·exact zlo [] _ 0 (by intro r hr; cases hr) (by intro r hr; cases hr) (by intro r hr; rw [List.mem_singleton.1 hr]; exact ⟨rfl, rfl⟩) (fun d hd => List.all_eq_true.1 (rfl : List.all _ D.still = true) d hd) (by simp) (by simp)
noncomputable def mkX (fe : FE) (n : Nat) : Cfg := cfx n fe.own fe.lend fe.give [] fe.ovl
noncomputable abbrev XX (L : List (Nat × List D × D × List Blk)) : XC := run mkX (tabX PP xtab) (known L) (knownG LG) 1000 40
theorem ztr (L : List (Nat × List D × D × List Blk)) (hL : ∀ x ∈ L, Den PP x.1 x.2.1 [] x.2.2.1 x.2.2.2) (f : Nat) (args : List D) (bs : List Blk) (r : D) (bs' : List Blk) (h : XX L f args bs = some (r, bs')) : Den PP f args bs r bs' := by
 refine z4f (C := Den PP) (fun _ _ => rfl) (fun fe n f rows esz rest R hR => zv7 LG LG_ok _ _ _ _ _ hR) (zxs L hL) ?_ ?_ 40 f args bs r bs' h
 ·intro f fe args bs r bs' hfe h
  unfold tabX at hfe
  split at hfe
  ·rename_i x hx
   cases hfe
   obtain ⟨hm, rfl⟩ := z5e _ _ _ hx
   have hk := List.all_eq_true.1 qah x hm
   simp only [Bool.and_eq_true, List.isEmpty_iff] at hk
   refine zgy x.own x.lend x.give x.ovl (fun f hf => by rw [hk.1] at hf; exact absurd hf List.not_mem_nil) (zys hk.2) ?_
   simpa only [mkX] using h
  ·cases hfe
 ·intro f x r nbs hx h1 h2
  have key : Den PP f [.sl [] 0] [] r nbs := zoi (pre := []) (post := []) h1 h2
  unfold D.empty at hx
  split at hx
  ·exact zdv (by simpa using key)
  ·exact key
  ·cases hx
theorem chkL {L M : List (Nat × List D × D × List Blk)} (hL : ∀ x ∈ L, Den PP x.1 x.2.1 [] x.2.2.1 x.2.2.2) (h : chkX (XX L) M = true) : ∀ x ∈ M ++ L, Den PP x.1 x.2.1 [] x.2.2.1 x.2.2.2 := by
 intro x hx
 rcases List.mem_append.1 hx with h1 | h1
 ·exact z1h (C := Den PP) h (fun f args r nbs h => ztr L hL _ _ _ _ _ h) x h1
 ·exact hL x h1
def VW1 : List (Nat × List D × D × List Blk) := [
 (23, [.agg [.sl [[.bool true, i 3, .nil, .sl [[i 9]] 1, .sl [[i 5, i 1, i 3, i 7, .bool false]] 1, .nil], [.bool true, i 9, .nil, .sl [] 0, .nil, .nil]] 2, .nil, .nil]], .bool true, []),
 (23, [.agg [.sl [[.bool true, i 3, .sl [] 0, .sl [[i 9]] 1, .sl [[i 5, i 1, i 3, i 7, .bool false]] 1, .sl [] 0], [.bool true, i 9, .sl [] 0, .sl [] 0, .sl [] 0, .sl [] 0]] 2, .sl [] 0, .sl [] 0]], .bool true, []),
 (23, [.agg [.sl [[.bool true, i 3, .sl [] 0, .sl [[i 9]] 1, .sl [[i 5, i 1, i 3, i 7, .bool false]] 1, .sl [] 0], [.bool true, i 9, .sl [] 0, .sl [] 0, .sl [] 0, .sl [] 0]] 2, .sl [] 0, .sl [[i 0, i 3, i 9, .sl [] 0, i 0, i 0, i 0, i 0, i 0, .bool false, .bool false]] 1]], .bool true, []),
 (23, [.agg [.sl [[.bool true, i 3, .sl [] 0, .sl [[i 9]] 1, .sl [[i 5, i 1, i 3, i 7, .bool false]] 1, .sl [] 0], [.bool true, i 9, .sl [[i 3, i 0]] 1, .sl [] 0, .sl [] 0, .sl [] 0]] 2, .sl [] 0, .sl [] 0]], .bool true, []),
 (23, [.agg [.sl [[.bool true, i 3, .sl [] 0, .sl [[i 9]] 1, .sl [[i 5, i 1, i 3, i 7, .bool false]] 1, .sl [] 0], [.bool true, i 9, .sl [[i 3, i 0]] 1, .sl [] 0, .sl [] 0, .sl [] 0]] 2, .sl [] 0, .nil]], .bool true, []),
 (23, [.agg [.sl [[.bool true, i 3, .sl [] 0, .sl [[i 9]] 1, .sl [[i 5, i 1, i 3, i 7, .bool false]] 1, .sl [] 0], [.bool true, i 9, .sl [[i 3, i 0]] 1, .sl [] 0, .sl [] 0, .sl [] 0]] 2, .sl [] 0, .sl [[i 0, i 3, i 9, .sl [] 0, i 0, i 0, i 0, i 0, i 0, .bool false, .bool false]] 1]], .bool true, [])]
theorem ck_W1 : chkX (XX LH) VW1 = true := by kernel_rfl
abbrev LW1 : List (Nat × List D × D × List Blk) := VW1 ++ LH
theorem qci : ∀ x ∈ LW1, Den PP x.1 x.2.1 [] x.2.2.1 x.2.2.2 := chkL LH_ok ck_W1
def VW2 : List (Nat × List D × D × List Blk) := [
 (23, [.agg [.sl [[.bool true, i 3, .sl [] 0, .sl [[i 9]] 1, .sl [[i 5, i 1, i 3, i 7, .bool false]] 1, .sl [] 0], [.bool true, i 9, .sl [[i 3, i 1]] 1, .sl [] 0, .sl [] 0, .sl [] 0]] 2, .sl [] 0, .sl [[i 0, i 3, i 9, .sl [] 0, i 0, i 0, i 0, i 0, i 0, .bool false, .bool false]] 1]], .bool true, []),
 (23, [.agg [.sl [[.bool true, i 3, .sl [] 0, .sl [[i 9]] 1, .sl [[i 5, i 1, i 3, i 7, .bool false]] 1, .sl [] 0], [.bool true, i 9, .sl [[i 3, i 1]] 1, .sl [] 0, .sl [] 0, .sl [] 0]] 2, .sl [] 0, .sl [[i 0, i 9, i 3, .sl [[i 3]] 1, i 0, i 0, i 0, i 0, i 0, .bool false, .bool false]] 1]], .bool true, []),
 (23, [.agg [.sl [[.bool true, i 3, .sl [] 0, .sl [[i 9]] 1, .sl [[i 5, i 1, i 3, i 7, .bool false]] 1, .sl [] 0], [.bool true, i 9, .sl [[i 3, i 1]] 1, .sl [] 0, .sl [] 0, .sl [] 0]] 2, .sl [] 0, .sl [[i 0, i 3, i 9, .sl [] 0, i 0, i 0, i 0, i 0, i 0, .bool false, .bool false], [i 0, i 9, i 3, .sl [[i 3]] 1, i 0, i 0, i 0, i 0, i 0, .bool false, .bool false]] 2]], .bool true, []),
 (23, [.agg [.sl [[.bool true, i 3, .sl [] 0, .sl [[i 9]] 1, .sl [[i 5, i 1, i 3, i 7, .bool false]] 1, .sl [] 0], [.bool true, i 9, .sl [[i 3, i 0]] 1, .sl [] 0, .sl [] 0, .sl [] 0]] 2, .sl [] 0, .sl [[i 0, i 9, i 3, .sl [[i 3]] 1, i 0, i 0, i 0, i 0, i 0, .bool false, .bool false]] 1]], .bool true, []),
 (23, [.agg [.sl [[.bool true, i 3, .sl [[i 9, i 0]] 1, .sl [] 0, .sl [[i 5, i 1, i 3, i 7, .bool false]] 1, .sl [] 0], [.bool true, i 9, .sl [[i 3, i 0]] 1, .sl [] 0, .sl [] 0, .sl [] 0]] 2, .sl [] 0, .sl [] 0]], .bool true, []),
 (23, [.agg [.sl [[.bool true, i 3, .sl [[i 9, i 0]] 1, .sl [] 0, .sl [[i 5, i 1, i 3, i 7, .bool false]] 1, .sl [] 0], [.bool true, i 9, .sl [[i 3, i 0]] 1, .sl [] 0, .sl [] 0, .sl [] 0]] 2, .sl [] 0, .nil]], .bool true, [])]
theorem ck_W2 : chkX (XX LW1) VW2 = true := by kernel_rfl
abbrev LW2 : List (Nat × List D × D × List Blk) := VW2 ++ LW1
theorem qbv : ∀ x ∈ LW2, Den PP x.1 x.2.1 [] x.2.2.1 x.2.2.2 := chkL qci ck_W2
def VA1 : List (Nat × List D × D × List Blk) := [
 (20, [.agg [.sl [[.bool true, i 3, .sl [] 0, .sl [[i 9]] 1, .sl [[i 5, i 1, i 3, i 7, .bool false]] 1, .sl [] 0], [.bool true, i 9, .sl [] 0, .sl [] 0, .sl [] 0, .sl [] 0]] 2, .sl [] 0, .sl [] 0], .agg [i 0, i 3, i 0, i 0, .nil, i 0, i 0]], .tup [.agg [.ref 0 0 2, .ref 1 0 0, .ref 2 0 1], i 0], [⟨[[.bool true, i 3, .sl [] 0, .sl [[i 9]] 1, .sl [[i 5, i 1, i 3, i 7, .bool false]] 1, .sl [] 0], [.bool true, i 9, .sl [] 0, .sl [] 0, .sl [] 0, .sl [] 0]], 6, .mut⟩, ⟨[], 2, .mut⟩, ⟨[[i 0, i 3, i 9, .sl [] 0, i 0, i 0, i 0, i 0, i 0, .bool false, .bool false]], 11, .mut⟩]),
 (20, [.agg [.sl [[.bool true, i 3, .sl [] 0, .sl [[i 9]] 1, .sl [[i 5, i 1, i 3, i 7, .bool false]] 1, .sl [] 0], [.bool true, i 9, .sl [] 0, .sl [] 0, .sl [] 0, .sl [] 0]] 2, .sl [] 0, .sl [[i 0, i 3, i 9, .sl [] 0, i 0, i 0, i 0, i 0, i 0, .bool false, .bool false]] 1], .agg [i 0, i 9, i 0, i 0, .nil, i 0, i 0]], .tup [.agg [.ref 0 0 2, .ref 1 0 0, .ref 2 0 1], i 0], [⟨[[.bool true, i 3, .sl [] 0, .sl [[i 9]] 1, .sl [[i 5, i 1, i 3, i 7, .bool false]] 1, .sl [] 0], [.bool true, i 9, .sl [] 0, .sl [] 0, .sl [] 0, .sl [] 0]], 6, .mut⟩, ⟨[], 2, .mut⟩, ⟨[[i 0, i 3, i 9, .sl [] 0, i 0, i 0, i 0, i 0, i 0, .bool false, .bool false]], 11, .mut⟩]),
 (20, [.agg [.sl [[.bool true, i 3, .sl [] 0, .sl [[i 9]] 1, .sl [[i 5, i 1, i 3, i 7, .bool false]] 1, .sl [] 0], [.bool true, i 9, .sl [] 0, .sl [] 0, .sl [] 0, .sl [] 0]] 2, .sl [] 0, .sl [[i 0, i 3, i 9, .sl [] 0, i 0, i 0, i 0, i 0, i 0, .bool false, .bool false]] 1], .agg [i 1, i 0, i 0, i 0, .nil, i 0, i 0]], .tup [.agg [.ref 0 0 2, .ref 1 0 0, .ref 2 0 0], i 0], [⟨[[.bool true, i 3, .sl [] 0, .sl [[i 9]] 1, .sl [[i 5, i 1, i 3, i 7, .bool false]] 1, .sl [] 0], [.bool true, i 9, .sl [[i 3, i 0]] 1, .sl [] 0, .sl [] 0, .sl [] 0]], 6, .mut⟩, ⟨[], 2, .mut⟩, ⟨[], 11, .mut⟩]),
 (20, [.agg [.sl [[.bool true, i 3, .sl [] 0, .sl [[i 9]] 1, .sl [[i 5, i 1, i 3, i 7, .bool false]] 1, .sl [] 0], [.bool true, i 9, .sl [[i 3, i 0]] 1, .sl [] 0, .sl [] 0, .sl [] 0]] 2, .sl [] 0, .sl [] 0], .agg [i 0, i 3, i 0, i 0, .nil, i 0, i 0]], .tup [.agg [.ref 0 0 2, .ref 1 0 0, .ref 2 0 1], i 0], [⟨[[.bool true, i 3, .sl [] 0, .sl [[i 9]] 1, .sl [[i 5, i 1, i 3, i 7, .bool false]] 1, .sl [] 0], [.bool true, i 9, .sl [[i 3, i 0]] 1, .sl [] 0, .sl [] 0, .sl [] 0]], 6, .mut⟩, ⟨[], 2, .mut⟩, ⟨[[i 0, i 3, i 9, .sl [] 0, i 0, i 0, i 0, i 0, i 0, .bool false, .bool false]], 11, .mut⟩])]
theorem ck_A1 : chkX (XX LW2) VA1 = true := by kernel_rfl
abbrev LA1 : List (Nat × List D × D × List Blk) := VA1 ++ LW2
theorem qcp : ∀ x ∈ LA1, Den PP x.1 x.2.1 [] x.2.2.1 x.2.2.2 := chkL qbv ck_A1
def VA2 : List (Nat × List D × D × List Blk) := [
 (20, [.agg [.sl [[.bool true, i 3, .sl [] 0, .sl [[i 9]] 1, .sl [[i 5, i 1, i 3, i 7, .bool false]] 1, .sl [] 0], [.bool true, i 9, .sl [[i 3, i 0]] 1, .sl [] 0, .sl [] 0, .sl [] 0]] 2, .sl [] 0, .sl [[i 0, i 3, i 9, .sl [] 0, i 0, i 0, i 0, i 0, i 0, .bool false, .bool false]] 1], .agg [i 0, i 9, i 0, i 0, .nil, i 0, i 0]], .tup [.agg [.ref 0 0 2, .ref 1 0 0, .ref 2 0 2], i 0], [⟨[[.bool true, i 3, .sl [] 0, .sl [[i 9]] 1, .sl [[i 5, i 1, i 3, i 7, .bool false]] 1, .sl [] 0], [.bool true, i 9, .sl [[i 3, i 1]] 1, .sl [] 0, .sl [] 0, .sl [] 0]], 6, .mut⟩, ⟨[], 2, .mut⟩, ⟨[[i 0, i 3, i 9, .sl [] 0, i 0, i 0, i 0, i 0, i 0, .bool false, .bool false], [i 0, i 9, i 3, .sl [[i 3]] 1, i 0, i 0, i 0, i 0, i 0, .bool false, .bool false]], 11, .mut⟩]),
 (20, [.agg [.sl [[.bool true, i 3, .sl [] 0, .sl [[i 9]] 1, .sl [[i 5, i 1, i 3, i 7, .bool false]] 1, .sl [] 0], [.bool true, i 9, .sl [[i 3, i 1]] 1, .sl [] 0, .sl [] 0, .sl [] 0]] 2, .sl [] 0, .sl [[i 0, i 3, i 9, .sl [] 0, i 0, i 0, i 0, i 0, i 0, .bool false, .bool false], [i 0, i 9, i 3, .sl [[i 3]] 1, i 0, i 0, i 0, i 0, i 0, .bool false, .bool false]] 2], .agg [i 1, i 0, i 0, i 0, .nil, i 0, i 0]], .tup [.agg [.ref 0 0 2, .ref 1 0 0, .ref 2 0 1], i 0], [⟨[[.bool true, i 3, .sl [] 0, .sl [[i 9]] 1, .sl [[i 5, i 1, i 3, i 7, .bool false]] 1, .sl [] 0], [.bool true, i 9, .sl [[i 3, i 0]] 1, .sl [] 0, .sl [] 0, .sl [] 0]], 6, .mut⟩, ⟨[], 2, .mut⟩, ⟨[[i 0, i 9, i 3, .sl [[i 3]] 1, i 0, i 0, i 0, i 0, i 0, .bool false, .bool false]], 11, .mut⟩]),
 (20, [.agg [.sl [[.bool true, i 3, .sl [] 0, .sl [[i 9]] 1, .sl [[i 5, i 1, i 3, i 7, .bool false]] 1, .sl [] 0], [.bool true, i 9, .sl [[i 3, i 0]] 1, .sl [] 0, .sl [] 0, .sl [] 0]] 2, .sl [] 0, .sl [[i 0, i 9, i 3, .sl [[i 3]] 1, i 0, i 0, i 0, i 0, i 0, .bool false, .bool false]] 1], .agg [i 1, i 0, i 0, i 0, .nil, i 0, i 0]], .tup [.agg [.ref 0 0 2, .ref 1 0 0, .ref 2 0 0], i 0], [⟨[[.bool true, i 3, .sl [[i 9, i 0]] 1, .sl [] 0, .sl [[i 5, i 1, i 3, i 7, .bool false]] 1, .sl [] 0], [.bool true, i 9, .sl [[i 3, i 0]] 1, .sl [] 0, .sl [] 0, .sl [] 0]], 6, .mut⟩, ⟨[], 2, .mut⟩, ⟨[], 11, .mut⟩]),
 (20, [.agg [.sl [[.bool true, i 3, .nil, .sl [[i 9]] 1, .sl [[i 5, i 1, i 3, i 7, .bool false]] 1, .nil], [.bool true, i 9, .nil, .sl [] 0, .nil, .nil]] 2, .nil, .nil], .agg [i 0, i 3, i 0, i 0, .nil, i 0, i 0]], .tup [.agg [.ref 0 0 2, .ref 1 0 0, .ref 2 0 1], i 0], [⟨[[.bool true, i 3, .sl [] 0, .sl [[i 9]] 1, .sl [[i 5, i 1, i 3, i 7, .bool false]] 1, .sl [] 0], [.bool true, i 9, .sl [] 0, .sl [] 0, .sl [] 0, .sl [] 0]], 6, .mut⟩, ⟨[], 2, .mut⟩, ⟨[[i 0, i 3, i 9, .sl [] 0, i 0, i 0, i 0, i 0, i 0, .bool false, .bool false]], 11, .mut⟩])]
theorem ck_A2 : chkX (XX LA1) VA2 = true := by kernel_rfl
abbrev LA2 : List (Nat × List D × D × List Blk) := VA2 ++ LA1
theorem qbt : ∀ x ∈ LA2, Den PP x.1 x.2.1 [] x.2.2.1 x.2.2.2 := chkL qcp ck_A2
def VO1 : List (Nat × List D × D × List Blk) := [
 (14, [.agg [.sl [[.bool true, i 3, .sl [[i 9, i 0]] 1, .sl [] 0, .sl [[i 5, i 1, i 3, i 7, .bool false]] 1, .sl [] 0], [.bool true, i 9, .sl [[i 3, i 0]] 1, .sl [] 0, .sl [] 0, .sl [] 0]] 2, .sl [] 0, .sl [] 0]], .tup [.bool true, i 0], [])]
theorem ck_O1 : chkX (XX LA2) VO1 = true := by kernel_rfl
abbrev LO1 : List (Nat × List D × D × List Blk) := VO1 ++ LA2
theorem qb5 : ∀ x ∈ LO1, Den PP x.1 x.2.1 [] x.2.2.1 x.2.2.2 := chkL qbt ck_O1
def VR1 : List (Nat × List D × D × List Blk) := [
 (21, [.agg [.sl [[.bool true, i 3, .nil, .sl [[i 9]] 1, .sl [[i 5, i 1, i 3, i 7, .bool false]] 1, .nil], [.bool true, i 9, .nil, .sl [] 0, .nil, .nil]] 2, .nil, .nil]], .tup [.agg [.ref 0 0 2, .ref 1 0 0, .ref 2 0 0], i 0], [⟨[[.bool true, i 3, .sl [] 0, .sl [[i 9]] 1, .sl [[i 5, i 1, i 3, i 7, .bool false]] 1, .sl [] 0], [.bool true, i 9, .sl [[i 3, i 0]] 1, .sl [] 0, .sl [] 0, .sl [] 0]], 6, .mut⟩, ⟨[], 2, .mut⟩, ⟨[], 11, .mut⟩]),
 (21, [.agg [.sl [[.bool true, i 3, .sl [] 0, .sl [[i 9]] 1, .sl [[i 5, i 1, i 3, i 7, .bool false]] 1, .sl [] 0], [.bool true, i 9, .sl [[i 3, i 0]] 1, .sl [] 0, .sl [] 0, .sl [] 0]] 2, .sl [] 0, .sl [] 0]], .tup [.agg [.ref 0 0 2, .ref 1 0 0, .ref 2 0 0], i 0], [⟨[[.bool true, i 3, .sl [[i 9, i 0]] 1, .sl [] 0, .sl [[i 5, i 1, i 3, i 7, .bool false]] 1, .sl [] 0], [.bool true, i 9, .sl [[i 3, i 0]] 1, .sl [] 0, .sl [] 0, .sl [] 0]], 6, .mut⟩, ⟨[], 2, .mut⟩, ⟨[], 11, .mut⟩])]
theorem ck_R1 : chkX (XX LO1) VR1 = true := by kernel_rfl
abbrev LR1 : List (Nat × List D × D × List Blk) := VR1 ++ LO1
theorem qbq : ∀ x ∈ LR1, Den PP x.1 x.2.1 [] x.2.2.1 x.2.2.2 := chkL qb5 ck_R1
theorem z54 : XX LR1 11 [] [] = some (.bool true, []) := by kernel_rfl
theorem awake : Den PP 11 [] [] (.bool true) [] := ztr LR1 qbq _ _ _ _ _ z54
end Go.AM
/- AM: contracts: peers: one is heard, all age. -/
namespace Go.AM
set_option linter.unusedSimpArgs false
set_option linter.unusedVariables false
set_option maxRecDepth 8000
set_option maxHeartbeats 0
theorem zs8 (p : Peer) : ∀ d ∈ p.row, d.still = true := by
 intro d hd
 simp [Peer.row] at hd
 rcases hd with rfl | rfl <;> rfl
theorem zx7 (base : Int) (ps : List Peer) (id : Int) (hl : ps.length ≤ cap16) : Den PP 192 [.int .i64 base, peersD ps, .int .i64 id] [] (.tup [.ref 0 0 (refHeard base ps id).1.length, .int .i64 (refHeard base ps id).2]) [⟨(refHeard base ps id).1.map Peer.row, 2, .mut⟩] := by
 have c1 := zqp base ps (zqq hl)
 have c0 := zav id
 have c2 := fun h : ps.length ≤ 16 => zst (ps.map Peer.row) (by intro r hr; obtain ⟨a, _, rfl⟩ := List.mem_map.1 hr; exact ⟨rfl, rfl⟩) (by simp; omega)
 have c3 := fun h => zsv base ps id (zqq hl) h
 obtain ⟨r, hr⟩ : ∃ r, refHeard base ps id = r := ⟨_, rfl⟩
 have hr' := hr
 unfold refHeard at hr'
 rw [zlv] at hr'
 rw [hr]
 clear hr
 simp only [peersD, List.length_map] at c1 c2 c3
 refine zgy [26, 34] [34] [34] [] (fun _ h => absurd h List.not_mem_nil) zrs ?_
 simp -implicitDefEqProofs [zml, peersD]
 refine zaa c1 ?_
 simp -implicitDefEqProofs
 cases h1 : peersMay base ps with
 | false =>
   rw [h1] at hr'
   simp at hr'
   subst hr'
   simp -implicitDefEqProofs
 | true =>
 cases h2 : place id with
 | false =>
   rw [h2] at hr' c0
   simp at hr'
   subst hr'
   simp -implicitDefEqProofs
   repeat' ((first | refine zaa (by first | exact c0) ?_ | ((with_reducible first | refine zal ?_ ?_ | refine zai ?_ ?_ | refine zaf ?_ ?_ | refine zad ?_ ?_) <;> intro _) | ((with_reducible first | refine zao ?_ ?_ | refine zaq ?_ ?_ | refine zam ?_ ?_ | refine zac ?_ ?_ | refine zak ?_ ?_ | refine zap ?_ ?_ | refine zah ?_ ?_ | refine zab ?_ ?_) <;> intro hq <;> (try simp at hq)) | refine zag (by omega) ?_ | refine zan (by omega) ?_) <;> simp -implicitDefEqProofs [*])
 | true =>
 rw [h1, h2] at hr'
 rw [h2] at c0
 by_cases h3 : id = base
 ·simp [h3] at hr'
  subst hr'
  simp -implicitDefEqProofs
  repeat' ((first | refine zaa (by first | exact c0) ?_ | ((with_reducible first | refine zal ?_ ?_ | refine zai ?_ ?_ | refine zaf ?_ ?_ | refine zad ?_ ?_) <;> intro _) | ((with_reducible first | refine zao ?_ ?_ | refine zaq ?_ ?_ | refine zam ?_ ?_ | refine zac ?_ ?_ | refine zak ?_ ?_ | refine zap ?_ ?_ | refine zah ?_ ?_ | refine zab ?_ ?_) <;> intro hq <;> (try simp at hq)) | refine zag (by omega) ?_ | refine zan (by omega) ?_) <;> simp -implicitDefEqProofs [*, h3])
 obtain ⟨hb, h16, hp, hd⟩ := zbx.1 h1
 obtain ⟨ha1, ha2⟩ := z7q hb h2 ps (fun p hp' => (hp p hp').1) hd
 have hlen := zou base id ps
 have hple := zv9 base ps id
 have c4 := c3 (zdt h1)
 clear c3
 generalize peerIs base ps id = A at *
 generalize findAt base ps id = p at *
 have h3' : (id == base) = false := by simpa using h3
 simp only [h3', Bool.not_false, Bool.and_self, if_true] at hr'
 simp -implicitDefEqProofs
 refine zaa c0 ?_
 simp -implicitDefEqProofs [h3]
 refine zaa (c2 h16) ?_
 simp -implicitDefEqProofs [downTo]
 refine zaa c4 ?_
 simp -implicitDefEqProofs [downTo]
 cases A with
 | true =>
   obtain ⟨hlt, ⟨m, hy⟩, hput⟩ := ha1 rfl
   have hr2 : r = (ps.set p ⟨id, 0⟩, 0) := by
    rw [← hr', hput]
    simp [h16]
   subst hr2
   have hlt' : (p : Int) < ps.length := by omega
   have hy2 : ps[p] = ⟨id, m⟩ := by simpa [hlt] using hy
   clear hr' hput ha1 ha2 hlen c4 hp hd
   simp -implicitDefEqProofs [hlt, hlt', hy2, Peer.row]
 | false =>
   have hput := ha2 rfl
   rw [hput] at hr' hlen
   simp only [zpx] at hr' hlen
   by_cases h5 : ps.length = 16
   ·have hr2 : r = ([], 701) := by
     rw [← hr']
     simp [h5]
    subst hr2
    clear hr' hput ha1 ha2 hlen c4 hp hd
    simp -implicitDefEqProofs [h5]
   ·have hr2 : r = (insL ps p ⟨id, 0⟩, 0) := by
     rw [← hr', if_pos (by omega)]
    subst hr2
    clear hr' hput ha1 ha2 hlen c4 hp hd
    have h5' : ¬ (ps.length : Int) = 16 := by omega
    simp -implicitDefEqProofs [h5']
    refine zer rfl (by simp) (by simp) (by simp) (zlo (ps.map Peer.row) (Peer.row ⟨id, 0⟩) p (by simp [Peer.row]) (StillR.map _ _ fun a _ => zs8 a) (by intro r hr; rw [List.mem_singleton.1 hr]; exact ⟨rfl, rfl⟩) (zs8 _) (by simpa using hple) (by simp; omega)) ?_
    rw [← zpe]
    simp -implicitDefEqProofs [downTo]
theorem z6d (base : Int) (ps : List Peer) (hl : ps.length ≤ cap16) : Den PP 111 [.int .i64 base, peersD ps] [] (.tup [.ref 0 0 (ageR base ps).1.length, .ref 1 0 (ageR base ps).2.1.length, .int .i64 (ageR base ps).2.2]) [⟨(ageR base ps).1.map Peer.row, 2, .mut⟩, ⟨(ageR base ps).2.1.map irow, 1, .mut⟩] := by
 have c1 := zqp base ps (zqq hl)
 refine zaj [] [] zut ?_
 simp -implicitDefEqProofs [zpr, peersD]
 refine zaa c1 ?_
 unfold ageR
 cases h1 : peersMay base ps with
 | false => simp -implicitDefEqProofs
 | true =>
   obtain ⟨hb, h16, hp, hd⟩ := zbx.1 h1
   simp -implicitDefEqProofs
   refine za3 ps (fun i rest => fun ⟨fr, bs⟩ => bs = [⟨[], 2, .mut⟩, ⟨[], 1, .mut⟩, ⟨(ageL (ps.take i)).map Peer.row, 2, .mut⟩, ⟨(lostL (ps.take i)).map irow, 1, .mut⟩] ∧ fr 7 = .ref 2 0 (ageL (ps.take i)).length ∧ fr 8 = .ref 3 0 (lostL (ps.take i)).length ∧ fr 15 = .sl (ps.map Peer.row) ps.length ∧ fr 16 = .int .i64 ps.length ∧ fr 17 = .int .i64 i)
    (fun ⟨fr, bs⟩ => bs = [⟨[], 2, .mut⟩, ⟨[], 1, .mut⟩, ⟨(ageL ps).map Peer.row, 2, .mut⟩, ⟨(lostL ps).map irow, 1, .mut⟩] ∧ fr 7 = .ref 2 0 (ageL ps).length ∧ fr 8 = .ref 3 0 (lostL ps).length) (fun _ => False) zlc.eq_1 ?_ ?_ ?_ ?_ ?_
   ·exact ⟨rfl, rfl, rfl, rfl, rfl, rfl⟩
   ·rintro i ⟨fr, bs⟩ hi ⟨rfl, h7, h8, h15, h16, h17⟩
    subst hi
    rw [List.take_length] at *
    simp -implicitDefEqProofs [h7, h8, h15, h16, h17]
   ·rintro i q rest ⟨fr, bs⟩ hlt hget hg hd hd2 ⟨rfl, h7, h8, h15, h16, h17⟩
    have hlt' : (i : Int) < ps.length := by omega
    have hw := zay (n := i) (by omega)
    have hm := hp q (List.mem_of_getElem? hget)
    have hwm : IntKind.wrap .i64 (q.missed + 1) = q.missed + 1 := zas (by have := hm.2.1; omega) (by have := hm.2.2.1; omega)
    have e1 : ps.take (i + 1) = ps.take i ++ [q] := by rw [List.take_add_one, hget]; rfl
    have e2 := z6f (ps.take i) q
    have e3 := z1u (ps.take i) q
    rw [← e1] at e2 e3
    have hal := zku (ps.take i)
    have htl : (ps.take i).length ≤ 16 := by simp; omega
    have ha16 : (ageL (ps.take i)).length ≤ 16 := by omega
    have hl16 : (lostL (ps.take i)).length ≤ 16 := by omega
    have w3 : IntKind.wrap .i64 3 = 3 := zas (by omega) (by omega)
    clear hal htl
    generalize ageL (ps.take (i + 1)) = a' at *
    generalize ageL (ps.take i) = a at *
    generalize lostL (ps.take (i + 1)) = l' at *
    generalize lostL (ps.take i) = l at *
    by_cases hq : q.missed + 1 = 3
    ·rw [if_pos hq] at e2 e3
     subst e2 e3
     obtain ⟨qi, qm⟩ := q
     have hq2 : qm = 2 := by simp at hq; omega
     subst hq2
     clear hwm hq hm
     simp -implicitDefEqProofs [h7, h8, h15, h16, h17, hlt, hlt', hget, hg, w3, Peer.row]
     refine ⟨by simp [Fits], ?_⟩
     repeat' ((first | refine zaa (by first | exact zav _ | exact zdv (zav _) | exact zdv (by simpa using zav _)) ?_ | ((with_reducible first | refine zal ?_ ?_ | refine zai ?_ ?_ | refine zaf ?_ ?_ | refine zad ?_ ?_) <;> intro _) | ((with_reducible first | refine zao ?_ ?_ | refine zaq ?_ ?_ | refine zam ?_ ?_ | refine zac ?_ ?_ | refine zak ?_ ?_ | refine zap ?_ ?_ | refine zah ?_ ?_ | refine zab ?_ ?_) <;> intro hq <;> (try simp at hq)) | refine zag (by omega) ?_ | refine zan (by omega) ?_) <;> simp -implicitDefEqProofs [*, h7, h8, h15, h16, h17, hlt, hlt', hw, irow, Fits])
     exact fun _ _ => rfl
    ·rw [if_neg hq] at e2 e3
     subst e2 e3
     simp -implicitDefEqProofs [h7, h8, h15, h16, h17, hlt, hlt', hget, hg, hwm, hq, Peer.row]
     refine ⟨by simp [Fits], ?_⟩
     repeat' ((first | refine zaa (by first | exact zav _ | exact zdv (zav _) | exact zdv (by simpa using zav _)) ?_ | ((with_reducible first | refine zal ?_ ?_ | refine zai ?_ ?_ | refine zaf ?_ ?_ | refine zad ?_ ?_) <;> intro _) | ((with_reducible first | refine zao ?_ ?_ | refine zaq ?_ ?_ | refine zam ?_ ?_ | refine zac ?_ ?_ | refine zak ?_ ?_ | refine zap ?_ ?_ | refine zah ?_ ?_ | refine zab ?_ ?_) <;> intro hq <;> (try simp at hq)) | refine zag (by omega) ?_ | refine zan (by omega) ?_) <;> simp -implicitDefEqProofs [*, h7, h8, h15, h16, h17, hlt, hlt', hw, Peer.row, Fits])
   ·rintro ⟨fr, bs⟩ ⟨rfl, h7, h8⟩
    simp -implicitDefEqProofs [h7, h8]
   ·rintro ⟨fr, bs⟩ h
    exact h.elim
end Go.AM
/- AM: contracts: age.Tick. -/
namespace Go.AM
set_option linter.unusedSimpArgs false
set_option linter.unusedVariables false
set_option maxRecDepth 8000
set_option maxHeartbeats 0
theorem zyf : Den PP 113 [.sl [[.sl [] 0], [.sl [] 0]] 2] [] (.ref 0 0 0) [⟨[], 1, .mut⟩] := ztr LH LH_ok _ _ _ _ _ (by kernel_rfl)
theorem concat2 (xs ys : List Int) (hl : xs.length + ys.length ≤ cap16) : Den PP 113 [.sl [[.sl (xs.map irow) xs.length], [.sl (ys.map irow) ys.length]] 2] [] (.ref 0 0 (xs ++ ys).length) [⟨(xs ++ ys).map irow, 1, .mut⟩] := by
 by_cases h : 0 < (xs ++ ys).length
 ·have := zzh [xs, ys] (by unfold cap16; simp) (by simpa [tot] using h) (by simpa [tot] using hl)
  simpa [tot, frow, lrow] using this
 ·have h1 : xs = [] := List.length_eq_zero_iff.1 (by simp at h; simp [h])
  have h2 : ys = [] := List.length_eq_zero_iff.1 (by simp at h; simp [h])
  subst h1 h2
  exact zyf
theorem z32 {L : List Int} {i : Nat} {x : Int} (h : L[i]? = some x) (p : List Int) : agedP (L.take (i + 1)) p = (withP (agedP (L.take i) p) x).1 := by
 have e1 : L.take (i + 1) = L.take i ++ [x] := by rw [List.take_add_one, h]; rfl
 unfold agedP
 rw [e1, List.foldl_append]
 rfl
theorem z35 (L : List Int) (p : List Int) (h : p.length ≤ 16) : (agedP L p).length ≤ 16 := by
 unfold agedP
 induction L generalizing p with
 | nil => exact h
 | cons x L ih => exact ih _ (z61 p x)
theorem z8p (v : View) (h : viewMay v = true) : Den PP 38 [viewD v] [] (.tup [viewD (ageV v), intsD (greetV (ageV v)), .int .i64 0]) [] := by
 obtain ⟨m1, m2, m3, m4⟩ := zaz h
 have hs : v.small := ⟨by unfold cap16; omega, by unfold cap; omega⟩
 have c1 := zkv v hs
 have c2 := zme v hs
 have c3 := z6d v.id v.peers hs.1
 have c4 := zma (ageV v) (by have := (zjp h).2.1; unfold cap16; omega)
 have c5 := concat2 ((ageV v).peers.map Peer.id) (ageV v).passive (by have := (zjp h).2.1; unfold cap16; simp; omega)
 have hal := zku v.peers
 have c6 := fun i => z35 ((lostL v.peers).take i) v.passive (by omega)
 have e0 : ageR v.id v.peers = (ageL v.peers, lostL v.peers, 0) := by simp [ageR, m1]
 have hnx : ∀ i x, (lostL v.peers)[i]? = some x → _ := fun i x hx => z32 hx v.passive
 have e9 : agedP (lostL v.peers) v.passive = (ageV v).passive := rfl
 have e8 : ageL v.peers = (ageV v).peers := rfl
 have e7 : (ageV v).id = v.id := rfl
 have e6 : agedP [] v.passive = v.passive := rfl
 unfold greetV
 rw [h] at c1
 rw [e0] at c3
 rw [e8] at c3 hal
 simp only [viewD, View.cells, peersD, intsD, e7] at c1 c2 c3 c4 c5 ⊢
 have hll : (lostL v.peers).length ≤ 16 := by omega
 generalize lostL v.peers = lost at *
 clear e0 e8 hal m1 m4 h
 generalize (ageV v).peers = ps at *
 generalize (ageV v).passive = xs at *
 simp only [List.map_map, Function.comp_def, List.length_map, List.map_append, List.length_append] at c5
 refine zaj [] [] zzk ?_
 simp -implicitDefEqProofs [zr3]
 refine zaa c1 ?_
 simp -implicitDefEqProofs
 refine zaa c2 ?_
 simp -implicitDefEqProofs
 refine zaa c3 ?_
 simp -implicitDefEqProofs
 refine za3 lost (fun i rest => fun ⟨fr, bs⟩ => bs = [⟨[[.int .i64 v.id, .sl (v.peers.map Peer.row) v.peers.length, .sl (v.passive.map irow) v.passive.length]], 3, .box⟩, ⟨[[.int .i64 0, .nil, .nil]], 3, .box⟩, ⟨[], 1, .mut⟩, ⟨[[.int .i64 v.id, .sl (ps.map Peer.row) ps.length, .sl ((agedP (lost.take i) v.passive).map irow) (agedP (lost.take i) v.passive).length]], 3, .box⟩] ∧ fr 2 = .ptr 1 0 0 ∧ fr 5 = .ptr 3 0 0 ∧ fr 28 = .sl (lost.map irow) lost.length ∧ fr 29 = .int .i64 lost.length ∧ fr 30 = .int .i64 i)
  (fun ⟨fr, bs⟩ => bs = [⟨[[.int .i64 v.id, .sl (v.peers.map Peer.row) v.peers.length, .sl (v.passive.map irow) v.passive.length]], 3, .box⟩, ⟨[[.int .i64 0, .nil, .nil]], 3, .box⟩, ⟨[], 1, .mut⟩, ⟨[[.int .i64 v.id, .sl (ps.map Peer.row) ps.length, .sl (xs.map irow) xs.length]], 3, .box⟩] ∧ fr 2 = .ptr 1 0 0 ∧ fr 5 = .ptr 3 0 0) (fun _ => False) znb.eq_1 ?_ ?_ ?_ ?_ ?_
 ·refine ⟨?_, rfl, rfl, rfl, rfl, rfl⟩
  simp [e6]
 ·rintro i ⟨fr, bs⟩ hi ⟨rfl, h2, h5, h28, h29, h30⟩
  subst hi
  rw [List.take_length] at *
  rw [e9]
  simp -implicitDefEqProofs [h2, h5, h28, h29, h30]
 ·rintro i x rest ⟨fr, bs⟩ hlt hget hg hd hd2 ⟨rfl, h2, h5, h28, h29, h30⟩
  have hlt' : (i : Int) < lost.length := by omega
  have hx := hnx i x hget
  have hc := zom (agedP (lost.take i) v.passive) x (by have := c6 i; unfold cap; omega)
  rw [hx]
  clear hx
  simp only [intsD] at hc
  generalize withP (agedP (lost.take i) v.passive) x = r at *
  generalize agedP (lost.take i) v.passive = p at *
  obtain ⟨q, e⟩ := r
  simp only at hc
  simp -implicitDefEqProofs [h2, h5, h28, h29, h30, hlt, hlt', hget, hg, irow]
  refine zaa hc ?_
  simp -implicitDefEqProofs [h2, h5, h28, h29, h30, irow]
  exact zas (by omega) (by omega)
 ·rintro ⟨fr, bs⟩ ⟨rfl, h2, h5⟩
  simp -implicitDefEqProofs [h2, h5]
  repeat' ((first | refine zaa (by first | exact c4 | exact c5) ?_ | ((with_reducible first | refine zal ?_ ?_ | refine zai ?_ ?_ | refine zaf ?_ ?_ | refine zad ?_ ?_) <;> intro _) | ((with_reducible first | refine zao ?_ ?_ | refine zaq ?_ ?_ | refine zam ?_ ?_ | refine zac ?_ ?_ | refine zak ?_ ?_ | refine zap ?_ ?_ | refine zah ?_ ?_ | refine zab ?_ ?_) <;> intro hq <;> (try simp at hq)) | refine zag (by omega) ?_ | refine zan (by omega) ?_) <;> simp -implicitDefEqProofs [*, h2, h5, downTo])
 ·rintro ⟨fr, bs⟩ h
  exact h.elim
end Go.AM
/- AM: chapter 20's statements: Takes. -/
namespace Go.AM
set_option linter.unusedSimpArgs false
set_option linter.unusedVariables false
set_option maxRecDepth 8000
set_option maxHeartbeats 0
theorem zcc {x : Node} (h : nodeUp x = true) : x.up = true ∧ viewMay x.view = true ∧ storeMay x.items = true ∧ x.log.length ≤ 64 ∧ x.log.any toldOdd = false := by
 simp only [nodeUp, nodeMay, Bool.and_eq_true, decide_eq_true_eq, Bool.not_eq_true'] at h
 exact ⟨h.1, h.2.1.1.1.2, h.2.1.1.2, h.2.1.2, h.2.2⟩
theorem zh2 {x : Node} (h1 : x.up = true) (h2 : viewMay x.view = true) (h3 : storeMay x.items = true) (h4 : x.log.length ≤ 64) (h5 : x.log.any toldOdd = false) : nodeUp x = true := by
 simp [nodeUp, nodeMay, h1, h2, h3, h4, h5]
theorem z7v {x : Node} {i : Item} (h : nodeUp x = true) : nodeUp (takeI x i) = true := by
 obtain ⟨h1, h2, h3, h4, h5⟩ := zcc h
 unfold takeI
 split
 ·rename_i h6
  obtain ⟨_, _, h7, h8⟩ := zt7 h6
  rw [h7]
  exact zh2 h1 h2 h8 h4 h5
 ·exact h
theorem zko {x : Node} (h : nodeUp x = true) : x.view.peers.length ≤ 16 ∧ x.view.passive.length ≤ 16 ∧ x.items.length ≤ 16 ∧ x.log.length ≤ 64 := by
 obtain ⟨h1, h2, h3, h4, h5⟩ := zcc h
 have h6 := (zaz h2).2.2.1
 have h7 := ((zc3 _).1 h3).2.2
 omega
theorem zmr {x : Node} (h : nodeUp x = true) : x.small := by
 obtain ⟨h1, h2, h3, h4⟩ := zko h
 unfold Node.small View.small cap16 cap
 omega
end Go.AM
/- AM: contracts: tick.Step. -/
namespace Go.AM
set_option linter.unusedSimpArgs false
set_option linter.unusedVariables false
set_option maxRecDepth 8000
set_option maxHeartbeats 0
def tickN (x : Node) : Node := { x with view := ageV x.view }
def greetR (w : View) (to : Int) : List D := [.int .i64 0, .int .i64 w.id, .int .i64 to, .sl (w.peers.map fun p => irow p.id) w.peers.length, .int .i64 0, .int .i64 0, .int .i64 0, .int .i64 0, .int .i64 0, .bool false, .bool false]
def greetsR (w : View) (L : List Int) : List (List D) := L.map (greetR w)
theorem zvj {w : View} {L : List Int} {i : Nat} {x : Int} (h : L[i]? = some x) : greetsR w (L.take (i + 1)) = greetsR w (L.take i) ++ [greetR w x] := by
 have e1 : L.take (i + 1) = L.take i ++ [x] := by rw [List.take_add_one, h]; rfl
 rw [e1]; simp [greetsR]
theorem ztz (w : View) (L : List Int) (S : Nat → Bool) : (greetsR w L).map (fun r => r.map (D.sweep S)) = greetsR w L := by
 unfold greetsR
 rw [List.map_map]
 rfl
theorem zvy (x : Node) (hs : x.small) (h : nodeUp x = false) : Den PP 37 [nodeD x] [] (.tup [.agg [.bool false, .int .i64 0, .nil, .nil, .nil, .nil], .ref 0 0 0, .int .i64 1900]) [⟨[], 11, .mut⟩] := by
 have c1 := zeg x hs
 rw [h] at c1
 simp only [nodeD, Node.cells, viewD, View.cells, peersD, intsD, itemsD, toldsD] at c1 ⊢
 refine zaj [] [] zoj ?_
 simp -implicitDefEqProofs [zlz]
 refine zaa c1 ?_
 simp -implicitDefEqProofs
theorem z4j (x : Node) (h : nodeUp x = true) : Den PP 37 [nodeD x] [] (.tup [nodeD (tickN x), .ref 0 0 ((greetV (ageV x.view)).length + (shareOf (tickN x)).1.length), .int .i64 0]) [⟨greetsR (ageV x.view) (greetV (ageV x.view)) ++ (shareOf (tickN x)).1.map Msg.row0, 11, .mut⟩] := by
 obtain ⟨p1, p2, p3, p4, p5⟩ := zcc h
 obtain ⟨v1, v2, v3⟩ := zjp p2
 obtain ⟨l1, l2, l3, l4⟩ := zko h
 have hs := zmr h
 have hu : nodeUp (tickN x) = true := zh2 p1 v1 p3 p4 p5
 have c1 := zeg x hs
 have c2 := zd4 x hs
 have c3 := z8p x.view p2
 have c4 := zma (ageV x.view) (by unfold cap16; omega)
 have c5 := z7j (tickN x) (zmr hu)
 have hgl : (greetV (ageV x.view)).length ≤ 16 := by have := (zaz v1).2.2.1; unfold greetV; simp; omega
 have hsl : (shareOf (tickN x)).1.length ≤ 4096 := by
  have h1 : (shareOf (tickN x)).1.length ≤ x.items.length := by
   unfold shareOf
   rw [hu]
   exact List.length_filterMap_le ..
  omega
 have e0 : (shareOf (tickN x)).2 = 0 := by unfold shareOf; rw [hu]; rfl
 rw [e0] at c5
 rw [h] at c1
 generalize (shareOf (tickN x)).1 = ms at *
 have e7 : (ageV x.view).id = x.view.id := rfl
 unfold tickN at c5 ⊢
 generalize hw : ageV x.view = w at *
 generalize greetV w = gs at *
 simp only [nodeD, Node.cells, viewD, View.cells, peersD, intsD, itemsD, toldsD, copyD, nodeB, e7] at c1 c2 c3 c4 c5 ⊢
 have hnx := fun i y (hy : gs[i]? = some y) => zvj (w := w) hy
 have hsw := ztz w
 clear e0 hw hu h p1 p2 p3 p4 p5 v1 v2 v3
 refine zaj [] [] zoj ?_
 simp -implicitDefEqProofs [zlz]
 refine zaa c1 ?_
 simp -implicitDefEqProofs
 refine zaa c2 ?_
 simp -implicitDefEqProofs
 refine zaa c3 ?_
 simp -implicitDefEqProofs
 refine za3 gs (fun i rest => fun ⟨fr, bs⟩ => (bs = [⟨[[.bool x.up, .int .i64 x.view.id, .sl (x.view.peers.map Peer.row) x.view.peers.length, .sl (x.view.passive.map irow) x.view.passive.length, .sl (x.items.map Item.row) x.items.length, .sl (x.log.map Told.row) x.log.length]], 6, .box⟩, ⟨[[.bool false, .int .i64 0, .nil, .nil, .nil, .nil]], 6, .box⟩, ⟨[], 11, .mut⟩, ⟨[[.bool x.up, .int .i64 x.view.id, .sl (w.peers.map Peer.row) w.peers.length, .sl (w.passive.map irow) w.passive.length, .sl (x.items.map Item.row) x.items.length, .sl (x.log.map Told.row) x.log.length]], 6, .box⟩, ⟨[[.int .i64 x.view.id, .sl (w.peers.map Peer.row) w.peers.length, .sl (w.passive.map irow) w.passive.length]], 3, .box⟩, ⟨greetsR w (gs.take i), 11, .mut⟩] ∨ bs = [⟨[[.bool x.up, .int .i64 x.view.id, .sl (x.view.peers.map Peer.row) x.view.peers.length, .sl (x.view.passive.map irow) x.view.passive.length, .sl (x.items.map Item.row) x.items.length, .sl (x.log.map Told.row) x.log.length]], 6, .box⟩, ⟨[[.bool false, .int .i64 0, .nil, .nil, .nil, .nil]], 6, .box⟩, ⟨[], 11, .mut⟩, ⟨[[.bool x.up, .int .i64 x.view.id, .sl (w.peers.map Peer.row) w.peers.length, .sl (w.passive.map irow) w.passive.length, .sl (x.items.map Item.row) x.items.length, .sl (x.log.map Told.row) x.log.length]], 6, .box⟩, ⟨[[.int .i64 x.view.id, .sl (w.peers.map Peer.row) w.peers.length, .sl (w.passive.map irow) w.passive.length]], 3, .ibox⟩, ⟨greetsR w (gs.take i), 11, .mut⟩]) ∧ fr 2 = .ptr 1 0 0 ∧ fr 5 = .ptr 3 0 0 ∧ fr 6 = .ptr 4 0 0 ∧ fr 9 = .ref 5 0 i ∧ fr 29 = .sl (gs.map irow) gs.length ∧ fr 30 = .int .i64 gs.length ∧ fr 31 = .int .i64 i)
  (fun ⟨fr, bs⟩ => (bs = [⟨[[.bool x.up, .int .i64 x.view.id, .sl (x.view.peers.map Peer.row) x.view.peers.length, .sl (x.view.passive.map irow) x.view.passive.length, .sl (x.items.map Item.row) x.items.length, .sl (x.log.map Told.row) x.log.length]], 6, .box⟩, ⟨[[.bool false, .int .i64 0, .nil, .nil, .nil, .nil]], 6, .box⟩, ⟨[], 11, .mut⟩, ⟨[[.bool x.up, .int .i64 x.view.id, .sl (w.peers.map Peer.row) w.peers.length, .sl (w.passive.map irow) w.passive.length, .sl (x.items.map Item.row) x.items.length, .sl (x.log.map Told.row) x.log.length]], 6, .box⟩, ⟨[[.int .i64 x.view.id, .sl (w.peers.map Peer.row) w.peers.length, .sl (w.passive.map irow) w.passive.length]], 3, .box⟩, ⟨greetsR w gs, 11, .mut⟩] ∨ bs = [⟨[[.bool x.up, .int .i64 x.view.id, .sl (x.view.peers.map Peer.row) x.view.peers.length, .sl (x.view.passive.map irow) x.view.passive.length, .sl (x.items.map Item.row) x.items.length, .sl (x.log.map Told.row) x.log.length]], 6, .box⟩, ⟨[[.bool false, .int .i64 0, .nil, .nil, .nil, .nil]], 6, .box⟩, ⟨[], 11, .mut⟩, ⟨[[.bool x.up, .int .i64 x.view.id, .sl (w.peers.map Peer.row) w.peers.length, .sl (w.passive.map irow) w.passive.length, .sl (x.items.map Item.row) x.items.length, .sl (x.log.map Told.row) x.log.length]], 6, .box⟩, ⟨[[.int .i64 x.view.id, .sl (w.peers.map Peer.row) w.peers.length, .sl (w.passive.map irow) w.passive.length]], 3, .ibox⟩, ⟨greetsR w gs, 11, .mut⟩]) ∧ fr 2 = .ptr 1 0 0 ∧ fr 5 = .ptr 3 0 0 ∧ fr 9 = .ref 5 0 gs.length) (fun _ => False) zli.eq_1 ?_ ?_ ?_ ?_ ?_
 ·exact ⟨.inl (by simp [greetsR]), rfl, rfl, rfl, rfl, rfl, rfl, rfl⟩
 ·rintro i ⟨fr, bs⟩ hi ⟨hb, h2, h5, h6, h9, h29, h30, h31⟩
  subst hi
  rw [List.take_length] at *
  simp -implicitDefEqProofs [h2, h5, h6, h9, h29, h30, h31]
  exact hb
 ·rintro i y rest ⟨fr, bs⟩ hlt hget hg hd hd2 ⟨hb, h2, h5, h6, h9, h29, h30, h31⟩
  have hlt' : (i : Int) < gs.length := by omega
  have hgr : (greetsR w (gs.take i)).length = i := by simp [greetsR]; omega
  rw [hnx i y hget]
  have hsG := hsw (gs.take i)
  generalize greetsR w (gs.take i) = G at *
  rcases hb with rfl | rfl
  all_goals
   simp -implicitDefEqProofs [h2, h5, h6, h9, h29, h30, h31, hlt, hlt', hget, hg, irow]
   repeat' ((first | refine zaa (by first | exact c4) ?_ | ((with_reducible first | refine zal ?_ ?_ | refine zai ?_ ?_ | refine zaf ?_ ?_ | refine zad ?_ ?_) <;> intro _) | ((with_reducible first | refine zao ?_ ?_ | refine zaq ?_ ?_ | refine zam ?_ ?_ | refine zac ?_ ?_ | refine zak ?_ ?_ | refine zap ?_ ?_ | refine zah ?_ ?_ | refine zab ?_ ?_) <;> intro hq <;> (try simp at hq)) | refine zag (by omega) ?_ | refine zan (by omega) ?_) <;> simp -implicitDefEqProofs [*, h2, h5, h6, h9, h29, h30, h31, hlt, hlt', hgr, irow, downTo])
   refine ⟨by simp [Fits], ?_⟩
   refine zag ⟨by omega, by omega⟩ ?_
   simp -implicitDefEqProofs [h2, h5, h6, h9, h29, h30, h31, hgr, irow, downTo, greetR, hsG]
   exact ⟨e7.symm, zas (by omega) (by omega)⟩
 ·rintro ⟨fr, bs⟩ ⟨hb, h2, h5, h9⟩
  have hgr : (greetsR w gs).length = gs.length := by simp [greetsR]
  have hsG := hsw gs
  generalize greetsR w gs = G at *
  rcases hb with rfl | rfl
  all_goals
   simp -implicitDefEqProofs [h2, h5, h9]
   refine zaa c5 ?_
   simp -implicitDefEqProofs [h2, h5, h9]
   repeat' apply And.intro
  all_goals
   refine zag ⟨by omega, by omega⟩ ?_
   refine zag (by omega) ?_
   simp -implicitDefEqProofs [h2, h5, h9, hsG]
 ·rintro ⟨fr, bs⟩ h
  exact h.elim
end Go.AM
/- AM: contracts: a tick as an act. -/
namespace Go.AM
set_option linter.unusedSimpArgs false
set_option linter.unusedVariables false
set_option maxRecDepth 8000
set_option maxHeartbeats 0
def tickM (x : Node) : List Msg := (greetV (ageV x.view)).map (greetM (ageV x.view)) ++ (shareOf (tickN x)).1
theorem z6q {x : Node} {m : Msg} (h : m ∈ (shareOf x).1) : m.ids = [] := by
 unfold shareOf at h
 split at h
 ·obtain ⟨i, -, hi⟩ := List.mem_filterMap.1 h
  unfold shareOne at hi
  generalize (if (ownerV x.view i.key).1 = x.view.id then (succV x.view).1 else (ownerV x.view i.key).1) = to at hi
  by_cases hc : to = x.view.id
  ·rw [if_pos hc] at hi; cases hi
  ·rw [if_neg hc] at hi; cases hi; rfl
 ·cases h
theorem z1z (x : Node) : (shareOf x).1.map Msg.bare = (shareOf x).1 := by
 rw [List.map_congr_left (g := id) (fun m hm => ?_), List.map_id]
 have := z6q hm
 cases m
 simp only at this
 subst this
 rfl
theorem z66 (x : Node) : nrmLL (greetsR (ageV x.view) (greetV (ageV x.view)) ++ (shareOf (tickN x)).1.map Msg.row0) = (tickM x).map Msg.row := by
 have h := zlm (shareOf (tickN x)).1
 rw [z1z, zd6] at h
 rw [zd6, List.map_append, h]
 unfold tickM
 rw [List.map_append]
 congr 1
 unfold greetsR
 rw [List.map_map, List.map_map]
 apply List.map_congr_left
 intro to _
 simp [greetR, greetM, Msg.row, intsD, zeroItem, irow, zd6, Function.comp_def]
theorem zwq (w : Wld) (a : Act) (x : Node) (hw : w.tiny) (hr : MonoC (cmpN a.node) w.nodes) (hi : isN a.node w.nodes = true) (hx : w.nodes[posN a.node w.nodes]? = some x) (h : nodeUp x = false) : Den PP 59 [.ptr 0 0 0, .ptr 4 0 0] (actB w a) (.tup []) (actB w a) := by
 have c1 := zds w a (by have := hw.nodes; unfold cap; omega) hr hi
 have c2 := zvy x (za7 (hw.node x (List.mem_of_getElem? hx))) h
 have hp := zdk hi
 have hg : ∀ h : posN a.node w.nodes < w.nodes.length, w.nodes[posN a.node w.nodes] = x := fun h => by rw [List.getElem?_eq_getElem h] at hx; exact Option.some.inj hx
 generalize posN a.node w.nodes = P at *
 have hp' : (P : Int) < w.nodes.length := by omega
 clear hi hr hw h
 simp only [actB, doA, doC, doS, copyD, nodeB, nodeD, intsD, Act.cells, Wld.cells, nodesD, cutsD, msgsD, msgD] at c1 c2 ⊢
 refine zaj [] [8, 24] zi2 ?_
 simp -implicitDefEqProofs [zgx]
 refine zae [0, 1, 2, 3, 4] rfl (by decide) (by simp) c1 (by simp) (by simp [lentBs]) ?_
 simp -implicitDefEqProofs [framed, hp, hp', hx, hg]
 refine zaa c2 ?_
 simp -implicitDefEqProofs [-leave, hp, hp', hx, hg]
 exact leave5 (za1 rfl) (zbb 5 _) (zby 5 _) (zbv 5 _) (za1 rfl)
theorem z6k (w : Wld) (a : Act) (x : Node) (hw : w.tiny) (hr : MonoC (cmpN a.node) w.nodes) (hi : isN a.node w.nodes = true) (hx : w.nodes[posN a.node w.nodes]? = some x) (h : nodeUp x = true)
 (hm1 : worldMay { w with nodes := w.nodes.set (posN a.node w.nodes) (tickN x) } = true) (hm2 : worldMay { w with nodes := w.nodes.set (posN a.node w.nodes) (tickN x), packets := tickM x } = true) :
 Den PP 59 [.ptr 0 0 0, .ptr 4 0 0] (actB w a) (.tup []) (doS { w with nodes := w.nodes.set (posN a.node w.nodes) (tickN x) } (sendW { w with nodes := w.nodes.set (posN a.node w.nodes) (tickN x) } (tickM x)) w.packets a) := by
 have c1 := zds w a (by have := hw.nodes; unfold cap; omega) hr hi
 have c2 := z4j x h
 have c3 := zp8 { w with nodes := w.nodes.set (posN a.node w.nodes) (tickN x) } (tickM x) hm1 hm2
 have hp := zdk hi
 have hn := z66 x
 have hlen : (tickM x).length = (greetV (ageV x.view)).length + (shareOf (tickN x)).1.length := by simp [tickM]
 have hg : ∀ h : posN a.node w.nodes < w.nodes.length, w.nodes[posN a.node w.nodes] = x := fun h => by rw [List.getElem?_eq_getElem h] at hx; exact Option.some.inj hx
 have c3 : Den PP 151 [.ptr 0 0 0, .sl (greetsR (ageV x.view) (greetV (ageV x.view)) ++ (shareOf (tickN x)).1.map Msg.row0) ((greetV (ageV x.view)).length + (shareOf (tickN x)).1.length)] _ _ _ := zdv (by
  simp only [List.map_cons, List.map_nil, D.nrm, hn, ← hlen]
  exact c3)
 generalize posN a.node w.nodes = P at *
 have hp' : (P : Int) < w.nodes.length := by omega
 generalize (greetsR (ageV x.view) (greetV (ageV x.view)) ++ (shareOf (tickN x)).1.map Msg.row0) = R at *
 generalize ((greetV (ageV x.view)).length + (shareOf (tickN x)).1.length) = k at *
 generalize tickM x = ms at *
 generalize tickN x = y at *
 have e1 : (sendW { w with nodes := w.nodes.set P y } ms).nodes = w.nodes.set P y := rfl
 have e2 : (sendW { w with nodes := w.nodes.set P y } ms).cuts = w.cuts := rfl
 generalize sendW { w with nodes := w.nodes.set P y } ms = v at *
 obtain ⟨ns, cs, ps⟩ := v
 simp only at e1 e2
 subst e1 e2
 clear hi hr hw h hm1 hm2 hn hlen
 simp only [actB, doA, doC, doS, copyD, nodeB, nodeD, intsD, Act.cells, Wld.cells, nodesD, cutsD, msgsD, msgD, List.length_set, List.map_set] at c1 c2 c3 ⊢
 rw [zdp y] at c2 c3 ⊢
 refine zaj [] [8, 24] zi2 ?_
 simp -implicitDefEqProofs [zgx]
 refine zae [0, 1, 2, 3, 4] rfl (by decide) (by simp) c1 (by simp) (by simp [lentBs]) ?_
 simp -implicitDefEqProofs [framed, hp, hp', hx, hg]
 refine zaa c2 ?_
 simp -implicitDefEqProofs [-leave, hp, hp', hx, hg]
 refine zae [0, 1, 2, 3] rfl (by decide) (by simp) c3 (by simp) (by simp [lentBs]) ?_
 simp -implicitDefEqProofs [framed, -leave]

 exact leave5 (za1 rfl) (zg5 (zbb 5 _) (List.all_eq_true.1 rfl)) (zby 5 _) (zbv 5 _) (za1 rfl)
end Go.AM
/- AM: contracts: what a node was told is noted. -/
namespace Go.AM
set_option linter.unusedSimpArgs false
set_option linter.unusedVariables false
set_option maxRecDepth 8000
set_option maxHeartbeats 0
def toldOf (key : Int) (i : Item) (has : Bool) : Told := ⟨key, has && !i.gone, if has && !i.gone then i.value else 0⟩
theorem z7i (x : Node) (key : Int) (i : Item) (has : Bool) (hs : x.small) (hl : x.log.length ≤ 64) : Den PP 131 [nodeD x, .int .i64 key, .agg i.row, .bool has] [] (.agg [.bool x.up, .int .i64 x.view.id, .ref 0 0 x.view.peers.length, .ref 1 0 x.view.passive.length, .ref 2 0 x.items.length, .ref 3 (x.log.length + 1 - 64) (x.log.length + 1 - (x.log.length + 1 - 64))])
 [⟨x.view.peers.map Peer.row, 2, .mut⟩, ⟨x.view.passive.map irow, 1, .mut⟩, ⟨x.items.map Item.row, 5, .mut⟩, ⟨(x.log ++ [toldOf key i has]).map Told.row, 3, .mut⟩] := by
 have c1 := zd4 x hs
 obtain ⟨ik, ic, iw, iv, ig⟩ := i
 simp only [nodeD, Node.cells, peersD, intsD, itemsD, toldsD, Item.row, copyD, nodeB] at c1 ⊢
 have hm : (if IntKind.wrap .i64 ((x.log.length : Int) + 1 - 64) < 0 then 0 else IntKind.wrap .i64 ((x.log.length : Int) + 1 - 64)) = ((x.log.length + 1 - 64 : Nat) : Int) := by
  rw [zas (by omega) (by omega)]; split <;> omega
 refine zaj [12] [] zze ?_
 cases has <;> cases ig
 all_goals
  simp -implicitDefEqProofs [zs4]
  refine zaa c1 ?_
  simp -implicitDefEqProofs [downTo]
 case false.false | false.true | true.true =>
  refine ⟨by simp [Fits], ?_⟩
  repeat' ((first | refine zaa (by first | exact zav _ | exact zdv (zav _) | exact zdv (by simpa using zav _)) ?_ | ((with_reducible first | refine zal ?_ ?_ | refine zai ?_ ?_ | refine zaf ?_ ?_ | refine zad ?_ ?_) <;> intro _) | ((with_reducible first | refine zao ?_ ?_ | refine zaq ?_ ?_ | refine zam ?_ ?_ | refine zac ?_ ?_ | refine zak ?_ ?_ | refine zap ?_ ?_ | refine zah ?_ ?_ | refine zab ?_ ?_) <;> intro hq <;> (try simp at hq)) | refine zag (by omega) ?_ | refine zan (by omega) ?_) <;> simp -implicitDefEqProofs [*, downTo])
  simp -implicitDefEqProofs [minL, minF, hm]
  refine zh4 (x.log.length + 1 - 64) (x.log.length + 1) (by simp; rfl) rfl (by simp [boundD, hm]) (by first | rfl | omega | (simp [boundD]; done) | (simp [boundD]; omega) | (simp; done) | (simp; omega) | (simp [*]; done) | (simp [*]; omega)) (by omega) (by first | rfl | omega | (simp [boundD]; done) | (simp [boundD]; omega) | (simp; done) | (simp; omega) | (simp [*]; done) | (simp [*]; omega)) rfl (by first | rfl | omega | (simp [boundD]; done) | (simp [boundD]; omega) | (simp; done) | (simp; omega) | (simp [*]; done) | (simp [*]; omega)) ?_
  simp -implicitDefEqProofs [toldOf, Told.row]
 case true.false =>
  repeat' apply And.intro
  all_goals try (simp [Fits]; done)
  all_goals
   repeat' ((first | refine zaa (by first | exact zav _ | exact zdv (zav _) | exact zdv (by simpa using zav _)) ?_ | ((with_reducible first | refine zal ?_ ?_ | refine zai ?_ ?_ | refine zaf ?_ ?_ | refine zad ?_ ?_) <;> intro _) | ((with_reducible first | refine zao ?_ ?_ | refine zaq ?_ ?_ | refine zam ?_ ?_ | refine zac ?_ ?_ | refine zak ?_ ?_ | refine zap ?_ ?_ | refine zah ?_ ?_ | refine zab ?_ ?_) <;> intro hq <;> (try simp at hq)) | refine zag (by omega) ?_ | refine zan (by omega) ?_) <;> simp -implicitDefEqProofs [*, downTo])
   simp -implicitDefEqProofs [minL, minF, hm]
   refine zh4 (x.log.length + 1 - 64) (x.log.length + 1) (by simp; rfl) rfl (by simp [boundD, hm]) (by first | rfl | omega | (simp [boundD]; done) | (simp [boundD]; omega) | (simp; done) | (simp; omega) | (simp [*]; done) | (simp [*]; omega)) (by omega) (by first | rfl | omega | (simp [boundD]; done) | (simp [boundD]; omega) | (simp; done) | (simp; omega) | (simp [*]; done) | (simp [*]; omega)) rfl (by first | rfl | omega | (simp [boundD]; done) | (simp [boundD]; omega) | (simp; done) | (simp; omega) | (simp [*]; done) | (simp [*]; omega)) ?_
   simp -implicitDefEqProofs [toldOf, Told.row]
end Go.AM
/- AM: chapter 20's statements: TakeTwice, TakeBest. -/
namespace Go.AM
set_option linter.unusedSimpArgs false
set_option linter.unusedVariables false
set_option maxRecDepth 8000
set_option maxHeartbeats 0
end Go.AM
/- AM: contracts: asking, answering, being told; the document's. -/
namespace Go.AM
set_option linter.unusedSimpArgs false
set_option linter.unusedVariables false
set_option maxRecDepth 8000
set_option maxHeartbeats 0
def noteD (x : Node) (pre xs : List Told) : D := .agg [.bool x.up, .int .i64 x.view.id, .ref 0 0 x.view.peers.length, .ref 1 0 x.view.passive.length, .ref 2 0 x.items.length, .ref 3 pre.length xs.length]
def noteB (x : Node) (pre xs : List Told) : List Blk := [⟨x.view.peers.map Peer.row, 2, .mut⟩, ⟨x.view.passive.map irow, 1, .mut⟩, ⟨x.items.map Item.row, 5, .mut⟩, ⟨(pre ++ xs).map Told.row, 3, .mut⟩]
def logPre (x : Node) (t : Told) : List Told := (x.log ++ [t]).take (x.log.length + 1 - 64)
def logOf (x : Node) (t : Told) : List Told := (x.log ++ [t]).drop (x.log.length + 1 - 64)
theorem z69 (x : Node) (t : Told) : (logPre x t).length = x.log.length + 1 - 64 ∧ (logOf x t).length = x.log.length + 1 - (x.log.length + 1 - 64) ∧ logPre x t ++ logOf x t = x.log ++ [t] := by
 unfold logPre logOf
 refine ⟨by simp; omega, by simp, List.take_append_drop _ _⟩
theorem zwr (x : Node) (key : Int) (i : Item) (has : Bool) (hs : x.small) (hl : x.log.length ≤ 64) : Den PP 131 [nodeD x, .int .i64 key, .agg i.row, .bool has] [] (noteD x (logPre x (toldOf key i has)) (logOf x (toldOf key i has))) (noteB x (logPre x (toldOf key i has)) (logOf x (toldOf key i has))) := by
 have := z7i x key i has hs hl
 obtain ⟨h1, h2, h3⟩ := z69 x (toldOf key i has)
 unfold noteD noteB
 rw [h1, h2, h3]
 exact this
def toB (x : Node) (m : Msg) (kind : Int) : Bool := nodeUp x && (msgMay m && (decide (m.kind = kind) && decide (m.to = x.view.id)))
theorem z9f (x : Node) (m : Msg) (kind : Int) (hs : x.small) (hl : m.ids.length ≤ cap) : Den PP 129 [.mem x.cells, .mem m.row, .int .i64 kind] [] (.bool (toB x m kind)) [] := by
 have c1 := zeg x hs
 have c2 := zlt m hl
 unfold toB
 generalize nodeUp x = U at *
 generalize msgMay m = M at *
 simp only [nodeD, Node.cells, peersD, intsD, itemsD, toldsD, Item.row, msgD, Msg.row] at c1 c2 ⊢
 refine zaj [] [] z6l ?_
 cases U <;> cases M
 all_goals
  simp -implicitDefEqProofs [z02]
  repeat' ((first | refine zaa (by first | exact c1 | exact c2) ?_ | ((with_reducible first | refine zal ?_ ?_ | refine zai ?_ ?_ | refine zaf ?_ ?_ | refine zad ?_ ?_) <;> intro _) | ((with_reducible first | refine zao ?_ ?_ | refine zaq ?_ ?_ | refine zam ?_ ?_ | refine zac ?_ ?_ | refine zak ?_ ?_ | refine zap ?_ ?_ | refine zah ?_ ?_ | refine zab ?_ ?_) <;> intro hq <;> (try simp at hq)) | refine zag (by omega) ?_ | refine zan (by omega) ?_) <;> simp -implicitDefEqProofs [*])
 all_goals (first | (simp [*]; done) | grind)
def askOf (x : Node) (to key : Int) : Msg := ⟨2, x.view.id, to, [], key, zeroItem, false⟩
def gotT (x : Node) (key : Int) : Told := toldOf key (getR x.items key).1 (getR x.items key).2
theorem zs9 {x : Node} (h : nodeUp x = true) : x.log.length ≤ 64 := (zcc h).2.2.2.1
theorem z2v (x : Node) (key : Int) (hs : x.small) (h : (nodeUp x && place key) = false) : Den PP 158 [nodeD x, .int .i64 key] [] (.tup [.agg [.bool false, .int .i64 0, .nil, .nil, .nil, .nil], .ref 0 0 0, .int .i64 2100]) [⟨[], 11, .mut⟩] := by
 have c1 := zeg x hs
 have c2 := zav key
 generalize nodeUp x = U at *
 generalize place key = M at *
 simp only [nodeD, Node.cells, peersD, intsD, itemsD, toldsD, Item.row] at c1 c2 ⊢
 refine zaj [] [] znu ?_
 cases U <;> cases M
 all_goals
  simp at h
 all_goals
  simp -implicitDefEqProofs [zmx]
  repeat' ((first | refine zaa (by first | exact c1 | exact c2) ?_ | ((with_reducible first | refine zal ?_ ?_ | refine zai ?_ ?_ | refine zaf ?_ ?_ | refine zad ?_ ?_) <;> intro _) | ((with_reducible first | refine zao ?_ ?_ | refine zaq ?_ ?_ | refine zam ?_ ?_ | refine zac ?_ ?_ | refine zak ?_ ?_ | refine zap ?_ ?_ | refine zah ?_ ?_ | refine zab ?_ ?_) <;> intro hq <;> (try simp at hq)) | refine zag (by omega) ?_ | refine zan (by omega) ?_) <;> simp -implicitDefEqProofs [*])
theorem zx8 (x : Node) (key : Int) (hs : x.small) (h1 : nodeUp x = true) (h2 : place key = true) (h3 : (ownerV x.view key).1 = x.view.id) : Den PP 158 [nodeD x, .int .i64 key] [] (.tup [noteD x (logPre x (gotT x key)) (logOf x (gotT x key)), .ref 4 0 0, .int .i64 0]) (noteB x (logPre x (gotT x key)) (logOf x (gotT x key)) ++ [⟨[], 11, .mut⟩]) := by
 have c1 := zeg x hs
 have c2 := zav key
 have c3 := zn6 x.view key hs.1
 have c4 := zmz x.items key (by have := hs.2.1; unfold cap16; omega)
 have c5 := zwr x key (getR x.items key).1 (getR x.items key).2 hs (zs9 h1)
 rw [h1] at c1
 rw [h2] at c2
 unfold gotT
 generalize getR x.items key = r at *
 obtain ⟨⟨ik, ic, iw, iv, ig⟩, g2⟩ := r
 generalize hlp : logPre x (toldOf key _ _) = pre at *
 generalize hlo : logOf x (toldOf key _ _) = xs at *
 clear hlp hlo
 generalize ownerV x.view key = o at *
 obtain ⟨o1, o2⟩ := o
 simp only at h3
 subst h3
 simp only [nodeD, Node.cells, viewD, View.cells, peersD, intsD, itemsD, toldsD, Item.row, noteD, noteB, pairD] at c1 c2 c3 c4 c5 ⊢
 clear h1 h2
 refine zaj [45] [] znu ?_
 simp -implicitDefEqProofs [zmx]
 repeat' ((first | refine zaa (by first | exact c1 | exact c2 | exact c3 | exact c4 | exact c5) ?_ | ((with_reducible first | refine zal ?_ ?_ | refine zai ?_ ?_ | refine zaf ?_ ?_ | refine zad ?_ ?_) <;> intro _) | ((with_reducible first | refine zao ?_ ?_ | refine zaq ?_ ?_ | refine zam ?_ ?_ | refine zac ?_ ?_ | refine zak ?_ ?_ | refine zap ?_ ?_ | refine zah ?_ ?_ | refine zab ?_ ?_) <;> intro hq <;> (try simp at hq)) | refine zag (by omega) ?_ | refine zan (by omega) ?_) <;> simp -implicitDefEqProofs [*, downTo])
theorem zzq (x : Node) (key : Int) (hs : x.small) (h1 : nodeUp x = true) (h2 : place key = true) (h3 : (ownerV x.view key).1 ≠ x.view.id) : Den PP 158 [nodeD x, .int .i64 key] [] (.tup [copyD x, .ref 4 0 1, .int .i64 0]) (nodeB x ++ [⟨[askOf x (ownerV x.view key).1 key].map Msg.row0, 11, .mut⟩]) := by
 have c1 := zeg x hs
 have c2 := zav key
 have c3 := zn6 x.view key hs.1
 have c5 := zd4 x hs
 rw [h1] at c1
 rw [h2] at c2
 generalize ownerV x.view key = o at *
 obtain ⟨o1, o2⟩ := o
 simp only at h3
 simp only [nodeD, Node.cells, viewD, View.cells, peersD, intsD, itemsD, toldsD, Item.row, copyD, nodeB, pairD, askOf, zeroItem, Msg.row0, List.map_cons, List.map_nil] at c1 c2 c3 c5 ⊢
 clear h1 h2
 refine zaj [47] [] znu ?_
 simp -implicitDefEqProofs [zmx]
 repeat' ((first | refine zaa (by first | exact c1 | exact c2 | exact c3) ?_ | ((with_reducible first | refine zal ?_ ?_ | refine zai ?_ ?_ | refine zaf ?_ ?_ | refine zad ?_ ?_) <;> intro _) | ((with_reducible first | refine zao ?_ ?_ | refine zaq ?_ ?_ | refine zam ?_ ?_ | refine zac ?_ ?_ | refine zak ?_ ?_ | refine zap ?_ ?_ | refine zah ?_ ?_ | refine zab ?_ ?_) <;> intro hq <;> (try simp at hq)) | refine zag (by omega) ?_ | refine zan (by omega) ?_) <;> simp -implicitDefEqProofs [*, downTo, h3])
 repeat' apply And.intro
 all_goals repeat' ((first | refine zaa (by first | exact c5) ?_ | ((with_reducible first | refine zal ?_ ?_ | refine zai ?_ ?_ | refine zaf ?_ ?_ | refine zad ?_ ?_) <;> intro _) | ((with_reducible first | refine zao ?_ ?_ | refine zaq ?_ ?_ | refine zam ?_ ?_ | refine zac ?_ ?_ | refine zak ?_ ?_ | refine zap ?_ ?_ | refine zah ?_ ?_ | refine zab ?_ ?_) <;> intro hq <;> (try simp at hq)) | refine zag (by omega) ?_ | refine zan (by omega) ?_) <;> simp -implicitDefEqProofs [*, downTo, h3])
def tellOf (x : Node) (m : Msg) : Msg := ⟨3, x.view.id, m.from_, [], m.key, (getR x.items m.key).1, (getR x.items m.key).2⟩
theorem ztq (x : Node) (m : Msg) (hs : x.small) (hl : m.ids.length ≤ cap) (h : toB x m 2 = true) : Den PP 45 [nodeD x, msgD m] [] (.tup [.ref 0 0 1, .int .i64 0]) [⟨[tellOf x m].map Msg.row0, 11, .mut⟩] := by
 have c1 := z9f x m 2 hs hl
 have c4 := zmz x.items m.key (by have := hs.2.1; unfold cap16; omega)
 rw [h] at c1
 unfold tellOf
 generalize getR x.items m.key = r at *
 obtain ⟨⟨ik, ic, iw, iv, ig⟩, g2⟩ := r
 simp only [nodeD, Node.cells, peersD, intsD, itemsD, toldsD, Item.row, msgD, Msg.row, Msg.row0, List.map_cons, List.map_nil] at c1 c4 ⊢
 clear h
 refine zaj [] [] zuq ?_
 simp -implicitDefEqProofs [zoo]
 repeat' ((first | refine zaa (by first | exact c1 | exact c4) ?_ | ((with_reducible first | refine zal ?_ ?_ | refine zai ?_ ?_ | refine zaf ?_ ?_ | refine zad ?_ ?_) <;> intro _) | ((with_reducible first | refine zao ?_ ?_ | refine zaq ?_ ?_ | refine zam ?_ ?_ | refine zac ?_ ?_ | refine zak ?_ ?_ | refine zap ?_ ?_ | refine zah ?_ ?_ | refine zab ?_ ?_) <;> intro hq <;> (try simp at hq)) | refine zag (by omega) ?_ | refine zan (by omega) ?_) <;> simp -implicitDefEqProofs [*, downTo])
 repeat' apply And.intro
 all_goals repeat' ((first | ((with_reducible first | refine zal ?_ ?_ | refine zai ?_ ?_ | refine zaf ?_ ?_ | refine zad ?_ ?_) <;> intro _) | ((with_reducible first | refine zao ?_ ?_ | refine zaq ?_ ?_ | refine zam ?_ ?_ | refine zac ?_ ?_ | refine zak ?_ ?_ | refine zap ?_ ?_ | refine zah ?_ ?_ | refine zab ?_ ?_) <;> intro hq <;> (try simp at hq)) | refine zag (by omega) ?_ | refine zan (by omega) ?_) <;> simp -implicitDefEqProofs [*, downTo])
def mT (m : Msg) : Told := toldOf m.key m.item m.has
theorem zza (x : Node) (m : Msg) (hs : x.small) (hl : m.ids.length ≤ cap) (h : toB x m 3 = true) : Den PP 46 [nodeD x, msgD m] [] (.tup [noteD x (logPre x (mT m)) (logOf x (mT m)), .int .i64 0]) (noteB x (logPre x (mT m)) (logOf x (mT m))) := by
 have c1 := z9f x m 3 hs hl
 rw [h] at c1
 unfold toB at h
 simp only [Bool.and_eq_true, decide_eq_true_eq] at h
 have c5 := zwr x m.key m.item m.has hs (zs9 h.1)
 clear h
 unfold mT
 generalize logPre x (toldOf m.key m.item m.has) = pre at *
 generalize logOf x (toldOf m.key m.item m.has) = xs at *
 simp only [nodeD, Node.cells, peersD, intsD, itemsD, toldsD, Item.row, msgD, Msg.row, noteD, noteB] at c1 c5 ⊢
 refine zaj [16] [] zyd ?_
 simp -implicitDefEqProofs [zr6]
 repeat' ((first | refine zaa (by first | exact c1 | exact c5) ?_ | ((with_reducible first | refine zal ?_ ?_ | refine zai ?_ ?_ | refine zaf ?_ ?_ | refine zad ?_ ?_) <;> intro _) | ((with_reducible first | refine zao ?_ ?_ | refine zaq ?_ ?_ | refine zam ?_ ?_ | refine zac ?_ ?_ | refine zak ?_ ?_ | refine zap ?_ ?_ | refine zah ?_ ?_ | refine zab ?_ ?_) <;> intro hq <;> (try simp at hq)) | refine zag (by omega) ?_ | refine zan (by omega) ?_) <;> simp -implicitDefEqProofs [*, downTo])
end Go.AM
/- AM: contracts: a get as an act. -/
namespace Go.AM
set_option linter.unusedSimpArgs false
set_option linter.unusedVariables false
set_option maxRecDepth 8000
set_option maxHeartbeats 0
theorem zyg (w : Wld) (a : Act) (x : Node) (hw : w.tiny) (hr : MonoC (cmpN a.node) w.nodes) (hi : isN a.node w.nodes = true) (hx : w.nodes[posN a.node w.nodes]? = some x) (h : (nodeUp x && place a.key) = false) : Den PP 69 [.ptr 0 0 0, .ptr 4 0 0] (actB w a) (.tup []) (actB w a) := by
 have c1 := zds w a (by have := hw.nodes; unfold cap; omega) hr hi
 have c2 := z2v x a.key (za7 (hw.node x (List.mem_of_getElem? hx))) h
 have hp := zdk hi
 have hg : ∀ h : posN a.node w.nodes < w.nodes.length, w.nodes[posN a.node w.nodes] = x := fun h => by rw [List.getElem?_eq_getElem h] at hx; exact Option.some.inj hx
 generalize posN a.node w.nodes = P at *
 have hp' : (P : Int) < w.nodes.length := by omega
 clear hi hr hw h
 simp only [actB, doA, doC, doS, copyD, nodeB, noteD, noteB, nodeD, intsD, Act.cells, Wld.cells, nodesD, cutsD, msgsD, msgD] at c1 c2 ⊢
 refine zaj [] [8, 28] zg7 ?_
 simp -implicitDefEqProofs [zfs]
 refine zae [0, 1, 2, 3, 4] rfl (by decide) (by simp) c1 (by simp) (by simp [lentBs]) ?_
 simp -implicitDefEqProofs [framed, hp, hp', hx, hg]
 refine zaa c2 ?_
 simp -implicitDefEqProofs [-leave, hp, hp', hx, hg]
 exact leave5 (za1 rfl) (zbb 5 _) (zby 5 _) (zbv 5 _) (za1 rfl)
theorem zwx (w : Wld) (a : Act) (x : Node) (hw : w.tiny) (hr : MonoC (cmpN a.node) w.nodes) (hi : isN a.node w.nodes = true) (hx : w.nodes[posN a.node w.nodes]? = some x) (h1 : nodeUp x = true) (h2 : place a.key = true) (h3 : (ownerV x.view a.key).1 = x.view.id) (hm1 : worldMay { w with nodes := w.nodes.set (posN a.node w.nodes) ({ x with log := logOf x (gotT x a.key) }) } = true) (hm2 : worldMay { w with nodes := w.nodes.set (posN a.node w.nodes) ({ x with log := logOf x (gotT x a.key) }), packets := [] } = true) :
 Den PP 69 [.ptr 0 0 0, .ptr 4 0 0] (actB w a) (.tup []) (doS { w with nodes := w.nodes.set (posN a.node w.nodes) ({ x with log := logOf x (gotT x a.key) }) } (sendW { w with nodes := w.nodes.set (posN a.node w.nodes) ({ x with log := logOf x (gotT x a.key) }) } []) w.packets a) := by
 have c1 := zds w a (by have := hw.nodes; unfold cap; omega) hr hi
 have c2 := zx8 x a.key (za7 (hw.node x (List.mem_of_getElem? hx))) h1 h2 h3
 have c3 := zp8 { w with nodes := w.nodes.set (posN a.node w.nodes) ({ x with log := logOf x (gotT x a.key) }) } [] hm1 hm2
 generalize logPre x (gotT x a.key) = pre at *
 generalize hlog : logOf x (gotT x a.key) = ys at *
 have c3 : Den PP 151 [.ptr 0 0 0, .sl [] 0] _ _ _ := c3
 have hp := zdk hi
 have hg : ∀ h : posN a.node w.nodes < w.nodes.length, w.nodes[posN a.node w.nodes] = x := fun h => by rw [List.getElem?_eq_getElem h] at hx; exact Option.some.inj hx
 generalize posN a.node w.nodes = P at *
 have hp' : (P : Int) < w.nodes.length := by omega
 have e1 : (sendW { w with nodes := w.nodes.set P ({ x with log := ys }) } []).nodes = w.nodes.set P ({ x with log := ys }) := rfl
 have e2 : (sendW { w with nodes := w.nodes.set P ({ x with log := ys }) } []).cuts = w.cuts := rfl
 generalize sendW { w with nodes := w.nodes.set P ({ x with log := ys }) } [] = v at *
 obtain ⟨ns, cs, ps⟩ := v
 simp only at e1 e2
 subst e1 e2
 clear hi hr hw h1 h2 h3 hm1 hm2
 simp only [actB, doA, doC, doS, copyD, nodeB, noteD, noteB, nodeD, intsD, Act.cells, Wld.cells, nodesD, cutsD, msgsD, msgD, List.length_set, List.map_set, List.map_cons, List.map_nil, List.length_cons, List.length_nil, List.nil_append, List.cons_append] at c1 c2 c3 ⊢
 rw [zdp ({ x with log := ys })] at c3 ⊢
 simp only at c3 ⊢
 refine zaj [] [8, 28] zg7 ?_
 simp -implicitDefEqProofs [zfs]
 refine zae [0, 1, 2, 3, 4] rfl (by decide) (by simp) c1 (by simp) (by simp [lentBs]) ?_
 simp -implicitDefEqProofs [framed, hp, hp', hx, hg]
 refine zaa c2 ?_
 simp -implicitDefEqProofs [-leave, hp, hp', hx, hg]
 refine zae [0, 1, 2, 3] rfl (by decide) (by simp) c3 (by simp) (by simp [lentBs]) ?_
 simp -implicitDefEqProofs [framed, -leave]
 exact leave5 (za1 rfl) (zg5 (zbb 5 _) (List.all_eq_true.1 rfl)) (zby 5 _) (zbv 5 _) (za1 rfl)
theorem zu8 (w : Wld) (a : Act) (x : Node) (hw : w.tiny) (hr : MonoC (cmpN a.node) w.nodes) (hi : isN a.node w.nodes = true) (hx : w.nodes[posN a.node w.nodes]? = some x) (h1 : nodeUp x = true) (h2 : place a.key = true) (h3 : (ownerV x.view a.key).1 ≠ x.view.id) (hm1 : worldMay { w with nodes := w.nodes.set (posN a.node w.nodes) (x) } = true) (hm2 : worldMay { w with nodes := w.nodes.set (posN a.node w.nodes) (x), packets := [askOf x (ownerV x.view a.key).1 a.key] } = true) :
 Den PP 69 [.ptr 0 0 0, .ptr 4 0 0] (actB w a) (.tup []) (doS { w with nodes := w.nodes.set (posN a.node w.nodes) (x) } (sendW { w with nodes := w.nodes.set (posN a.node w.nodes) (x) } [askOf x (ownerV x.view a.key).1 a.key]) w.packets a) := by
 have c1 := zds w a (by have := hw.nodes; unfold cap; omega) hr hi
 have c2 := zzq x a.key (za7 (hw.node x (List.mem_of_getElem? hx))) h1 h2 h3
 have c3 := zp8 { w with nodes := w.nodes.set (posN a.node w.nodes) (x) } [askOf x (ownerV x.view a.key).1 a.key] hm1 hm2
 have c3 : Den PP 151 [.ptr 0 0 0, .sl [(askOf x (ownerV x.view a.key).1 a.key).row0] 1] _ _ _ := zdv (by
  have hn := zlm [askOf x (ownerV x.view a.key).1 a.key]
  simp only [List.map_cons, List.map_nil] at hn
  simp only [List.map_cons, List.map_nil, D.nrm, hn]
  exact c3)
 generalize askOf x (ownerV x.view a.key).1 a.key = m at *
 have hp := zdk hi
 have hg : ∀ h : posN a.node w.nodes < w.nodes.length, w.nodes[posN a.node w.nodes] = x := fun h => by rw [List.getElem?_eq_getElem h] at hx; exact Option.some.inj hx
 generalize posN a.node w.nodes = P at *
 have hp' : (P : Int) < w.nodes.length := by omega
 have e1 : (sendW { w with nodes := w.nodes.set P (x) } [m]).nodes = w.nodes.set P (x) := rfl
 have e2 : (sendW { w with nodes := w.nodes.set P (x) } [m]).cuts = w.cuts := rfl
 generalize sendW { w with nodes := w.nodes.set P (x) } [m] = v at *
 obtain ⟨ns, cs, ps⟩ := v
 simp only at e1 e2
 subst e1 e2
 clear hi hr hw h1 h2 h3 hm1 hm2
 simp only [actB, doA, doC, doS, copyD, nodeB, noteD, noteB, nodeD, intsD, Act.cells, Wld.cells, nodesD, cutsD, msgsD, msgD, List.length_set, List.map_set, List.map_cons, List.map_nil, List.length_cons, List.length_nil, List.nil_append, List.cons_append] at c1 c2 c3 ⊢
 rw [zdp (x)] at c3 ⊢
 simp only [Msg.row0] at c2 c3
 refine zaj [] [8, 28] zg7 ?_
 simp -implicitDefEqProofs [zfs]
 refine zae [0, 1, 2, 3, 4] rfl (by decide) (by simp) c1 (by simp) (by simp [lentBs]) ?_
 simp -implicitDefEqProofs [framed, hp, hp', hx, hg]
 refine zaa c2 ?_
 simp -implicitDefEqProofs [-leave, hp, hp', hx, hg]
 refine zae [0, 1, 2, 3] rfl (by decide) (by simp) c3 (by simp) (by simp [lentBs]) ?_
 simp -implicitDefEqProofs [framed, -leave]
 exact leave5 (za1 rfl) (zg5 (zbb 5 _) (List.all_eq_true.1 rfl)) (zby 5 _) (zbv 5 _) (za1 rfl)
end Go.AM
/- AM: contracts: one is heard, of a view that is lent. -/
namespace Go.AM
set_option linter.unusedSimpArgs false
set_option linter.unusedVariables false
set_option maxRecDepth 8000
set_option maxHeartbeats 0
theorem zo5 (xs : List Int) (y : Int) (hl : xs.length ≤ cap) : Den PP 229 [intsD xs, .int .i64 y] [] (.int .i64 (fIdx (fun x => decide (y = x)) 0 xs)) [] := by
 unfold cap at hl
 refine zaj [] [] ziz ?_
 simp -implicitDefEqProofs [zfj, intsD]
 refine zcw (xs.length + 1) ?_
 have key : ∀ (Q : Ex → St → Prop) (r : Int) (hQ1 : ∀ fr, r = -1 → Q .normal ⟨fr, []⟩) (hQ2 : ∀ fr bs, fr 4 = .int .i64 r → Q .ret ⟨fr, bs⟩) (rest : List Int) (i : Nat) (fr : Nat → D), xs.drop i = rest → i ≤ xs.length →
  fr 0 = .sl (xs.map irow) xs.length → fr 1 = .int .i64 y → fr 7 = .int .i64 xs.length → fr 8 = .int .i64 i → fIdx (fun x => decide (y = x)) i rest = r → sLoop (cf 0 [] []) 0 zck (blockQ 0 Q) (rest.length + 1) ⟨fr, []⟩ := by
  intro Q r hQ1 hQ2 rest
  induction rest with
  | nil =>
    intro i fr e hi h0 h1 h7 h8 hm
    refine za4 zck.eq_1 ?_
    have hi' := zfa e hi
    simp -implicitDefEqProofs [h0, h1, h7, h8, hi']
    exact hQ1 _ hm.symm
  | cons x rest ih =>
    intro i fr e hi h0 h1 h7 h8 hm
    refine za4 zck.eq_1 ?_
    obtain ⟨hlt, hget, hd, hlen⟩ := zd2 e
    have hlt' : (i : Int) < xs.length := by omega
    have hw := zay (show i ≤ 140737488355328 by omega)
    simp only [fIdx] at hm
    simp -implicitDefEqProofs [h0, h1, h7, h8, hlt', hget, irow]
    refine zaf (fun h2 => ?_) (fun h2 => ?_)
    all_goals simp -implicitDefEqProofs [h2, h0, h1, h7, h8, hw]
    ·exact hQ2 _ _ (by rw [← hm]; simp [h2])
    ·exact ih (i + 1) _ hd (by omega) (by simp [h0]) (by simp [h1]) (by simp [h7]) (by simp) (by rw [← hm]; simp [h2])
 refine key _ (fIdx (fun x => decide (y = x)) 0 xs) (fun fr h => ?_) (fun fr bs h => ?_) xs 0 _ rfl (Nat.zero_le _) rfl rfl rfl rfl rfl
 ·simp -implicitDefEqProofs [h]
 ·simp -implicitDefEqProofs [h]
theorem zlx (xs : List Int) (y : Int) (hl : xs.length ≤ cap) : Den PP 194 [intsD xs, .int .i64 y] [] (.bool (xs.contains y)) [] := by
 have c1 := zo5 xs y hl
 have e := z04 (fun x => decide (y = x)) xs 0
 have e2 : xs.contains y = xs.any fun x => decide (y = x) := by
  rw [Bool.eq_iff_iff]
  simp
 rw [e2]
 simp only [intsD] at c1 ⊢
 refine zaj [] [] zg9 ?_
 simp -implicitDefEqProofs [zeh]
 refine zaa c1 ?_
 simp -implicitDefEqProofs [← e]
theorem zjr (v : View) (id : Int) (hl : v.passive.length ≤ cap) : Den PP 122 [.mem v.cells, .int .i64 id] [] (.bool (v.passive.contains id)) [] := by
 have c1 := zlx v.passive id hl
 simp only [intsD, View.cells, peersD] at c1 ⊢
 generalize v.passive.contains id = B at *
 refine zaj [] [] zqb ?_
 simp -implicitDefEqProofs [zlb]
 repeat' ((first | refine zaa (by first | exact c1) ?_ | ((with_reducible first | refine zal ?_ ?_ | refine zai ?_ ?_ | refine zaf ?_ ?_ | refine zad ?_ ?_) <;> intro _) | ((with_reducible first | refine zao ?_ ?_ | refine zaq ?_ ?_ | refine zam ?_ ?_ | refine zac ?_ ?_ | refine zak ?_ ?_ | refine zap ?_ ?_ | refine zah ?_ ?_ | refine zab ?_ ?_) <;> intro hq <;> (try simp at hq)) | refine zag (by omega) ?_ | refine zan (by omega) ?_) <;> simp -implicitDefEqProofs [*])
theorem z21 (v : View) (h1 : v.peers.length ≤ 16) (h2 : v.passive.length ≤ 16) : Den PP 190 [.mem v.cells] [] (.bool (decide (v.peers.length + v.passive.length < 16))) [] := by
 have w : IntKind.wrap .i64 ((v.peers.length : Int) + v.passive.length) = v.peers.length + v.passive.length := zas (by omega) (by omega)
 have e : decide (v.peers.length + v.passive.length < 16) = decide ((v.peers.length : Int) + v.passive.length < 16) := by
  rw [decide_eq_decide]; omega
 rw [e]
 simp only [View.cells, peersD, intsD]
 refine zaj [] [] ztp ?_
 simp -implicitDefEqProofs [zow, w]
def viewBox (v : View) (p q : Nat) : Blk := ⟨[[.int .i64 v.id, .ref p 0 v.peers.length, .ref q 0 v.passive.length]], 3, .box⟩
def psB (v : View) : Blk := ⟨v.peers.map Peer.row, 2, .mut⟩
def xsB (v : View) : Blk := ⟨v.passive.map irow, 1, .mut⟩
theorem zin (v : View) (id : Int) (hv : viewMay v = true) (hp : place id = true) (hn : id ≠ v.id) : Den PP 120 [.ptr 0 0 0, .int .i64 id] [viewBox v 1 2, psB v, xsB v] (.tup [])
 (if roomV v id then [viewBox (knownV v id) 3 4, ⟨v.peers.map Peer.row, 2, .app⟩, ⟨v.passive.map irow, 1, .app⟩, psB (knownV v id), xsB (knownV v id)] else [viewBox v 1 2, psB v, xsB v]) := by
 obtain ⟨p1, p2, p3, p4⟩ := zaz hv
 have c1 := znf v id (by unfold cap; omega) (zdt p1)
 rw [zfl p1 hp] at c1
 have c2 := zjr v id (by unfold cap; omega)
 have c3 := z21 v (by omega) (by omega)
 have c4 := zrb v.passive id (by unfold cap; omega)
 rw [show withoutP v.passive id = (v.passive.filter fun y => !decide (y = id), 0) by simp [withoutP, p2, hp]] at c4
 have c5 := zx7 v.id v.peers id (by unfold cap16; omega)
 have hk := (zk0 hv hp hn).2
 have hkv : roomV v id = true → knownV v id = ⟨v.id, hearG v.id id false v.peers, v.passive.filter fun y => !decide (y = id)⟩ := by intro h; unfold knownV; rw [if_pos h]
 unfold viewBox psB xsB
 cases hr : roomV v id with
 | false =>
   clear hk hkv c4 c5
   simp only [Bool.false_eq_true, if_false]
   simp only [roomV, knowsV] at hr
   generalize (v.peers.map Peer.id).contains id = A at *
   generalize v.passive.contains id = B at *
   generalize decide (v.peers.length + v.passive.length < 16) = R at *
   simp only [View.cells, peersD, intsD] at c1 c2 c3
   clear p1 p2 p3 p4 hv hp hn
   simp only [Bool.or_eq_false_iff] at hr
   obtain ⟨⟨rfl, rfl⟩, rfl⟩ := hr
   refine zaj [27, 43] [] zlk ?_
   simp -implicitDefEqProofs [zix]
   repeat' ((first | refine zaa (by first | exact c1 | exact c2 | exact c3) ?_ | ((with_reducible first | refine zal ?_ ?_ | refine zai ?_ ?_ | refine zaf ?_ ?_ | refine zad ?_ ?_) <;> intro _) | ((with_reducible first | refine zao ?_ ?_ | refine zaq ?_ ?_ | refine zam ?_ ?_ | refine zac ?_ ?_ | refine zak ?_ ?_ | refine zap ?_ ?_ | refine zah ?_ ?_ | refine zab ?_ ?_) <;> intro hq <;> (try simp at hq)) | refine zag (by omega) ?_ | refine zan (by omega) ?_) <;> simp -implicitDefEqProofs [*, downTo])
 | true =>
   simp only [if_true]
   rw [hkv hr]
   rw [hk hr] at c5
   clear hk hkv
   simp only [roomV, knowsV] at hr
   generalize hearG v.id id false v.peers = ps at *
   generalize (v.passive.filter fun y => !decide (y = id)) = xs at *
   generalize (v.peers.map Peer.id).contains id = A at *
   generalize v.passive.contains id = B at *
   generalize decide (v.peers.length + v.passive.length < 16) = R at *
   simp only [View.cells, peersD, intsD] at c1 c2 c3 c4 c5
   clear p1 p2 p3 p4 hv hp hn
   refine zaj [27, 43] [] zlk ?_
   cases A <;> cases B <;> cases R
   all_goals try (simp at hr; done)
   all_goals
    clear hr
    simp -implicitDefEqProofs [zix]
    repeat' ((first | refine zaa (by first | exact c1 | exact c2 | exact c3 | exact c4 | exact c5) ?_ | ((with_reducible first | refine zal ?_ ?_ | refine zai ?_ ?_ | refine zaf ?_ ?_ | refine zad ?_ ?_) <;> intro _) | ((with_reducible first | refine zao ?_ ?_ | refine zaq ?_ ?_ | refine zam ?_ ?_ | refine zac ?_ ?_ | refine zak ?_ ?_ | refine zap ?_ ?_ | refine zah ?_ ?_ | refine zab ?_ ?_) <;> intro hq <;> (try simp at hq)) | refine zag (by omega) ?_ | refine zan (by omega) ?_) <;> simp -implicitDefEqProofs [*, downTo])
end Go.AM
/- AM: contracts: a greeting is taken. -/
namespace Go.AM
set_option linter.unusedSimpArgs false
set_option linter.unusedVariables false
set_option maxRecDepth 8000
set_option maxHeartbeats 0
theorem z2q {v : View} (h : 16 ≤ sizeV v) (x : Int) : tellV v x = v := by
 unfold tellV
 split
 ·rename_i hc
  simp only [Bool.and_eq_true, Bool.not_eq_true'] at hc
  apply zjq
  unfold roomV
  rw [hc.2]
  unfold sizeV at h
  simp
  omega
 ·rfl
theorem z2o {v : View} (h : 16 ≤ sizeV v) : ∀ ids : List Int, ids.foldl tellV v = v := by
 intro ids
 induction ids with
 | nil => rfl
 | cons x ids ih => rw [List.foldl_cons, z2q h, ih]
theorem z43 {ids : List Int} {i : Nat} {x : Int} (h : ids[i]? = some x) (w0 : View) : (ids.take (i + 1)).foldl tellV w0 = tellV ((ids.take i).foldl tellV w0) x := by
 rw [List.take_add_one, h]
 simp
def z9g (w : View) (bs : List Blk) : Prop := (∃ d0 d2 d3, bs = [d0, ⟨[[.int .i64 0, .nil, .nil]], 3, .box⟩, d2, d3, viewBox w 5 6, psB w, xsB w]) ∨ ∃ d0 d2 d3 d5 d6, bs = [d0, ⟨[[.int .i64 0, .nil, .nil]], 3, .box⟩, d2, d3, viewBox w 7 8, d5, d6, psB w, xsB w]
theorem zrj (v : View) (a : Int) (ids : List Int) (hs : v.small) (h : helloOk v a ids = true) (hr : roomV v a = true) : Den PP 41 [viewD v, .int .i64 a, intsD ids] [] (.tup [.agg [.int .i64 v.id, .ref 0 0 (helloV v a ids).peers.length, .ref 1 0 (helloV v a ids).passive.length], .int .i64 0]) [psB (helloV v a ids), xsB (helloV v a ids)] := by
 obtain ⟨k1, k2, k3, k4, k5⟩ := ziu h
 have hcap : ids.length ≤ cap := by unfold cap; omega
 have c1 := zkv v hs
 have c2 := zav a
 have c3 := zg0 ids hcap
 have c4 := zme v hs
 rw [k1] at c1
 rw [k2] at c2
 rw [show ids.all place = true from List.all_eq_true.2 k5] at c3
 have c5 := zin v a k1 k2 k3
 rw [if_pos hr] at c5
 have hw0 := (zk0 k1 k2 k3).1
 have hid0 := zkc v a
 have hk4 : ¬ (16 : Int) < ids.length := by omega
 unfold helloV
 generalize knownV v a = w0 at *
 have key : ∀ i, viewMay ((ids.take i).foldl tellV w0) = true ∧ ((ids.take i).foldl tellV w0).id = v.id := by
  intro i
  obtain ⟨e1, e2⟩ := zwp (ids.take i) w0 hw0 (fun x hx => k5 x (List.mem_of_mem_take hx))
  exact ⟨e1, by rw [e2, hid0]⟩
 simp only [viewD, View.cells, peersD, intsD, viewBox, psB, xsB] at c1 c3 c4 c5 ⊢
 clear k1 k2 hs h hr
 refine zaj [37] [38, 60] zm9 ?_
 simp -implicitDefEqProofs [zjv, hk4, k3]
 repeat' ((first | refine zaa (by first | exact c1 | exact c2 | exact c3 | exact c4) ?_ | ((with_reducible first | refine zal ?_ ?_ | refine zai ?_ ?_ | refine zaf ?_ ?_ | refine zad ?_ ?_) <;> intro _) | ((with_reducible first | refine zao ?_ ?_ | refine zaq ?_ ?_ | refine zam ?_ ?_ | refine zac ?_ ?_ | refine zak ?_ ?_ | refine zap ?_ ?_ | refine zah ?_ ?_ | refine zab ?_ ?_) <;> intro hq <;> (try simp at hq)) | refine zag (by omega) ?_ | refine zan (by omega) ?_) <;> simp -implicitDefEqProofs [*, downTo, hk4, k3])
 refine zae [4, 2, 3] rfl (by decide) (by simp) c5 (by simp) (by simp [lentBs]) ?_
 simp -implicitDefEqProofs [framed]
 refine zw5 ids (fun i rest => fun ⟨fr, bs⟩ => z9g ((ids.take i).foldl tellV w0) bs ∧ fr 6 = .ptr 1 0 0 ∧ fr 8 = .ptr 4 0 0 ∧ fr 40 = .sl (ids.map irow) ids.length ∧ fr 41 = .int .i64 ids.length ∧ fr 42 = .int .i64 i)
  (fun ⟨fr, bs⟩ => z9g (ids.foldl tellV w0) bs ∧ fr 6 = .ptr 1 0 0 ∧ fr 8 = .ptr 4 0 0) (fun _ => False) zg8.eq_1 ?_ ?_ ?_ ?_ ?_
 ·exact ⟨.inl ⟨_, _, _, by simp [viewBox, psB, xsB]; exact ⟨rfl, rfl, rfl⟩⟩, by simp, by simp, by simp, by simp, by simp⟩
 ·rintro i ⟨fr, bs⟩ hi ⟨hB, h6, h8, h40, h41, h42⟩
  rw [hi, List.take_length] at hB
  simp -implicitDefEqProofs [h6, h8, h40, h41, h42, hi]
  exact hB
 ·rintro i x rest ⟨fr, bs⟩ hlt hget hg hd hd2 ⟨hB, h6, h8, h40, h41, h42⟩
  obtain ⟨w, hw⟩ : ∃ w, w = (ids.take i).foldl tellV w0 := ⟨_, rfl⟩
  rw [← hw] at hB
  have hlt' : (i : Int) < ids.length := by omega
  have hwr := zay (n := i) (by omega)
  have hx := k5 x (List.mem_of_getElem? hget)
  have hkey := key i
  rw [← hw] at hkey
  obtain ⟨hm, hid⟩ := hkey
  have hnext := z43 hget w0
  rw [← hw] at hnext
  obtain ⟨p1, p2, p3, p4⟩ := zaz hm
  have v1 := znf w x (by unfold cap; omega) (zdt p1)
  rw [zfl p1 hx] at v1
  have v2 := zjr w x (by unfold cap; omega)
  have v3 : x ≠ w.id → _ := fun hn => zin w x hm hx hn
  clear c1 c2 c3 c4 c5 key hw p1 p2 p3 p4
  obtain ⟨A, hA⟩ : ∃ A, (w.peers.map Peer.id).contains x = A := ⟨_, rfl⟩
  obtain ⟨C, hC⟩ : ∃ C, w.passive.contains x = C := ⟨_, rfl⟩
  have hkn : knowsV w x = (A || C) := by rw [← hA, ← hC]; rfl
  rw [hA] at v1
  rw [hC] at v2
  clear hA hC
  simp only [View.cells, peersD, intsD] at v1 v2
  have hr7 : List.range 7 = [0, 1, 2, 3, 4, 5, 6] := rfl
  clear hid hm
  by_cases hn : x = w.id
  ·have ht : tellV w x = w := by unfold tellV; simp [hn]
   rw [ht] at hnext
   rcases hB with ⟨d0, d2, d3, rfl⟩ | ⟨d0, d2, d3, d5, d6, rfl⟩
   ·simp -implicitDefEqProofs [h6, h8, h40, h41, h42, hlt, hlt', hget, hg, hn, hwr, viewBox, psB, xsB, irow]
    refine ⟨[], ⟨by simp, by simp, by simp⟩, ?_⟩
    unfold keepSt pickSt
    dsimp only
    try rw [hnext]
    exact ⟨.inl ⟨_, _, _, by simp [lentBs, hr7, viewBox, psB, xsB, irow]; repeat' (first | rfl | apply And.intro)⟩, by simp [h6, hr7], by simp [h8, hr7], by simp [h40], by simp [h41], by simp⟩
   ·simp -implicitDefEqProofs [h6, h8, h40, h41, h42, hlt, hlt', hget, hg, hn, hwr, viewBox, psB, xsB, irow]
    refine ⟨[7, 8], ⟨by simp, by simp, by simp⟩, ?_⟩
    unfold keepSt pickSt
    dsimp only
    try rw [hnext]
    exact ⟨.inr ⟨_, _, _, _, _, by simp [lentBs, hr7, viewBox, psB, xsB, irow]; repeat' (first | rfl | apply And.intro)⟩, by simp [h6, hr7], by simp [h8, hr7], by simp [h40], by simp [h41], by simp⟩
  ·have v4 := v3 hn
   clear v3
   cases hAC : (A || C) with
   | true =>
     have ht : tellV w x = w := by unfold tellV; simp [hkn, hAC]
     rw [ht] at hnext
     clear v4 hkn ht
     rcases hB with ⟨d0, d2, d3, rfl⟩ | ⟨d0, d2, d3, d5, d6, rfl⟩
     ·cases A <;> cases C
      all_goals try (simp at hAC; done)
      all_goals
       clear hAC
       simp -implicitDefEqProofs [h6, h8, h40, h41, h42, hlt, hlt', hget, hg, hn, hwr, viewBox, psB, xsB, irow]
       repeat' ((first | refine zaa (by first | exact v1 | exact v2) ?_ | ((with_reducible first | refine zal ?_ ?_ | refine zai ?_ ?_ | refine zaf ?_ ?_ | refine zad ?_ ?_) <;> intro _) | ((with_reducible first | refine zao ?_ ?_ | refine zaq ?_ ?_ | refine zam ?_ ?_ | refine zac ?_ ?_ | refine zak ?_ ?_ | refine zap ?_ ?_ | refine zah ?_ ?_ | refine zab ?_ ?_) <;> intro hq <;> (try simp at hq)) | refine zag (by omega) ?_ | refine zan (by omega) ?_) <;> simp -implicitDefEqProofs [*, h6, h8, h40, h41, h42, hlt, hlt', hget, hg, hn, hwr, viewBox, psB, xsB, irow])
       refine ⟨[], ⟨by simp, by simp, by simp⟩, ?_⟩
       unfold keepSt pickSt
       dsimp only
       try rw [hnext]
       exact ⟨.inl ⟨_, _, _, by simp [lentBs, hr7, viewBox, psB, xsB, irow]; repeat' (first | rfl | apply And.intro)⟩, by simp [h6, hr7], by simp [h8, hr7], by simp [h40], by simp [h41], by simp⟩
     ·cases A <;> cases C
      all_goals try (simp at hAC; done)
      all_goals
       clear hAC
       simp -implicitDefEqProofs [h6, h8, h40, h41, h42, hlt, hlt', hget, hg, hn, hwr, viewBox, psB, xsB, irow]
       repeat' ((first | refine zaa (by first | exact v1 | exact v2) ?_ | ((with_reducible first | refine zal ?_ ?_ | refine zai ?_ ?_ | refine zaf ?_ ?_ | refine zad ?_ ?_) <;> intro _) | ((with_reducible first | refine zao ?_ ?_ | refine zaq ?_ ?_ | refine zam ?_ ?_ | refine zac ?_ ?_ | refine zak ?_ ?_ | refine zap ?_ ?_ | refine zah ?_ ?_ | refine zab ?_ ?_) <;> intro hq <;> (try simp at hq)) | refine zag (by omega) ?_ | refine zan (by omega) ?_) <;> simp -implicitDefEqProofs [*, h6, h8, h40, h41, h42, hlt, hlt', hget, hg, hn, hwr, viewBox, psB, xsB, irow])
       refine ⟨[7, 8], ⟨by simp, by simp, by simp⟩, ?_⟩
       unfold keepSt pickSt
       dsimp only
       try rw [hnext]
       exact ⟨.inr ⟨_, _, _, _, _, by simp [lentBs, hr7, viewBox, psB, xsB, irow]; repeat' (first | rfl | apply And.intro)⟩, by simp [h6, hr7], by simp [h8, hr7], by simp [h40], by simp [h41], by simp⟩
   | false =>
     simp only [Bool.or_eq_false_iff] at hAC
     obtain ⟨rfl, rfl⟩ := hAC
     have ht : tellV w x = knownV w x := by unfold tellV; simp [hkn, hn]
     rw [ht] at hnext
     clear ht hkn
     cases hr : roomV w x with
     | false =>
       rw [zjq hr] at hnext
       rw [if_neg (by simp [hr])] at v4
       clear hr
       simp only [viewBox, psB, xsB] at v4
       rcases hB with ⟨d0, d2, d3, rfl⟩ | ⟨d0, d2, d3, d5, d6, rfl⟩
       ·simp -implicitDefEqProofs [h6, h8, h40, h41, h42, hlt, hlt', hget, hg, hn, hwr, viewBox, psB, xsB, irow]
        repeat' ((first | refine zaa (by first | exact v1 | exact v2) ?_ | ((with_reducible first | refine zal ?_ ?_ | refine zai ?_ ?_ | refine zaf ?_ ?_ | refine zad ?_ ?_) <;> intro _) | ((with_reducible first | refine zao ?_ ?_ | refine zaq ?_ ?_ | refine zam ?_ ?_ | refine zac ?_ ?_ | refine zak ?_ ?_ | refine zap ?_ ?_ | refine zah ?_ ?_ | refine zab ?_ ?_) <;> intro hq <;> (try simp at hq)) | refine zag (by omega) ?_ | refine zan (by omega) ?_) <;> simp -implicitDefEqProofs [*, h6, h8, h40, h41, h42, hlt, hlt', hget, hg, hn, hwr, viewBox, psB, xsB, irow])
        refine zae [4, 5, 6] rfl (by decide) (by simp) v4 (by simp) (by simp [lentBs]) ?_
        simp -implicitDefEqProofs [framed, h6, h8, h40, h41, h42, hlt, hlt', hget, hg, hn, hwr, viewBox, psB, xsB, irow]
        refine ⟨[], ⟨by simp, by simp, by simp⟩, ?_⟩
        unfold keepSt pickSt
        dsimp only
        try rw [hnext]
        exact ⟨.inl ⟨_, _, _, by simp [lentBs, hr7, viewBox, psB, xsB, irow]; repeat' (first | rfl | apply And.intro)⟩, by simp [h6, hr7], by simp [h8, hr7], by simp [h40], by simp [h41], by simp⟩
       ·simp -implicitDefEqProofs [h6, h8, h40, h41, h42, hlt, hlt', hget, hg, hn, hwr, viewBox, psB, xsB, irow]
        repeat' ((first | refine zaa (by first | exact v1 | exact v2) ?_ | ((with_reducible first | refine zal ?_ ?_ | refine zai ?_ ?_ | refine zaf ?_ ?_ | refine zad ?_ ?_) <;> intro _) | ((with_reducible first | refine zao ?_ ?_ | refine zaq ?_ ?_ | refine zam ?_ ?_ | refine zac ?_ ?_ | refine zak ?_ ?_ | refine zap ?_ ?_ | refine zah ?_ ?_ | refine zab ?_ ?_) <;> intro hq <;> (try simp at hq)) | refine zag (by omega) ?_ | refine zan (by omega) ?_) <;> simp -implicitDefEqProofs [*, h6, h8, h40, h41, h42, hlt, hlt', hget, hg, hn, hwr, viewBox, psB, xsB, irow])
        refine zae [4, 7, 8] rfl (by decide) (by simp) v4 (by simp) (by simp [lentBs]) ?_
        simp -implicitDefEqProofs [framed, h6, h8, h40, h41, h42, hlt, hlt', hget, hg, hn, hwr, viewBox, psB, xsB, irow]
        refine ⟨[7, 8], ⟨by simp, by simp, by simp⟩, ?_⟩
        unfold keepSt pickSt
        dsimp only
        try rw [hnext]
        exact ⟨.inr ⟨_, _, _, _, _, by simp [lentBs, hr7, viewBox, psB, xsB, irow]; repeat' (first | rfl | apply And.intro)⟩, by simp [h6, hr7], by simp [h8, hr7], by simp [h40], by simp [h41], by simp⟩
     | true =>
       rw [if_pos hr] at v4
       generalize knownV w x = w2 at *
       clear hr
       simp only [viewBox, psB, xsB] at v4
       rcases hB with ⟨d0, d2, d3, rfl⟩ | ⟨d0, d2, d3, d5, d6, rfl⟩
       ·simp -implicitDefEqProofs [h6, h8, h40, h41, h42, hlt, hlt', hget, hg, hn, hwr, viewBox, psB, xsB, irow]
        repeat' ((first | refine zaa (by first | exact v1 | exact v2) ?_ | ((with_reducible first | refine zal ?_ ?_ | refine zai ?_ ?_ | refine zaf ?_ ?_ | refine zad ?_ ?_) <;> intro _) | ((with_reducible first | refine zao ?_ ?_ | refine zaq ?_ ?_ | refine zam ?_ ?_ | refine zac ?_ ?_ | refine zak ?_ ?_ | refine zap ?_ ?_ | refine zah ?_ ?_ | refine zab ?_ ?_) <;> intro hq <;> (try simp at hq)) | refine zag (by omega) ?_ | refine zan (by omega) ?_) <;> simp -implicitDefEqProofs [*, h6, h8, h40, h41, h42, hlt, hlt', hget, hg, hn, hwr, viewBox, psB, xsB, irow])
        refine zae [4, 5, 6] rfl (by decide) (by simp) v4 (by simp) (by simp [lentBs]) ?_
        simp -implicitDefEqProofs [framed, h6, h8, h40, h41, h42, hlt, hlt', hget, hg, hn, hwr, viewBox, psB, xsB, irow]
        refine ⟨[7, 8], ⟨by simp, by simp, by simp⟩, ?_⟩
        unfold keepSt pickSt
        dsimp only
        try rw [hnext]
        exact ⟨.inr ⟨_, _, _, _, _, by simp [lentBs, hr7, viewBox, psB, xsB, irow]; repeat' (first | rfl | apply And.intro)⟩, by simp [h6, hr7], by simp [h8, hr7], by simp [h40], by simp [h41], by simp⟩
       ·simp -implicitDefEqProofs [h6, h8, h40, h41, h42, hlt, hlt', hget, hg, hn, hwr, viewBox, psB, xsB, irow]
        repeat' ((first | refine zaa (by first | exact v1 | exact v2) ?_ | ((with_reducible first | refine zal ?_ ?_ | refine zai ?_ ?_ | refine zaf ?_ ?_ | refine zad ?_ ?_) <;> intro _) | ((with_reducible first | refine zao ?_ ?_ | refine zaq ?_ ?_ | refine zam ?_ ?_ | refine zac ?_ ?_ | refine zak ?_ ?_ | refine zap ?_ ?_ | refine zah ?_ ?_ | refine zab ?_ ?_) <;> intro hq <;> (try simp at hq)) | refine zag (by omega) ?_ | refine zan (by omega) ?_) <;> simp -implicitDefEqProofs [*, h6, h8, h40, h41, h42, hlt, hlt', hget, hg, hn, hwr, viewBox, psB, xsB, irow])
        refine zae [4, 7, 8] rfl (by decide) (by simp) v4 (by simp) (by simp [lentBs]) ?_
        simp -implicitDefEqProofs [framed, h6, h8, h40, h41, h42, hlt, hlt', hget, hg, hn, hwr, viewBox, psB, xsB, irow]
        refine ⟨[9, 10], ⟨by simp, by simp, by simp⟩, ?_⟩
        unfold keepSt pickSt
        dsimp only
        try rw [hnext]
        exact ⟨.inr ⟨_, _, _, _, _, by simp [lentBs, hr7, viewBox, psB, xsB, irow]; repeat' (first | rfl | apply And.intro)⟩, by simp [h6, hr7], by simp [h8, hr7], by simp [h40], by simp [h41], by simp⟩
 ·rintro ⟨fr, bs⟩ ⟨hB, h6, h8⟩
  have hWid := (key ids.length).2
  rw [List.take_length] at hWid
  generalize ids.foldl tellV w0 = W at *
  rcases hB with ⟨d0, d2, d3, rfl⟩ | ⟨d0, d2, d3, d5, d6, rfl⟩
  ·simp -implicitDefEqProofs [h6, h8, viewBox, psB, xsB, hWid]
  ·simp -implicitDefEqProofs [h6, h8, viewBox, psB, xsB, hWid]
 ·rintro ⟨fr, bs⟩ h
  exact h.elim
theorem zp4 (v : View) (a : Int) (ids : List Int) (hs : v.small) (h : helloOk v a ids = true) (hr : roomV v a = false) : Den PP 41 [viewD v, .int .i64 a, intsD ids] [] (.tup [.agg [.int .i64 v.id, .ref 0 0 (helloV v a ids).peers.length, .ref 1 0 (helloV v a ids).passive.length], .int .i64 0]) [psB (helloV v a ids), xsB (helloV v a ids)] := by
 obtain ⟨k1, k2, k3, k4, k5⟩ := ziu h
 have hcap : ids.length ≤ cap := by unfold cap; omega
 have hsz : 16 ≤ sizeV v := by
  unfold roomV at hr
  simp at hr
  unfold sizeV
  exact hr.2
 have hW : helloV v a ids = v := by unfold helloV; rw [zjq hr, z2o hsz]
 rw [hW]
 clear hW
 have c1 := zkv v hs
 have c2 := zav a
 have c3 := zg0 ids hcap
 have c4 := zme v hs
 have hm := k1
 rw [k1] at c1
 rw [k2] at c2
 rw [show ids.all place = true from List.all_eq_true.2 k5] at c3
 have c5 := zin v a k1 k2 k3
 rw [if_neg (by simp [hr])] at c5
 have hk4 : ¬ (16 : Int) < ids.length := by omega
 simp only [viewD, View.cells, peersD, intsD, viewBox, psB, xsB] at c1 c3 c4 c5 ⊢
 clear k1 k2 hs h hr
 refine zaj [37] [38, 60] zm9 ?_
 simp -implicitDefEqProofs [zjv, hk4, k3]
 repeat' ((first | refine zaa (by first | exact c1 | exact c2 | exact c3 | exact c4) ?_ | ((with_reducible first | refine zal ?_ ?_ | refine zai ?_ ?_ | refine zaf ?_ ?_ | refine zad ?_ ?_) <;> intro _) | ((with_reducible first | refine zao ?_ ?_ | refine zaq ?_ ?_ | refine zam ?_ ?_ | refine zac ?_ ?_ | refine zak ?_ ?_ | refine zap ?_ ?_ | refine zah ?_ ?_ | refine zab ?_ ?_) <;> intro hq <;> (try simp at hq)) | refine zag (by omega) ?_ | refine zan (by omega) ?_) <;> simp -implicitDefEqProofs [*, downTo, hk4, k3])
 refine zae [4, 2, 3] rfl (by decide) (by simp) c5 (by simp) (by simp [lentBs]) ?_
 simp -implicitDefEqProofs [framed]
 refine zw5 ids (fun i rest => fun ⟨fr, bs⟩ => (∃ d0, bs = [d0, ⟨[[.int .i64 0, .nil, .nil]], 3, .box⟩, psB v, xsB v, viewBox v 2 3]) ∧ fr 6 = .ptr 1 0 0 ∧ fr 8 = .ptr 4 0 0 ∧ fr 40 = .sl (ids.map irow) ids.length ∧ fr 41 = .int .i64 ids.length ∧ fr 42 = .int .i64 i)
  (fun ⟨fr, bs⟩ => (∃ d0, bs = [d0, ⟨[[.int .i64 0, .nil, .nil]], 3, .box⟩, psB v, xsB v, viewBox v 2 3]) ∧ fr 6 = .ptr 1 0 0 ∧ fr 8 = .ptr 4 0 0) (fun _ => False) zg8.eq_1 ?_ ?_ ?_ ?_ ?_
 ·exact ⟨⟨_, by simp [viewBox, psB, xsB]; rfl⟩, by simp, by simp, by simp, by simp, by simp⟩
 ·rintro i ⟨fr, bs⟩ hi ⟨hB, h6, h8, h40, h41, h42⟩
  simp -implicitDefEqProofs [h6, h8, h40, h41, h42, hi]
  exact hB
 ·rintro i x rest ⟨fr, bs⟩ hlt hget hg hd hd2 ⟨⟨d0, rfl⟩, h6, h8, h40, h41, h42⟩
  have hlt' : (i : Int) < ids.length := by omega
  have hwr := zay (n := i) (by omega)
  have hx := k5 x (List.mem_of_getElem? hget)
  obtain ⟨p1, p2, p3, p4⟩ := zaz hm
  have v1 := znf v x (by unfold cap; omega) (zdt p1)
  rw [zfl p1 hx] at v1
  have v2 := zjr v x (by unfold cap; omega)
  have v3 : x ≠ v.id → _ := fun hn => zin v x hm hx hn
  clear c1 c2 c3 c4 c5 p1 p2 p3 p4
  have hroom : knowsV v x = false → roomV v x = false := by
   intro hk
   unfold roomV
   unfold sizeV at hsz
   simp [hk, hsz]
  obtain ⟨A, hA⟩ : ∃ A, (v.peers.map Peer.id).contains x = A := ⟨_, rfl⟩
  obtain ⟨C, hC⟩ : ∃ C, v.passive.contains x = C := ⟨_, rfl⟩
  have hkn : knowsV v x = (A || C) := by rw [← hA, ← hC]; rfl
  rw [hA] at v1
  rw [hC] at v2
  clear hA hC
  simp only [View.cells, peersD, intsD] at v1 v2
  have hr5 : List.range 5 = [0, 1, 2, 3, 4] := rfl
  clear hm hsz
  by_cases hn : x = v.id
  ·simp -implicitDefEqProofs [h6, h8, h40, h41, h42, hlt, hlt', hget, hg, hn, hwr, viewBox, psB, xsB, irow]
   refine ⟨[], ⟨by simp, by simp, by simp⟩, ?_⟩
   unfold keepSt pickSt
   dsimp only
   exact ⟨⟨_, by simp [lentBs, hr5, viewBox, psB, xsB, irow]; repeat' (first | rfl | apply And.intro)⟩, by simp [h6, hr5], by simp [h8, hr5], by simp [h40], by simp [h41], by simp⟩
  ·have v4 := v3 hn
   clear v3
   cases hAC : (A || C) with
   | true =>
     clear v4 hkn hroom
     cases A <;> cases C
     all_goals try (simp at hAC; done)
     all_goals
      clear hAC
      simp -implicitDefEqProofs [h6, h8, h40, h41, h42, hlt, hlt', hget, hg, hn, hwr, viewBox, psB, xsB, irow]
      repeat' ((first | refine zaa (by first | exact v1 | exact v2) ?_ | ((with_reducible first | refine zal ?_ ?_ | refine zai ?_ ?_ | refine zaf ?_ ?_ | refine zad ?_ ?_) <;> intro _) | ((with_reducible first | refine zao ?_ ?_ | refine zaq ?_ ?_ | refine zam ?_ ?_ | refine zac ?_ ?_ | refine zak ?_ ?_ | refine zap ?_ ?_ | refine zah ?_ ?_ | refine zab ?_ ?_) <;> intro hq <;> (try simp at hq)) | refine zag (by omega) ?_ | refine zan (by omega) ?_) <;> simp -implicitDefEqProofs [*, h6, h8, h40, h41, h42, hlt, hlt', hget, hg, hn, hwr, viewBox, psB, xsB, irow])
      refine ⟨[], ⟨by simp, by simp, by simp⟩, ?_⟩
      unfold keepSt pickSt
      dsimp only
      exact ⟨⟨_, by simp [lentBs, hr5, viewBox, psB, xsB, irow]; repeat' (first | rfl | apply And.intro)⟩, by simp [h6, hr5], by simp [h8, hr5], by simp [h40], by simp [h41], by simp⟩
   | false =>
     rw [hAC] at hkn
     simp only [Bool.or_eq_false_iff] at hAC
     obtain ⟨rfl, rfl⟩ := hAC
     rw [if_neg (by simp [hroom hkn])] at v4
     clear hkn hroom
     simp only [viewBox, psB, xsB] at v4
     simp -implicitDefEqProofs [h6, h8, h40, h41, h42, hlt, hlt', hget, hg, hn, hwr, viewBox, psB, xsB, irow]
     repeat' ((first | refine zaa (by first | exact v1 | exact v2) ?_ | ((with_reducible first | refine zal ?_ ?_ | refine zai ?_ ?_ | refine zaf ?_ ?_ | refine zad ?_ ?_) <;> intro _) | ((with_reducible first | refine zao ?_ ?_ | refine zaq ?_ ?_ | refine zam ?_ ?_ | refine zac ?_ ?_ | refine zak ?_ ?_ | refine zap ?_ ?_ | refine zah ?_ ?_ | refine zab ?_ ?_) <;> intro hq <;> (try simp at hq)) | refine zag (by omega) ?_ | refine zan (by omega) ?_) <;> simp -implicitDefEqProofs [*, h6, h8, h40, h41, h42, hlt, hlt', hget, hg, hn, hwr, viewBox, psB, xsB, irow])
     refine zae [4, 2, 3] rfl (by decide) (by simp) v4 (by simp) (by simp [lentBs]) ?_
     simp -implicitDefEqProofs [framed, h6, h8, h40, h41, h42, hlt, hlt', hget, hg, hn, hwr, viewBox, psB, xsB, irow]
     refine ⟨[], ⟨by simp, by simp, by simp⟩, ?_⟩
     unfold keepSt pickSt
     dsimp only
     exact ⟨⟨_, by simp [lentBs, hr5, viewBox, psB, xsB, irow]; repeat' (first | rfl | apply And.intro)⟩, by simp [h6, hr5], by simp [h8, hr5], by simp [h40], by simp [h41], by simp⟩
 ·rintro ⟨fr, bs⟩ ⟨⟨d0, rfl⟩, h6, h8⟩
  simp -implicitDefEqProofs [h6, h8, viewBox, psB, xsB]
 ·rintro ⟨fr, bs⟩ h
  exact h.elim
theorem z33 (v : View) (a : Int) (ids : List Int) (hs : v.small) (h : helloOk v a ids = true) : Den PP 41 [viewD v, .int .i64 a, intsD ids] [] (.tup [.agg [.int .i64 v.id, .ref 0 0 (helloV v a ids).peers.length, .ref 1 0 (helloV v a ids).passive.length], .int .i64 0]) [psB (helloV v a ids), xsB (helloV v a ids)] := by
 cases hr : roomV v a with
 | true => exact zrj v a ids hs h hr
 | false => exact zp4 v a ids hs h hr
end Go.AM
/- AM: contracts: a message that comes is handled. -/
namespace Go.AM
set_option linter.unusedSimpArgs false
set_option linter.unusedVariables false
set_option maxRecDepth 8000
set_option maxHeartbeats 0
def hBox (x : Node) (p q i l : Nat) (s : D) : Blk := ⟨[[.bool x.up, .int .i64 x.view.id, .ref p 0 x.view.peers.length, .ref q 0 x.view.passive.length, .ref i 0 x.items.length, .ref l 0 x.log.length, s]], 7, .box⟩
theorem ztx {x : Node} {m : Msg} (h : nodeUp x = true) (hm : msgMay m = true) (hk : m.kind = 0) (ht : m.to = x.view.id) : helloOk x.view m.from_ m.ids = true := by
 have hv : viewMay x.view = true := by simp only [nodeUp, nodeMay, Bool.and_eq_true] at h; grind
 simp only [msgMay, hk, if_true, Bool.and_eq_true, Bool.not_eq_true', decide_eq_false_iff_not, decide_eq_true_eq] at hm
 obtain ⟨h1, h2, h3, ⟨⟨_, h5⟩, h6⟩⟩ := hm
 simp [helloOk, hv, h1, h5, h6]
 rw [← ht]
 exact h3
theorem zua (x : Node) (m : Msg) (hs : x.small) (h : helloOk x.view m.from_ m.ids = true) : Den PP 87 [.ptr 0 0 0, msgD m] [hBox x 1 2 3 4 .nil, ⟨x.view.peers.map Peer.row, 2, .mut⟩, ⟨x.view.passive.map irow, 1, .mut⟩, ⟨x.items.map Item.row, 5, .mut⟩, ⟨x.log.map Told.row, 3, .mut⟩] (.tup [])
 [hBox { x with view := helloV x.view m.from_ m.ids } 5 6 3 4 .nil, ⟨x.view.peers.map Peer.row, 2, .app⟩, ⟨x.view.passive.map irow, 1, .app⟩, ⟨x.items.map Item.row, 5, .mut⟩, ⟨x.log.map Told.row, 3, .mut⟩, psB (helloV x.view m.from_ m.ids), xsB (helloV x.view m.from_ m.ids)] := by
 have c1 := z33 x.view m.from_ m.ids hs.1 h
 have hid := (znp h).2
 generalize helloV x.view m.from_ m.ids = w at *
 clear h
 simp only [hBox, psB, xsB, viewD, View.cells, peersD, intsD, msgD, Msg.row, hid] at c1 ⊢
 refine zaj [15] [] ziq ?_
 simp -implicitDefEqProofs [zfg]
 repeat' ((first | refine zaa (by first | exact c1) ?_ | ((with_reducible first | refine zal ?_ ?_ | refine zai ?_ ?_ | refine zaf ?_ ?_ | refine zad ?_ ?_) <;> intro _) | ((with_reducible first | refine zao ?_ ?_ | refine zaq ?_ ?_ | refine zam ?_ ?_ | refine zac ?_ ?_ | refine zak ?_ ?_ | refine zap ?_ ?_ | refine zah ?_ ?_ | refine zab ?_ ?_) <;> intro hq <;> (try simp at hq)) | refine zag (by omega) ?_ | refine zan (by omega) ?_) <;> simp -implicitDefEqProofs [*, downTo])
theorem zxg (x : Node) (m : Msg) (hs : x.small) (h : (nodeUp x && itemMay m.item) = true) : Den PP 88 [.ptr 0 0 0, msgD m] [hBox x 1 2 3 4 .nil, ⟨x.view.peers.map Peer.row, 2, .mut⟩, ⟨x.view.passive.map irow, 1, .mut⟩, ⟨x.items.map Item.row, 5, .mut⟩, ⟨x.log.map Told.row, 3, .mut⟩] (.tup [])
 [hBox (takeI x m.item) 5 6 7 8 .nil, ⟨x.view.peers.map Peer.row, 2, .app⟩, ⟨x.view.passive.map irow, 1, .app⟩, ⟨x.items.map Item.row, 5, .app⟩, ⟨x.log.map Told.row, 3, .app⟩, ⟨(takeI x m.item).view.peers.map Peer.row, 2, .mut⟩, ⟨(takeI x m.item).view.passive.map irow, 1, .mut⟩, ⟨(takeI x m.item).items.map Item.row, 5, .mut⟩, ⟨(takeI x m.item).log.map Told.row, 3, .mut⟩] := by
 have c1 := z52 x m.item hs h
 generalize takeI x m.item = y at *
 clear h
 simp only [hBox, nodeD, Node.cells, viewD, View.cells, peersD, intsD, itemsD, toldsD, Item.row, copyD, nodeB, msgD, Msg.row] at c1 ⊢
 refine zaj [12] [] zjo ?_
 simp -implicitDefEqProofs [zf8]
 repeat' ((first | refine zaa (by first | exact c1) ?_ | ((with_reducible first | refine zal ?_ ?_ | refine zai ?_ ?_ | refine zaf ?_ ?_ | refine zad ?_ ?_) <;> intro _) | ((with_reducible first | refine zao ?_ ?_ | refine zaq ?_ ?_ | refine zam ?_ ?_ | refine zac ?_ ?_ | refine zak ?_ ?_ | refine zap ?_ ?_ | refine zah ?_ ?_ | refine zab ?_ ?_) <;> intro hq <;> (try simp at hq)) | refine zag (by omega) ?_ | refine zan (by omega) ?_) <;> simp -implicitDefEqProofs [*, downTo])
theorem zxu (x : Node) (m : Msg) (hs : x.small) (hl : m.ids.length ≤ cap) (h : toB x m 2 = true) : ∃ k : Kind, k.isBox = false ∧ Den PP 89 [.ptr 0 0 0, msgD m] [hBox x 1 2 3 4 .nil, ⟨x.view.peers.map Peer.row, 2, .mut⟩, ⟨x.view.passive.map irow, 1, .mut⟩, ⟨x.items.map Item.row, 5, .mut⟩, ⟨x.log.map Told.row, 3, .mut⟩] (.tup [])
 [hBox x 1 2 3 4 (.ref 5 0 1), ⟨x.view.peers.map Peer.row, 2, k⟩, ⟨x.view.passive.map irow, 1, k⟩, ⟨x.items.map Item.row, 5, k⟩, ⟨x.log.map Told.row, 3, k⟩, ⟨[tellOf x m].map Msg.row0, 11, .mut⟩] := by
 refine ⟨.app, rfl, ?_⟩
 have c1 := ztq x m hs hl h
 generalize tellOf x m = t at *
 clear h
 simp only [hBox, nodeD, Node.cells, viewD, View.cells, peersD, intsD, itemsD, toldsD, Item.row, copyD, nodeB, msgD, Msg.row, List.map_cons, List.map_nil] at c1 ⊢
 refine zaj [11] [] zkh ?_
 simp -implicitDefEqProofs [zgj]
 repeat' ((first | refine zaa (by first | exact c1) ?_ | ((with_reducible first | refine zal ?_ ?_ | refine zai ?_ ?_ | refine zaf ?_ ?_ | refine zad ?_ ?_) <;> intro _) | ((with_reducible first | refine zao ?_ ?_ | refine zaq ?_ ?_ | refine zam ?_ ?_ | refine zac ?_ ?_ | refine zak ?_ ?_ | refine zap ?_ ?_ | refine zah ?_ ?_ | refine zab ?_ ?_) <;> intro hq <;> (try simp at hq)) | refine zag (by omega) ?_ | refine zan (by omega) ?_) <;> simp -implicitDefEqProofs [*, downTo])
theorem zww (x : Node) (m : Msg) (hs : x.small) (hl : m.ids.length ≤ cap) (h : toB x m 3 = true) : Den PP 90 [.ptr 0 0 0, msgD m] [hBox x 1 2 3 4 .nil, ⟨x.view.peers.map Peer.row, 2, .mut⟩, ⟨x.view.passive.map irow, 1, .mut⟩, ⟨x.items.map Item.row, 5, .mut⟩, ⟨x.log.map Told.row, 3, .mut⟩] (.tup [])
 [⟨[[.bool x.up, .int .i64 x.view.id, .ref 5 0 x.view.peers.length, .ref 6 0 x.view.passive.length, .ref 7 0 x.items.length, .ref 8 (logPre x (mT m)).length (logOf x (mT m)).length, .nil]], 7, .box⟩, ⟨x.view.peers.map Peer.row, 2, .app⟩, ⟨x.view.passive.map irow, 1, .app⟩, ⟨x.items.map Item.row, 5, .app⟩, ⟨x.log.map Told.row, 3, .app⟩, ⟨x.view.peers.map Peer.row, 2, .mut⟩, ⟨x.view.passive.map irow, 1, .mut⟩, ⟨x.items.map Item.row, 5, .mut⟩, ⟨(logPre x (mT m) ++ logOf x (mT m)).map Told.row, 3, .mut⟩] := by
 have c1 := zza x m hs hl h
 generalize logPre x (mT m) = pre at *
 generalize logOf x (mT m) = xs at *
 clear h
 simp only [hBox, nodeD, Node.cells, viewD, View.cells, peersD, intsD, itemsD, toldsD, Item.row, noteD, noteB, msgD, Msg.row] at c1 ⊢
 refine zaj [11] [] zjk ?_
 simp -implicitDefEqProofs [zf5]
 repeat' ((first | refine zaa (by first | exact c1) ?_ | ((with_reducible first | refine zal ?_ ?_ | refine zai ?_ ?_ | refine zaf ?_ ?_ | refine zad ?_ ?_) <;> intro _) | ((with_reducible first | refine zao ?_ ?_ | refine zaq ?_ ?_ | refine zam ?_ ?_ | refine zac ?_ ?_ | refine zak ?_ ?_ | refine zap ?_ ?_ | refine zah ?_ ?_ | refine zab ?_ ?_) <;> intro hq <;> (try simp at hq)) | refine zag (by omega) ?_ | refine zan (by omega) ?_) <;> simp -implicitDefEqProofs [*, downTo])
end Go.AM
/- AM: contracts: handle.Do. -/
namespace Go.AM
set_option linter.unusedSimpArgs false
set_option linter.unusedVariables false
set_option maxRecDepth 8000
set_option maxHeartbeats 0
def doB (x : Node) (m : Msg) : Bool := nodeUp x && (msgMay m && decide (m.to = x.view.id))
theorem ze9 {x : Node} {m : Msg} (h : doB x m = true) : nodeUp x = true ∧ msgMay m = true ∧ m.to = x.view.id := by
 simp only [doB, Bool.and_eq_true, decide_eq_true_eq] at h
 exact h
theorem z19 {m : Msg} (h : msgMay m = true) : m.kind = 0 ∨ m.kind = 1 ∨ m.kind = 2 ∨ m.kind = 3 := by
 simp only [msgMay, Bool.and_eq_true] at h
 obtain ⟨_, _, _, h⟩ := h
 by_cases h0 : m.kind = 0
 ·exact .inl h0
 by_cases h1 : m.kind = 1
 ·exact .inr (.inl h1)
 by_cases h2 : m.kind = 2
 ·exact .inr (.inr (.inl h2))
 by_cases h3 : m.kind = 3
 ·exact .inr (.inr (.inr h3))
 simp [h0, h1, h2, h3] at h
theorem z9p {m : Msg} (h : msgMay m = true) (hk : m.kind = 1) : itemMay m.item = true := by
 simp [msgMay, hk] at h
 exact h.2.2.2.2
theorem z9b {x : Node} {m : Msg} (h : doB x m = true) {k : Int} (hk : m.kind = k) : toB x m k = true := by
 obtain ⟨h1, h2, h3⟩ := ze9 h
 simp [toB, h1, h2, h3, hk]
theorem zxl (x : Node) (m : Msg) (hs : x.small) (hl : m.ids.length ≤ cap) (h : doB x m = false) : Den PP 28 [nodeD x, msgD m] [] (.tup [.agg [.bool false, .int .i64 0, .nil, .nil, .nil, .nil], .ref 0 0 0, .int .i64 2200]) [⟨[], 11, .mut⟩] := by
 have c1 := zeg x hs
 have c2 := zlt m hl
 unfold doB at h
 generalize nodeUp x = U at *
 generalize msgMay m = M at *
 simp only [nodeD, Node.cells, peersD, intsD, itemsD, toldsD, Item.row, msgD, Msg.row] at c1 c2 ⊢
 refine zaj [27] [43] zf9 ?_
 cases U <;> cases M
 all_goals
  simp at h
 all_goals
  simp -implicitDefEqProofs [zfp]
  repeat' ((first | refine zaa (by first | exact c1 | exact c2) ?_ | ((with_reducible first | refine zal ?_ ?_ | refine zai ?_ ?_ | refine zaf ?_ ?_ | refine zad ?_ ?_) <;> intro _) | ((with_reducible first | refine zao ?_ ?_ | refine zaq ?_ ?_ | refine zam ?_ ?_ | refine zac ?_ ?_ | refine zak ?_ ?_ | refine zap ?_ ?_ | refine zah ?_ ?_ | refine zab ?_ ?_) <;> intro hq <;> (try simp at hq)) | refine zag (by omega) ?_ | refine zan (by omega) ?_) <;> simp -implicitDefEqProofs [*])
theorem zxt (x : Node) (m : Msg) (hs : x.small) (hl : m.ids.length ≤ cap) (h : doB x m = true) (hk : m.kind = 0) : Den PP 28 [nodeD x, msgD m] [] (.tup [copyD { x with view := helloV x.view m.from_ m.ids }, .nil, .int .i64 0]) (nodeB { x with view := helloV x.view m.from_ m.ids }) := by
 have c1 := zeg x hs
 have c2 := zlt m hl
 obtain ⟨h1, h2, h3⟩ := ze9 h
 have c4 := zua x m hs (ztx h1 h2 hk h3)
 rw [h1] at c1
 rw [h2] at c2
 have c3 := zd4 x hs
 generalize helloV x.view m.from_ m.ids = w at *
 clear h h1 h2
 simp only [hBox, psB, xsB, nodeD, Node.cells, viewD, View.cells, peersD, intsD, itemsD, toldsD, Item.row, copyD, nodeB, noteD, noteB, msgD, Msg.row, hk, h3, List.map_cons, List.map_nil] at c1 c2 c3 c4 ⊢
 refine zaj [27] [43] zf9 ?_
 simp -implicitDefEqProofs [zfp, h3, hk]
 repeat' ((first | refine zaa (by first | exact c1 | exact c2 | exact c3) ?_ | ((with_reducible first | refine zal ?_ ?_ | refine zai ?_ ?_ | refine zaf ?_ ?_ | refine zad ?_ ?_) <;> intro _) | ((with_reducible first | refine zao ?_ ?_ | refine zaq ?_ ?_ | refine zam ?_ ?_ | refine zac ?_ ?_ | refine zak ?_ ?_ | refine zap ?_ ?_ | refine zah ?_ ?_ | refine zab ?_ ?_) <;> intro hq <;> (try simp at hq)) | refine zag (by omega) ?_ | refine zan (by omega) ?_) <;> simp -implicitDefEqProofs [*, downTo, h3, hk])
 refine zae [8, 4, 5, 6, 7] rfl (by decide) (by simp) c4 (by simp) (by simp [lentBs]) ?_
 simp -implicitDefEqProofs [framed]
 repeat' apply And.intro
 all_goals repeat' ((first | ((with_reducible first | refine zal ?_ ?_ | refine zai ?_ ?_ | refine zaf ?_ ?_ | refine zad ?_ ?_) <;> intro _) | ((with_reducible first | refine zao ?_ ?_ | refine zaq ?_ ?_ | refine zam ?_ ?_ | refine zac ?_ ?_ | refine zak ?_ ?_ | refine zap ?_ ?_ | refine zah ?_ ?_ | refine zab ?_ ?_) <;> intro hq <;> (try simp at hq)) | refine zag (by omega) ?_ | refine zan (by omega) ?_) <;> simp -implicitDefEqProofs [*, downTo])
theorem zx6 (x : Node) (m : Msg) (hs : x.small) (hl : m.ids.length ≤ cap) (h : doB x m = true) (hk : m.kind = 1) : Den PP 28 [nodeD x, msgD m] [] (.tup [copyD (takeI x m.item), .nil, .int .i64 0]) (nodeB (takeI x m.item)) := by
 have c1 := zeg x hs
 have c2 := zlt m hl
 obtain ⟨h1, h2, h3⟩ := ze9 h
 have c4 := zxg x m hs (by rw [h1, z9p h2 hk]; rfl)
 rw [h1] at c1
 rw [h2] at c2
 have c3 := zd4 x hs
 generalize takeI x m.item = y at *
 clear h h1 h2
 simp only [hBox, psB, xsB, nodeD, Node.cells, viewD, View.cells, peersD, intsD, itemsD, toldsD, Item.row, copyD, nodeB, noteD, noteB, msgD, Msg.row, hk, h3, List.map_cons, List.map_nil] at c1 c2 c3 c4 ⊢
 refine zaj [27] [43] zf9 ?_
 simp -implicitDefEqProofs [zfp, h3, hk]
 repeat' ((first | refine zaa (by first | exact c1 | exact c2 | exact c3) ?_ | ((with_reducible first | refine zal ?_ ?_ | refine zai ?_ ?_ | refine zaf ?_ ?_ | refine zad ?_ ?_) <;> intro _) | ((with_reducible first | refine zao ?_ ?_ | refine zaq ?_ ?_ | refine zam ?_ ?_ | refine zac ?_ ?_ | refine zak ?_ ?_ | refine zap ?_ ?_ | refine zah ?_ ?_ | refine zab ?_ ?_) <;> intro hq <;> (try simp at hq)) | refine zag (by omega) ?_ | refine zan (by omega) ?_) <;> simp -implicitDefEqProofs [*, downTo, h3, hk])
 refine zae [8, 4, 5, 6, 7] rfl (by decide) (by simp) c4 (by simp) (by simp [lentBs]) ?_
 simp -implicitDefEqProofs [framed]
 repeat' apply And.intro
 all_goals repeat' ((first | ((with_reducible first | refine zal ?_ ?_ | refine zai ?_ ?_ | refine zaf ?_ ?_ | refine zad ?_ ?_) <;> intro _) | ((with_reducible first | refine zao ?_ ?_ | refine zaq ?_ ?_ | refine zam ?_ ?_ | refine zac ?_ ?_ | refine zak ?_ ?_ | refine zap ?_ ?_ | refine zah ?_ ?_ | refine zab ?_ ?_) <;> intro hq <;> (try simp at hq)) | refine zag (by omega) ?_ | refine zan (by omega) ?_) <;> simp -implicitDefEqProofs [*, downTo])
theorem zzi (x : Node) (m : Msg) (hs : x.small) (hl : m.ids.length ≤ cap) (h : doB x m = true) (hk : m.kind = 2) : ∃ kk : Kind, kk.isBox = false ∧ Den PP 28 [nodeD x, msgD m] [] (.tup [copyD x, .ref 4 0 1, .int .i64 0]) [⟨x.view.peers.map Peer.row, 2, kk⟩, ⟨x.view.passive.map irow, 1, kk⟩, ⟨x.items.map Item.row, 5, kk⟩, ⟨x.log.map Told.row, 3, kk⟩, ⟨[tellOf x m].map Msg.row0, 11, .mut⟩] := by
 have c1 := zeg x hs
 have c2 := zlt m hl
 obtain ⟨h1, h2, h3⟩ := ze9 h
 have c4 := zxu x m hs hl (z9b h hk)
 rw [h1] at c1
 rw [h2] at c2
 have c3 := zd4 x hs
 obtain ⟨kk, hkk, c4⟩ := c4
 refine ⟨kk, hkk, ?_⟩
 generalize tellOf x m = t at *
 clear h h1 h2
 simp only [hBox, psB, xsB, nodeD, Node.cells, viewD, View.cells, peersD, intsD, itemsD, toldsD, Item.row, copyD, nodeB, noteD, noteB, msgD, Msg.row, hk, h3, List.map_cons, List.map_nil] at c1 c2 c3 c4 ⊢
 refine zaj [27] [43] zf9 ?_
 cases kk <;> simp [Kind.isBox] at hkk
 all_goals
  simp -implicitDefEqProofs [zfp, h3, hk]
  repeat' ((first | refine zaa (by first | exact c1 | exact c2 | exact c3) ?_ | ((with_reducible first | refine zal ?_ ?_ | refine zai ?_ ?_ | refine zaf ?_ ?_ | refine zad ?_ ?_) <;> intro _) | ((with_reducible first | refine zao ?_ ?_ | refine zaq ?_ ?_ | refine zam ?_ ?_ | refine zac ?_ ?_ | refine zak ?_ ?_ | refine zap ?_ ?_ | refine zah ?_ ?_ | refine zab ?_ ?_) <;> intro hq <;> (try simp at hq)) | refine zag (by omega) ?_ | refine zan (by omega) ?_) <;> simp -implicitDefEqProofs [*, downTo, h3, hk])
  refine zae [8, 4, 5, 6, 7] rfl (by decide) (by simp) c4 (by simp) (by simp [lentBs]) ?_
  simp -implicitDefEqProofs [framed]
  repeat' apply And.intro
  all_goals repeat' ((first | ((with_reducible first | refine zal ?_ ?_ | refine zai ?_ ?_ | refine zaf ?_ ?_ | refine zad ?_ ?_) <;> intro _) | ((with_reducible first | refine zao ?_ ?_ | refine zaq ?_ ?_ | refine zam ?_ ?_ | refine zac ?_ ?_ | refine zak ?_ ?_ | refine zap ?_ ?_ | refine zah ?_ ?_ | refine zab ?_ ?_) <;> intro hq <;> (try simp at hq)) | refine zag (by omega) ?_ | refine zan (by omega) ?_) <;> simp -implicitDefEqProofs [*, downTo])
theorem zx1 (x : Node) (m : Msg) (hs : x.small) (hl : m.ids.length ≤ cap) (h : doB x m = true) (hk : m.kind = 3) : Den PP 28 [nodeD x, msgD m] [] (.tup [noteD x (logPre x (mT m)) (logOf x (mT m)), .nil, .int .i64 0]) (noteB x (logPre x (mT m)) (logOf x (mT m))) := by
 have c1 := zeg x hs
 have c2 := zlt m hl
 obtain ⟨h1, h2, h3⟩ := ze9 h
 have c4 := zww x m hs hl (z9b h hk)
 rw [h1] at c1
 rw [h2] at c2
 have c3 := zd4 x hs
 generalize logPre x (mT m) = pre at *
 generalize logOf x (mT m) = xs at *
 clear h h1 h2
 simp only [hBox, psB, xsB, nodeD, Node.cells, viewD, View.cells, peersD, intsD, itemsD, toldsD, Item.row, copyD, nodeB, noteD, noteB, msgD, Msg.row, hk, h3, List.map_cons, List.map_nil] at c1 c2 c3 c4 ⊢
 refine zaj [27] [43] zf9 ?_
 simp -implicitDefEqProofs [zfp, h3, hk]
 repeat' ((first | refine zaa (by first | exact c1 | exact c2 | exact c3) ?_ | ((with_reducible first | refine zal ?_ ?_ | refine zai ?_ ?_ | refine zaf ?_ ?_ | refine zad ?_ ?_) <;> intro _) | ((with_reducible first | refine zao ?_ ?_ | refine zaq ?_ ?_ | refine zam ?_ ?_ | refine zac ?_ ?_ | refine zak ?_ ?_ | refine zap ?_ ?_ | refine zah ?_ ?_ | refine zab ?_ ?_) <;> intro hq <;> (try simp at hq)) | refine zag (by omega) ?_ | refine zan (by omega) ?_) <;> simp -implicitDefEqProofs [*, downTo, h3, hk])
 refine zae [8, 4, 5, 6, 7] rfl (by decide) (by simp) c4 (by simp) (by simp [lentBs]) ?_
 simp -implicitDefEqProofs [framed]
 repeat' apply And.intro
 all_goals repeat' ((first | ((with_reducible first | refine zal ?_ ?_ | refine zai ?_ ?_ | refine zaf ?_ ?_ | refine zad ?_ ?_) <;> intro _) | ((with_reducible first | refine zao ?_ ?_ | refine zaq ?_ ?_ | refine zam ?_ ?_ | refine zac ?_ ?_ | refine zak ?_ ?_ | refine zap ?_ ?_ | refine zah ?_ ?_ | refine zab ?_ ?_) <;> intro hq <;> (try simp at hq)) | refine zag (by omega) ?_ | refine zan (by omega) ?_) <;> simp -implicitDefEqProofs [*, downTo])
end Go.AM
/- AM: contracts: a packet delivered. -/
namespace Go.AM
set_option linter.unusedSimpArgs false
set_option linter.unusedVariables false
set_option maxRecDepth 8000
set_option maxHeartbeats 0
theorem znr (w : Wld) (a : Act) (h : w.packets = []) : Den PP 60 [.ptr 0 0 0, .ptr 4 0 0] (actB w a) (.tup []) (actB w a) := by
 have c1 := zhq w a h
 clear h
 simp only [actB, doA, doC, doS, copyD, nodeB, noteD, noteB, nodeD, intsD, Act.cells, Wld.cells, nodesD, cutsD, msgsD, msgD, List.cons_append, List.nil_append] at c1 ⊢
 refine zaj [] [14, 41, 61] zb3 ?_
 simp -implicitDefEqProofs [zbw]
 refine zae [0, 1, 2, 3, 4] rfl (by decide) (by simp) c1 (by simp) (by simp [lentBs]) ?_
 simp -implicitDefEqProofs [framed, -leave]
 exact leave5 (za1 rfl) (zbb 5 _) (zby 5 _) (zbv 5 _) (za1 rfl)
theorem zo1 (w : Wld) (a : Act) (m : Msg) (hw : worldMay w = true) (h0 : 0 ≤ a.pick) (hp : a.pick ≤ 65535) (hm : w.packets[pickP w a]? = some m) (hr : MonoC (cmpN m.to) w.nodes) (hcut : (isC w.cuts m.from_ m.to).1 = true) : Den PP 60 [.ptr 0 0 0, .ptr 4 0 0] (actB w a) (.tup []) (doC w a (leftP w (pickP w a))) := by
 have c1 := zdz w a m (zau hw) (zar hw).2.2.1 h0 hp hm
 have c2 := zn2 w.cuts m.from_ m.to (by have := (zau hw).cuts; unfold cap; omega)
 rw [hcut] at c2
 generalize (isC w.cuts m.from_ m.to).2 = e at *
 generalize leftP w (pickP w a) = ls at *
 clear hw h0 hp hm hr hcut
 simp only [actB, doA, doC, doS, copyD, nodeB, noteD, noteB, nodeD, intsD, Act.cells, Wld.cells, nodesD, cutsD, msgsD, msgD, Msg.row] at c1 c2 ⊢
 refine zaj [] [14, 41, 61] zb3 ?_
 simp -implicitDefEqProofs [zbw]
 refine zae [0, 1, 2, 3, 4] rfl (by decide) (by simp) c1 (by simp) (by simp [lentBs]) ?_
 simp -implicitDefEqProofs [framed, -leave]
 refine zaa c2 ?_
 simp -implicitDefEqProofs [-leave]
 exact leave5 (za1 rfl) (zbb 5 _) (zby 5 _) (zbv 5 _) (za1 rfl)
theorem zqs (w : Wld) (a : Act) (m : Msg) (x : Node) (hw : worldMay w = true) (h0 : 0 ≤ a.pick) (hp : a.pick ≤ 65535) (hm : w.packets[pickP w a]? = some m) (hr : MonoC (cmpN m.to) w.nodes) (hcut : (isC w.cuts m.from_ m.to).1 = false) (hi : isN m.to w.nodes = true) (hx : w.nodes[posN m.to w.nodes]? = some x) (h : doB x m = false) : Den PP 60 [.ptr 0 0 0, .ptr 4 0 0] (actB w a) (.tup []) (doC w a (leftP w (pickP w a))) := by
 have c1 := zdz w a m (zau hw) (zar hw).2.2.1 h0 hp hm
 have c2 := zn2 w.cuts m.from_ m.to (by have := (zau hw).cuts; unfold cap; omega)
 have c3 := zf4 { w with packets := leftP w (pickP w a) } m.to w.packets (by have := (zau hw).nodes; unfold cap; simp only; omega) hr hi
 have c4 := zxl x m (za7 ((zau hw).node x (List.mem_of_getElem? hx))) (by have := (zau hw).packet m (List.mem_of_getElem? hm); unfold cap; omega) h
 have hpp := zdk hi
 have hg : ∀ h : posN m.to w.nodes < w.nodes.length, w.nodes[posN m.to w.nodes] = x := fun h => by rw [List.getElem?_eq_getElem h] at hx; exact Option.some.inj hx
 rw [hcut] at c2
 simp only at c3
 generalize (isC w.cuts m.from_ m.to).2 = e at *
 generalize leftP w (pickP w a) = ls at *
 generalize posN m.to w.nodes = P at *
 have hp' : (P : Int) < w.nodes.length := by omega
 clear hw h0 hp hm hr hcut hi h
 simp only [actB, doA, doC, doS, copyD, nodeB, noteD, noteB, nodeD, intsD, Act.cells, Wld.cells, nodesD, cutsD, msgsD, msgD, Msg.row] at c1 c2 c3 c4 ⊢
 refine zaj [] [14, 41, 61] zb3 ?_
 simp -implicitDefEqProofs [zbw]
 refine zae [0, 1, 2, 3, 4] rfl (by decide) (by simp) c1 (by simp) (by simp [lentBs]) ?_
 simp -implicitDefEqProofs [framed, -leave]
 refine zaa c2 ?_
 simp -implicitDefEqProofs [-leave]
 refine zae [0, 1, 2, 3, 6] rfl (by decide) (by simp) c3 (by simp) (by simp [lentBs]) ?_
 simp -implicitDefEqProofs [framed, -leave, hpp, hp', hx, hg]
 refine zaa c4 ?_
 simp -implicitDefEqProofs [-leave, hpp, hp', hx, hg]
 exact leave5 (za1 rfl) (zbb 5 _) (zby 5 _) (zbv 5 _) (za1 rfl)
theorem zrd (w : Wld) (a : Act) (m : Msg) (x : Node) (hw : worldMay w = true) (h0 : 0 ≤ a.pick) (hp : a.pick ≤ 65535) (hm : w.packets[pickP w a]? = some m) (hr : MonoC (cmpN m.to) w.nodes) (hcut : (isC w.cuts m.from_ m.to).1 = false) (hi : isN m.to w.nodes = true) (hx : w.nodes[posN m.to w.nodes]? = some x) (h : doB x m = true) (hk : m.kind = 0) (hm1 : worldMay ({ nodes := w.nodes.set (posN m.to w.nodes) ({ x with view := helloV x.view m.from_ m.ids }), cuts := w.cuts, packets := leftP w (pickP w a) } : Wld) = true) (hm2 : worldMay ({ nodes := w.nodes.set (posN m.to w.nodes) ({ x with view := helloV x.view m.from_ m.ids }), cuts := w.cuts, packets := [] } : Wld) = true) :
 Den PP 60 [.ptr 0 0 0, .ptr 4 0 0] (actB w a) (.tup []) (doS ({ nodes := w.nodes.set (posN m.to w.nodes) ({ x with view := helloV x.view m.from_ m.ids }), cuts := w.cuts, packets := leftP w (pickP w a) } : Wld) (sendW ({ nodes := w.nodes.set (posN m.to w.nodes) ({ x with view := helloV x.view m.from_ m.ids }), cuts := w.cuts, packets := leftP w (pickP w a) } : Wld) []) w.packets a) := by
 have c1 := zdz w a m (zau hw) (zar hw).2.2.1 h0 hp hm
 have c2 := zn2 w.cuts m.from_ m.to (by have := (zau hw).cuts; unfold cap; omega)
 have c3 := zf4 { w with packets := leftP w (pickP w a) } m.to w.packets (by have := (zau hw).nodes; unfold cap; simp only; omega) hr hi
 have c4 := zxt x m (za7 ((zau hw).node x (List.mem_of_getElem? hx))) (by have := (zau hw).packet m (List.mem_of_getElem? hm); unfold cap; omega) h hk
 have c5 := zhd ({ nodes := w.nodes.set (posN m.to w.nodes) ({ x with view := helloV x.view m.from_ m.ids }), cuts := w.cuts, packets := leftP w (pickP w a) } : Wld) [] w.packets hm1 hm2
 have hpp := zdk hi
 have hg : ∀ h : posN m.to w.nodes < w.nodes.length, w.nodes[posN m.to w.nodes] = x := fun h => by rw [List.getElem?_eq_getElem h] at hx; exact Option.some.inj hx
 rw [hcut] at c2
 simp only at c3
 have c5 : Den PP 151 [.ptr 0 0 0, .nil] _ _ _ := zdv (by
  simp only [List.map_cons, List.map_nil, D.nrm]
  exact c5)
 have hid : (helloV x.view m.from_ m.ids).id = x.view.id := (znp (ztx (ze9 h).1 (ze9 h).2.1 hk (ze9 h).2.2)).2
 generalize helloV x.view m.from_ m.ids = vw at *
 generalize (isC w.cuts m.from_ m.to).2 = e at *
 generalize leftP w (pickP w a) = ls at *
 generalize posN m.to w.nodes = P at *
 have hp' : (P : Int) < w.nodes.length := by omega
 have e1 : (sendW { nodes := w.nodes.set P ({ x with view := vw }), cuts := w.cuts, packets := ls } []).nodes = w.nodes.set P ({ x with view := vw }) := rfl
 have e2 : (sendW { nodes := w.nodes.set P ({ x with view := vw }), cuts := w.cuts, packets := ls } []).cuts = w.cuts := rfl
 generalize sendW { nodes := w.nodes.set P ({ x with view := vw }), cuts := w.cuts, packets := ls } [] = v at *
 obtain ⟨ns, cs, ps⟩ := v
 simp only at e1 e2
 subst e1 e2
 clear hw h0 hp hm hr hcut hi h hm1 hm2
 simp only [actB, doA, doC, doS, copyD, nodeB, noteD, noteB, nodeD, intsD, Act.cells, Wld.cells, nodesD, cutsD, msgsD, msgD, Msg.row, Msg.row0, hk, List.length_set, List.map_set, List.map_cons, List.map_nil, List.length_cons, List.length_nil, List.nil_append, List.cons_append] at c1 c2 c3 c4 c5 ⊢
 rw [zdp ({ x with view := vw })] at c5 ⊢
 try simp only at c5 ⊢
 skip
 all_goals
  refine zaj [] [14, 41, 61] zb3 ?_
  simp -implicitDefEqProofs [zbw]
  refine zae [0, 1, 2, 3, 4] rfl (by decide) (by simp) c1 (by simp) (by simp [lentBs]) ?_
  simp -implicitDefEqProofs [framed, -leave]
  refine zaa c2 ?_
  simp -implicitDefEqProofs [-leave]
  refine zae [0, 1, 2, 3, 6] rfl (by decide) (by simp) c3 (by simp) (by simp [lentBs]) ?_
  simp -implicitDefEqProofs [framed, -leave, hpp, hp', hx, hg]
  refine zaa c4 ?_
  simp -implicitDefEqProofs [-leave, hpp, hp', hx, hg]
  refine zae [0, 1, 2, 3] rfl (by decide) (by simp) c5 (by simp) (by simp [lentBs]) ?_
  simp -implicitDefEqProofs [framed, -leave]
  exact leave5 (za1 rfl) (zg5 (zbb 5 _) (List.all_eq_true.1 rfl)) (zby 5 _) (zbv 5 _) (za1 rfl)
theorem zrg (w : Wld) (a : Act) (m : Msg) (x : Node) (hw : worldMay w = true) (h0 : 0 ≤ a.pick) (hp : a.pick ≤ 65535) (hm : w.packets[pickP w a]? = some m) (hr : MonoC (cmpN m.to) w.nodes) (hcut : (isC w.cuts m.from_ m.to).1 = false) (hi : isN m.to w.nodes = true) (hx : w.nodes[posN m.to w.nodes]? = some x) (h : doB x m = true) (hk : m.kind = 1) (hm1 : worldMay ({ nodes := w.nodes.set (posN m.to w.nodes) (takeI x m.item), cuts := w.cuts, packets := leftP w (pickP w a) } : Wld) = true) (hm2 : worldMay ({ nodes := w.nodes.set (posN m.to w.nodes) (takeI x m.item), cuts := w.cuts, packets := [] } : Wld) = true) :
 Den PP 60 [.ptr 0 0 0, .ptr 4 0 0] (actB w a) (.tup []) (doS ({ nodes := w.nodes.set (posN m.to w.nodes) (takeI x m.item), cuts := w.cuts, packets := leftP w (pickP w a) } : Wld) (sendW ({ nodes := w.nodes.set (posN m.to w.nodes) (takeI x m.item), cuts := w.cuts, packets := leftP w (pickP w a) } : Wld) []) w.packets a) := by
 have c1 := zdz w a m (zau hw) (zar hw).2.2.1 h0 hp hm
 have c2 := zn2 w.cuts m.from_ m.to (by have := (zau hw).cuts; unfold cap; omega)
 have c3 := zf4 { w with packets := leftP w (pickP w a) } m.to w.packets (by have := (zau hw).nodes; unfold cap; simp only; omega) hr hi
 have c4 := zx6 x m (za7 ((zau hw).node x (List.mem_of_getElem? hx))) (by have := (zau hw).packet m (List.mem_of_getElem? hm); unfold cap; omega) h hk
 have c5 := zhd ({ nodes := w.nodes.set (posN m.to w.nodes) (takeI x m.item), cuts := w.cuts, packets := leftP w (pickP w a) } : Wld) [] w.packets hm1 hm2
 have hpp := zdk hi
 have hg : ∀ h : posN m.to w.nodes < w.nodes.length, w.nodes[posN m.to w.nodes] = x := fun h => by rw [List.getElem?_eq_getElem h] at hx; exact Option.some.inj hx
 rw [hcut] at c2
 simp only at c3
 have c5 : Den PP 151 [.ptr 0 0 0, .nil] _ _ _ := zdv (by
  simp only [List.map_cons, List.map_nil, D.nrm]
  exact c5)
 generalize takeI x m.item = y at *
 generalize (isC w.cuts m.from_ m.to).2 = e at *
 generalize leftP w (pickP w a) = ls at *
 generalize posN m.to w.nodes = P at *
 have hp' : (P : Int) < w.nodes.length := by omega
 have e1 : (sendW { nodes := w.nodes.set P (y), cuts := w.cuts, packets := ls } []).nodes = w.nodes.set P (y) := rfl
 have e2 : (sendW { nodes := w.nodes.set P (y), cuts := w.cuts, packets := ls } []).cuts = w.cuts := rfl
 generalize sendW { nodes := w.nodes.set P (y), cuts := w.cuts, packets := ls } [] = v at *
 obtain ⟨ns, cs, ps⟩ := v
 simp only at e1 e2
 subst e1 e2
 clear hw h0 hp hm hr hcut hi h hm1 hm2
 simp only [actB, doA, doC, doS, copyD, nodeB, noteD, noteB, nodeD, intsD, Act.cells, Wld.cells, nodesD, cutsD, msgsD, msgD, Msg.row, Msg.row0, hk, List.length_set, List.map_set, List.map_cons, List.map_nil, List.length_cons, List.length_nil, List.nil_append, List.cons_append] at c1 c2 c3 c4 c5 ⊢
 rw [zdp (y)] at c5 ⊢
 try simp only at c5 ⊢
 skip
 all_goals
  refine zaj [] [14, 41, 61] zb3 ?_
  simp -implicitDefEqProofs [zbw]
  refine zae [0, 1, 2, 3, 4] rfl (by decide) (by simp) c1 (by simp) (by simp [lentBs]) ?_
  simp -implicitDefEqProofs [framed, -leave]
  refine zaa c2 ?_
  simp -implicitDefEqProofs [-leave]
  refine zae [0, 1, 2, 3, 6] rfl (by decide) (by simp) c3 (by simp) (by simp [lentBs]) ?_
  simp -implicitDefEqProofs [framed, -leave, hpp, hp', hx, hg]
  refine zaa c4 ?_
  simp -implicitDefEqProofs [-leave, hpp, hp', hx, hg]
  refine zae [0, 1, 2, 3] rfl (by decide) (by simp) c5 (by simp) (by simp [lentBs]) ?_
  simp -implicitDefEqProofs [framed, -leave]
  exact leave5 (za1 rfl) (zg5 (zbb 5 _) (List.all_eq_true.1 rfl)) (zby 5 _) (zbv 5 _) (za1 rfl)
theorem zrt (w : Wld) (a : Act) (m : Msg) (x : Node) (hw : worldMay w = true) (h0 : 0 ≤ a.pick) (hp : a.pick ≤ 65535) (hm : w.packets[pickP w a]? = some m) (hr : MonoC (cmpN m.to) w.nodes) (hcut : (isC w.cuts m.from_ m.to).1 = false) (hi : isN m.to w.nodes = true) (hx : w.nodes[posN m.to w.nodes]? = some x) (h : doB x m = true) (hk : m.kind = 2) (hm1 : worldMay ({ nodes := w.nodes.set (posN m.to w.nodes) (x), cuts := w.cuts, packets := leftP w (pickP w a) } : Wld) = true) (hm2 : worldMay ({ nodes := w.nodes.set (posN m.to w.nodes) (x), cuts := w.cuts, packets := [tellOf x m] } : Wld) = true) :
 Den PP 60 [.ptr 0 0 0, .ptr 4 0 0] (actB w a) (.tup []) (doS ({ nodes := w.nodes.set (posN m.to w.nodes) (x), cuts := w.cuts, packets := leftP w (pickP w a) } : Wld) (sendW ({ nodes := w.nodes.set (posN m.to w.nodes) (x), cuts := w.cuts, packets := leftP w (pickP w a) } : Wld) [tellOf x m]) w.packets a) := by
 have c1 := zdz w a m (zau hw) (zar hw).2.2.1 h0 hp hm
 have c2 := zn2 w.cuts m.from_ m.to (by have := (zau hw).cuts; unfold cap; omega)
 have c3 := zf4 { w with packets := leftP w (pickP w a) } m.to w.packets (by have := (zau hw).nodes; unfold cap; simp only; omega) hr hi
 have c4 := zzi x m (za7 ((zau hw).node x (List.mem_of_getElem? hx))) (by have := (zau hw).packet m (List.mem_of_getElem? hm); unfold cap; omega) h hk
 have c5 := zhd ({ nodes := w.nodes.set (posN m.to w.nodes) (x), cuts := w.cuts, packets := leftP w (pickP w a) } : Wld) [tellOf x m] w.packets hm1 hm2
 have hpp := zdk hi
 have hg : ∀ h : posN m.to w.nodes < w.nodes.length, w.nodes[posN m.to w.nodes] = x := fun h => by rw [List.getElem?_eq_getElem h] at hx; exact Option.some.inj hx
 rw [hcut] at c2
 simp only at c3
 obtain ⟨kk, hkk, c4⟩ := c4
 have c5 : Den PP 151 [.ptr 0 0 0, .sl [(tellOf x m).row0] 1] _ _ _ := zdv (by
  have hn := zlm [tellOf x m]
  simp only [List.map_cons, List.map_nil] at hn
  simp only [List.map_cons, List.map_nil, D.nrm, hn]
  exact c5)
 generalize tellOf x m = t at *
 generalize (isC w.cuts m.from_ m.to).2 = e at *
 generalize leftP w (pickP w a) = ls at *
 generalize posN m.to w.nodes = P at *
 have hp' : (P : Int) < w.nodes.length := by omega
 have e1 : (sendW { nodes := w.nodes.set P (x), cuts := w.cuts, packets := ls } [t]).nodes = w.nodes.set P (x) := rfl
 have e2 : (sendW { nodes := w.nodes.set P (x), cuts := w.cuts, packets := ls } [t]).cuts = w.cuts := rfl
 generalize sendW { nodes := w.nodes.set P (x), cuts := w.cuts, packets := ls } [t] = v at *
 obtain ⟨ns, cs, ps⟩ := v
 simp only at e1 e2
 subst e1 e2
 clear hw h0 hp hm hr hcut hi h hm1 hm2
 simp only [actB, doA, doC, doS, copyD, nodeB, noteD, noteB, nodeD, intsD, Act.cells, Wld.cells, nodesD, cutsD, msgsD, msgD, Msg.row, Msg.row0, hk, List.length_set, List.map_set, List.map_cons, List.map_nil, List.length_cons, List.length_nil, List.nil_append, List.cons_append] at c1 c2 c3 c4 c5 ⊢
 rw [zdp (x)] at c5 ⊢
 try simp only at c5 ⊢
 cases kk <;> simp [Kind.isBox] at hkk
 all_goals
  refine zaj [] [14, 41, 61] zb3 ?_
  simp -implicitDefEqProofs [zbw]
  refine zae [0, 1, 2, 3, 4] rfl (by decide) (by simp) c1 (by simp) (by simp [lentBs]) ?_
  simp -implicitDefEqProofs [framed, -leave]
  refine zaa c2 ?_
  simp -implicitDefEqProofs [-leave]
  refine zae [0, 1, 2, 3, 6] rfl (by decide) (by simp) c3 (by simp) (by simp [lentBs]) ?_
  simp -implicitDefEqProofs [framed, -leave, hpp, hp', hx, hg]
  refine zaa c4 ?_
  simp -implicitDefEqProofs [-leave, hpp, hp', hx, hg]
  refine zae [0, 1, 2, 3] rfl (by decide) (by simp) c5 (by simp) (by simp [lentBs]) ?_
  simp -implicitDefEqProofs [framed, -leave]
  exact leave5 (za1 rfl) (zg5 (zbb 5 _) (List.all_eq_true.1 rfl)) (zby 5 _) (zbv 5 _) (za1 rfl)
theorem zrr (w : Wld) (a : Act) (m : Msg) (x : Node) (hw : worldMay w = true) (h0 : 0 ≤ a.pick) (hp : a.pick ≤ 65535) (hm : w.packets[pickP w a]? = some m) (hr : MonoC (cmpN m.to) w.nodes) (hcut : (isC w.cuts m.from_ m.to).1 = false) (hi : isN m.to w.nodes = true) (hx : w.nodes[posN m.to w.nodes]? = some x) (h : doB x m = true) (hk : m.kind = 3) (hm1 : worldMay ({ nodes := w.nodes.set (posN m.to w.nodes) ({ x with log := logOf x (mT m) }), cuts := w.cuts, packets := leftP w (pickP w a) } : Wld) = true) (hm2 : worldMay ({ nodes := w.nodes.set (posN m.to w.nodes) ({ x with log := logOf x (mT m) }), cuts := w.cuts, packets := [] } : Wld) = true) :
 Den PP 60 [.ptr 0 0 0, .ptr 4 0 0] (actB w a) (.tup []) (doS ({ nodes := w.nodes.set (posN m.to w.nodes) ({ x with log := logOf x (mT m) }), cuts := w.cuts, packets := leftP w (pickP w a) } : Wld) (sendW ({ nodes := w.nodes.set (posN m.to w.nodes) ({ x with log := logOf x (mT m) }), cuts := w.cuts, packets := leftP w (pickP w a) } : Wld) []) w.packets a) := by
 have c1 := zdz w a m (zau hw) (zar hw).2.2.1 h0 hp hm
 have c2 := zn2 w.cuts m.from_ m.to (by have := (zau hw).cuts; unfold cap; omega)
 have c3 := zf4 { w with packets := leftP w (pickP w a) } m.to w.packets (by have := (zau hw).nodes; unfold cap; simp only; omega) hr hi
 have c4 := zx1 x m (za7 ((zau hw).node x (List.mem_of_getElem? hx))) (by have := (zau hw).packet m (List.mem_of_getElem? hm); unfold cap; omega) h hk
 have c5 := zhd ({ nodes := w.nodes.set (posN m.to w.nodes) ({ x with log := logOf x (mT m) }), cuts := w.cuts, packets := leftP w (pickP w a) } : Wld) [] w.packets hm1 hm2
 have hpp := zdk hi
 have hg : ∀ h : posN m.to w.nodes < w.nodes.length, w.nodes[posN m.to w.nodes] = x := fun h => by rw [List.getElem?_eq_getElem h] at hx; exact Option.some.inj hx
 rw [hcut] at c2
 simp only at c3
 have c5 : Den PP 151 [.ptr 0 0 0, .nil] _ _ _ := zdv (by
  simp only [List.map_cons, List.map_nil, D.nrm]
  exact c5)
 generalize logPre x (mT m) = pre at *
 generalize logOf x (mT m) = ys at *
 generalize (isC w.cuts m.from_ m.to).2 = e at *
 generalize leftP w (pickP w a) = ls at *
 generalize posN m.to w.nodes = P at *
 have hp' : (P : Int) < w.nodes.length := by omega
 have e1 : (sendW { nodes := w.nodes.set P ({ x with log := ys }), cuts := w.cuts, packets := ls } []).nodes = w.nodes.set P ({ x with log := ys }) := rfl
 have e2 : (sendW { nodes := w.nodes.set P ({ x with log := ys }), cuts := w.cuts, packets := ls } []).cuts = w.cuts := rfl
 generalize sendW { nodes := w.nodes.set P ({ x with log := ys }), cuts := w.cuts, packets := ls } [] = v at *
 obtain ⟨ns, cs, ps⟩ := v
 simp only at e1 e2
 subst e1 e2
 clear hw h0 hp hm hr hcut hi h hm1 hm2
 simp only [actB, doA, doC, doS, copyD, nodeB, noteD, noteB, nodeD, intsD, Act.cells, Wld.cells, nodesD, cutsD, msgsD, msgD, Msg.row, Msg.row0, hk, List.length_set, List.map_set, List.map_cons, List.map_nil, List.length_cons, List.length_nil, List.nil_append, List.cons_append] at c1 c2 c3 c4 c5 ⊢
 rw [zdp ({ x with log := ys })] at c5 ⊢
 try simp only at c5 ⊢
 skip
 all_goals
  refine zaj [] [14, 41, 61] zb3 ?_
  simp -implicitDefEqProofs [zbw]
  refine zae [0, 1, 2, 3, 4] rfl (by decide) (by simp) c1 (by simp) (by simp [lentBs]) ?_
  simp -implicitDefEqProofs [framed, -leave]
  refine zaa c2 ?_
  simp -implicitDefEqProofs [-leave]
  refine zae [0, 1, 2, 3, 6] rfl (by decide) (by simp) c3 (by simp) (by simp [lentBs]) ?_
  simp -implicitDefEqProofs [framed, -leave, hpp, hp', hx, hg]
  refine zaa c4 ?_
  simp -implicitDefEqProofs [-leave, hpp, hp', hx, hg]
  refine zae [0, 1, 2, 3] rfl (by decide) (by simp) c5 (by simp) (by simp [lentBs]) ?_
  simp -implicitDefEqProofs [framed, -leave]
  exact leave5 (za1 rfl) (zg5 (zbb 5 _) (List.all_eq_true.1 rfl)) (zby 5 _) (zbv 5 _) (za1 rfl)
end Go.AM
/- AM: contracts: a node that starts. -/
namespace Go.AM
set_option linter.unusedSimpArgs false
set_option linter.unusedVariables false
set_option maxRecDepth 8000
set_option maxHeartbeats 0
theorem z79 (id : Int) (L : List Int) (hid : place id = true) (hp : ∀ y ∈ L, place y = true) (hl : L.length ≤ 16) : Den PP 133 [.int .i64 id, intsD L] [] (.tup [.agg [.bool true, .int .i64 id, .nil, newZ id L, .nil, .nil], .int .i64 0]) [] := by
 have c1 := zav id
 have c2 := zg0 L (by unfold cap; omega)
 have hall : L.all place = true := List.all_eq_true.2 hp
 rw [hid] at c1
 rw [hall] at c2
 simp only [intsD] at c2 ⊢
 refine zaj [] [] zx3 ?_
 simp -implicitDefEqProofs [zsr]
 refine zaa c1 ?_
 simp -implicitDefEqProofs
 refine zaa c2 ?_
 simp -implicitDefEqProofs
 refine za3 L (fun i rest => fun ⟨fr, bs⟩ => bs = [⟨[[.bool false, .int .i64 0, .nil, .nil, .nil, .nil]], 6, .box⟩, ⟨[[.bool true, .int .i64 id, .nil, newZ id (L.take i), .nil, .nil]], 6, .box⟩] ∧ fr 0 = .int .i64 id ∧ fr 4 = .ptr 0 0 0 ∧ fr 6 = .ptr 1 0 0 ∧ fr 23 = .sl (L.map irow) L.length ∧ fr 24 = .int .i64 L.length ∧ fr 25 = .int .i64 i)
  (fun ⟨fr, bs⟩ => bs = [⟨[[.bool false, .int .i64 0, .nil, .nil, .nil, .nil]], 6, .box⟩, ⟨[[.bool true, .int .i64 id, .nil, newZ id L, .nil, .nil]], 6, .box⟩] ∧ fr 4 = .ptr 0 0 0 ∧ fr 6 = .ptr 1 0 0) (fun _ => False) zm2.eq_1 ?_ ?_ ?_ ?_ ?_
 ·exact ⟨rfl, rfl, rfl, rfl, rfl, rfl, rfl⟩
 ·rintro i ⟨fr, bs⟩ hi ⟨rfl, h0, h4, h6, h23, h24, h25⟩
  subst hi
  rw [List.take_length] at *
  simp -implicitDefEqProofs [h0, h4, h6, h23, h24, h25]
 ·rintro i y rest ⟨fr, bs⟩ hlt hget hg hd hd2 ⟨rfl, h0, h4, h6, h23, h24, h25⟩
  have hlt' : (i : Int) < L.length := by omega
  have hpl : ∀ x ∈ L.take i, place x = true := fun x hx => hp x (List.mem_of_mem_take hx)
  obtain ⟨s1, s2, s3⟩ := zq3 (id := id) hpl (by simp; omega)
  have hz := z0p (id := id) hpl (by simp; omega)
  have e1 := zxf (id := id) hget
  have e2 := z4k (id := id) hget
  have hy := hp y (List.mem_of_getElem? hget)
  have hlen : (newP id (L.take i)).length < 16 := by simp at s2; omega
  obtain ⟨w1, w2, w3, w4⟩ := z06 s1 hy hlen
  have c3 := zom (newP id (L.take i)) y (by unfold cap; omega)
  rw [w1] at c3 e1
  generalize (if y ∈ newP id (L.take i) then newP id (L.take i) else insU y (newP id (L.take i))) = q at *
  have hzs : (newZ id (L.take i) = .nil) ∨ (newZ id (L.take i) = .sl ((newP id (L.take i)).map irow) (newP id (L.take i)).length) := by
   unfold newZ intsD
   split
   ·exact .inl rfl
   ·exact .inr rfl
  have c3 : Den PP 112 [newZ id (L.take i), .int .i64 y] [] (.tup [.ref 0 0 q.length, .int .i64 0]) [⟨q.map irow, 1, .mut⟩] := zdv (by simp only [List.map_cons, List.map_nil, hz]; exact c3)
  rw [e1] at e2
  rw [e2]
  clear hp hpl s1 s2 s3 hz e1 e2 hall hlen w1 w2 w3 w4
  simp only [intsD] at *
  generalize (newP id (L.take i)) = p at *
  generalize newZ id (L.take i) = Z at *
  by_cases hyi : y = id
  ·rw [if_pos hyi]
   rcases hzs with rfl | rfl
   all_goals
    simp -implicitDefEqProofs [h0, h4, h6, h23, h24, h25, hlt, hlt', hget, hg, hyi, irow]
    exact zas (by omega) (by omega)
  ·rw [if_neg hyi]
   rcases hzs with rfl | rfl
   all_goals
    simp -implicitDefEqProofs [h0, h4, h6, h23, h24, h25, hlt, hlt', hget, hg, hyi, irow]
    refine zaa c3 ?_
    simp -implicitDefEqProofs [h0, h4, h6, h23, h24, h25, hlt, hlt', hget, hg, hyi, irow]
    exact zas (by omega) (by omega)
 ·rintro ⟨fr, bs⟩ ⟨rfl, h4, h6⟩
  have hzs : (newZ id L = .nil) ∨ (newZ id L = .sl ((newP id L).map irow) (newP id L).length) := by
   unfold newZ intsD
   split
   ·exact .inl rfl
   ·exact .inr rfl
  generalize newZ id L = Z at *
  rcases hzs with rfl | rfl
  all_goals simp -implicitDefEqProofs [h4, h6]
 ·rintro ⟨fr, bs⟩ h
  exact h.elim
theorem zuh (w : Wld) (a : Act) (x : Node) (hw : w.tiny) (hr : MonoC (cmpN a.node) w.nodes) (hi : isN a.node w.nodes = true) (hx : w.nodes[posN a.node w.nodes]? = some x) (h : x.up = true) : Den PP 66 [.ptr 0 0 0, .ptr 4 0 0] (actB w a) (.tup []) (actB w a) := by
 have c1 := zds w a (by have := hw.nodes; unfold cap; omega) hr hi
 have hp := zdk hi
 have hg : ∀ h : posN a.node w.nodes < w.nodes.length, w.nodes[posN a.node w.nodes] = x := fun h => by rw [List.getElem?_eq_getElem h] at hx; exact Option.some.inj hx
 generalize posN a.node w.nodes = P at *
 have hp' : (P : Int) < w.nodes.length := by omega
 clear hi hr hw
 simp only [actB, doA, copyD, nodeB, nodeD, intsD, Act.cells, Wld.cells, nodesD, cutsD, msgsD] at c1 ⊢
 refine zaj [] [5] zhz ?_
 simp -implicitDefEqProofs [zgb]
 refine zae [0, 1, 2, 3, 4] rfl (by decide) (by simp) c1 (by simp) (by simp [lentBs]) ?_
 simp -implicitDefEqProofs [framed, -leave, hp, hp', hx, hg, zdp x, h]
 exact leave5 (za1 rfl) (zbb 5 _) (zby 5 _) (zbv 5 _) (za1 rfl)
theorem z3d (w : Wld) (a : Act) (x : Node) (hw : w.tiny) (hr : MonoC (cmpN a.node) w.nodes) (hi : isN a.node w.nodes = true) (hx : w.nodes[posN a.node w.nodes]? = some x) (h : x.up = false) (hid : place a.node = true) (hpl : ∀ y ∈ a.ids, place y = true) (hl : a.ids.length ≤ 16) :
 Den PP 66 [.ptr 0 0 0, .ptr 4 0 0] (actB w a) (.tup []) (doA w a (posN a.node w.nodes) [.bool true, .int .i64 a.node, .nil, newZ a.node a.ids, .nil, .nil]) := by
 have c1 := zds w a (by have := hw.nodes; unfold cap; omega) hr hi
 have c2 := z79 a.node a.ids hid hpl hl
 have hp := zdk hi
 have hg : ∀ h : posN a.node w.nodes < w.nodes.length, w.nodes[posN a.node w.nodes] = x := fun h => by rw [List.getElem?_eq_getElem h] at hx; exact Option.some.inj hx
 generalize posN a.node w.nodes = P at *
 have hp' : (P : Int) < w.nodes.length := by omega
 have hzs : (newZ a.node a.ids = .nil) ∨ (newZ a.node a.ids = .sl ((newP a.node a.ids).map irow) (newP a.node a.ids).length) := by
  unfold newZ intsD
  split
  ·exact .inl rfl
  ·exact .inr rfl
 generalize newZ a.node a.ids = Z at *
 clear hi hr hw hid hpl hl
 simp only [actB, doA, copyD, nodeB, nodeD, intsD, Act.cells, Wld.cells, nodesD, cutsD, msgsD] at c1 c2 ⊢
 refine zaj [] [5] zhz ?_
 simp -implicitDefEqProofs [zgb]
 refine zae [0, 1, 2, 3, 4] rfl (by decide) (by simp) c1 (by simp) (by simp [lentBs]) ?_
 rcases hzs with rfl | rfl
 all_goals
  simp -implicitDefEqProofs [framed, -leave, hp, hp', hx, hg, zdp x, h]
  refine zaa c2 ?_
  simp -implicitDefEqProofs [framed, -leave, hp, hp', hx, hg, zdp x, h]
  exact leave5 (za1 rfl) (zg5 (zbb 5 _) (List.all_eq_true.1 rfl)) (zby 5 _) (zbv 5 _) (za1 rfl)
end Go.AM
/- AM: contracts: act.Do. -/
namespace Go.AM
set_option linter.unusedSimpArgs false
set_option linter.unusedVariables false
set_option maxRecDepth 8000
set_option maxHeartbeats 0
theorem z44 (w : Wld) (a : Act) (hi : a.ids.length ≤ cap) (hw : worldMay w = true) (h : mayA w a = false) : Den PP 20 [wldD w, actD a] [] (.tup [.agg [.nil, .nil, .nil], .int .i64 2400]) [] := by
 have t := zau hw
 have c1 := zba w t.small
 have c2 := za9 w t
 have c3 := zce w a (by have := t.nodes; unfold cap; omega) (fun id => za0 (zar hw).1 id) hi
 rw [hw] at c1
 rw [h] at c3
 clear hw h t hi
 simp only [actB, doA, doC, doS, wldD, actD, Act.cells, Wld.cells, nodesD, cutsD, msgsD, wldR, wldB, intsD] at c1 c2 c3 ⊢
 refine zaj [13] [46] zbs ?_
 simp -implicitDefEqProofs [zb6]
 refine zaa c1 ?_
 simp -implicitDefEqProofs
 refine zaa c2 ?_
 simp -implicitDefEqProofs
 refine zaa c3 ?_
 simp -implicitDefEqProofs
theorem z64 (w : Wld) (a : Act) (hi : a.ids.length ≤ cap) (hw : worldMay w = true) (h : mayA w a = true) (hk : a.kind = 0) (hd : Den PP 59 [.ptr 0 0 0, .ptr 4 0 0] (actB w a) (.tup []) (actB w a)) :
 Den PP 20 [wldD w, actD a] [] (.tup [.agg [.sl (w.nodes.map Node.cells) w.nodes.length, .sl (w.cuts.map Cut.row) w.cuts.length, .sl (w.packets.map Msg.row) w.packets.length], .int .i64 0]) [] := by
 have t := zau hw
 have c1 := zba w t.small
 have c2 := za9 w t
 have c3 := zce w a (by have := t.nodes; unfold cap; omega) (fun id => za0 (zar hw).1 id) hi
 rw [hw] at c1
 rw [h] at c3
 clear hw h t hi
 suffices hh : Den PP 20 [wldD w, actD a] [] (.tup [.agg [.ref 0 0 w.nodes.length, .ref 1 0 w.cuts.length, .ref 2 0 w.packets.length], .int .i64 0]) [⟨w.nodes.map Node.cells, 6, .mut⟩, ⟨w.cuts.map Cut.row, 2, .mut⟩, ⟨w.packets.map Msg.row, 11, .mut⟩] by
  have := zbe hh
  simpa [D.freeze, D.mapR, mapRL, frzRef, nodesD, cutsD, msgsD] using this
 simp only [actB, doA, doC, doS, wldD, actD, Act.cells, Wld.cells, nodesD, cutsD, msgsD, wldR, wldB, intsD, hk] at c1 c2 c3 hd ⊢
 refine zaj [13] [46] zbs ?_
 simp -implicitDefEqProofs [zb6]
 refine zaa c1 ?_
 simp -implicitDefEqProofs
 refine zaa c2 ?_
 simp -implicitDefEqProofs
 refine zaa c3 ?_
 simp -implicitDefEqProofs
 refine zae [6, 3, 4, 5, 1] rfl (by decide) (by simp) hd (by simp) (by simp [lentBs]) ?_
 simp -implicitDefEqProofs [framed]
theorem z5p (w : Wld) (a : Act) (hi : a.ids.length ≤ cap) (hw : worldMay w = true) (h : mayA w a = true) (hk : a.kind = 1) (hd : Den PP 60 [.ptr 0 0 0, .ptr 4 0 0] (actB w a) (.tup []) (actB w a)) :
 Den PP 20 [wldD w, actD a] [] (.tup [.agg [.sl (w.nodes.map Node.cells) w.nodes.length, .sl (w.cuts.map Cut.row) w.cuts.length, .sl (w.packets.map Msg.row) w.packets.length], .int .i64 0]) [] := by
 have t := zau hw
 have c1 := zba w t.small
 have c2 := za9 w t
 have c3 := zce w a (by have := t.nodes; unfold cap; omega) (fun id => za0 (zar hw).1 id) hi
 rw [hw] at c1
 rw [h] at c3
 clear hw h t hi
 suffices hh : Den PP 20 [wldD w, actD a] [] (.tup [.agg [.ref 0 0 w.nodes.length, .ref 1 0 w.cuts.length, .ref 2 0 w.packets.length], .int .i64 0]) [⟨w.nodes.map Node.cells, 6, .mut⟩, ⟨w.cuts.map Cut.row, 2, .mut⟩, ⟨w.packets.map Msg.row, 11, .mut⟩] by
  have := zbe hh
  simpa [D.freeze, D.mapR, mapRL, frzRef, nodesD, cutsD, msgsD] using this
 simp only [actB, doA, doC, doS, wldD, actD, Act.cells, Wld.cells, nodesD, cutsD, msgsD, wldR, wldB, intsD, hk] at c1 c2 c3 hd ⊢
 refine zaj [13] [46] zbs ?_
 simp -implicitDefEqProofs [zb6]
 refine zaa c1 ?_
 simp -implicitDefEqProofs
 refine zaa c2 ?_
 simp -implicitDefEqProofs
 refine zaa c3 ?_
 simp -implicitDefEqProofs
 refine zae [6, 3, 4, 5, 1] rfl (by decide) (by simp) hd (by simp) (by simp [lentBs]) ?_
 simp -implicitDefEqProofs [framed]
theorem z6y (w : Wld) (a : Act) (hi : a.ids.length ≤ cap) (hw : worldMay w = true) (h : mayA w a = true) (hk : a.kind = 2) (hd : Den PP 61 [.ptr 0 0 0, .ptr 4 0 0] (actB w a) (.tup []) (actB w a)) :
 Den PP 20 [wldD w, actD a] [] (.tup [.agg [.sl (w.nodes.map Node.cells) w.nodes.length, .sl (w.cuts.map Cut.row) w.cuts.length, .sl (w.packets.map Msg.row) w.packets.length], .int .i64 0]) [] := by
 have t := zau hw
 have c1 := zba w t.small
 have c2 := za9 w t
 have c3 := zce w a (by have := t.nodes; unfold cap; omega) (fun id => za0 (zar hw).1 id) hi
 rw [hw] at c1
 rw [h] at c3
 clear hw h t hi
 suffices hh : Den PP 20 [wldD w, actD a] [] (.tup [.agg [.ref 0 0 w.nodes.length, .ref 1 0 w.cuts.length, .ref 2 0 w.packets.length], .int .i64 0]) [⟨w.nodes.map Node.cells, 6, .mut⟩, ⟨w.cuts.map Cut.row, 2, .mut⟩, ⟨w.packets.map Msg.row, 11, .mut⟩] by
  have := zbe hh
  simpa [D.freeze, D.mapR, mapRL, frzRef, nodesD, cutsD, msgsD] using this
 simp only [actB, doA, doC, doS, wldD, actD, Act.cells, Wld.cells, nodesD, cutsD, msgsD, wldR, wldB, intsD, hk] at c1 c2 c3 hd ⊢
 refine zaj [13] [46] zbs ?_
 simp -implicitDefEqProofs [zb6]
 refine zaa c1 ?_
 simp -implicitDefEqProofs
 refine zaa c2 ?_
 simp -implicitDefEqProofs
 refine zaa c3 ?_
 simp -implicitDefEqProofs
 refine zae [6, 3, 4, 5, 1] rfl (by decide) (by simp) hd (by simp) (by simp [lentBs]) ?_
 simp -implicitDefEqProofs [framed]
theorem z6x (w : Wld) (a : Act) (hi : a.ids.length ≤ cap) (hw : worldMay w = true) (h : mayA w a = true) (hk : a.kind = 3) (hd : Den PP 62 [.ptr 0 0 0, .ptr 4 0 0] (actB w a) (.tup []) (actB w a)) :
 Den PP 20 [wldD w, actD a] [] (.tup [.agg [.sl (w.nodes.map Node.cells) w.nodes.length, .sl (w.cuts.map Cut.row) w.cuts.length, .sl (w.packets.map Msg.row) w.packets.length], .int .i64 0]) [] := by
 have t := zau hw
 have c1 := zba w t.small
 have c2 := za9 w t
 have c3 := zce w a (by have := t.nodes; unfold cap; omega) (fun id => za0 (zar hw).1 id) hi
 rw [hw] at c1
 rw [h] at c3
 clear hw h t hi
 suffices hh : Den PP 20 [wldD w, actD a] [] (.tup [.agg [.ref 0 0 w.nodes.length, .ref 1 0 w.cuts.length, .ref 2 0 w.packets.length], .int .i64 0]) [⟨w.nodes.map Node.cells, 6, .mut⟩, ⟨w.cuts.map Cut.row, 2, .mut⟩, ⟨w.packets.map Msg.row, 11, .mut⟩] by
  have := zbe hh
  simpa [D.freeze, D.mapR, mapRL, frzRef, nodesD, cutsD, msgsD] using this
 simp only [actB, doA, doC, doS, wldD, actD, Act.cells, Wld.cells, nodesD, cutsD, msgsD, wldR, wldB, intsD, hk] at c1 c2 c3 hd ⊢
 refine zaj [13] [46] zbs ?_
 simp -implicitDefEqProofs [zb6]
 refine zaa c1 ?_
 simp -implicitDefEqProofs
 refine zaa c2 ?_
 simp -implicitDefEqProofs
 refine zaa c3 ?_
 simp -implicitDefEqProofs
 refine zae [6, 3, 4, 5, 1] rfl (by decide) (by simp) hd (by simp) (by simp [lentBs]) ?_
 simp -implicitDefEqProofs [framed]
theorem z5t (w : Wld) (a : Act) (hi : a.ids.length ≤ cap) (hw : worldMay w = true) (h : mayA w a = true) (hk : a.kind = 7) (hd : Den PP 66 [.ptr 0 0 0, .ptr 4 0 0] (actB w a) (.tup []) (actB w a)) :
 Den PP 20 [wldD w, actD a] [] (.tup [.agg [.sl (w.nodes.map Node.cells) w.nodes.length, .sl (w.cuts.map Cut.row) w.cuts.length, .sl (w.packets.map Msg.row) w.packets.length], .int .i64 0]) [] := by
 have t := zau hw
 have c1 := zba w t.small
 have c2 := za9 w t
 have c3 := zce w a (by have := t.nodes; unfold cap; omega) (fun id => za0 (zar hw).1 id) hi
 rw [hw] at c1
 rw [h] at c3
 clear hw h t hi
 suffices hh : Den PP 20 [wldD w, actD a] [] (.tup [.agg [.ref 0 0 w.nodes.length, .ref 1 0 w.cuts.length, .ref 2 0 w.packets.length], .int .i64 0]) [⟨w.nodes.map Node.cells, 6, .mut⟩, ⟨w.cuts.map Cut.row, 2, .mut⟩, ⟨w.packets.map Msg.row, 11, .mut⟩] by
  have := zbe hh
  simpa [D.freeze, D.mapR, mapRL, frzRef, nodesD, cutsD, msgsD] using this
 simp only [actB, doA, doC, doS, wldD, actD, Act.cells, Wld.cells, nodesD, cutsD, msgsD, wldR, wldB, intsD, hk] at c1 c2 c3 hd ⊢
 refine zaj [13] [46] zbs ?_
 simp -implicitDefEqProofs [zb6]
 refine zaa c1 ?_
 simp -implicitDefEqProofs
 refine zaa c2 ?_
 simp -implicitDefEqProofs
 refine zaa c3 ?_
 simp -implicitDefEqProofs
 refine zae [6, 3, 4, 5, 1] rfl (by decide) (by simp) hd (by simp) (by simp [lentBs]) ?_
 simp -implicitDefEqProofs [framed]
theorem z4l (w : Wld) (a : Act) (hi : a.ids.length ≤ cap) (hw : worldMay w = true) (h : mayA w a = true) (hk : a.kind = 8) (hd : Den PP 67 [.ptr 0 0 0, .ptr 4 0 0] (actB w a) (.tup []) (actB w a)) :
 Den PP 20 [wldD w, actD a] [] (.tup [.agg [.sl (w.nodes.map Node.cells) w.nodes.length, .sl (w.cuts.map Cut.row) w.cuts.length, .sl (w.packets.map Msg.row) w.packets.length], .int .i64 0]) [] := by
 have t := zau hw
 have c1 := zba w t.small
 have c2 := za9 w t
 have c3 := zce w a (by have := t.nodes; unfold cap; omega) (fun id => za0 (zar hw).1 id) hi
 rw [hw] at c1
 rw [h] at c3
 clear hw h t hi
 suffices hh : Den PP 20 [wldD w, actD a] [] (.tup [.agg [.ref 0 0 w.nodes.length, .ref 1 0 w.cuts.length, .ref 2 0 w.packets.length], .int .i64 0]) [⟨w.nodes.map Node.cells, 6, .mut⟩, ⟨w.cuts.map Cut.row, 2, .mut⟩, ⟨w.packets.map Msg.row, 11, .mut⟩] by
  have := zbe hh
  simpa [D.freeze, D.mapR, mapRL, frzRef, nodesD, cutsD, msgsD] using this
 simp only [actB, doA, doC, doS, wldD, actD, Act.cells, Wld.cells, nodesD, cutsD, msgsD, wldR, wldB, intsD, hk] at c1 c2 c3 hd ⊢
 refine zaj [13] [46] zbs ?_
 simp -implicitDefEqProofs [zb6]
 refine zaa c1 ?_
 simp -implicitDefEqProofs
 refine zaa c2 ?_
 simp -implicitDefEqProofs
 refine zaa c3 ?_
 simp -implicitDefEqProofs
 refine zae [6, 3, 4, 5, 1] rfl (by decide) (by simp) hd (by simp) (by simp [lentBs]) ?_
 simp -implicitDefEqProofs [framed]
theorem z4d (w : Wld) (a : Act) (hi : a.ids.length ≤ cap) (hw : worldMay w = true) (h : mayA w a = true) (hk : a.kind = 9) (hd : Den PP 68 [.ptr 0 0 0, .ptr 4 0 0] (actB w a) (.tup []) (actB w a)) :
 Den PP 20 [wldD w, actD a] [] (.tup [.agg [.sl (w.nodes.map Node.cells) w.nodes.length, .sl (w.cuts.map Cut.row) w.cuts.length, .sl (w.packets.map Msg.row) w.packets.length], .int .i64 0]) [] := by
 have t := zau hw
 have c1 := zba w t.small
 have c2 := za9 w t
 have c3 := zce w a (by have := t.nodes; unfold cap; omega) (fun id => za0 (zar hw).1 id) hi
 rw [hw] at c1
 rw [h] at c3
 clear hw h t hi
 suffices hh : Den PP 20 [wldD w, actD a] [] (.tup [.agg [.ref 0 0 w.nodes.length, .ref 1 0 w.cuts.length, .ref 2 0 w.packets.length], .int .i64 0]) [⟨w.nodes.map Node.cells, 6, .mut⟩, ⟨w.cuts.map Cut.row, 2, .mut⟩, ⟨w.packets.map Msg.row, 11, .mut⟩] by
  have := zbe hh
  simpa [D.freeze, D.mapR, mapRL, frzRef, nodesD, cutsD, msgsD] using this
 simp only [actB, doA, doC, doS, wldD, actD, Act.cells, Wld.cells, nodesD, cutsD, msgsD, wldR, wldB, intsD, hk] at c1 c2 c3 hd ⊢
 refine zaj [13] [46] zbs ?_
 simp -implicitDefEqProofs [zb6]
 refine zaa c1 ?_
 simp -implicitDefEqProofs
 refine zaa c2 ?_
 simp -implicitDefEqProofs
 refine zaa c3 ?_
 simp -implicitDefEqProofs
 refine zae [6, 3, 4, 5, 1] rfl (by decide) (by simp) hd (by simp) (by simp [lentBs]) ?_
 simp -implicitDefEqProofs [framed]
theorem z16 (w : Wld) (a : Act) (hi : a.ids.length ≤ cap) (hw : worldMay w = true) (h : mayA w a = true) (hk : a.kind = 10) (hd : Den PP 69 [.ptr 0 0 0, .ptr 4 0 0] (actB w a) (.tup []) (actB w a)) :
 Den PP 20 [wldD w, actD a] [] (.tup [.agg [.sl (w.nodes.map Node.cells) w.nodes.length, .sl (w.cuts.map Cut.row) w.cuts.length, .sl (w.packets.map Msg.row) w.packets.length], .int .i64 0]) [] := by
 have t := zau hw
 have c1 := zba w t.small
 have c2 := za9 w t
 have c3 := zce w a (by have := t.nodes; unfold cap; omega) (fun id => za0 (zar hw).1 id) hi
 rw [hw] at c1
 rw [h] at c3
 clear hw h t hi
 suffices hh : Den PP 20 [wldD w, actD a] [] (.tup [.agg [.ref 0 0 w.nodes.length, .ref 1 0 w.cuts.length, .ref 2 0 w.packets.length], .int .i64 0]) [⟨w.nodes.map Node.cells, 6, .mut⟩, ⟨w.cuts.map Cut.row, 2, .mut⟩, ⟨w.packets.map Msg.row, 11, .mut⟩] by
  have := zbe hh
  simpa [D.freeze, D.mapR, mapRL, frzRef, nodesD, cutsD, msgsD] using this
 simp only [actB, doA, doC, doS, wldD, actD, Act.cells, Wld.cells, nodesD, cutsD, msgsD, wldR, wldB, intsD, hk] at c1 c2 c3 hd ⊢
 refine zaj [13] [46] zbs ?_
 simp -implicitDefEqProofs [zb6]
 refine zaa c1 ?_
 simp -implicitDefEqProofs
 refine zaa c2 ?_
 simp -implicitDefEqProofs
 refine zaa c3 ?_
 simp -implicitDefEqProofs
 refine zae [6, 3, 4, 5, 1] rfl (by decide) (by simp) hd (by simp) (by simp [lentBs]) ?_
 simp -implicitDefEqProofs [framed]
theorem z5f (w : Wld) (a : Act) (hi : a.ids.length ≤ cap) (hw : worldMay w = true) (h : mayA w a = true) (hk : a.kind = 6) (p : Nat) (cs : List D) (hcs : ∀ d ∈ cs, lowD 0 d = true) (hd : Den PP 65 [.ptr 0 0 0, .ptr 4 0 0] (actB w a) (.tup []) (doA w a p cs)) :
 Den PP 20 [wldD w, actD a] [] (.tup [.agg [.sl ((w.nodes.map Node.cells).set p cs) w.nodes.length, .sl (w.cuts.map Cut.row) w.cuts.length, .sl (w.packets.map Msg.row) w.packets.length], .int .i64 0]) [] := by
 have t := zau hw
 have c1 := zba w t.small
 have c2 := za9 w t
 have c3 := zce w a (by have := t.nodes; unfold cap; omega) (fun id => za0 (zar hw).1 id) hi
 rw [hw] at c1
 rw [h] at c3
 clear hw h t hi
 suffices hh : Den PP 20 [wldD w, actD a] [] (.tup [.agg [.ref 0 0 w.nodes.length, .ref 1 0 w.cuts.length, .ref 2 0 w.packets.length], .int .i64 0]) [⟨(w.nodes.map Node.cells).set p cs, 6, .mut⟩, ⟨w.cuts.map Cut.row, 2, .mut⟩, ⟨w.packets.map Msg.row, 11, .mut⟩] by
  have := zbe hh
  simpa [D.freeze, D.mapR, mapRL, frzRef, nodesD, cutsD, msgsD] using this
 simp only [actB, doA, doC, doS, wldD, actD, Act.cells, Wld.cells, nodesD, cutsD, msgsD, wldR, wldB, intsD, hk] at c1 c2 c3 hd ⊢
 refine zaj [13] [46] zbs ?_
 simp -implicitDefEqProofs [zb6]
 refine zaa c1 ?_
 simp -implicitDefEqProofs
 refine zaa c2 ?_
 simp -implicitDefEqProofs
 refine zaa c3 ?_
 simp -implicitDefEqProofs
 refine zae [6, 3, 4, 5, 1] rfl (by decide) (by simp) hd (by simp) (by simp [lentBs]) ?_
 simp -implicitDefEqProofs [framed]
 rw [zmn hcs]
theorem z5x (w : Wld) (a : Act) (hi : a.ids.length ≤ cap) (hw : worldMay w = true) (h : mayA w a = true) (hk : a.kind = 7) (p : Nat) (cs : List D) (hcs : ∀ d ∈ cs, lowD 0 d = true) (hd : Den PP 66 [.ptr 0 0 0, .ptr 4 0 0] (actB w a) (.tup []) (doA w a p cs)) :
 Den PP 20 [wldD w, actD a] [] (.tup [.agg [.sl ((w.nodes.map Node.cells).set p cs) w.nodes.length, .sl (w.cuts.map Cut.row) w.cuts.length, .sl (w.packets.map Msg.row) w.packets.length], .int .i64 0]) [] := by
 have t := zau hw
 have c1 := zba w t.small
 have c2 := za9 w t
 have c3 := zce w a (by have := t.nodes; unfold cap; omega) (fun id => za0 (zar hw).1 id) hi
 rw [hw] at c1
 rw [h] at c3
 clear hw h t hi
 suffices hh : Den PP 20 [wldD w, actD a] [] (.tup [.agg [.ref 0 0 w.nodes.length, .ref 1 0 w.cuts.length, .ref 2 0 w.packets.length], .int .i64 0]) [⟨(w.nodes.map Node.cells).set p cs, 6, .mut⟩, ⟨w.cuts.map Cut.row, 2, .mut⟩, ⟨w.packets.map Msg.row, 11, .mut⟩] by
  have := zbe hh
  simpa [D.freeze, D.mapR, mapRL, frzRef, nodesD, cutsD, msgsD] using this
 simp only [actB, doA, doC, doS, wldD, actD, Act.cells, Wld.cells, nodesD, cutsD, msgsD, wldR, wldB, intsD, hk] at c1 c2 c3 hd ⊢
 refine zaj [13] [46] zbs ?_
 simp -implicitDefEqProofs [zb6]
 refine zaa c1 ?_
 simp -implicitDefEqProofs
 refine zaa c2 ?_
 simp -implicitDefEqProofs
 refine zaa c3 ?_
 simp -implicitDefEqProofs
 refine zae [6, 3, 4, 5, 1] rfl (by decide) (by simp) hd (by simp) (by simp [lentBs]) ?_
 simp -implicitDefEqProofs [framed]
 rw [zmn hcs]
theorem z6z (w : Wld) (a : Act) (hi : a.ids.length ≤ cap) (hw : worldMay w = true) (h : mayA w a = true) (hk : a.kind = 8) (p : Nat) (cs : List D) (hcs : ∀ d ∈ cs, lowD 0 d = true) (hd : Den PP 67 [.ptr 0 0 0, .ptr 4 0 0] (actB w a) (.tup []) (doA w a p cs)) :
 Den PP 20 [wldD w, actD a] [] (.tup [.agg [.sl ((w.nodes.map Node.cells).set p cs) w.nodes.length, .sl (w.cuts.map Cut.row) w.cuts.length, .sl (w.packets.map Msg.row) w.packets.length], .int .i64 0]) [] := by
 have t := zau hw
 have c1 := zba w t.small
 have c2 := za9 w t
 have c3 := zce w a (by have := t.nodes; unfold cap; omega) (fun id => za0 (zar hw).1 id) hi
 rw [hw] at c1
 rw [h] at c3
 clear hw h t hi
 suffices hh : Den PP 20 [wldD w, actD a] [] (.tup [.agg [.ref 0 0 w.nodes.length, .ref 1 0 w.cuts.length, .ref 2 0 w.packets.length], .int .i64 0]) [⟨(w.nodes.map Node.cells).set p cs, 6, .mut⟩, ⟨w.cuts.map Cut.row, 2, .mut⟩, ⟨w.packets.map Msg.row, 11, .mut⟩] by
  have := zbe hh
  simpa [D.freeze, D.mapR, mapRL, frzRef, nodesD, cutsD, msgsD] using this
 simp only [actB, doA, doC, doS, wldD, actD, Act.cells, Wld.cells, nodesD, cutsD, msgsD, wldR, wldB, intsD, hk] at c1 c2 c3 hd ⊢
 refine zaj [13] [46] zbs ?_
 simp -implicitDefEqProofs [zb6]
 refine zaa c1 ?_
 simp -implicitDefEqProofs
 refine zaa c2 ?_
 simp -implicitDefEqProofs
 refine zaa c3 ?_
 simp -implicitDefEqProofs
 refine zae [6, 3, 4, 5, 1] rfl (by decide) (by simp) hd (by simp) (by simp [lentBs]) ?_
 simp -implicitDefEqProofs [framed]
 rw [zmn hcs]
theorem z4e (w : Wld) (a : Act) (hi : a.ids.length ≤ cap) (hw : worldMay w = true) (h : mayA w a = true) (hk : a.kind = 9) (p : Nat) (cs : List D) (hcs : ∀ d ∈ cs, lowD 0 d = true) (hd : Den PP 68 [.ptr 0 0 0, .ptr 4 0 0] (actB w a) (.tup []) (doA w a p cs)) :
 Den PP 20 [wldD w, actD a] [] (.tup [.agg [.sl ((w.nodes.map Node.cells).set p cs) w.nodes.length, .sl (w.cuts.map Cut.row) w.cuts.length, .sl (w.packets.map Msg.row) w.packets.length], .int .i64 0]) [] := by
 have t := zau hw
 have c1 := zba w t.small
 have c2 := za9 w t
 have c3 := zce w a (by have := t.nodes; unfold cap; omega) (fun id => za0 (zar hw).1 id) hi
 rw [hw] at c1
 rw [h] at c3
 clear hw h t hi
 suffices hh : Den PP 20 [wldD w, actD a] [] (.tup [.agg [.ref 0 0 w.nodes.length, .ref 1 0 w.cuts.length, .ref 2 0 w.packets.length], .int .i64 0]) [⟨(w.nodes.map Node.cells).set p cs, 6, .mut⟩, ⟨w.cuts.map Cut.row, 2, .mut⟩, ⟨w.packets.map Msg.row, 11, .mut⟩] by
  have := zbe hh
  simpa [D.freeze, D.mapR, mapRL, frzRef, nodesD, cutsD, msgsD] using this
 simp only [actB, doA, doC, doS, wldD, actD, Act.cells, Wld.cells, nodesD, cutsD, msgsD, wldR, wldB, intsD, hk] at c1 c2 c3 hd ⊢
 refine zaj [13] [46] zbs ?_
 simp -implicitDefEqProofs [zb6]
 refine zaa c1 ?_
 simp -implicitDefEqProofs
 refine zaa c2 ?_
 simp -implicitDefEqProofs
 refine zaa c3 ?_
 simp -implicitDefEqProofs
 refine zae [6, 3, 4, 5, 1] rfl (by decide) (by simp) hd (by simp) (by simp [lentBs]) ?_
 simp -implicitDefEqProofs [framed]
 rw [zmn hcs]
theorem zxe (w : Wld) (a : Act) (hi : a.ids.length ≤ cap) (hw : worldMay w = true) (h : mayA w a = true) (hk : a.kind = 1) (ls : List Msg) (hd : Den PP 60 [.ptr 0 0 0, .ptr 4 0 0] (actB w a) (.tup []) (doC w a ls)) :
 Den PP 20 [wldD w, actD a] [] (.tup [.agg [.sl (w.nodes.map Node.cells) w.nodes.length, .sl (w.cuts.map Cut.row) w.cuts.length, .sl (ls.map Msg.row) ls.length], .int .i64 0]) [] := by
 have t := zau hw
 have c1 := zba w t.small
 have c2 := za9 w t
 have c3 := zce w a (by have := t.nodes; unfold cap; omega) (fun id => za0 (zar hw).1 id) hi
 rw [hw] at c1
 rw [h] at c3
 clear hw h t hi
 suffices hh : Den PP 20 [wldD w, actD a] [] (.tup [.agg [.ref 0 0 w.nodes.length, .ref 1 0 w.cuts.length, .sl (ls.map Msg.row) ls.length], .int .i64 0]) [⟨w.nodes.map Node.cells, 6, .mut⟩, ⟨w.cuts.map Cut.row, 2, .mut⟩] by
  have := zbe hh
  simpa [D.freeze, D.mapR, mapRL, frzRef, nodesD, cutsD, msgsD] using this
 simp only [actB, doA, doC, doS, wldD, actD, Act.cells, Wld.cells, nodesD, cutsD, msgsD, wldR, wldB, intsD, hk] at c1 c2 c3 hd ⊢
 refine zaj [13] [46] zbs ?_
 simp -implicitDefEqProofs [zb6]
 refine zaa c1 ?_
 simp -implicitDefEqProofs
 refine zaa c2 ?_
 simp -implicitDefEqProofs
 refine zaa c3 ?_
 simp -implicitDefEqProofs
 refine zae [6, 3, 4, 5, 1] rfl (by decide) (by simp) hd (by simp) (by simp [lentBs]) ?_
 simp -implicitDefEqProofs [framed]
theorem z6j (w : Wld) (a : Act) (hi : a.ids.length ≤ cap) (hw : worldMay w = true) (h : mayA w a = true) (hk : a.kind = 2) (ls : List Msg) (hd : Den PP 61 [.ptr 0 0 0, .ptr 4 0 0] (actB w a) (.tup []) (doC w a ls)) :
 Den PP 20 [wldD w, actD a] [] (.tup [.agg [.sl (w.nodes.map Node.cells) w.nodes.length, .sl (w.cuts.map Cut.row) w.cuts.length, .sl (ls.map Msg.row) ls.length], .int .i64 0]) [] := by
 have t := zau hw
 have c1 := zba w t.small
 have c2 := za9 w t
 have c3 := zce w a (by have := t.nodes; unfold cap; omega) (fun id => za0 (zar hw).1 id) hi
 rw [hw] at c1
 rw [h] at c3
 clear hw h t hi
 suffices hh : Den PP 20 [wldD w, actD a] [] (.tup [.agg [.ref 0 0 w.nodes.length, .ref 1 0 w.cuts.length, .sl (ls.map Msg.row) ls.length], .int .i64 0]) [⟨w.nodes.map Node.cells, 6, .mut⟩, ⟨w.cuts.map Cut.row, 2, .mut⟩] by
  have := zbe hh
  simpa [D.freeze, D.mapR, mapRL, frzRef, nodesD, cutsD, msgsD] using this
 simp only [actB, doA, doC, doS, wldD, actD, Act.cells, Wld.cells, nodesD, cutsD, msgsD, wldR, wldB, intsD, hk] at c1 c2 c3 hd ⊢
 refine zaj [13] [46] zbs ?_
 simp -implicitDefEqProofs [zb6]
 refine zaa c1 ?_
 simp -implicitDefEqProofs
 refine zaa c2 ?_
 simp -implicitDefEqProofs
 refine zaa c3 ?_
 simp -implicitDefEqProofs
 refine zae [6, 3, 4, 5, 1] rfl (by decide) (by simp) hd (by simp) (by simp [lentBs]) ?_
 simp -implicitDefEqProofs [framed]
theorem z5n (w : Wld) (a : Act) (hi : a.ids.length ≤ cap) (hw : worldMay w = true) (h : mayA w a = true) (hk : a.kind = 4) (cs : List Cut) (hd : Den PP 63 [.ptr 0 0 0, .ptr 4 0 0] (actB w a) (.tup []) ([⟨[[.ref 1 0 w.nodes.length, .sl (cs.map Cut.row) cs.length, .ref 3 0 w.packets.length]], 3, .box⟩, ⟨w.nodes.map Node.cells, 6, .mut⟩, ⟨w.cuts.map Cut.row, 2, .app⟩, ⟨w.packets.map Msg.row, 11, .mut⟩, ⟨[a.cells], 7, .box⟩])) :
 Den PP 20 [wldD w, actD a] [] (.tup [.agg [.sl (w.nodes.map Node.cells) w.nodes.length, .sl (cs.map Cut.row) cs.length, .sl (w.packets.map Msg.row) w.packets.length], .int .i64 0]) [] := by
 have t := zau hw
 have c1 := zba w t.small
 have c2 := za9 w t
 have c3 := zce w a (by have := t.nodes; unfold cap; omega) (fun id => za0 (zar hw).1 id) hi
 rw [hw] at c1
 rw [h] at c3
 clear hw h t hi
 suffices hh : Den PP 20 [wldD w, actD a] [] (.tup [.agg [.ref 0 0 w.nodes.length, .sl (cs.map Cut.row) cs.length, .ref 1 0 w.packets.length], .int .i64 0]) [⟨w.nodes.map Node.cells, 6, .mut⟩, ⟨w.packets.map Msg.row, 11, .mut⟩] by
  have := zbe hh
  simpa [D.freeze, D.mapR, mapRL, frzRef, nodesD, cutsD, msgsD] using this
 simp only [actB, doA, doC, doS, wldD, actD, Act.cells, Wld.cells, nodesD, cutsD, msgsD, wldR, wldB, intsD, hk] at c1 c2 c3 hd ⊢
 refine zaj [13] [46] zbs ?_
 simp -implicitDefEqProofs [zb6]
 refine zaa c1 ?_
 simp -implicitDefEqProofs
 refine zaa c2 ?_
 simp -implicitDefEqProofs
 refine zaa c3 ?_
 simp -implicitDefEqProofs
 refine zae [6, 3, 4, 5, 1] rfl (by decide) (by simp) hd (by simp) (by simp [lentBs]) ?_
 simp -implicitDefEqProofs [framed]
theorem z6t (w : Wld) (a : Act) (hi : a.ids.length ≤ cap) (hw : worldMay w = true) (h : mayA w a = true) (hk : a.kind = 5) (cs : List Cut) (hd : Den PP 64 [.ptr 0 0 0, .ptr 4 0 0] (actB w a) (.tup []) ([⟨[[.ref 1 0 w.nodes.length, .sl (cs.map Cut.row) cs.length, .ref 3 0 w.packets.length]], 3, .box⟩, ⟨w.nodes.map Node.cells, 6, .mut⟩, ⟨w.cuts.map Cut.row, 2, .app⟩, ⟨w.packets.map Msg.row, 11, .mut⟩, ⟨[a.cells], 7, .box⟩])) :
 Den PP 20 [wldD w, actD a] [] (.tup [.agg [.sl (w.nodes.map Node.cells) w.nodes.length, .sl (cs.map Cut.row) cs.length, .sl (w.packets.map Msg.row) w.packets.length], .int .i64 0]) [] := by
 have t := zau hw
 have c1 := zba w t.small
 have c2 := za9 w t
 have c3 := zce w a (by have := t.nodes; unfold cap; omega) (fun id => za0 (zar hw).1 id) hi
 rw [hw] at c1
 rw [h] at c3
 clear hw h t hi
 suffices hh : Den PP 20 [wldD w, actD a] [] (.tup [.agg [.ref 0 0 w.nodes.length, .sl (cs.map Cut.row) cs.length, .ref 1 0 w.packets.length], .int .i64 0]) [⟨w.nodes.map Node.cells, 6, .mut⟩, ⟨w.packets.map Msg.row, 11, .mut⟩] by
  have := zbe hh
  simpa [D.freeze, D.mapR, mapRL, frzRef, nodesD, cutsD, msgsD] using this
 simp only [actB, doA, doC, doS, wldD, actD, Act.cells, Wld.cells, nodesD, cutsD, msgsD, wldR, wldB, intsD, hk] at c1 c2 c3 hd ⊢
 refine zaj [13] [46] zbs ?_
 simp -implicitDefEqProofs [zb6]
 refine zaa c1 ?_
 simp -implicitDefEqProofs
 refine zaa c2 ?_
 simp -implicitDefEqProofs
 refine zaa c3 ?_
 simp -implicitDefEqProofs
 refine zae [6, 3, 4, 5, 1] rfl (by decide) (by simp) hd (by simp) (by simp [lentBs]) ?_
 simp -implicitDefEqProofs [framed]
theorem z1l (w : Wld) (a : Act) (hi : a.ids.length ≤ cap) (hw : worldMay w = true) (h : mayA w a = true) (hk : a.kind = 4) (hd : Den PP 63 [.ptr 0 0 0, .ptr 4 0 0] (actB w a) (.tup []) ([⟨[[.ref 1 0 w.nodes.length, .ref 2 0 w.cuts.length, .ref 3 0 w.packets.length]], 3, .box⟩, ⟨w.nodes.map Node.cells, 6, .mut⟩, ⟨w.cuts.map Cut.row, 2, .app⟩, ⟨w.packets.map Msg.row, 11, .mut⟩, ⟨[a.cells], 7, .box⟩])) :
 Den PP 20 [wldD w, actD a] [] (.tup [.agg [.sl (w.nodes.map Node.cells) w.nodes.length, .sl (w.cuts.map Cut.row) w.cuts.length, .sl (w.packets.map Msg.row) w.packets.length], .int .i64 0]) [] := by
 have t := zau hw
 have c1 := zba w t.small
 have c2 := za9 w t
 have c3 := zce w a (by have := t.nodes; unfold cap; omega) (fun id => za0 (zar hw).1 id) hi
 rw [hw] at c1
 rw [h] at c3
 clear hw h t hi
 suffices hh : Den PP 20 [wldD w, actD a] [] (.tup [.agg [.ref 0 0 w.nodes.length, .ref 1 0 w.cuts.length, .ref 2 0 w.packets.length], .int .i64 0]) [⟨w.nodes.map Node.cells, 6, .mut⟩, ⟨w.cuts.map Cut.row, 2, .app⟩, ⟨w.packets.map Msg.row, 11, .mut⟩] by
  have := zbe hh
  simpa [D.freeze, D.mapR, mapRL, frzRef, nodesD, cutsD, msgsD] using this
 simp only [actB, doA, doC, doS, wldD, actD, Act.cells, Wld.cells, nodesD, cutsD, msgsD, wldR, wldB, intsD, hk] at c1 c2 c3 hd ⊢
 refine zaj [13] [46] zbs ?_
 simp -implicitDefEqProofs [zb6]
 refine zaa c1 ?_
 simp -implicitDefEqProofs
 refine zaa c2 ?_
 simp -implicitDefEqProofs
 refine zaa c3 ?_
 simp -implicitDefEqProofs
 refine zae [6, 3, 4, 5, 1] rfl (by decide) (by simp) hd (by simp) (by simp [lentBs]) ?_
 simp -implicitDefEqProofs [framed]
theorem z62 (w : Wld) (a : Act) (hi : a.ids.length ≤ cap) (hw : worldMay w = true) (h : mayA w a = true) (hk : a.kind = 0) (u v : Wld) (qs : List Msg) (hd : Den PP 59 [.ptr 0 0 0, .ptr 4 0 0] (actB w a) (.tup []) (doS u v qs a)) :
 Den PP 20 [wldD w, actD a] [] (.tup [.agg [nodesD v.nodes, cutsD v.cuts, msgsD v.packets], .int .i64 0]) [] := by
 have t := zau hw
 have c1 := zba w t.small
 have c2 := za9 w t
 have c3 := zce w a (by have := t.nodes; unfold cap; omega) (fun id => za0 (zar hw).1 id) hi
 rw [hw] at c1
 rw [h] at c3
 clear hw h t hi
 suffices hh : Den PP 20 [wldD w, actD a] [] (.tup [.agg [nodesD v.nodes, cutsD v.cuts, msgsD v.packets], .int .i64 0]) [] by
  have := zbe hh
  simpa [D.freeze, D.mapR, mapRL, frzRef, nodesD, cutsD, msgsD] using this
 simp only [actB, doA, doC, doS, wldD, actD, Act.cells, Wld.cells, nodesD, cutsD, msgsD, wldR, wldB, intsD, hk] at c1 c2 c3 hd ⊢
 refine zaj [13] [46] zbs ?_
 simp -implicitDefEqProofs [zb6]
 refine zaa c1 ?_
 simp -implicitDefEqProofs
 refine zaa c2 ?_
 simp -implicitDefEqProofs
 refine zaa c3 ?_
 simp -implicitDefEqProofs
 refine zae [6, 3, 4, 5, 1] rfl (by decide) (by simp) hd (by simp) (by simp [lentBs]) ?_
 simp -implicitDefEqProofs [framed]
theorem z6u (w : Wld) (a : Act) (hi : a.ids.length ≤ cap) (hw : worldMay w = true) (h : mayA w a = true) (hk : a.kind = 1) (u v : Wld) (qs : List Msg) (hd : Den PP 60 [.ptr 0 0 0, .ptr 4 0 0] (actB w a) (.tup []) (doS u v qs a)) :
 Den PP 20 [wldD w, actD a] [] (.tup [.agg [nodesD v.nodes, cutsD v.cuts, msgsD v.packets], .int .i64 0]) [] := by
 have t := zau hw
 have c1 := zba w t.small
 have c2 := za9 w t
 have c3 := zce w a (by have := t.nodes; unfold cap; omega) (fun id => za0 (zar hw).1 id) hi
 rw [hw] at c1
 rw [h] at c3
 clear hw h t hi
 suffices hh : Den PP 20 [wldD w, actD a] [] (.tup [.agg [nodesD v.nodes, cutsD v.cuts, msgsD v.packets], .int .i64 0]) [] by
  have := zbe hh
  simpa [D.freeze, D.mapR, mapRL, frzRef, nodesD, cutsD, msgsD] using this
 simp only [actB, doA, doC, doS, wldD, actD, Act.cells, Wld.cells, nodesD, cutsD, msgsD, wldR, wldB, intsD, hk] at c1 c2 c3 hd ⊢
 refine zaj [13] [46] zbs ?_
 simp -implicitDefEqProofs [zb6]
 refine zaa c1 ?_
 simp -implicitDefEqProofs
 refine zaa c2 ?_
 simp -implicitDefEqProofs
 refine zaa c3 ?_
 simp -implicitDefEqProofs
 refine zae [6, 3, 4, 5, 1] rfl (by decide) (by simp) hd (by simp) (by simp [lentBs]) ?_
 simp -implicitDefEqProofs [framed]
theorem z5c (w : Wld) (a : Act) (hi : a.ids.length ≤ cap) (hw : worldMay w = true) (h : mayA w a = true) (hk : a.kind = 3) (u v : Wld) (qs : List Msg) (hd : Den PP 62 [.ptr 0 0 0, .ptr 4 0 0] (actB w a) (.tup []) (doS u v qs a)) :
 Den PP 20 [wldD w, actD a] [] (.tup [.agg [nodesD v.nodes, cutsD v.cuts, msgsD v.packets], .int .i64 0]) [] := by
 have t := zau hw
 have c1 := zba w t.small
 have c2 := za9 w t
 have c3 := zce w a (by have := t.nodes; unfold cap; omega) (fun id => za0 (zar hw).1 id) hi
 rw [hw] at c1
 rw [h] at c3
 clear hw h t hi
 suffices hh : Den PP 20 [wldD w, actD a] [] (.tup [.agg [nodesD v.nodes, cutsD v.cuts, msgsD v.packets], .int .i64 0]) [] by
  have := zbe hh
  simpa [D.freeze, D.mapR, mapRL, frzRef, nodesD, cutsD, msgsD] using this
 simp only [actB, doA, doC, doS, wldD, actD, Act.cells, Wld.cells, nodesD, cutsD, msgsD, wldR, wldB, intsD, hk] at c1 c2 c3 hd ⊢
 refine zaj [13] [46] zbs ?_
 simp -implicitDefEqProofs [zb6]
 refine zaa c1 ?_
 simp -implicitDefEqProofs
 refine zaa c2 ?_
 simp -implicitDefEqProofs
 refine zaa c3 ?_
 simp -implicitDefEqProofs
 refine zae [6, 3, 4, 5, 1] rfl (by decide) (by simp) hd (by simp) (by simp [lentBs]) ?_
 simp -implicitDefEqProofs [framed]
theorem zs1 (w : Wld) (a : Act) (hi : a.ids.length ≤ cap) (hw : worldMay w = true) (h : mayA w a = true) (hk : a.kind = 10) (u v : Wld) (qs : List Msg) (hd : Den PP 69 [.ptr 0 0 0, .ptr 4 0 0] (actB w a) (.tup []) (doS u v qs a)) :
 Den PP 20 [wldD w, actD a] [] (.tup [.agg [nodesD v.nodes, cutsD v.cuts, msgsD v.packets], .int .i64 0]) [] := by
 have t := zau hw
 have c1 := zba w t.small
 have c2 := za9 w t
 have c3 := zce w a (by have := t.nodes; unfold cap; omega) (fun id => za0 (zar hw).1 id) hi
 rw [hw] at c1
 rw [h] at c3
 clear hw h t hi
 suffices hh : Den PP 20 [wldD w, actD a] [] (.tup [.agg [nodesD v.nodes, cutsD v.cuts, msgsD v.packets], .int .i64 0]) [] by
  have := zbe hh
  simpa [D.freeze, D.mapR, mapRL, frzRef, nodesD, cutsD, msgsD] using this
 simp only [actB, doA, doC, doS, wldD, actD, Act.cells, Wld.cells, nodesD, cutsD, msgsD, wldR, wldB, intsD, hk] at c1 c2 c3 hd ⊢
 refine zaj [13] [46] zbs ?_
 simp -implicitDefEqProofs [zb6]
 refine zaa c1 ?_
 simp -implicitDefEqProofs
 refine zaa c2 ?_
 simp -implicitDefEqProofs
 refine zaa c3 ?_
 simp -implicitDefEqProofs
 refine zae [6, 3, 4, 5, 1] rfl (by decide) (by simp) hd (by simp) (by simp [lentBs]) ?_
 simp -implicitDefEqProofs [framed]
end Go.AM
/- AM: chapter 17's statements: WriteNewer, WriteOther. -/
namespace Go.AM
set_option linter.unusedSimpArgs false
set_option linter.unusedVariables false
set_option maxRecDepth 8000
set_option maxHeartbeats 0
theorem qbr {x : Node} {i : Item} (h : wrAll x i = true) : storeMay x.items = true ∧ itemMay (wrI x i) = true ∧ (wrN x i).items = putS (wrI x i) x.items ∧ storeMay (putS (wrI x i) x.items) = true := by
 obtain ⟨h1, h2⟩ := zfk h
 have hp : (putR x.items (wrI x i)).2 = 0 := by simp only [wrOk, Bool.and_eq_true, decide_eq_true_eq] at h2; exact h2.2
 obtain ⟨e1, e2, e3, e4⟩ := zt7 hp
 exact ⟨e1, e2, by unfold wrN; rw [e3], e4⟩
end Go.AM
/- Plain law: cuts among eight places, in any row. -/
namespace Go.AM
set_option linter.unusedSimpArgs false
set_option linter.unusedVariables false

theorem z2k {cs : List Cut} {a b : Int} (h : askMay cs a b = true) : withC cs a b = ([], 1501) ∨ ∃ P, withC cs a b = (P, 0) ∧ cutsMay P = true ∧ ∀ y, y ∈ P ↔ y = cutAB a b ∨ y ∈ cs := by
 obtain ⟨h1, h2, h3, h4⟩ := zgq.1 h
 have hc := zpd h2 h3 h4
 unfold withC
 rw [if_pos h]
 by_cases hin : cutAB a b ∈ cs
 ·rw [if_pos hin]
  refine .inr ⟨cs, rfl, h1, fun y => ⟨.inr, ?_⟩⟩
  rintro (rfl | h)
  ·exact hin
  ·exact h
 ·rw [if_neg hin]
  by_cases h5 : cs.length = 32
  ·rw [if_pos h5]; exact .inl rfl
  ·rw [if_neg h5]
   exact .inr ⟨_, rfl, zxy h1 hc hin h5, fun y => zto⟩
end Go.AM
/- AM: plain: what keeps a world such as may be. -/
namespace Go.AM
set_option linter.unusedSimpArgs false
set_option linter.unusedVariables false
def idsN (xs : List Node) : List Int := xs.map fun x => x.view.id
theorem zk6 {xs : List Node} {i : Int} : i ∈ idsN xs ↔ ∃ x ∈ xs, x.view.id = i := List.mem_map
theorem zke {xs : List Node} {id : Int} (h : isN id xs = true) : ∃ x, xs[posN id xs]? = some x ∧ x.view.id = id := by
 obtain ⟨_, x, hx, hc⟩ := zmf h
 exact ⟨x, hx, (zms _ _).1 hc⟩
theorem qcj {xs : List Node} (h : xs.Pairwise (fun x y => x.view.id < y.view.id)) {id : Int} (hi : id ∈ idsN xs) : isN id xs = true := by
 obtain ⟨x, hx, rfl⟩ := zk6.1 hi
 obtain ⟨j, hj, hxj⟩ := List.getElem_of_mem hx
 have hxj' : xs[j]? = some x := by rw [List.getElem?_eq_getElem hj, hxj]
 have hcx : cmpN x.view.id x = 0 := (zms _ _).2 rfl
 have hle : posC (cmpN x.view.id) xs ≤ j := by
  apply Classical.byContradiction
  intro hn
  have := zt9 (cmpN x.view.id) xs j x (by omega) hxj'
  omega
 have hlt : posC (cmpN x.view.id) xs < xs.length := by omega
 obtain ⟨y, hy⟩ : ∃ y, xs[posC (cmpN x.view.id) xs]? = some y := ⟨_, List.getElem?_eq_getElem hlt⟩
 have hy0 := z5k (cmpN x.view.id) xs y hy
 have : y = x := by
  rcases Nat.lt_or_ge (posC (cmpN x.view.id) xs) j with h1 | h1
  ·obtain ⟨hl, rfl⟩ := List.getElem?_eq_some_iff.1 hy
   have := List.pairwise_iff_getElem.1 h _ _ hl hj h1
   rw [hxj] at this
   have h2 : cmpN x.view.id (xs[posC (cmpN x.view.id) xs]) < 0 := (zo7 _ _).2 this
   omega
  ·have : posC (cmpN x.view.id) xs = j := by omega
   rw [this, hxj'] at hy
   exact (Option.some.inj hy).symm
 subst this
 show (xs[posC (cmpN y.view.id) xs]?).any _ = true
 rw [hy]
 simp [hcx]
theorem zhp {xs : List Node} (h : nodesMay xs = true) {id : Int} : isN id xs = true ↔ id ∈ idsN xs := by
 constructor
 ·intro hi
  obtain ⟨x, hx, he⟩ := zke hi
  exact zk6.2 ⟨x, List.mem_of_getElem? hx, he⟩
 ·exact qcj (zdu h).2.1
theorem z2n : ∀ (xs : List Node) (q : Option Int), (∀ x ∈ xs, nodeMay x = true ∧ ∀ y, q = some y → y < x.view.id) → xs.Pairwise (fun x y => x.view.id < y.view.id) → nodesOk q xs = true := by
 intro xs
 induction xs with
 | nil => intro q _ _; rfl
 | cons x xs ih =>
   intro q h hp
   rw [List.pairwise_cons] at hp
   simp only [nodesOk, Bool.and_eq_true]
   refine ⟨(h x (by simp)).1, ?_, ih _ (fun y hy => ⟨(h y (by simp [hy])).1, fun z hz => ?_⟩) hp.2⟩
   ·cases q with
    | none => rfl
    | some y => simpa using (h x (by simp)).2 y rfl
   ·cases hz
    exact hp.1 y hy
theorem zzt {xs : List Node} (h1 : ∀ x ∈ xs, nodeMay x = true) (h2 : xs.Pairwise (fun x y => x.view.id < y.view.id)) (h3 : 1 ≤ xs.length) (h4 : xs.length ≤ 8) : nodesMay xs = true := by
 simp only [nodesMay, Bool.and_eq_true, decide_eq_true_eq]
 exact ⟨z2n xs none (fun x hx => ⟨h1 x hx, fun y hy => by cases hy⟩) h2, h3, h4⟩
theorem zmg {xs : List Node} {P : Nat} {x y : Node} (hx : xs[P]? = some x) (hid : y.view.id = x.view.id) : idsN (xs.set P y) = idsN xs := by
 unfold idsN
 rw [List.map_set, hid]
 apply List.ext_getElem?
 intro j
 rw [List.getElem?_set]
 split
 ·rename_i hij
  subst hij
  have hlt := (List.getElem?_eq_some_iff.1 hx).1
  have he : xs[P] = x := by rw [List.getElem?_eq_getElem hlt] at hx; exact Option.some.inj hx
  simp [hlt, he]
 ·rfl
theorem znq {α : Type} {xs : List α} {P : Nat} {y z : α} (h : z ∈ xs.set P y) : z = y ∨ z ∈ xs := by
 rcases List.mem_or_eq_of_mem_set h with h | h
 ·exact .inr h
 ·exact .inl h
theorem zxa {xs : List Node} {P : Nat} {x y : Node} (h : nodesMay xs = true) (hx : xs[P]? = some x) (hy : nodeMay y = true) (hid : y.view.id = x.view.id) : nodesMay (xs.set P y) = true := by
 obtain ⟨h1, h2, h3, h4⟩ := zdu h
 refine zzt (fun z hz => ?_) ?_ (by simpa using h3) (by simpa using h4)
 ·rcases znq hz with rfl | hz
  ·exact hy
  ·exact h1 z hz
 ·have e := zmg hx hid
  unfold idsN at e
  rw [← List.pairwise_map (f := fun x : Node => x.view.id) (R := fun a b => a < b)] at h2 ⊢
  rw [e]
  exact h2
theorem qbz {ns : List Node} {cs : List Cut} {ps : List Msg} (hn : nodesMay ns = true) (hc : cutsMay cs = true) (hl : ps.length ≤ 512) (h1 : ∀ x ∈ ns, ∀ i ∈ namedN x, i ∈ idsN ns) (h2 : ∀ c ∈ cs, ∀ i ∈ namedC c, i ∈ idsN ns) (h3 : ∀ m ∈ ps, msgMay m = true ∧ ∀ i ∈ namedM m, i ∈ idsN ns) : worldMay ⟨ns, cs, ps⟩ = true := by
 have hq : queueMay ps = true := by
  simp only [queueMay, Bool.and_eq_true, decide_eq_true_eq, Bool.not_eq_true']
  refine ⟨hl, List.any_eq_false.2 fun m hm => ?_⟩
  simp [oddM, (h3 m hm).1]
 simp only [worldMay, Bool.and_eq_true, Bool.not_eq_true']
 refine ⟨hn, hc, hq, List.any_eq_false.2 fun i hi => ?_⟩
 have : i ∈ idsN ns := by
  simp only [namedW, List.mem_append, List.mem_flatMap] at hi
  rcases hi with (⟨x, hx, hi⟩ | ⟨c, hc, hi⟩) | ⟨m, hm, hi⟩
  ·exact h1 x hx i hi
  ·exact h2 c hc i hi
  ·exact (h3 m hm).2 i hi
 simp [(zhp hn).2 this]
structure May (w : Wld) : Prop where
 nodes : nodesMay w.nodes = true
 cuts : cutsMay w.cuts = true
 len : w.packets.length ≤ 512
 inN : ∀ x ∈ w.nodes, ∀ i ∈ namedN x, i ∈ idsN w.nodes
 inC : ∀ c ∈ w.cuts, ∀ i ∈ namedC c, i ∈ idsN w.nodes
 inM : ∀ m ∈ w.packets, msgMay m = true ∧ ∀ i ∈ namedM m, i ∈ idsN w.nodes
theorem zcd {w : Wld} : worldMay w = true ↔ May w := by
 constructor
 ·intro h
  obtain ⟨h1, h2, h3, h4⟩ := zar h
  obtain ⟨q1, q2⟩ := zlf h3
  have key : ∀ i ∈ namedW w, i ∈ idsN w.nodes := fun i hi => (zhp h1).1 (h4 i hi)
  refine ⟨h1, h2, q1, fun x hx i hi => key i ?_, fun c hc i hi => key i ?_, fun m hm => ⟨q2 m hm, fun i hi => key i ?_⟩⟩
  ·simp only [namedW, List.mem_append, List.mem_flatMap]; exact .inl (.inl ⟨x, hx, hi⟩)
  ·simp only [namedW, List.mem_append, List.mem_flatMap]; exact .inl (.inr ⟨c, hc, hi⟩)
  ·simp only [namedW, List.mem_append, List.mem_flatMap]; exact .inr ⟨m, hm, hi⟩
 ·intro h
  exact qbz h.nodes h.cuts h.len h.inN h.inC h.inM
theorem May.node {w : Wld} (h : May w) {x : Node} (hx : x ∈ w.nodes) : nodeMay x = true := (zdu h.nodes).1 x hx
theorem May.place {w : Wld} (h : May w) {i : Int} (hi : i ∈ idsN w.nodes) : AM.place i = true := by
 obtain ⟨x, hx, rfl⟩ := zk6.1 hi
 exact zea (zdn (h.node hx)).2.1
theorem May.set {w : Wld} (h : May w) {P : Nat} {x y : Node} (hx : w.nodes[P]? = some x) (hy : nodeMay y = true) (hid : y.view.id = x.view.id) (hn : ∀ i ∈ namedN y, i ∈ idsN w.nodes) {ps : List Msg} (hl : ps.length ≤ 512) (hm : ∀ m ∈ ps, msgMay m = true ∧ ∀ i ∈ namedM m, i ∈ idsN w.nodes) : May ⟨w.nodes.set P y, w.cuts, ps⟩ := by
 have e := zmg hx hid
 refine ⟨zxa h.nodes hx hy hid, h.cuts, hl, ?_, ?_, ?_⟩
 ·intro z hz i hi
  show i ∈ idsN (w.nodes.set P y)
  rw [e]
  rcases znq hz with rfl | hz
  ·exact hn i hi
  ·exact h.inN z hz i hi
 ·intro c hc i hi
  show i ∈ idsN (w.nodes.set P y)
  rw [e]
  exact h.inC c hc i hi
 ·intro m hmm
  refine ⟨(hm m hmm).1, fun i hi => ?_⟩
  show i ∈ idsN (w.nodes.set P y)
  rw [e]
  exact (hm m hmm).2 i hi
theorem May.packs {w : Wld} (h : May w) {ps : List Msg} (hl : ps.length ≤ 512) (hm : ∀ m ∈ ps, msgMay m = true ∧ ∀ i ∈ namedM m, i ∈ idsN w.nodes) : May ⟨w.nodes, w.cuts, ps⟩ := ⟨h.nodes, h.cuts, hl, h.inN, h.inC, hm⟩
theorem May.send {w : Wld} (h : May w) {ms : List Msg} (hm : ∀ m ∈ ms, msgMay m = true ∧ ∀ i ∈ namedM m, i ∈ idsN w.nodes) : May (sendW w ms) := by
 refine ⟨h.nodes, h.cuts, ?_, h.inN, h.inC, fun m hmm => ?_⟩
 ·have := h.len
  simp [sendW]; omega
 ·rcases List.mem_append.1 hmm with h1 | h1
  ·exact h.inM m h1
  ·exact hm m (List.mem_of_mem_take h1)
end Go.AM
/- AM: plain: whom a view names. -/
namespace Go.AM
set_option linter.unusedSimpArgs false
set_option linter.unusedVariables false
def namesV (v : View) : List Int := v.peers.map Peer.id ++ v.passive
theorem zdd {v : View} {y : Int} : y ∈ namesV v ↔ (∃ q ∈ v.peers, q.id = y) ∨ y ∈ v.passive := by
 simp [namesV]
theorem zof (v : View) (x : Int) : (∀ y, y ∈ namesV (knownV v x) → y = x ∨ y ∈ namesV v) ∧ ∀ y, y ∈ namesV v → y ∈ namesV (knownV v x) := by
 cases hr : roomV v x with
 | false => rw [zjq hr]; exact ⟨fun y h => .inr h, fun y h => h⟩
 | true =>
   constructor
   ·intro y hy
    rcases zdd.1 hy with ⟨q, hq, rfl⟩ | hy
    ·rcases (zhi hr q).1 hq with rfl | ⟨hq, _⟩
     ·exact .inl rfl
     ·exact .inr (zdd.2 (.inl ⟨q, hq, rfl⟩))
    ·exact .inr (zdd.2 (.inr ((zhr hr y).1 hy).1))
   ·intro y hy
    by_cases hyx : y = x
    ·subst hyx
     exact zdd.2 (.inl ⟨⟨y, 0⟩, (zhi hr _).2 (.inl rfl), rfl⟩)
    ·rcases zdd.1 hy with ⟨q, hq, rfl⟩ | hy
     ·exact zdd.2 (.inl ⟨q, (zhi hr q).2 (.inr ⟨hq, hyx⟩), rfl⟩)
     ·exact zdd.2 (.inr ((zhr hr y).2 ⟨hy, hyx⟩))
theorem zz0 (v : View) (x : Int) : (∀ y, y ∈ namesV (tellV v x) → y = x ∨ y ∈ namesV v) ∧ ∀ y, y ∈ namesV v → y ∈ namesV (tellV v x) := by
 unfold tellV
 split
 ·exact zof v x
 ·exact ⟨fun y h => .inr h, fun y h => h⟩
theorem zyw : ∀ (ids : List Int) (v : View), (∀ y, y ∈ namesV (ids.foldl tellV v) → y ∈ ids ∨ y ∈ namesV v) ∧ ∀ y, y ∈ namesV v → y ∈ namesV (ids.foldl tellV v) := by
 intro ids
 induction ids with
 | nil => intro v; exact ⟨fun y h => .inr h, fun y h => h⟩
 | cons x ids ih =>
   intro v
   obtain ⟨a, b⟩ := ih (tellV v x)
   obtain ⟨c, d⟩ := zz0 v x
   refine ⟨fun y hy => ?_, fun y hy => b y (d y hy)⟩
   rcases a y hy with h | h
   ·exact .inl (by simp [h])
   ·rcases c y h with rfl | h
    ·exact .inl (by simp)
    ·exact .inr h
theorem zw8 (v : View) (x : Int) (ids : List Int) : (∀ y, y ∈ namesV (helloV v x ids) → y = x ∨ y ∈ ids ∨ y ∈ namesV v) ∧ ∀ y, y ∈ namesV v → y ∈ namesV (helloV v x ids) := by
 obtain ⟨a, b⟩ := zyw ids (knownV v x)
 obtain ⟨c, d⟩ := zof v x
 refine ⟨fun y hy => ?_, fun y hy => b y (d y hy)⟩
 rcases a y hy with h | h
 ·exact .inr (.inl h)
 ·rcases c y h with h | h
  ·exact .inl h
  ·exact .inr (.inr h)
theorem zhx {v : View} (h : viewMay v = true) (y : Int) : y ∈ namesV (ageV v) ↔ y ∈ namesV v := by
 obtain ⟨_, _, h3⟩ := zjp h
 rw [zdd, zdd, h3]
 constructor
 ·rintro (⟨q, hq, rfl⟩ | hy | hy)
  ·obtain ⟨p, hp, _, rfl⟩ := ztn hq
   exact .inl ⟨p, hp, rfl⟩
  ·exact .inr hy
  ·obtain ⟨p, hp, _, rfl⟩ := zqn hy
   exact .inl ⟨p, hp, rfl⟩
 ·rintro (⟨p, hp, rfl⟩ | hy)
  ·by_cases hm : p.missed + 1 = 3
   ·exact .inr (.inr (List.mem_map.2 ⟨p, List.mem_filter.2 ⟨hp, by simpa using hm⟩, rfl⟩))
   ·exact .inl ⟨⟨p.id, p.missed + 1⟩, List.mem_map.2 ⟨p, List.mem_filter.2 ⟨hp, by simpa using hm⟩, rfl⟩, rfl⟩
  ·exact .inr (.inl hy)
end Go.AM
/- AM: what an act makes of a world: it stays one that may be; nodes forget nothing. -/
namespace Go.AM
set_option linter.unusedSimpArgs false
set_option linter.unusedVariables false
set_option maxRecDepth 8000
set_option maxHeartbeats 0
def Better (is js : List Item) : Prop := ∀ i ∈ is, ∃ j, getS js i.key = some j ∧ bestI i j = j
structure NRel (x y : Node) : Prop where
 id : y.view.id = x.view.id
 items : x.up = true → y.up = true → Better x.items y.items
 names : x.up = true → y.up = true → ∀ n ∈ namesV x.view, n ∈ namesV y.view
theorem ziv {is : List Item} (h : storeMay is = true) : Better is is := fun i hi => ⟨i, z1f ((zc3 is).1 h).2.1 hi, zny i⟩
theorem zsj {is : List Item} {n : Item} (h : storeMay is = true) : Better is (putS n is) := by
 intro i hi
 have hr := ((zc3 is).1 h).2.1
 have hg := z1f hr hi
 rw [z7c n is hr]
 by_cases hk : i.key = n.key
 ·rw [if_pos hk, hg]
  refine ⟨bestI i n, rfl, ?_⟩
  rw [← zzu rfl hk, zny]
 ·rw [if_neg hk, hg]
  exact ⟨i, rfl, zny i⟩
theorem zj8 {x : Node} (h : nodeMay x = true) : NRel x x := ⟨rfl, fun _ _ => ziv (zdn h).2.2.1, fun _ _ n hn => hn⟩
def LoneN (x : Node) : Prop := x.view.peers = [] ∧ x.view.passive = []
def Lonely (w : Wld) : Prop := w.packets = [] ∧ w.cuts = [] ∧ ∀ x ∈ w.nodes, LoneN x
structure Step (w : Wld) (a : Act) (v : Wld) : Prop where
 len : v.nodes.length = w.nodes.length
 rel : ∀ (k : Nat) (x y : Node), w.nodes[k]? = some x → v.nodes[k]? = some y → NRel x y
 lone : a.kind ≠ 4 → a.kind ≠ 5 → a.kind ≠ 7 → Lonely w → Lonely v ∧ ∀ k, k ≠ posN a.node w.nodes → v.nodes[k]? = w.nodes[k]?
theorem zia {w v : Wld} {a : Act} (h : May w) (hn : v.nodes = w.nodes) (hl : a.kind ≠ 4 → a.kind ≠ 5 → a.kind ≠ 7 → Lonely w → v.packets = [] ∧ v.cuts = []) : Step w a v := by
 refine ⟨by rw [hn], fun k x y hx hy => ?_, fun h1 h2 h3 hL => ⟨⟨(hl h1 h2 h3 hL).1, (hl h1 h2 h3 hL).2, by rw [hn]; exact hL.2.2⟩, fun k _ => by rw [hn]⟩⟩
 rw [hn, hx] at hy
 cases hy
 exact zj8 (h.node (List.mem_of_getElem? hx))
theorem zhb {w v : Wld} {a : Act} {P : Nat} {x y : Node} (h : May w) (hx : w.nodes[P]? = some x) (hv : v.nodes = w.nodes.set P y) (hr : NRel x y)
 (hl : a.kind ≠ 4 → a.kind ≠ 5 → a.kind ≠ 7 → Lonely w → P = posN a.node w.nodes ∧ LoneN y ∧ v.packets = [] ∧ v.cuts = []) : Step w a v := by
 have hlt := (List.getElem?_eq_some_iff.1 hx).1
 refine ⟨by rw [hv]; simp, fun k u z hu hz => ?_, fun h1 h2 h3 hL => ?_⟩
 ·rw [hv, List.getElem?_set] at hz
  by_cases hk : P = k
  ·subst hk
   rw [if_pos rfl, if_pos hlt] at hz
   cases hz
   rw [hx] at hu
   cases hu
   exact hr
  ·rw [if_neg hk, hu] at hz
   cases hz
   exact zj8 (h.node (List.mem_of_getElem? hu))
 ·obtain ⟨e1, e2, e3, e4⟩ := hl h1 h2 h3 hL
  refine ⟨⟨e3, e4, fun z hz => ?_⟩, fun k hk => ?_⟩
  ·rw [hv] at hz
   rcases znq hz with rfl | hz
   ·exact e2
   ·exact hL.2.2 z hz
  ·rw [hv, List.getElem?_set, if_neg (by rw [e1]; exact fun e => hk e.symm)]
theorem zgs {x : Node} (h : nodeUp x = true) : nodeMay x = true := by
 simp only [nodeUp, Bool.and_eq_true] at h
 exact h.2
theorem z6i {is : List Item} (h : storeMay is = true) (k : Int) : (getR is k = (zeroItem, false)) ∨ ∃ i ∈ is, i.key = k ∧ itemMay i = true ∧ getR is k = (i, true) := by
 rw [zvg h]
 cases hg : getS is k with
 | none => exact .inl rfl
 | some i =>
   obtain ⟨h1, h2⟩ := z1e hg
   exact .inr ⟨i, h2, h1, ((zc3 is).1 h).1 i h2, rfl⟩
theorem zwg {key : Int} {i : Item} {has : Bool} (hk : byte key = true) (h : has = true → itemMay i = true) : toldOdd (toldOf key i has) = false := by
 unfold toldOdd toldOf
 cases hh : (has && !i.gone) with
 | false => simp [hk]; rfl
 | true =>
   simp only [Bool.and_eq_true] at hh
   have := h hh.1
   simp only [itemMay, Bool.and_eq_true] at this
   simp [hk, this.1.1.2]
theorem z8d {x : Node} {t : Told} (h : x.log.length ≤ 64) (h1 : x.log.any toldOdd = false) (h2 : toldOdd t = false) : (logOf x t).length ≤ 64 ∧ (logOf x t).any toldOdd = false := by
 obtain ⟨l1, l2, _⟩ := z69 x t
 refine ⟨by omega, List.any_eq_false.2 fun u hu => ?_⟩
 have hu : u ∈ x.log ++ [t] := List.mem_of_mem_drop hu
 rcases List.mem_append.1 hu with hu | hu
 ·exact List.any_eq_false.1 h1 u hu
 ·rw [List.mem_singleton.1 hu]; simp [h2]
theorem zy2 {w : Wld} {a : Act} (he : w.packets ≠ []) (h0 : 0 ≤ a.pick) : pickP w a < w.packets.length := by
 have hl : 0 < w.packets.length := List.length_pos_iff.2 he
 have h1 : a.pick % (w.packets.length : Int) < w.packets.length := Int.emod_lt_of_pos _ (by omega)
 have h2 : 0 ≤ a.pick % (w.packets.length : Int) := Int.emod_nonneg _ (by omega)
 unfold pickP
 omega
theorem z0l {w : Wld} {p : Nat} {u : Msg} (h : u ∈ leftP w p) : u ∈ w.packets := by
 rcases List.mem_append.1 h with h | h
 ·exact List.mem_of_mem_take h
 ·exact List.mem_of_mem_drop h
theorem z41 {v : View} (h : viewMay v = true) {to : Int} (ht : to ∈ greetV v) : msgMay (greetM v to) = true ∧ ∀ i ∈ namedM (greetM v to), i = v.id ∨ i ∈ namesV v := by
 obtain ⟨h1, h2, h3, h4⟩ := zaz h
 have hpl := zcx h1
 have hto : place to = true ∧ to ≠ v.id := by
  rcases List.mem_append.1 ht with h5 | h5
  ·obtain ⟨q, hq, rfl⟩ := List.mem_map.1 h5
   exact ⟨(hpl q hq).1, z4o h hq⟩
  ·exact ⟨zdb h2 to h5, (h4 to h5).1⟩
 constructor
 ·have hall : (v.peers.map Peer.id).all place = true := by
   rw [List.all_eq_true]
   intro y hy
   obtain ⟨q, hq, rfl⟩ := List.mem_map.1 hy
   exact (hpl q hq).1
  have hl := zvq h1
  simp [msgMay, greetM, zea h, hto.1, Ne.symm hto.2, hl]
  intro q hq
  exact (hpl q hq).1
 ·intro i hi
  simp only [namedM, greetM, List.mem_cons] at hi
  rcases hi with rfl | rfl | hi
  ·exact .inl rfl
  ·exact .inr ht
  ·exact .inr (List.mem_append.2 (.inl hi))
theorem z0x {x : Node} (h : nodeUp x = true) {m : Msg} (hm : m ∈ (shareOf x).1) : msgMay m = true ∧ ∀ i ∈ namedM m, i = x.view.id ∨ i ∈ namesV x.view := by
 obtain ⟨p1, p2, p3, p4, p5⟩ := zcc h
 unfold shareOf at hm
 rw [if_pos h] at hm
 obtain ⟨i, hi, hs⟩ := List.mem_filterMap.1 hm
 have hmay := ((zc3 _).1 p3).1 i hi
 have hkey : place i.key = true := by
  simp only [itemMay, Bool.and_eq_true] at hmay
  exact hmay.1.1.1
 have hown := zn4 p2 hkey
 unfold shareOne at hs
 have hto : ∀ t, t = (if (ownerV x.view i.key).1 = x.view.id then (succV x.view).1 else (ownerV x.view i.key).1) → t ≠ x.view.id → ∃ q ∈ x.view.peers, q.id = t := by
  rintro t rfl hne
  rw [hown]
  simp only
  rw [hown] at hne
  simp only at hne
  split
  ·rename_i h1
   rw [if_pos h1] at hne
   unfold succV at hne ⊢
   rw [if_pos p2] at hne ⊢
   cases hps : x.view.peers with
   | nil => rw [hps] at hne; exact absurd rfl hne
   | cons p ps => exact ⟨p, by simp, rfl⟩
  ·rename_i h1
   rcases zyj x.view i.key with h2 | h2
   ·exact absurd h2 h1
   ·exact h2
 generalize (if (ownerV x.view i.key).1 = x.view.id then (succV x.view).1 else (ownerV x.view i.key).1) = t at *
 by_cases hc : t = x.view.id
 ·rw [if_pos hc] at hs; cases hs
 ·rw [if_neg hc] at hs
  cases hs
  obtain ⟨q, hq, hqt⟩ := hto t rfl hc
  have hqp := (zcx (zaz p2).1 q hq).1
  rw [hqt] at hqp
  constructor
  ·simp [msgMay, zea p2, hqp, Ne.symm hc, hmay]
  ·intro j hj
   simp only [namedM, List.mem_cons, List.not_mem_nil, or_false] at hj
   rcases hj with rfl | rfl
   ·exact .inl rfl
   ·exact .inr (zdd.2 (.inl ⟨q, hq, hqt⟩))
theorem z8f {x : Node} (h : nodeUp x = true) : nodeUp (tickN x) = true ∧ (tickM x).length ≤ 512 ∧ ∀ m ∈ tickM x, msgMay m = true ∧ ∀ i ∈ namedM m, i = x.view.id ∨ i ∈ namesV x.view := by
 obtain ⟨p1, p2, p3, p4, p5⟩ := zcc h
 obtain ⟨v1, v2, v3⟩ := zjp p2
 obtain ⟨l1, l2, l3, l4⟩ := zko h
 have hu : nodeUp (tickN x) = true := zh2 p1 v1 p3 p4 p5
 refine ⟨hu, ?_, fun m hm => ?_⟩
 ·have h1 : (shareOf (tickN x)).1.length ≤ x.items.length := by
   unfold shareOf
   rw [hu]
   exact List.length_filterMap_le ..
  have h2 := (zaz v1).2.2.1
  simp [tickM, greetV]
  omega
 ·rcases List.mem_append.1 hm with hm | hm
  ·obtain ⟨to, ht, rfl⟩ := List.mem_map.1 hm
   obtain ⟨a, b⟩ := z41 v1 ht
   refine ⟨a, fun i hi => ?_⟩
   rcases b i hi with rfl | hi
   ·exact .inl rfl
   ·exact .inr ((zhx p2 i).1 hi)
  ·obtain ⟨a, b⟩ := z0x hu hm
   refine ⟨a, fun i hi => ?_⟩
   rcases b i hi with rfl | hi
   ·exact .inl rfl
   ·exact .inr ((zhx p2 i).1 hi)
end Go.AM
/- AM: every act: the world that it makes may be, and its nodes forget nothing. -/
namespace Go.AM
set_option linter.unusedSimpArgs false
set_option linter.unusedVariables false
set_option maxRecDepth 8000
set_option maxHeartbeats 0
def Acted (w : Wld) (a : Act) : Prop := ∃ v, Den PP 20 [wldD w, actD a] [] (.tup [wldD v, .int .i64 0]) [] ∧ May v ∧ Step w a v
theorem zim {w : Wld} {a : Act} (h : May w) (hd : Den PP 20 [wldD w, actD a] [] (.tup [wldD w, .int .i64 0]) []) : Acted w a :=
 ⟨w, hd, h, zia h rfl fun _ _ _ hL => ⟨hL.1, hL.2.1⟩⟩
theorem zf7 {w : Wld} {a : Act} (h : mayA w a = true) (hk : a.kind ≠ 1 ∧ a.kind ≠ 2 ∧ a.kind ≠ 3) : isN a.node w.nodes = true := by
 unfold mayA at h
 rw [if_neg (by omega)] at h
 split at h
 ·cases h
 ·rename_i hn
  cases hi : isN a.node w.nodes with
  | true => rfl
  | false => exact absurd (.inr (.inr hi)) hn
theorem zpk {w : Wld} {a : Act} (h : mayA w a = true) (hk : a.kind = 1 ∨ a.kind = 2 ∨ a.kind = 3) : 0 ≤ a.pick ∧ a.pick ≤ 65535 := by
 unfold mayA at h
 rw [if_pos hk] at h
 simpa using h
theorem qap {w : Wld} {a : Act} (hi : a.ids.length ≤ cap) (hw : worldMay w = true) (h : mayA w a = true) (hk : a.kind = 0) : Acted w a := by
 have hM := zcd.1 hw
 have hn := zf7 h (by omega)
 obtain ⟨x, hx, hid⟩ := zke hn
 have hr := za0 hM.nodes a.node
 have hxm := List.mem_of_getElem? hx
 cases hu : nodeUp x with
 | false => exact zim hM (z64 w a hi hw h hk (zwq w a x (zau hw) hr hn hx hu))
 | true =>
   obtain ⟨t1, t2, t3⟩ := z8f hu
   have hv := (zcc hu).2.1
   have hin : ∀ i, i = x.view.id ∨ i ∈ namesV x.view → i ∈ idsN w.nodes := by
    rintro i (rfl | hi)
    ·exact zk6.2 ⟨x, hxm, rfl⟩
    ·exact hM.inN x hxm i hi
   have hn1 : ∀ i ∈ namedN (tickN x), i ∈ idsN w.nodes := fun i hi => hin i (.inr ((zhx hv i).1 hi))
   have hms : ∀ m ∈ tickM x, msgMay m = true ∧ ∀ i ∈ namedM m, i ∈ idsN w.nodes := fun m hm => ⟨(t3 m hm).1, fun i hi => hin i ((t3 m hm).2 i hi)⟩
   have m1 := hM.set hx (zgs t1) rfl hn1 hM.len hM.inM
   have m2 := hM.set hx (zgs t1) rfl hn1 t2 hms
   have e := zmg (y := tickN x) hx rfl
   have ms := m1.send (ms := tickM x) fun m hm => ⟨(hms m hm).1, fun i hi => by show i ∈ idsN (w.nodes.set _ _); rw [e]; exact (hms m hm).2 i hi⟩
   refine ⟨_, z62 w a hi hw h hk _ _ _ (z6k w a x (zau hw) hr hn hx hu (zcd.2 m1) (zcd.2 m2)), ms, ?_⟩
   refine zhb hM hx rfl ⟨rfl, fun _ _ => ziv (zdn (hM.node hxm)).2.2.1, fun _ _ n hn => (zhx hv n).2 hn⟩ fun _ _ _ hL => ⟨rfl, ?_, ?_, hL.2.1⟩
   ·obtain ⟨e1, e2⟩ := hL.2.2 x hxm
    exact ⟨by show ageL x.view.peers = []; rw [e1]; rfl, by show agedP (lostL x.view.peers) x.view.passive = []; rw [e1, e2]; rfl⟩
   ·obtain ⟨e1, e2⟩ := hL.2.2 x hxm
    have g0 : greetV (ageV x.view) = [] := by
     show (ageL x.view.peers).map Peer.id ++ agedP (lostL x.view.peers) x.view.passive = []
     rw [e1, e2]; rfl
    have s0 : (shareOf (tickN x)).1 = [] := by
     apply List.eq_nil_iff_forall_not_mem.2
     intro m hm
     obtain ⟨a1, a2⟩ := z0x t1 hm
     have : ∀ i ∈ namedM m, i = x.view.id := fun i hi => by
      rcases a2 i hi with h1 | h1
      ·exact h1
      ·have := (zhx hv i).1 h1
       simp [namesV, e1, e2] at this
     have f1 := this m.from_ (by simp [namedM])
     have f2 := this m.to (by simp [namedM])
     simp only [msgMay, Bool.and_eq_true, Bool.not_eq_true', decide_eq_false_iff_not] at a1
     exact a1.2.2.1 (f1.trans f2.symm)
    have : tickM x = [] := by simp [tickM, g0, s0]
    rw [this]
    simp [sendW, hL.1]
theorem qaq {w : Wld} {a : Act} (hi : a.ids.length ≤ cap) (hw : worldMay w = true) (h : mayA w a = true) (hk : a.kind = 2) : Acted w a := by
 have hM := zcd.1 hw
 obtain ⟨h0, hp⟩ := zpk h (by omega)
 by_cases he : w.packets = []
 ·exact zim hM (z6y w a hi hw h hk (zxo w a he))
 ·have hlt := zy2 he h0
  obtain ⟨m, hm⟩ : ∃ m, w.packets[pickP w a]? = some m := ⟨_, List.getElem?_eq_getElem hlt⟩
  refine ⟨⟨w.nodes, w.cuts, leftP w (pickP w a)⟩, z6j w a hi hw h hk _ (z5i w a m (zau hw) (zar hw).2.2.1 h0 hp hm), hM.packs (by have := hM.len; simp [leftP]; omega) (fun u hu => hM.inM u (z0l hu)), ?_⟩
  exact zia hM rfl fun _ _ _ hL => absurd hL.1 he
theorem qao {w : Wld} {a : Act} (hi : a.ids.length ≤ cap) (hw : worldMay w = true) (h : mayA w a = true) (hk : a.kind = 3) : Acted w a := by
 have hM := zcd.1 hw
 obtain ⟨h0, hp⟩ := zpk h (by omega)
 by_cases he : w.packets = []
 ·exact zim hM (z6x w a hi hw h hk (ztv w a he))
 ·have hlt := zy2 he h0
  obtain ⟨m, hm⟩ : ∃ m, w.packets[pickP w a]? = some m := ⟨_, List.getElem?_eq_getElem hlt⟩
  have hms : ∀ u ∈ [m], msgMay u = true ∧ ∀ i ∈ namedM u, i ∈ idsN w.nodes := fun u hu => by rw [List.mem_singleton.1 hu]; exact hM.inM m (List.mem_of_getElem? hm)
  refine ⟨_, z5c w a hi hw h hk _ _ _ (z29 w a m hw h0 hp hm (zcd.2 (hM.packs (by simp) hms))), hM.send hms, ?_⟩
  exact zia hM rfl fun _ _ _ hL => absurd hL.1 he
theorem z90 {w : Wld} {a : Act} (hi : a.ids.length ≤ cap) (hw : worldMay w = true) (h : mayA w a = true) (hk : a.kind = 4) : Acted w a := by
 have hM := zcd.1 hw
 have hn := zf7 h (by omega)
 have ho : isN a.other w.nodes = true ∧ a.node ≠ a.other := by
  unfold mayA at h
  rw [if_neg (by omega)] at h
  split at h
  ·cases h
  ·rw [if_pos (.inl hk)] at h
   simpa using h
 obtain ⟨Z, hZ, hd⟩ := z7m w a (zau hw)
 rcases hZ with ⟨rfl, _⟩ | ⟨rfl, he⟩
 ·exact zim hM (z1l w a hi hw h hk hd)
 ·have hin := (zhp hM.nodes).1 hn
  have hio := (zhp hM.nodes).1 ho.1
  have ha : askMay w.cuts a.node a.other = true := zgq.2 ⟨hM.cuts, hM.place hin, hM.place hio, ho.2⟩
  obtain ⟨cs, e, c1, c2⟩ : ∃ cs, withC w.cuts a.node a.other = (cs, 0) ∧ cutsMay cs = true ∧ ∀ y, y ∈ cs ↔ y = cutAB a.node a.other ∨ y ∈ w.cuts := by
   rcases z2k ha with e | e
   ·rw [e] at he; exact absurd he (by decide)
   ·exact e
  rw [e] at hd
  refine ⟨⟨w.nodes, cs, w.packets⟩, z5n w a hi hw h hk cs hd, ⟨hM.nodes, c1, hM.len, hM.inN, fun c hc i hi => ?_, hM.inM⟩, zia hM rfl fun h4 => absurd hk h4⟩
  rcases (c2 c).1 hc with rfl | hc
  ·simp only [namedC, cutAB, List.mem_cons, List.not_mem_nil, or_false] at hi
   rcases hi with rfl | rfl
   ·have e : min a.node a.other = a.node ∨ min a.node a.other = a.other := by omega
    rcases e with e | e <;> (rw [e]; assumption)
   ·have e : max a.node a.other = a.node ∨ max a.node a.other = a.other := by omega
    rcases e with e | e <;> (rw [e]; assumption)
  ·exact hM.inC c hc i hi
theorem z9n {w : Wld} {a : Act} (hi : a.ids.length ≤ cap) (hw : worldMay w = true) (h : mayA w a = true) (hk : a.kind = 5) : Acted w a := by
 have hM := zcd.1 hw
 have hn := zf7 h (by omega)
 have ho : isN a.other w.nodes = true ∧ a.node ≠ a.other := by
  unfold mayA at h
  rw [if_neg (by omega)] at h
  split at h
  ·cases h
  ·rw [if_pos (.inr hk)] at h
   simpa using h
 have hin := (zhp hM.nodes).1 hn
 have hio := (zhp hM.nodes).1 ho.1
 have ha : askMay w.cuts a.node a.other = true := zgq.2 ⟨hM.cuts, hM.place hin, hM.place hio, ho.2⟩
 have e : withoutC w.cuts a.node a.other = (w.cuts.filter fun x => !decide (x = cutAB a.node a.other), 0) := by unfold withoutC; rw [if_pos ha]
 have hd := z6g w a (zau hw)
 rw [e] at hd
 simp only at hd
 exact ⟨⟨w.nodes, w.cuts.filter fun x => !decide (x = cutAB a.node a.other), w.packets⟩, z6t w a hi hw h hk _ hd, ⟨hM.nodes, zru hM.cuts, hM.len, hM.inN, fun c hc i hi => hM.inC c (List.mem_filter.1 hc).1 i hi, hM.inM⟩, zia hM rfl fun _ h5 => absurd hk h5⟩
theorem zpc {w : Wld} {a : Act} {p : Nat} {cs : List D} {y : Node} (h : Den PP 20 [wldD w, actD a] [] (.tup [.agg [.sl ((w.nodes.map Node.cells).set p cs) w.nodes.length, .sl (w.cuts.map Cut.row) w.cuts.length, .sl (w.packets.map Msg.row) w.packets.length], .int .i64 0]) []) (hc : cs.map D.nrm = y.cells) :
 Den PP 20 [wldD w, actD a] [] (.tup [wldD ⟨w.nodes.set p y, w.cuts, w.packets⟩, .int .i64 0]) [] := by
 have := z73 h
 have e1 : nrmLL ((w.nodes.map Node.cells).set p cs) = (w.nodes.set p y).map Node.cells := by
  rw [zd6, List.map_set, hc, List.map_set, List.map_map]
  congr 1
  apply List.map_congr_left
  intro x _
  simp [Node.cells, peersD, intsD, itemsD, toldsD]
 simp only [D.nrm, nrmL, e1] at this
 simpa [wldD, Wld.cells, nodesD, cutsD, msgsD] using this
theorem zsl (x : Node) : x.cells.map D.nrm = x.cells := by simp [Node.cells, peersD, intsD, itemsD, toldsD]
theorem zql (x : Node) : ∀ d ∈ x.cells, lowD 0 d = true := zsc 0 x
def crashN (id : Int) : Node := ⟨false, ⟨id, [], []⟩, [], []⟩
theorem z4a {id : Int} (h : place id = true) : nodeMay (crashN id) = true := by
 have hv : viewMay (⟨id, [], []⟩ : View) = true := zkp (zbx.2 ⟨h, by simp, by simp, List.Pairwise.nil⟩) (by rfl) (by simp) (by simp)
 simp [nodeMay, crashN, hv, emptyN]
 rfl
theorem qac {w : Wld} {a : Act} (hi : a.ids.length ≤ cap) (hw : worldMay w = true) (h : mayA w a = true) (hk : a.kind = 6) : Acted w a := by
 have hM := zcd.1 hw
 have hn := zf7 h (by omega)
 obtain ⟨x, hx, hid⟩ := zke hn
 have hpl := hM.place ((zhp hM.nodes).1 hn)
 have hd := z5f w a hi hw h hk _ _ (List.all_eq_true.1 rfl) (z1t w a (zau hw) (za0 hM.nodes a.node) hn)
 refine ⟨_, zpc hd (y := crashN a.node) rfl, hM.set hx (z4a hpl) hid.symm (fun i hi => by simp [namedN, crashN] at hi) hM.len hM.inM, ?_⟩
 exact zhb hM hx rfl ⟨hid.symm, (fun _ h => by cases h), (fun _ h => by cases h)⟩ fun _ _ _ hL => ⟨rfl, ⟨rfl, rfl⟩, hL.1, hL.2.1⟩
theorem qae {w : Wld} {a : Act} (hi : a.ids.length ≤ cap) (hw : worldMay w = true) (h : mayA w a = true) (hk : a.kind = 7) : Acted w a := by
 have hM := zcd.1 hw
 have hn := zf7 h (by omega)
 obtain ⟨x, hx, hid⟩ := zke hn
 have hr := za0 hM.nodes a.node
 cases hu : x.up with
 | true => exact zim hM (z5t w a hi hw h hk (zuh w a x (zau hw) hr hn hx hu))
 | false =>
   have hids : a.ids.length ≤ 16 ∧ ∀ y ∈ a.ids, isN y w.nodes = true := by
    unfold mayA at h
    rw [if_neg (by omega)] at h
    split at h
    ·cases h
    ·try rw [if_neg (by omega)] at h
     try rw [if_pos hk] at h
     simp only [Bool.and_eq_true, decide_eq_true_eq, Bool.not_eq_true'] at h
     refine ⟨h.1, fun y hy => ?_⟩
     have := List.any_eq_false.1 h.2 y hy
     simpa using this
   have hin : ∀ y ∈ a.ids, y ∈ idsN w.nodes := fun y hy => (zhp hM.nodes).1 (hids.2 y hy)
   have hpl := hM.place ((zhp hM.nodes).1 hn)
   have hpp : ∀ y ∈ a.ids, place y = true := fun y hy => hM.place (hin y hy)
   obtain ⟨s1, s2, s3⟩ := zq3 (id := a.node) hpp hids.1
   have hlow : ∀ d ∈ [D.bool true, D.int .i64 a.node, D.nil, newZ a.node a.ids, D.nil, D.nil], lowD 0 d = true := by
    intro d hd
    simp only [List.mem_cons, List.not_mem_nil, or_false] at hd
    rcases hd with rfl | rfl | rfl | rfl | rfl | rfl
    ·rfl
    ·rfl
    ·rfl
    ·unfold newZ; split <;> rfl
    ·rfl
    ·rfl
   have hd := z5x w a hi hw h hk _ _ hlow (z3d w a x (zau hw) hr hn hx hu hpl hpp hids.1)
   have hv : viewMay (⟨a.node, [], newP a.node a.ids⟩ : View) = true := zkp (zbx.2 ⟨hpl, by simp, by simp, List.Pairwise.nil⟩) s1 (by simp; omega) (fun y hy => ⟨((s3 y).1 hy).2, by simp⟩)
   have hmay : nodeMay (newN a.node a.ids) = true := by
    simp [nodeMay, newN, hv]
    rfl
   refine ⟨_, zpc hd (y := newN a.node a.ids) (by simp [newN, Node.cells, peersD, intsD, itemsD, toldsD, z0p hpp hids.1]), hM.set hx hmay hid.symm (fun i hi => ?_) hM.len hM.inM, ?_⟩
   ·have hi : i ∈ newP a.node a.ids := by simpa [namedN, newN] using hi
    exact hin i ((s3 i).1 hi).1
   ·exact zhb hM hx rfl ⟨hid.symm, (fun h _ => by rw [hu] at h; cases h), (fun h _ => by rw [hu] at h; cases h)⟩ fun _ _ h7 => absurd hk h7
theorem z4x {x : Node} {i : Item} (h : nodeMay x = true) (hu : nodeUp x = true) (hw : wrAll x i = true) : nodeMay (wrN x i) = true ∧ NRel x (wrN x i) ∧ (wrN x i).view = x.view := by
 obtain ⟨e1, e2, e3, e4⟩ := qbr hw
 obtain ⟨h1, h2, h3, h4, h5⟩ := zcc hu
 have hv : (wrN x i).view = x.view := rfl
 refine ⟨zgs (zh2 h1 h2 (by rw [e3]; exact e4) h4 h5), ⟨rfl, fun _ _ => by rw [e3]; exact zsj e1, fun _ _ n hn => hn⟩, hv⟩
theorem z0n {x : Node} {i : Item} (h : wrAll x i = true) : nodeUp x = true := by
 have := (zfk h).1
 simp only [wrMay, Bool.and_eq_true] at this
 exact this.1
theorem z9t {w : Wld} {a : Act} (hi : a.ids.length ≤ cap) (hw : worldMay w = true) (h : mayA w a = true) (hk : a.kind = 8) : Acted w a := by
 have hM := zcd.1 hw
 have hn := zf7 h (by omega)
 obtain ⟨x, hx, hid⟩ := zke hn
 have hr := za0 hM.nodes a.node
 have hxm := List.mem_of_getElem? hx
 cases hb : wrAll x (putI a.key a.value) with
 | false => exact zim hM (z4l w a hi hw h hk (zu1 w a x (zau hw) hr hn hx hb))
 | true =>
   obtain ⟨m1, m2, m3⟩ := z4x (hM.node hxm) (z0n hb) hb
   have hd := z6z w a hi hw h hk _ _ (zql _) (zy5 w a x (zau hw) hr hn hx hb)
   refine ⟨_, zpc hd (zsl _), hM.set hx m1 m2.id (fun i hi => hM.inN x hxm i hi) hM.len hM.inM, ?_⟩
   exact zhb hM hx rfl m2 fun _ _ _ hL => ⟨rfl, hL.2.2 x hxm, hL.1, hL.2.1⟩
theorem qaa {w : Wld} {a : Act} (hi : a.ids.length ≤ cap) (hw : worldMay w = true) (h : mayA w a = true) (hk : a.kind = 9) : Acted w a := by
 have hM := zcd.1 hw
 have hn := zf7 h (by omega)
 obtain ⟨x, hx, hid⟩ := zke hn
 have hr := za0 hM.nodes a.node
 have hxm := List.mem_of_getElem? hx
 cases hb : wrAll x (dropI a.key) with
 | false => exact zim hM (z4d w a hi hw h hk (zt6 w a x (zau hw) hr hn hx hb))
 | true =>
   obtain ⟨m1, m2, m3⟩ := z4x (hM.node hxm) (z0n hb) hb
   have hd := z4e w a hi hw h hk _ _ (zql _) (zwf w a x (zau hw) hr hn hx hb)
   refine ⟨_, zpc hd (zsl _), hM.set hx m1 m2.id (fun i hi => hM.inN x hxm i hi) hM.len hM.inM, ?_⟩
   exact zhb hM hx rfl m2 fun _ _ _ hL => ⟨rfl, hL.2.2 x hxm, hL.1, hL.2.1⟩
end Go.AM
/- AM: every act, the rest: a get, a packet delivered. -/
namespace Go.AM
set_option linter.unusedSimpArgs false
set_option linter.unusedVariables false
set_option maxRecDepth 8000
set_option maxHeartbeats 0
theorem z6h {x : Node} {t : Told} (hu : nodeUp x = true) (ht : toldOdd t = false) : nodeMay { x with log := logOf x t } = true ∧ NRel x { x with log := logOf x t } := by
 obtain ⟨h1, h2, h3, h4, h5⟩ := zcc hu
 obtain ⟨l1, l2⟩ := z8d h4 h5 ht
 exact ⟨zgs (zh2 h1 h2 h3 l1 l2), ⟨rfl, fun _ _ => ziv h3, fun _ _ n hn => hn⟩⟩
theorem qcb {x : Node} {k : Int} (hu : nodeUp x = true) (hk : place k = true) (hne : (ownerV x.view k).1 ≠ x.view.id) : msgMay (askOf x (ownerV x.view k).1 k) = true ∧ ∀ i ∈ namedM (askOf x (ownerV x.view k).1 k), i = x.view.id ∨ i ∈ namesV x.view := by
 obtain ⟨h1, h2, h3, h4, h5⟩ := zcc hu
 have hown := zn4 h2 hk
 rw [hown] at hne ⊢
 simp only at hne ⊢
 rcases zyj x.view k with h6 | ⟨q, hq, hqt⟩
 ·exact absurd h6 hne
 ·have hqp := (zcx (zaz h2).1 q hq).1
  rw [hqt] at hqp
  refine ⟨by simp [msgMay, askOf, zea h2, hqp, Ne.symm hne, hk], fun i hi => ?_⟩
  simp only [namedM, askOf, List.mem_cons, List.not_mem_nil, or_false] at hi
  rcases hi with rfl | rfl
  ·exact .inl rfl
  ·exact .inr (zdd.2 (.inl ⟨q, hq, hqt⟩))
theorem z7g {w : Wld} {a : Act} (hi : a.ids.length ≤ cap) (hw : worldMay w = true) (h : mayA w a = true) (hk : a.kind = 10) : Acted w a := by
 have hM := zcd.1 hw
 have hn := zf7 h (by omega)
 obtain ⟨x, hx, hid⟩ := zke hn
 have hr := za0 hM.nodes a.node
 have hxm := List.mem_of_getElem? hx
 have hin : ∀ i, i = x.view.id ∨ i ∈ namesV x.view → i ∈ idsN w.nodes := by
  rintro i (rfl | hi)
  ·exact zk6.2 ⟨x, hxm, rfl⟩
  ·exact hM.inN x hxm i hi
 cases hb : (nodeUp x && place a.key) with
 | false => exact zim hM (z16 w a hi hw h hk (zyg w a x (zau hw) hr hn hx hb))
 | true =>
   simp only [Bool.and_eq_true] at hb
   obtain ⟨hu, hkey⟩ := hb
   obtain ⟨p1, p2, p3, p4, p5⟩ := zcc hu
   by_cases ho : (ownerV x.view a.key).1 = x.view.id
   ·have ht : toldOdd (gotT x a.key) = false := by
     refine zwg hkey fun hh => ?_
     rcases z6i p3 a.key with e | ⟨i, _, _, hi, e⟩
     ·rw [e] at hh; cases hh
     ·rw [e]; exact hi
    obtain ⟨m1, m2⟩ := z6h hu ht
    have q1 := hM.set hx m1 rfl (fun i hi => hM.inN x hxm i hi) hM.len hM.inM
    have q2 := hM.set hx m1 rfl (fun i hi => hM.inN x hxm i hi) (ps := []) (by simp) (by simp)
    refine ⟨_, zs1 w a hi hw h hk _ _ _ (zwx w a x (zau hw) hr hn hx hu hkey ho (zcd.2 q1) (zcd.2 q2)), q1.send (by simp), ?_⟩
    exact zhb hM hx rfl m2 fun _ _ _ hL => ⟨rfl, hL.2.2 x hxm, by simp [sendW, hL.1], hL.2.1⟩
   ·obtain ⟨a1, a2⟩ := qcb hu hkey ho
    have hms : ∀ m ∈ [askOf x (ownerV x.view a.key).1 a.key], msgMay m = true ∧ ∀ i ∈ namedM m, i ∈ idsN w.nodes := fun m hm => by
     rw [List.mem_singleton.1 hm]
     exact ⟨a1, fun i hi => hin i (a2 i hi)⟩
    have e := zmg (y := x) hx rfl
    have q1 := hM.set hx (hM.node hxm) rfl (fun i hi => hM.inN x hxm i hi) hM.len hM.inM
    have q2 := hM.set hx (hM.node hxm) rfl (fun i hi => hM.inN x hxm i hi) (ps := [askOf x (ownerV x.view a.key).1 a.key]) (by simp) hms
    refine ⟨_, zs1 w a hi hw h hk _ _ _ (zu8 w a x (zau hw) hr hn hx hu hkey ho (zcd.2 q1) (zcd.2 q2)), q1.send (fun m hm => ⟨(hms m hm).1, fun i hi => by show i ∈ idsN (w.nodes.set _ _); rw [e]; exact (hms m hm).2 i hi⟩), ?_⟩
    refine zhb hM hx rfl (zj8 (hM.node hxm)) fun _ _ _ hL => ?_
    obtain ⟨e1, e2⟩ := hL.2.2 x hxm
    rcases zyj x.view a.key with h6 | ⟨q, hq, _⟩
    ·rw [zn4 p2 hkey] at ho; exact absurd h6 ho
    ·rw [e1] at hq; cases hq
theorem z99 {w : Wld} {a : Act} (hi : a.ids.length ≤ cap) (hw : worldMay w = true) (h : mayA w a = true) (hk : a.kind = 1) : Acted w a := by
 have hM := zcd.1 hw
 obtain ⟨h0, hp⟩ := zpk h (by omega)
 by_cases he : w.packets = []
 ·exact zim hM (z5p w a hi hw h hk (znr w a he))
 have hlt := zy2 he h0
 obtain ⟨m, hm⟩ : ∃ m, w.packets[pickP w a]? = some m := ⟨_, List.getElem?_eq_getElem hlt⟩
 obtain ⟨mm, hnm⟩ := hM.inM m (List.mem_of_getElem? hm)
 have hto : m.to ∈ idsN w.nodes := hnm m.to (by simp [namedM])
 have hn := (zhp hM.nodes).2 hto
 obtain ⟨x, hx, hid⟩ := zke hn
 have hr := za0 hM.nodes m.to
 have hxm := List.mem_of_getElem? hx
 have hll : (leftP w (pickP w a)).length ≤ 512 := by have := hM.len; simp [leftP]; omega
 have hlm : ∀ u ∈ leftP w (pickP w a), msgMay u = true ∧ ∀ i ∈ namedM u, i ∈ idsN w.nodes := fun u hu => hM.inM u (z0l hu)
 have hC : Step w a ⟨w.nodes, w.cuts, leftP w (pickP w a)⟩ := zia hM rfl fun _ _ _ hL => absurd hL.1 he
 cases hcut : (isC w.cuts m.from_ m.to).1 with
 | true => exact ⟨⟨w.nodes, w.cuts, leftP w (pickP w a)⟩, zxe w a hi hw h hk _ (zo1 w a m hw h0 hp hm hr hcut), hM.packs hll hlm, hC⟩
 | false =>
   cases hb : doB x m with
   | false => exact ⟨⟨w.nodes, w.cuts, leftP w (pickP w a)⟩, zxe w a hi hw h hk _ (zqs w a m x hw h0 hp hm hr hcut hn hx hb), hM.packs hll hlm, hC⟩
   | true =>
     obtain ⟨hu, _, hmt⟩ := ze9 hb
     obtain ⟨p1, p2, p3, p4, p5⟩ := zcc hu
     have fin : ∀ (y : Node) (ms : List Msg), nodeMay y = true → NRel x y → (∀ i ∈ namedN y, i ∈ idsN w.nodes) → (∀ u ∈ ms, msgMay u = true ∧ ∀ i ∈ namedM u, i ∈ idsN w.nodes) → ms.length ≤ 512 →
      (worldMay ⟨w.nodes.set (posN m.to w.nodes) y, w.cuts, leftP w (pickP w a)⟩ = true → worldMay ⟨w.nodes.set (posN m.to w.nodes) y, w.cuts, ms⟩ = true →
        Den PP 60 [.ptr 0 0 0, .ptr 4 0 0] (actB w a) (.tup []) (doS ⟨w.nodes.set (posN m.to w.nodes) y, w.cuts, leftP w (pickP w a)⟩ (sendW ⟨w.nodes.set (posN m.to w.nodes) y, w.cuts, leftP w (pickP w a)⟩ ms) w.packets a)) → Acted w a := by
      intro y ms hy hrel hny hms hml hd
      have q1 := hM.set hx hy hrel.id hny hll hlm
      have q2 := hM.set hx hy hrel.id hny hml hms
      have e := zmg (y := y) hx hrel.id
      refine ⟨_, z6u w a hi hw h hk _ _ _ (hd (zcd.2 q1) (zcd.2 q2)), q1.send (fun u hu => ⟨(hms u hu).1, fun i hi => by show i ∈ idsN (w.nodes.set _ _); rw [e]; exact (hms u hu).2 i hi⟩), ?_⟩
      exact zhb hM hx rfl hrel fun _ _ _ hL => absurd hL.1 he
     have hnx : ∀ i ∈ namedN x, i ∈ idsN w.nodes := hM.inN x hxm
     rcases z19 mm with hkm | hkm | hkm | hkm
     ·have hok := ztx hu mm hkm hmt
      obtain ⟨v1, v2⟩ := znp hok
      obtain ⟨n1, n2⟩ := zw8 x.view m.from_ m.ids
      refine fin { x with view := helloV x.view m.from_ m.ids } [] (zgs (zh2 p1 v1 p3 p4 p5)) ⟨v2, fun _ _ => ziv p3, fun _ _ n hn => n2 n hn⟩ (fun i hi => ?_) (by simp) (by simp) (zrd w a m x hw h0 hp hm hr hcut hn hx hb hkm)
      rcases n1 i hi with rfl | hi | hi
      ·exact hnm m.from_ (by simp [namedM])
      ·exact hnm i (by simp [namedM, hi])
      ·exact hnx i hi
     ·have hrel : NRel x (takeI x m.item) := by
       unfold takeI
       split
       ·rename_i h6
        obtain ⟨_, _, h7, h8⟩ := zt7 h6
        exact ⟨rfl, fun _ _ => by show Better x.items (putR x.items m.item).1; rw [h7]; exact zsj p3, fun _ _ n hn => hn⟩
       ·exact zj8 (hM.node hxm)
      have hvw : (takeI x m.item).view = x.view := by unfold takeI; split <;> rfl
      refine fin (takeI x m.item) [] (zgs (z7v hu)) hrel (fun i hi => ?_) (by simp) (by simp) (zrg w a m x hw h0 hp hm hr hcut hn hx hb hkm)
      have hi : i ∈ namesV (takeI x m.item).view := hi
      rw [hvw] at hi
      exact hnx i hi
     ·refine fin x [tellOf x m] (hM.node hxm) (zj8 (hM.node hxm)) hnx (fun u hu' => ?_) (by simp) (zrt w a m x hw h0 hp hm hr hcut hn hx hb hkm)
      rw [List.mem_singleton.1 hu']
      have mm' := mm
      simp [msgMay, hkm] at mm'
      obtain ⟨f1, f2, f3, ⟨⟨_, f4⟩, _⟩, _⟩ := mm'
      have hne : ¬ x.view.id = m.from_ := fun e => f3 (by rw [hmt]; exact e.symm)
      constructor
      ·rw [hmt] at f2
       rcases z6i p3 m.key with e | ⟨i, _, hik, hi, e⟩
       ·simp [msgMay, tellOf, e, f1, f2, f4, hne]
       ·simp [msgMay, tellOf, e, f1, f2, f4, hne, hi, hik]
      ·intro i hi
       simp only [namedM, tellOf, List.mem_cons, List.not_mem_nil, or_false] at hi
       rcases hi with rfl | rfl
       ·exact zk6.2 ⟨x, hxm, rfl⟩
       ·exact hnm m.from_ (by simp [namedM])
     ·have ht : toldOdd (mT m) = false := by
       have mm' := mm
       simp [msgMay, hkm] at mm'
       obtain ⟨_, _, _, ⟨_, f4⟩, f5⟩ := mm'
       refine zwg f4 fun hh => ?_
       rw [hh] at f5
       simp at f5
       exact f5.1
      obtain ⟨l1, l2⟩ := z6h hu ht
      exact fin { x with log := logOf x (mT m) } [] l1 l2 hnx (by simp) (by simp) (zrr w a m x hw h0 hp hm hr hcut hn hx hb hkm)
theorem acted {w : Wld} {a : Act} (hi : a.ids.length ≤ cap) (hw : worldMay w = true) (h : mayA w a = true) : Acted w a := by
 by_cases hk : a.kind < 0 ∨ 10 < a.kind
 ·unfold mayA at h
  rw [if_neg (by omega), if_pos (by omega)] at h
  cases h
 ·have hk2 : a.kind = 0 ∨ a.kind = 1 ∨ a.kind = 2 ∨ a.kind = 3 ∨ a.kind = 4 ∨ a.kind = 5 ∨ a.kind = 6 ∨ a.kind = 7 ∨ a.kind = 8 ∨ a.kind = 9 ∨ a.kind = 10 := by omega
  rcases hk2 with hk | hk | hk | hk | hk | hk | hk | hk | hk | hk | hk
  ·exact qap hi hw h hk
  ·exact z99 hi hw h hk
  ·exact qaq hi hw h hk
  ·exact qao hi hw h hk
  ·exact z90 hi hw h hk
  ·exact z9n hi hw h hk
  ·exact qac hi hw h hk
  ·exact qae hi hw h hk
  ·exact z9t hi hw h hk
  ·exact qaa hi hw h hk
  ·exact z7g hi hw h hk
end Go.AM
/- AM: contracts: the document's answer to what world may be. -/
namespace Go.AM
set_option linter.unusedSimpArgs false
set_option linter.unusedVariables false
set_option maxRecDepth 8000
set_option maxHeartbeats 0
def hasN (id : Int) (x : Node) : Bool := decide (x.view.id = id)
def allN (ns : List Node) (ids : List Int) : Bool := ids.all fun i => ns.any (hasN i)
theorem z0r {ns : List Node} {id : Int} : ns.any (hasN id) = true ↔ id ∈ idsN ns := by
 simp [hasN, idsN]
theorem zw9 (ns : List Node) (id : Int) (hl : ns.length ≤ cap) : Den PP 18 [nodesD ns, .int .i64 id] [] (.int .i64 (gIdx (hasN id) 0 ns)) [] := by
 obtain ⟨A, hA⟩ : ∃ A, gIdx (hasN id) 0 ns = A := ⟨_, rfl⟩
 unfold cap at hl
 refine zaj [] [] znk ?_
 simp -implicitDefEqProofs [zjd, nodesD, hA]
 refine za3 ns (fun i rest => fun ⟨fr, bs⟩ => bs = [] ∧ fr 0 = nodesD ns ∧ fr 1 = .int .i64 id ∧ fr 5 = .int .i64 i ∧ gIdx (hasN id) i rest = A)
  (fun ⟨fr, bs⟩ => bs = [] ∧ A = -1) (fun ⟨fr, bs⟩ => fr 4 = .int .i64 A) zg4.eq_1 ?_ ?_ ?_ ?_ ?_
 ·exact ⟨rfl, rfl, rfl, rfl, hA⟩
 ·rintro i ⟨fr, bs⟩ hi ⟨rfl, h0, h1, h5, he⟩
  simp -implicitDefEqProofs [h0, h1, h5, hi, nodesD]
  simpa [gIdx] using he.symm
 ·rintro i a rest ⟨fr, bs⟩ hlt hget hg hd hd2 ⟨rfl, h0, h1, h5, he⟩
  have hlt' : (i : Int) < ns.length := by omega
  have hw := zay (n := i) (by omega)
  simp only [gIdx] at he
  by_cases ha : a.view.id = id
  ·have hh : hasN id a = true := by simp [hasN, ha]
   rw [if_pos hh] at he
   simp -implicitDefEqProofs [h0, h1, h5, hlt, hlt', hget, hg, nodesD, Node.cells, peersD, intsD, itemsD, toldsD, ha]
   exact he
  ·have hh : ¬ hasN id a = true := by simp [hasN, ha]
   rw [if_neg hh] at he
   simp -implicitDefEqProofs [h0, h1, h5, hlt, hlt', hget, hg, nodesD, Node.cells, peersD, intsD, itemsD, toldsD, ha]
   exact ⟨zas (by omega) (by omega), he⟩
 ·rintro ⟨fr, bs⟩ ⟨rfl, h1⟩
  simp -implicitDefEqProofs [h1]
 ·rintro ⟨fr, bs⟩ h
  simp -implicitDefEqProofs [h]
theorem zv1 (ns : List Node) (id : Int) : decide (gIdx (hasN id) 0 ns < 0) = !ns.any (hasN id) := by
 rw [← zt3 (hasN id) ns 0]
 by_cases h : 0 ≤ gIdx (hasN id) 0 ns
 ·simp [h]
 ·simp [h]; omega
theorem zzn (ns : List Node) (ids : List Int) (hl : ns.length ≤ cap) (hi : ids.length ≤ cap) : Den PP 72 [nodesD ns, intsD ids] [] (.bool (allN ns ids)) [] := by
 obtain ⟨A, hA⟩ : ∃ A, allN ns ids = A := ⟨_, rfl⟩
 unfold allN at hA
 unfold allN
 rw [hA]
 refine zaj [] [] zl9 ?_
 simp -implicitDefEqProofs [zh0, nodesD, intsD]
 refine za3 ids (fun i rest => fun ⟨fr, bs⟩ => bs = [] ∧ fr 0 = nodesD ns ∧ fr 1 = intsD ids ∧ fr 5 = .int .i64 i ∧ (rest.all fun i => ns.any (hasN i)) = A)
  (fun ⟨fr, bs⟩ => bs = [] ∧ A = true) (fun ⟨fr, bs⟩ => fr 4 = .bool false ∧ A = false) zgf.eq_1 ?_ ?_ ?_ ?_ ?_
 ·exact ⟨rfl, rfl, rfl, rfl, hA⟩
 ·rintro i ⟨fr, bs⟩ hi ⟨rfl, h0, h1, h5, he⟩
  simp -implicitDefEqProofs [h0, h1, h5, hi, intsD]
  simpa using he.symm
 ·rintro i a rest ⟨fr, bs⟩ hlt hget hg hd hd2 ⟨rfl, h0, h1, h5, he⟩
  unfold cap at hi
  have hlt' : (i : Int) < ids.length := by omega
  have hw : IntKind.wrap .i64 ((i : Int) + 1) = (i : Int) + 1 := zas (by omega) (by omega)
  have c1 := zw9 ns a hl
  have c2 := zv1 ns a
  rw [List.all_cons] at he
  generalize gIdx (hasN a) 0 ns = G at *
  generalize ns.any (hasN a) = B at *
  clear hA
  simp only [nodesD] at c1
  simp -implicitDefEqProofs [h0, h1, h5, hlt, hlt', hget, hg, nodesD, intsD, irow]
  refine zaa c1 ?_
  simp -implicitDefEqProofs [c2]
  cases B
  ·simp -implicitDefEqProofs
   simpa using he.symm
  ·simp -implicitDefEqProofs [h0, h1, h5, nodesD, intsD, hw]
   simpa using he
 ·rintro ⟨fr, bs⟩ ⟨rfl, h1⟩
  simp -implicitDefEqProofs [h1]
 ·rintro ⟨fr, bs⟩ ⟨h, h1⟩
  simp -implicitDefEqProofs [h, h1]
theorem zwo (ms : List Msg) (hl : ms.length ≤ cap16) (hi : ∀ m ∈ ms, m.ids.length ≤ cap) : Den PP 161 [msgsD ms] [] (.bool (ms.all msgMay && decide (ms.length ≤ 512))) [] := by
 obtain ⟨A, hA⟩ : ∃ A, ms.all msgMay = A := ⟨_, rfl⟩
 rw [hA]
 unfold cap16 at hl
 refine zaj [] [] zjl ?_
 simp -implicitDefEqProofs [zf6, msgsD]
 refine za3 ms (fun i rest => fun ⟨fr, bs⟩ => bs = [] ∧ fr 0 = msgsD ms ∧ fr 3 = .int .i64 i ∧ rest.all msgMay = A)
  (fun ⟨fr, bs⟩ => bs = [] ∧ fr 0 = msgsD ms ∧ A = true) (fun ⟨fr, bs⟩ => fr 2 = .bool false ∧ A = false) zeu.eq_1 ?_ ?_ ?_ ?_ ?_
 ·exact ⟨rfl, rfl, rfl, hA⟩
 ·rintro i ⟨fr, bs⟩ hi ⟨rfl, h0, h3, he⟩
  simp -implicitDefEqProofs [h0, h3, hi, msgsD]
  simpa using he.symm
 ·rintro i a rest ⟨fr, bs⟩ hlt hget hg hd hd2 ⟨rfl, h0, h3, he⟩
  have hlt' : (i : Int) < ms.length := by omega
  have hw : IntKind.wrap .i64 ((i : Int) + 1) = (i : Int) + 1 := zas (by omega) (by omega)
  have c1 := z3m a (hi a (List.mem_of_getElem? hget))
  rw [List.all_cons] at he
  clear hi hA
  generalize msgMay a = B at *
  simp only [msgD, Msg.row, intsD] at c1
  simp -implicitDefEqProofs [h0, h3, hlt, hlt', hget, hg, msgsD, Msg.row, intsD]
  refine zaa c1 ?_
  simp -implicitDefEqProofs
  cases B
  ·simp -implicitDefEqProofs
   simpa using he.symm
  ·simp -implicitDefEqProofs [h0, h3, msgsD, hw]
   simpa using he
 ·rintro ⟨fr, bs⟩ ⟨rfl, h0, h1⟩
  simp -implicitDefEqProofs [h0, h1, msgsD]
  constructor <;> intro <;> omega
 ·rintro ⟨fr, bs⟩ ⟨h, h1⟩
  simp -implicitDefEqProofs [h, h1]
def packIn (ns : List Node) (m : Msg) : Bool := ns.any (hasN m.from_) && (ns.any (hasN m.to) && allN ns m.ids)
theorem zro (ns : List Node) (ms : List Msg) (hn : ns.length ≤ cap) (hl : ms.length ≤ cap16) (hi : ∀ m ∈ ms, m.ids.length ≤ cap) : Den PP 75 [nodesD ns, msgsD ms] [] (.bool (ms.all (packIn ns) && (ms.all msgMay && decide (ms.length ≤ 512)))) [] := by
 have c0 := zwo ms hl hi
 generalize (ms.all msgMay && decide (ms.length ≤ 512)) = Q at *
 obtain ⟨A, hA⟩ : ∃ A, ms.all (packIn ns) = A := ⟨_, rfl⟩
 rw [hA]
 unfold cap16 at hl
 simp only [msgsD] at c0
 refine zaj [] [] zhj ?_
 simp -implicitDefEqProofs [zet, msgsD]
 refine za3 ms (fun i rest => fun ⟨fr, bs⟩ => bs = [] ∧ fr 0 = nodesD ns ∧ fr 1 = msgsD ms ∧ fr 5 = .int .i64 i ∧ rest.all (packIn ns) = A)
  (fun ⟨fr, bs⟩ => bs = [] ∧ fr 1 = msgsD ms ∧ A = true) (fun ⟨fr, bs⟩ => fr 4 = .bool false ∧ A = false) zd1.eq_1 ?_ ?_ ?_ ?_ ?_
 ·exact ⟨rfl, rfl, rfl, rfl, hA⟩
 ·rintro i ⟨fr, bs⟩ hi ⟨rfl, h0, h1, h5, he⟩
  simp -implicitDefEqProofs [h0, h1, h5, hi, msgsD]
  simpa using he.symm
 ·rintro i a rest ⟨fr, bs⟩ hlt hget hg hd hd2 ⟨rfl, h0, h1, h5, he⟩
  have hlt' : (i : Int) < ms.length := by omega
  have hw : IntKind.wrap .i64 ((i : Int) + 1) = (i : Int) + 1 := zas (by omega) (by omega)
  have c1 := zw9 ns a.from_ hn
  have c2 := zv1 ns a.from_
  have c3 := zw9 ns a.to hn
  have c4 := zv1 ns a.to
  have c5 := zzn ns a.ids hn (hi a (List.mem_of_getElem? hget))
  rw [List.all_cons] at he
  rw [show packIn ns a = (ns.any (hasN a.from_) && (ns.any (hasN a.to) && allN ns a.ids)) from rfl] at he
  clear hi hA
  generalize gIdx (hasN a.from_) 0 ns = G at *
  generalize gIdx (hasN a.to) 0 ns = G2 at *
  generalize ns.any (hasN a.from_) = B at *
  generalize ns.any (hasN a.to) = B2 at *
  generalize allN ns a.ids = B3 at *
  simp only [nodesD, intsD] at c1 c3 c5
  simp -implicitDefEqProofs [h0, h1, h5, hlt, hlt', hget, hg, nodesD, msgsD, Msg.row, intsD]
  refine zaa c1 ?_
  simp -implicitDefEqProofs [c2]
  cases B
  ·simp -implicitDefEqProofs
   simpa using he.symm
  ·simp -implicitDefEqProofs [h0, h1, h5, hlt, hlt', hget, hg, nodesD, msgsD, Msg.row, intsD]
   refine zaa c3 ?_
   simp -implicitDefEqProofs [c4]
   cases B2
   ·simp -implicitDefEqProofs
    simpa using he.symm
   ·simp -implicitDefEqProofs [h0, h1, h5, hlt, hlt', hget, hg, nodesD, msgsD, Msg.row, intsD]
    refine zaa c5 ?_
    simp -implicitDefEqProofs
    cases B3
    ·simp -implicitDefEqProofs
     simpa using he.symm
    ·simp -implicitDefEqProofs [h0, h1, h5, nodesD, msgsD, hw]
     simpa using he
 ·rintro ⟨fr, bs⟩ ⟨rfl, h0, h1⟩
  simp -implicitDefEqProofs [h0, h1, msgsD]
  refine zaa c0 ?_
  simp -implicitDefEqProofs
 ·rintro ⟨fr, bs⟩ ⟨h, h1⟩
  simp -implicitDefEqProofs [h, h1]
def prevM (xs : List Node) (i : Nat) : Option Int := if i = 0 then none else (xs[i - 1]?).map fun x => x.view.id
def refNodes (ns : List Node) : Option Int → List Node → Bool
 | _, [] => true
 | q, x :: xs => nodeMay x && (q.all (fun y => decide (y < x.view.id)) && (allN ns (x.view.peers.map Peer.id) && (allN ns x.view.passive && refNodes ns (some x.view.id) xs)))
def cutIn (ns : List Node) (c : Cut) : Bool := ns.any (hasN c.a) && ns.any (hasN c.b)
def refWld (w : Wld) : Bool := refNodes w.nodes none w.nodes && (w.cuts.all (cutIn w.nodes) && (decide (1 ≤ w.nodes.length) && (decide (w.nodes.length ≤ 8) && (cutsMay w.cuts && (w.packets.all (packIn w.nodes) && (w.packets.all msgMay && decide (w.packets.length ≤ 512)))))))
theorem zxp (ns : List Node) : ∀ (xs : List Node) (q : Option Int), refNodes ns q xs = true ↔ nodesOk q xs = true ∧ ∀ x ∈ xs, ∀ i ∈ namedN x, i ∈ idsN ns := by
 intro xs
 induction xs with
 | nil => intro q; simp [refNodes, nodesOk]
 | cons x xs ih =>
   intro q
   simp only [refNodes, nodesOk, Bool.and_eq_true, ih]
   have key : (allN ns (x.view.peers.map Peer.id) = true ∧ allN ns x.view.passive = true) ↔ ∀ i ∈ namedN x, i ∈ idsN ns := by
    simp only [allN, List.all_eq_true, z0r, namedN, List.mem_append]
    constructor
    ·rintro ⟨h1, h2⟩ i (h | h)
     ·exact h1 i h
     ·exact h2 i h
    ·intro h
     exact ⟨fun i hi => h i (.inl hi), fun i hi => h i (.inr hi)⟩
   constructor
   ·rintro ⟨h1, h2, h3, h4, h5, h6⟩
    refine ⟨⟨h1, h2, h5⟩, fun y hy => ?_⟩
    rcases List.mem_cons.1 hy with rfl | hy
    ·exact key.1 ⟨h3, h4⟩
    ·exact h6 y hy
   ·rintro ⟨⟨h1, h2, h3⟩, h4⟩
    obtain ⟨a, b⟩ := key.2 (h4 x (by simp))
    exact ⟨h1, h2, a, b, h3, fun y hy => h4 y (by simp [hy])⟩
theorem z47 (w : Wld) : refWld w = worldMay w := by
 rw [Bool.eq_iff_iff, zcd]
 simp only [refWld, Bool.and_eq_true, decide_eq_true_eq, zxp, List.all_eq_true, cutIn, packIn, z0r, allN]
 constructor
 ·rintro ⟨⟨h1, h2⟩, h3, h4, h5, h6, h7, h8, h9⟩
  refine ⟨by simp [nodesMay, h1, h4, h5], h6, h9, h2, fun c hc i hi => ?_, fun m hm => ⟨h8 m hm, fun i hi => ?_⟩⟩
  ·simp only [namedC, List.mem_cons, List.not_mem_nil, or_false] at hi
   rcases hi with rfl | rfl
   ·exact (h3 c hc).1
   ·exact (h3 c hc).2
  ·simp only [namedM, List.mem_cons] at hi
   rcases hi with rfl | rfl | hi
   ·exact (h7 m hm).1
   ·exact (h7 m hm).2.1
   ·exact (h7 m hm).2.2 i hi
 ·intro h
  have hn := h.nodes
  simp only [nodesMay, Bool.and_eq_true, decide_eq_true_eq] at hn
  refine ⟨⟨hn.1, h.inN⟩, fun c hc => ⟨h.inC c hc _ (by simp [namedC]), h.inC c hc _ (by simp [namedC])⟩, hn.2.1, hn.2.2, h.cuts, fun m hm => ⟨(h.inM m hm).2 _ (by simp [namedM]), (h.inM m hm).2 _ (by simp [namedM]), fun i hi => (h.inM m hm).2 i (by simp [namedM, hi])⟩, fun m hm => (h.inM m hm).1, h.len⟩
theorem zj3 (w : Wld) (hs : w.small) : Den PP 22 [wldD w] [] (.bool (worldMay w)) [] := by
 rw [← z47]
 obtain ⟨ns, cs, ps⟩ := w
 obtain ⟨s1, s2, s3, s4, s5⟩ := hs
 simp only at s1 s2 s3 s4 s5
 have hn : ns.length ≤ cap := by unfold cap16 at s1; unfold cap; omega
 have c1 := zyr cs s3
 have c2 := zro ns ps hn s4 s5
 unfold refWld
 simp only
 generalize (ps.all (packIn ns) && (ps.all msgMay && decide (ps.length ≤ 512))) = PQ at *
 generalize cutsMay cs = CM at *
 obtain ⟨A, hA⟩ : ∃ A, refNodes ns none ns = A := ⟨_, rfl⟩
 obtain ⟨B, hB⟩ : ∃ B, cs.all (cutIn ns) = B := ⟨_, rfl⟩
 rw [hA, hB]
 unfold cap16 at s1
 unfold cap at s3
 simp only [wldD, Wld.cells, nodesD, cutsD, msgsD] at c1 c2 ⊢
 refine zaj [] [] zil ?_
 simp -implicitDefEqProofs [zfh]
 refine za3 ns (fun i rest => fun ⟨fr, bs⟩ => bs = [⟨[[.sl (ns.map Node.cells) ns.length, .sl (cs.map Cut.row) cs.length, .sl (ps.map Msg.row) ps.length]], 3, .box⟩] ∧ fr 1 = .ptr 0 0 0 ∧ fr 3 = .int .i64 i ∧ refNodes ns (prevM ns i) rest = A)
  (fun ⟨fr, bs⟩ => bs = [⟨[[.sl (ns.map Node.cells) ns.length, .sl (cs.map Cut.row) cs.length, .sl (ps.map Msg.row) ps.length]], 3, .box⟩] ∧ fr 1 = .ptr 0 0 0 ∧ A = true) (fun ⟨fr, bs⟩ => fr 2 = .bool false ∧ A = false) zei.eq_1 ?_ ?_ ?_ ?_ ?_
 ·exact ⟨rfl, rfl, rfl, hA⟩
 ·rintro i ⟨fr, bs⟩ hi ⟨rfl, h1, h3, he⟩
  simp -implicitDefEqProofs [h1, h3, hi]
  simpa [refNodes] using he.symm
 ·rintro i a rest ⟨fr, bs⟩ hlt hget hg hd hd2 ⟨rfl, h1, h3, he⟩
  have hlt' : (i : Int) < ns.length := by omega
  have hw : IntKind.wrap .i64 ((i : Int) + 1) = (i : Int) + 1 := zas (by omega) (by omega)
  have hsm := s2 a (List.mem_of_getElem? hget)
  have k1 := z0d a hsm
  have k2 := zp3 a.view.peers hsm.1.1
  have k3 := zzn ns (a.view.peers.map Peer.id) hn (by have := hsm.1.1; unfold cap16 at this; unfold cap; simp; omega)
  have k4 := zzn ns a.view.passive hn hsm.1.2
  simp only [refNodes] at he
  have hp : prevM ns (i + 1) = some a.view.id := by simp [prevM, hget]
  rw [hp]
  clear hp s2 s5 hA hB hsm c1 c2
  generalize nodeMay a = M at *
  generalize allN ns (a.view.peers.map Peer.id) = X at *
  generalize allN ns a.view.passive = Y at *
  simp only [nodeD, Node.cells, peersD, intsD, itemsD, toldsD, nodesD, List.map_map, Function.comp_def, List.length_map] at k1 k2 k3 k4
  cases i with
  | zero =>
    simp [prevM] at he
    simp -implicitDefEqProofs [h1, h3, hlt, hlt', hget, hg, Node.cells, peersD, intsD, itemsD, toldsD]
    refine zaa k1 ?_
    simp -implicitDefEqProofs
    cases M
    ·simp -implicitDefEqProofs
     simpa using he.symm
    ·simp -implicitDefEqProofs [h1, h3, hlt, hlt', hget, hg, Node.cells, peersD, intsD, itemsD, toldsD]
     refine zaa k2 ?_
     simp -implicitDefEqProofs [downTo]
     refine zaa k3 ?_
     simp -implicitDefEqProofs
     cases X
     ·simp -implicitDefEqProofs
      simpa using he.symm
     ·simp -implicitDefEqProofs [h1, h3, hlt, hlt', hget, hg, Node.cells, peersD, intsD, itemsD, toldsD]
      refine zaa k4 ?_
      simp -implicitDefEqProofs
      cases Y
      ·simp -implicitDefEqProofs
       simpa using he.symm
      ·simp -implicitDefEqProofs [h1, h3, hw]
       exact ⟨zas (by omega) (by omega), by simpa using he⟩
  | succ j =>
    have hj : j < ns.length := by omega
    have hj' : (j : Int) < ns.length := by omega
    have hlt3 : (j : Int) + 1 < ns.length := by omega
    have h0j : (0 : Int) ≤ (j : Int) + 1 := by omega
    have h0k : ¬ (j : Int) + 1 ≤ 0 := by omega
    have h0l : (0 : Int) < (j : Int) + 1 := by omega
    have hjw : IntKind.wrap .i64 (j : Int) = j := zas (by omega) (by omega)
    obtain ⟨q, hqj⟩ : ∃ q, ns[j] = q := ⟨_, rfl⟩
    have hpj : prevM ns (j + 1) = some q.view.id := by simp [prevM, hj, hqj]
    rw [hpj] at he
    simp at he
    simp -implicitDefEqProofs [h1, h3, hlt, hlt', hlt3, h0j, h0k, h0l, hget, hg, Node.cells, peersD, intsD, itemsD, toldsD]
    refine zaa k1 ?_
    simp -implicitDefEqProofs
    cases M
    ·simp -implicitDefEqProofs
     simpa using he.symm
    ·simp -implicitDefEqProofs [h1, h3, hlt, hlt', hlt3, h0j, h0k, h0l, hget, hg, hj, hj', hjw, hqj, Node.cells, peersD, intsD, itemsD, toldsD]
     by_cases hlq : q.view.id < a.view.id
     ·have hlq2 : ¬ a.view.id ≤ q.view.id := by omega
      simp -implicitDefEqProofs [h1, h3, hlt, hlt', hlt3, h0j, h0k, h0l, hget, hg, hlq, hlq2, Node.cells, peersD, intsD, itemsD, toldsD]
      refine zaa k2 ?_
      simp -implicitDefEqProofs [downTo]
      refine zaa k3 ?_
      simp -implicitDefEqProofs
      cases X
      ·simp -implicitDefEqProofs
       simpa [hlq] using he.symm
      ·simp -implicitDefEqProofs [h1, h3, hlt, hlt', hlt3, h0j, h0k, h0l, hget, hg, Node.cells, peersD, intsD, itemsD, toldsD]
       refine zaa k4 ?_
       simp -implicitDefEqProofs
       cases Y
       ·simp -implicitDefEqProofs
        simpa [hlq] using he.symm
       ·simp -implicitDefEqProofs [h1, h3, hw]
        exact ⟨zas (by omega) (by omega), by simpa [hlq] using he⟩
     ·have hlq2 : a.view.id ≤ q.view.id := by omega
      simp -implicitDefEqProofs [hlq, hlq2]
      simpa [hlq] using he.symm
 ·rintro ⟨fr, bs⟩ ⟨rfl, h1, hAt⟩
  clear hA s2
  simp -implicitDefEqProofs [h1]
  refine za3 cs (fun i rest => fun ⟨fr, bs⟩ => bs = [⟨[[.sl (ns.map Node.cells) ns.length, .sl (cs.map Cut.row) cs.length, .sl (ps.map Msg.row) ps.length]], 3, .box⟩] ∧ fr 1 = .ptr 0 0 0 ∧ fr 5 = .int .i64 i ∧ rest.all (cutIn ns) = B)
   (fun ⟨fr, bs⟩ => bs = [⟨[[.sl (ns.map Node.cells) ns.length, .sl (cs.map Cut.row) cs.length, .sl (ps.map Msg.row) ps.length]], 3, .box⟩] ∧ fr 1 = .ptr 0 0 0 ∧ B = true) (fun ⟨fr, bs⟩ => fr 2 = .bool false ∧ B = false) zej.eq_1 ?_ ?_ ?_ ?_ ?_
  ·exact ⟨by first | rfl | simp, by simp [h1], rfl, hB⟩
  ·rintro i ⟨fr, bs⟩ hi ⟨rfl, h1, h5, he⟩
   simp -implicitDefEqProofs [h1, h5, hi]
   simpa using he.symm
  ·rintro i a rest ⟨fr, bs⟩ hlt hget hg hd hd2 ⟨rfl, h1, h5, he⟩
   have hlt' : (i : Int) < cs.length := by omega
   have hw : IntKind.wrap .i64 ((i : Int) + 1) = (i : Int) + 1 := zas (by omega) (by omega)
   have k1 := zw9 ns a.a hn
   have k2 := zv1 ns a.a
   have k3 := zw9 ns a.b hn
   have k4 := zv1 ns a.b
   rw [List.all_cons, show cutIn ns a = (ns.any (hasN a.a) && ns.any (hasN a.b)) from rfl] at he
   clear hB c1 c2 s5
   generalize gIdx (hasN a.a) 0 ns = G at *
   generalize gIdx (hasN a.b) 0 ns = G2 at *
   generalize ns.any (hasN a.a) = X at *
   generalize ns.any (hasN a.b) = Y at *
   simp only [nodesD] at k1 k3
   simp -implicitDefEqProofs [h1, h5, hlt, hlt', hget, hg, Cut.row]
   refine zaa k1 ?_
   simp -implicitDefEqProofs [k2]
   cases X
   ·simp -implicitDefEqProofs
    simpa using he.symm
   ·simp -implicitDefEqProofs [h1, h5, hlt, hlt', hget, hg, Cut.row]
    refine zaa k3 ?_
    simp -implicitDefEqProofs [k4]
    cases Y
    ·simp -implicitDefEqProofs
     simpa using he.symm
    ·simp -implicitDefEqProofs [h1, h5, hw]
     simpa using he
  ·rintro ⟨fr, bs⟩ ⟨rfl, h1, hBt⟩
   clear hB s5
   subst hAt hBt
   simp -implicitDefEqProofs [h1]
   repeat' ((first | refine zaa (by first | exact c1 | exact c2) ?_ | ((with_reducible first | refine zal ?_ ?_ | refine zai ?_ ?_ | refine zaf ?_ ?_ | refine zad ?_ ?_) <;> intro _) | ((with_reducible first | refine zao ?_ ?_ | refine zaq ?_ ?_ | refine zam ?_ ?_ | refine zac ?_ ?_ | refine zak ?_ ?_ | refine zap ?_ ?_ | refine zah ?_ ?_ | refine zab ?_ ?_) <;> intro hq <;> (try simp at hq)) | refine zag (by omega) ?_ | refine zan (by omega) ?_) <;> simp -implicitDefEqProofs [*])
   all_goals grind
  ·rintro ⟨fr, bs⟩ ⟨h, h1⟩
   simp -implicitDefEqProofs [h, h1]
 ·rintro ⟨fr, bs⟩ ⟨h, h1⟩
  simp -implicitDefEqProofs [h, h1]
end Go.AM
