/- What the proof of this claim stands on, part 11. -/
import Derived.RangeFuncBox
import Derived.RangeFuncLeaves
import Derived.Shelf.Abstract
import Derived.WalkKit
import Derived.OwnWalkIn
import Derived.TacticsInMore
import Derived.LoopNIn
import Derived.LoopIn
import Derived.Maps.AppendAt
import Derived.Shelf.Small.Bits
import Derived.KernelRfl
import Derived.Test.YtehagcggdepajaaGreatAmZ10
/- AM: contracts: an iterator's values collected; how many bits a number has. -/
namespace Go.AM
set_option linter.unusedSimpArgs false
set_option linter.unusedVariables false
open Go.RowKit Go.Shelf Go.Proofs
attribute [local go_sem] Oper.semAt_some
def upto (f : Nat → Int) (k : Nat) : List Int := (List.range k).map f
theorem upto_succ (f : Nat → Int) (k : Nat) : upto f (k + 1) = upto f k ++ [f k] := by simp [upto, List.range_succ]
theorem upto_length (f : Nat → Int) (k : Nat) : (upto f k).length = k := by simp [upto]
theorem upto_all (zs : List Int) : upto (fun j => zs[j]?.getD 0) zs.length = zs := by
  apply List.ext_getElem
  · simp [upto]
  · intro i h1 h2
    simp [upto, h2]
theorem upto_take (zs : List Int) {k : Nat} (hk : k ≤ zs.length) : upto (fun j => zs[j]?.getD 0) k = zs.take k := by
  apply List.ext_getElem
  · simp [upto, hk]
  · intro i h1 h2
    have : i < zs.length := by simp [upto] at h1; omega
    simp [upto, this]
set_option maxRecDepth 100000 in
set_option maxHeartbeats 2000000 in
theorem values_go (n : Nat) (hn : 1 ≤ n) (l n₀ b off len cap : Nat) (p : Addr) (zs : List Int) (hreach : len * 8 ≤ 140737488351232) (hb : b < n₀) (J Jx : List Int → World → Prop)
    (hY : ∀ pre x W, J pre W → pre.length < len → YieldAt Fence.wide (n - 1) PP l #[.int .i64 x] W fun e W' =>
      (e = .returned (.bool true) ∧ J (pre ++ [x]) W' ∧ Below n₀ W W') ∨ (e = .returned (.bool false) ∧ Jx (pre ++ [x]) W'))
    (W : World) (hBs : W.cell? p = some (.slice (some ⟨b, off, none⟩) len cap)) (hc : ∀ j, j < len → W.cell? ⟨b, off + j, none⟩ = some (.int .i64 (zs[j]?.getD 0))) (h0 : J [] W) :
    CallsIn Fence.wide n PP 202 #[.func (.yield l) #[] #[], .pointer (some p)] W fun e W' => (∃ v, e = .returned v) ∧
      ((∃ ys, ys = upto (fun j => zs[j]?.getD 0) len ∧ J ys W') ∨ (∃ pre, (∃ k, k ≤ len ∧ pre = upto (fun j => zs[j]?.getD 0) k) ∧ Jx pre W')) := by
  refine callsIn_of_wp Tryz.func202 rfl trivial ?_ rfl
  simp only [Tryz.ntmps202, List.size_toArray, List.length_cons, List.length_nil, Nat.reduceAdd, Nat.reduceSub, Array.replicate_succ, Array.replicate_zero, List.push_toArray, List.append_toArray, List.nil_append, List.cons_append]
  gi_wp2
  gi_loopw [7] (fun i wr => ∃ k : Nat, k ≤ len ∧ i = .int .i64 k ∧ J (upto (fun j => zs[j]?.getD 0) k) wr ∧ Below n₀ W wr)
    (fun i _ => len - (intOf i).toNat)
  case atStart => exact ⟨0, Nat.zero_le _, rfl, h0, Below.refl _ _⟩
  case round =>
    obtain ⟨k, hk, rfl, hJs, hnx⟩ := hrel
    have hcx : k < len → wr.cell? ⟨b, off + k, none⟩ = some (.int .i64 (zs[k]?.getD 0)) := fun h => (hnx.cell (p := ⟨b, off + k, none⟩) hb).trans (hc k h)
    by_cases hlt : k < len
    · obtain ⟨fn, tmps, assign, body, hy, hR⟩ := hY _ (zs[k]?.getD 0) wr hJs (by rw [upto_length]; exact hlt)
      have hcx' := hcx hlt
      gi_wp2
      refine hR.mono ?_
      rintro e W3 (⟨rfl, hJ3, hk3⟩ | ⟨rfl, hJx3⟩)
      · gi_wp2
        go_roundw
        case rel => exact ⟨k + 1, by omega, by simp, by rw [upto_succ]; exact hJ3, hnx.trans hk3⟩
        case measure => simp [intOf]; omega
      · gi_wp2
        refine bodyPost_ret (results_none rfl _ _ _) rfl ?_
        exact ⟨⟨_, rfl⟩, .inr ⟨_, ⟨k + 1, by omega, (upto_succ _ _).symm⟩, hJx3⟩⟩
    · obtain rfl : k = len := by omega
      gi_wp2
      go_end0
      exact ⟨⟨_, rfl⟩, .inl ⟨_, rfl, hJs⟩⟩
set_option maxRecDepth 100000 in
set_option maxHeartbeats 1000000 in
theorem values_none (n : Nat) (l cap : Nat) (p : Addr) (a : Option Addr) (J : List Int → World → Prop) (W : World) (hBs : W.cell? p = some (.slice a 0 cap)) (h0 : J [] W) :
    CallsIn Fence.wide n PP 202 #[.func (.yield l) #[] #[], .pointer (some p)] W fun e W' => (∃ v, e = .returned v) ∧ J [] W' := by
  refine callsIn_of_wp Tryz.func202 rfl trivial ?_ rfl
  simp only [Tryz.ntmps202, List.size_toArray, List.length_cons, List.length_nil, Nat.reduceAdd, Nat.reduceSub, Array.replicate_succ, Array.replicate_zero, List.push_toArray, List.append_toArray, List.nil_append, List.cons_append]
  gi_wp2
  gi_loopw [7] (fun i wr => i = .int .i64 0 ∧ J [] wr) (fun _ _ => 0)
  case atStart => exact ⟨rfl, h0⟩
  case round =>
    obtain ⟨rfl, hJs⟩ := hrel
    gi_wp2
    go_end0
    exact ⟨⟨_, rfl⟩, hJs⟩
def IntsAt (n₀ : Nat) (W : World) (sv : Value) (zs : List Int) : Prop :=
  (∃ a cap, sv = .slice a 0 cap ∧ zs = []) ∨ ∃ b off cap, sv = .slice (some ⟨b, off, none⟩) zs.length cap ∧ b < n₀ ∧ ∀ j, j < zs.length → W.cell? ⟨b, off + j, none⟩ = some (.int .i64 (zs[j]?.getD 0))
theorem IntsAt.below {n₀ : Nat} {A B : World} (h : Below n₀ A B) {sv : Value} {zs : List Int} : IntsAt n₀ A sv zs → IntsAt n₀ B sv zs
  | .inl e => .inl e
  | .inr ⟨b, off, cap, e, hb, hc⟩ => .inr ⟨b, off, cap, e, hb, fun j hj => (h.cell (p := ⟨b, off + j, none⟩) hb).trans (hc j hj)⟩
theorem values_stops (n : Nat) (hn : 1 ≤ n) (n₀ : Nat) (p : Addr) (sv : Value) (zs : List Int) (hreach : zs.length * 8 ≤ 140737488351232) (w : World) (hBs : p.block < w.heap.size) (hn₀ : n₀ ≤ w.heap.size)
    (hc : w.cell? p = some sv) (hI : IntsAt n₀ w sv zs) :
    SeqStopsK Fence.wide n PP 202 #[.pointer (some p)] (fun x : Int => #[Value.int .i64 x]) (Below n₀) (fun ys => ys = zs) (fun pre => pre <+: zs) zs.length w := fun l J Jx W hW _ _ hY h0 => by
  have hc' := (hW.cell (p := p) hBs).trans hc
  rcases hI.below (hW.mono hn₀) with ⟨a, cap, rfl, rfl⟩ | ⟨b, off, cap, rfl, hb, hcs⟩
  · exact (values_none n l cap p a J W hc' h0).mono fun e W' ⟨he, hj⟩ => ⟨he, .inl ⟨_, rfl, hj⟩⟩
  · refine (values_go n hn l n₀ b off zs.length cap p zs hreach hb J Jx hY W hc' hcs h0).mono ?_
    rintro e W' ⟨he, ⟨ys, rfl, hj⟩ | ⟨pre, ⟨k, hk, rfl⟩, hj⟩⟩
    · exact ⟨he, .inl ⟨_, upto_all zs, hj⟩⟩
    · exact ⟨he, .inr ⟨_, by rw [upto_take zs hk]; exact List.take_prefix _ _, hj⟩⟩
set_option maxRecDepth 100000 in
set_option maxHeartbeats 2000000 in
theorem appendSeq_calls (n : Nat) (hn : 3 ≤ n) (p : Addr) (sv : Value) (zs : List Int) (hlen : zs.length * 8 ≤ 140737488351232) (w : World) (hp : p.block < w.heap.size) (hc : w.cell? p = some sv) (hI : IntsAt w.heap.size w sv zs) :
    CallsIn Fence.wide n PP 233 #[.slice none 0 0, .func (.func 202) #[] #[.pointer (some p)]] w fun e W' => ∃ v, e = .returned v ∧
      W'.ownsRow w.heap.size 3 1 v zs.length (zs.map (Value.int .i64)) ∧ (v = .slice none 0 0 ↔ zs = []) ∧ Below w.heap.size w W' := by
  have h1 : 1 ≤ n := by omega
  have hmax : zs.length ≤ maxLen := by simp [maxLen]; omega
  obtain ⟨i0, hi, hz0, hz1, hz2⟩ := info_parts (by kernel_rfl : (PP.info? 3).map (fun i => (i.zero, i.size, i.bytes)) = some (some (.int .i64 0), 1, 8))
  refine callsIn_of_wp_marks Tryz.func233 rfl trivial ?_ rfl
  simp only [Tryz.ntmps233, List.size_toArray, List.length_cons, List.length_nil, Nat.reduceAdd, Nat.reduceSub, Array.replicate_succ, Array.replicate_zero, List.push_toArray, List.append_toArray, List.nil_append, List.cons_append]
  gi_wp2
  have bO := Boxed.new w 36 (.slice none 0 0)
  have hB0 : Below w.heap.size w (w.alloc (.cells #[.slice none 0 0] 36)) := (Below.refl _ w).alloc (Nat.le_refl _) _
  refine wpIn_rangeFunc_ownG rfl h1 (gf := 202) (lb := #[.pointer (some p)]) rfl trivial (enters_of Tryz.func202 (by kernel_rfl) rfl)
    (values_stops (n - 1) (by omega) w.heap.size p sv zs hlen _ (by simp; omega) (by simp) ((hB0.cell (p := p) hp).trans hc) (hI.below hB0)) belowK_t (belowK_b (by simp)) (Below.refl _ _) (fun _ => rfl)
    (fun pre W => (∃ v, Boxed W w.heap.size 36 v ∧ W.ownsRow w.heap.size 3 1 v pre.length (pre.map (Value.int .i64)) ∧ (v = .slice none 0 0 ↔ pre = [])) ∧ Below w.heap.size w W)
    (fun _ _ _ => False)
    (OwnFrom.and (Own.from (holdsRow_own w.heap.size w.heap.size 36 3 1 (fun pre => pre.length) (fun pre => pre.map (Value.int .i64)) (fun pre v => v = .slice none 0 0 ↔ pre = [])) _) (ownFrom_below (Nat.le_refl _) (by simp)))
    (fun _ _ _ _ _ hs _ _ => hs)
    ⟨⟨_, bO, World.ownsRow_nil _ _ _ _, by simp⟩, hB0⟩
    (fun x => { tmps := #[.slice none 0 0, .func (.func 202) #[] #[.pointer (some p)], .pointer (some ⟨w.heap.size, 0, none⟩), Go.undef, .slice none 0 0, .int .i64 x, .func (.func 202) #[] #[.pointer (some p)], .int .i64 x, Go.undef, Go.undef, Go.undef, Go.undef, Go.undef], defers := [] }) ?assign ?body ?done ?stop
  case assign =>
    intro l x W K hK
    gi_wp2
    exact hK
  case body =>
    rintro l pre x W ⟨⟨v, hv, hrow, hnil⟩, hB⟩ hlt
    have hc := hv.cell
    gi_wp2_with (gi_at_builtin; refine wpListIn_append_own _ rfl _ _ 36 rfl w.heap.size 3 i0 (.int .i64 0) 1 8 Tryz.underlying36 hi hz0 hz1 hz2 rfl (by decide) _ _ _ rfl (hrow.alloc _) ⟨W.heap.size, 0, none⟩ 1 1 [.int .i64 x] rfl rfl (cell_one_new _ _ _) (by simp [Value.oneCell']) (by omega) (by omega) (by have := hB.size; simp; omega) ?_; intro v' w1 hown' hgrow _; obtain ⟨g', cap', rfl⟩ := ownsRow_succ hown'; obtain ⟨hv1, hv2, hr2, hk2, hb2⟩ := hv.appended (by decide) hrow hB.size (Nat.le_refl _) hown' hgrow; have hc1 := hv1.cell; have hf1 := hv1.frozen)
    exact ⟨hk2.from _, hb2, ⟨_, hv2, by simpa using hr2, by simp⟩, hB.trans hb2⟩
  case done =>
    rintro D ys W hD rfl ⟨⟨v, hv, hrow, hnil⟩, hB⟩ hK
    have hc := hv.cell
    gi_wp2
    refine ⟨by simp, .inl ⟨_, _, rfl, run_takeDeferred hK, ?_⟩⟩
    exact ⟨_, results_tmp rfl _ _ _, v, rfl, ownsRow_putObj hrow _ hK rfl, hnil, hB.trans (belowK_b (w := w) (Nat.le_refl _) W D _ _ (by simp at hD; omega) hK rfl rfl)⟩
  case stop =>
    rintro D c pre W _ _ h _
    exact h.elim
end Go.AM
/- AM: contracts: slices.Collect of a slice's values; how many bits two takes. -/
namespace Go.AM
set_option linter.unusedSimpArgs false
set_option linter.unusedVariables false
open Go.RowKit Go.Shelf Go.Proofs
attribute [local go_sem] Oper.semAt_some
set_option maxRecDepth 100000 in
set_option maxHeartbeats 2000000 in
theorem collect_calls (n : Nat) (hn : 4 ≤ n) (p : Addr) (sv : Value) (zs : List Int) (hlen : zs.length * 8 ≤ 140737488351232) (w : World) (hp : p.block < w.heap.size) (hc : w.cell? p = some sv) (hI : IntsAt w.heap.size w sv zs) :
    CallsIn Fence.wide n PP 200 #[.func (.func 202) #[] #[.pointer (some p)]] w fun e W' => ∃ v, e = .returned v ∧
      W'.ownsRow w.heap.size 3 1 v zs.length (zs.map (Value.int .i64)) ∧ (v = .slice none 0 0 ↔ zs = []) ∧ Below w.heap.size w W' := by
  have h1 : 1 ≤ n := by omega
  have hf : Fence.wide.fn 233 := trivial
  refine callsIn_of_wp Tryz.func200 rfl trivial ?_ rfl
  simp only [Tryz.ntmps200, List.size_toArray, List.length_cons, List.length_nil, Nat.reduceAdd, Nat.reduceSub, Array.replicate_succ, Array.replicate_zero, List.push_toArray, List.append_toArray, List.nil_append, List.cons_append]
  gi_wp2_with (gi_at_call 233; refine (appendSeq_calls (n - 1) (by omega) p sv zs hlen w hp hc hI).mono ?_; rintro e w1 ⟨v, rfl, hr, hnil, hB⟩)
  go_ret
  exact ⟨_, rfl, hr, hnil, hB⟩
theorem arr_one {vs : Array Value} (h : vs.size = 1) : ∃ v, vs = #[v] := by
  obtain ⟨l⟩ := vs
  match l, h with
  | [v], _ => exact ⟨v, rfl⟩
theorem collect_den (zs : List Int) (hne : zs ≠ []) (hlen : zs.length * 8 ≤ 140737488351232) :
    Den PP 200 [.fn 202 [] [.mem [.sl (zs.map fun z => [.int .i64 z]) zs.length]]] [] (.ref 0 0 zs.length) [⟨zs.map fun z => [.int .i64 z], 1, .mut⟩] := by
  refine ⟨⟨_, Tryz.func200, by kernel_rfl, rfl⟩, fun w M0 ρ vals hM hS hs ha => ?_⟩
  obtain ⟨v0, rfl⟩ := arr_one hs
  obtain ⟨va, vc, rfl, h1, h2, -, h4⟩ := (ha 0 v0 _ (by simp) rfl).fn_inv
  obtain rfl : va = #[] := Array.eq_empty_of_size_eq_zero (by simpa using h1)
  obtain ⟨v1, rfl⟩ := arr_one h2
  have hm := (h4 0 v1 _ (by simp) rfl).mem_inv
  cases hm with
  | mem g off cs vs hc hv =>
  obtain ⟨-, hcell⟩ := hc 0 (by simp)
  have hsl := hv 0 _ rfl
  have key : ∃ b o cap, vs 0 = .slice (some ⟨b, o, none⟩) zs.length cap ∧ b < w.heap.size ∧ ∀ j, j < zs.length → w.cell? ⟨b, o + j, none⟩ = some (.int .i64 (zs[j]?.getD 0)) := by
    generalize vs 0 = sv at hsl
    cases hsl with
    | sl a len cap rows esz g off vals h1 h2 hr ha hc hv =>
      have h0 : 0 < zs.length := List.length_pos_iff.2 hne
      have he : esz = 1 := by
        cases zs with
        | nil => exact absurd rfl hne
        | cons z zs => exact (hr [.int .i64 z] (by simp)).symm
      subst he
      have hcc : ∀ j, j < zs.length → w.cell? ⟨g, off + j, none⟩ = some (.int .i64 (zs[j]?.getD 0)) := by
        intro j hj
        have hx := (hc j 0 (by simpa using hj) (by omega)).2
        have hy := hv j 0 [.int .i64 zs[j]] (.int .i64 zs[j]) (by simp [hj]) rfl
        have : vals j 0 = .int .i64 zs[j] := by
          generalize vals j 0 = u at hy
          cases hy; rfl
        rw [this] at hx
        simpa [hj] using hx
      exact ⟨g, off, cap, by rw [ha (by simpa using hne)], cell_lt (hcc 0 h0), hcc⟩
  obtain ⟨b, o, cap, hsv, hb, hcc⟩ := key
  have hcell' : w.cell? ⟨g, off + 0, none⟩ = some (vs 0) := hcell
  refine ((callsIn_wide (n := 4)).1 (collect_calls 4 (by omega) ⟨g, off, none⟩ (vs 0) zs hlen w (cell_lt hcell') hcell' (.inr ⟨b, o, cap, hsv, hb, hcc⟩))).mono ?_
  rintro e W' ⟨v, rfl, ⟨hl, hrow⟩, hnil, hB⟩
  rcases hrow with ⟨rfl, h0⟩ | ⟨g', cap', cur, rfl, hg, hh, hn1, hn2, hsz, htk⟩
  · exact absurd (hnil.1 rfl) hne
  have habs : ∀ i, ρ i = .absent := fun i => hS.out i (Nat.zero_le _)
  have hcur : ∀ i, i < zs.length → cur[i]? = some (.int .i64 (zs[i]?.getD 0)) := by
    intro i hi
    have : (cur.toList.take (zs.length * 1))[i]? = (zs.map (Value.int .i64))[i]? := by rw [htk]
    rw [List.getElem?_take_of_lt (by omega)] at this
    simpa [hi] using this
  have hgw : w.heap.size ≤ g' := hg
  have hMof : ∀ (x o : Nat), Mof M0 (updL ρ 0 (.at_ g' 0 cur.size zs.length 1)) [⟨zs.map fun z => [.int .i64 z], 1, .mut⟩] x o → M0 x o ∨ x = g' := by
    rintro x o (h | ⟨i, k, base, n, rl, esz, hi, hat, -⟩)
    · exact .inl h
    · by_cases h0 : i = 0
      · subst h0
        rw [updL_same] at hat
        cases hat
        exact .inr rfl
      · rw [updL_ne _ _ h0, habs] at hat
        cases hat
  refine ⟨_, updL ρ 0 (.at_ g' 0 cur.size zs.length 1), rfl, ?_, ?_, by simp, fun i hi => absurd hi (by simp), ?_, ?_⟩
  · have := Rep.ref (w := W') (M := Mof M0 (updL ρ 0 (.at_ g' 0 cur.size zs.length 1)) [⟨zs.map fun z => [.int .i64 z], 1, .mut⟩]) 0 0 zs.length cap' g' 0 cur.size zs.length 1 (updL_same ρ 0 _) (by omega) (by omega) (by omega)
    simpa using this
  · refine ⟨?_, ?_, ?_, ?_, ?_⟩
    · intro i k g2 base n rl esz hi hat
      by_cases h0 : i = 0
      · subst h0
        rw [updL_same] at hat
        cases hat
        cases hi
        refine ⟨by simp, rfl, by simp, by omega, cur, 3, hh, Nat.le_refl _, ?_⟩
        intro kk j r d hr hd
        rw [List.getElem?_map] at hr
        cases hz : zs[kk]? with
        | none => simp [hz] at hr
        | some z =>
          simp [hz] at hr
          subst hr
          cases j with
          | succ j => simp at hd
          | zero =>
            simp at hd
            subst hd
            have hlt := (List.getElem?_eq_some_iff.1 hz).1
            exact ⟨_, by simpa using hcur kk hlt, by rw [hz]; exact .int _ _⟩
      · rw [updL_ne _ _ h0, habs] at hat
        cases hat
    · intro i k hi hv
      by_cases h0 : i = 0
      · subst h0
        rw [updL_same] at hv
        cases hv
      · rw [updL_ne _ _ h0, habs] at hv
        cases hv
    · intro i hi
      have : i ≠ 0 := by simp at hi; omega
      rw [updL_ne _ _ this]
      exact habs i
    · intro i j g2 base n rl esz base' n' rl' esz' hi hj
      have hz : ∀ i, ∀ {base n rl esz}, updL ρ 0 (.at_ g' 0 cur.size zs.length 1) i = .at_ g2 base n rl esz → i = 0 := by
        intro i base n rl esz h
        by_cases h0 : i = 0
        · exact h0
        · rw [updL_ne _ _ h0, habs] at h
          cases h
      rw [hz i hi, hz j hj]
    · intro i g2 base n rl esz hi o hm
      by_cases h0 : i = 0
      · subst h0
        rw [updL_same] at hi
        cases hi
        have := hM _ _ hm
        omega
      · rw [updL_ne _ _ h0, habs] at hi
        cases hi
  · intro x o v hn hv
    have hx := cell_lt hv
    refine ⟨fun hm => ?_, (hB.cell (p := ⟨x, o, none⟩) hx).trans hv⟩
    rcases hMof _ _ hm with h | h
    · exact hn (.inl h)
    · subst h; omega
  · refine ⟨hB.size, hB.os, hB.tape, hB.output, fun g2 h2 _ => hB.block g2 h2, ?_⟩
    intro i g2 base n rl esz _ hi
    by_cases h0 : i = 0
    · subst h0
      rw [updL_same] at hi
      cases hi
      exact hgw
    · rw [updL_ne _ _ h0, habs] at hi
      cases hi
set_option maxRecDepth 100000 in
set_option maxHeartbeats 2000000 in
theorem len64_two (w : World) : Calls PP 253 #[.int .u64 2] w fun e w' => e = .returned (.int .i64 2) ∧ w' = w := by
  go_enter Tryz.func253, Tryz.ntmps253
  go_wp2
  all_goals go_ret
  all_goals refine ⟨congrArg Ending.returned (congrArg (Value.int IntKind.i64) ?_), rfl⟩
  all_goals first | decide | kernel_rfl | rfl
set_option maxRecDepth 100000 in
set_option maxHeartbeats 2000000 in
theorem len_two (w : World) : Calls PP 235 #[.int .u64 2] w fun e w' => e = .returned (.int .i64 2) ∧ w' = w := by
  go_enter Tryz.func235, Tryz.ntmps235
  go_wp2_with (go_at_call 253; refine (len64_two _).mono ?_; rintro e w' ⟨rfl, rfl⟩)
  all_goals go_ret
  all_goals exact ⟨rfl, rfl⟩
theorem len_den : Den PP 235 [.int .u64 2] [] (.int .i64 2) [] := by
  refine ⟨⟨_, Tryz.func235, by kernel_rfl, rfl⟩, fun w M0 ρ vals hM hS hs ha => ?_⟩
  obtain ⟨v0, rfl⟩ := arr_one hs
  obtain rfl := (ha 0 v0 _ (by simp) rfl).int_inv
  refine (len_two w).mono ?_
  rintro e w' ⟨rfl, rfl⟩
  exact ⟨_, ρ, rfl, .imm _ _ (.int _ _), hS, Nat.le_refl _, fun _ _ => rfl, Pres.refl _ _, ⟨Nat.le_refl _, rfl, rfl, rfl, fun _ _ _ => rfl, fun i g base n rl esz hi hat => by rw [hS.out i hi] at hat; cases hat⟩⟩
end Go.AM
/- AM: contracts: small parts. -/
namespace Go.AM
set_option linter.unusedSimpArgs false
set_option linter.unusedVariables false
set_option maxRecDepth 8000
set_option maxHeartbeats 0
theorem law_Num (a : Int) : Den PP 15 [.int .i64 a] [] (.int .i64 a) [] := by
  refine den_of [] [] is_gimmallaw0_Num ?_
  simp -implicitDefEqProofs [c_gimmallaw0_Num]

theorem cmp_isNaN (a : Int) : Den PP 216 [.int .i64 a] [] (.bool false) [] := by
  refine den_of [] [] is_cmp_isNaN_int ?_
  simp -implicitDefEqProofs [c_cmp_isNaN_int]

theorem cmp_Compare (a b : Int) : Den PP 168 [.int .i64 a, .int .i64 b] [] (.int .i64 (cmpI a b)) [] := by
  refine den_of [] [] is_cmp_Compare_int ?_
  simp -implicitDefEqProofs [c_cmp_Compare_int]
  refine callThen_of (cmp_isNaN a) ?_
  simp -implicitDefEqProofs
  refine callThen_of (cmp_isNaN b) ?_
  simp -implicitDefEqProofs
  refine condC_dec (fun h => ?_) (fun h => ?_) <;> simp -implicitDefEqProofs [h, cmpI]
  refine condC_dec (fun h2 => ?_) (fun h2 => ?_) <;> simp -implicitDefEqProofs [h2]

theorem row_By (a : Int) : Den PP 141 [.int .i64 a] [] (.fn 203 [] [.mem [.int .i64 a]]) [] := by
  refine den_of [] [] is_row_By ?_
  simp -implicitDefEqProofs [c_row_By, expPtr]
theorem row_By_1 (base a b : Int) : Den PP 203 [.int .i64 a, .int .i64 b, .mem [.int .i64 base]] [] (.int .i64 (cmpI (far base a) (far base b))) [] := by
  refine den_of [] [] is_row_By_1 ?_
  simp -implicitDefEqProofs [c_row_By_1]
  refine callThen_of (ring_Far base a) ?_
  simp -implicitDefEqProofs
  refine callThen_of (ring_Far base b) ?_
  simp -implicitDefEqProofs
  refine callThen_of (cmp_Compare _ _) ?_
  simp -implicitDefEqProofs

theorem peers_order_find (base : Int) (p : Peer) (id : Int) : Den PP 227 [.agg [.int .i64 base], .agg p.row, .int .i64 id] [] (.int .i64 (cmpI (far base p.id) (far base id))) [] := by
  refine den_of [] [] is_peers_order_find ?_
  simp -implicitDefEqProofs [c_peers_order_find, Peer.row]
  refine callThen_of (ring_Far base p.id) ?_
  simp -implicitDefEqProofs
  refine callThen_of (ring_Far base id) ?_
  simp -implicitDefEqProofs
  refine callThen_of (cmp_Compare _ _) ?_
  simp -implicitDefEqProofs

theorem view_Succ_1 (x : Int) (xs : List Int) : Den PP 137 [intsD (x :: xs)] [] (.int .i64 x) [] := by
  refine den_of [] [] is_view_Succ_1 ?_
  simp -implicitDefEqProofs [c_view_Succ_1, intsD, irow]
end Go.AM
/- AM: contracts: loops over places. -/
namespace Go.AM
set_option linter.unusedSimpArgs false
set_option linter.unusedVariables false
set_option maxRecDepth 8000
set_option maxHeartbeats 0
theorem ring_Places (xs : List Int) (hl : xs.length ≤ cap) : Den PP 119 [intsD xs] [] (.bool (xs.all place)) [] := by
  refine den_of [] [] is_ring_Places ?_
  simp -implicitDefEqProofs [c_ring_Places, intsD]
  refine anyLoop_of (xs.length + 1) ?_
  have key : ∀ (Q : Ex → St → Prop) (r : Bool) (hQ1 : ∀ fr, r = true → Q .normal ⟨fr, []⟩) (hQ2 : ∀ fr bs, r = false → fr 2 = .bool false → Q .ret ⟨fr, bs⟩) (rest : List Int) (i : Nat) (fr : Nat → D), xs.drop i = rest → i ≤ xs.length →
      fr 0 = intsD xs → fr 5 = intsD xs → fr 6 = .int .i64 xs.length → fr 7 = .int .i64 i → rest.all place = r → sLoop (cf 0 [] []) 0 c_ring_Places_L0 (blockQ 0 Q) (rest.length + 1) ⟨fr, []⟩ := by
    intro Q r hQ1 hQ2 rest
    induction rest with
    | nil =>
      intro i fr e hi h0 h5 h6 h7 hm
      refine sLoop_body c_ring_Places_L0.eq_1 ?_
      have hi' := drop_nil e hi
      simp -implicitDefEqProofs [h0, h5, h6, h7, hi']
      exact hQ1 _ hm.symm
    | cons x rest ih =>
      intro i fr e hi h0 h5 h6 h7 hm
      refine sLoop_body c_ring_Places_L0.eq_1 ?_
      obtain ⟨hlt, hget, hd, hlen⟩ := drop_cons e
      have hlt' : (i : Int) < xs.length := by omega
      simp -implicitDefEqProofs [h0, h5, h6, h7, hlt', hget, intsD, irow]
      refine callThen_of (ring_Place x) ?_
      simp -implicitDefEqProofs
      refine condC_not (fun h1 => ?_) (fun h1 => ?_)
      all_goals simp -implicitDefEqProofs [h1, h0, h5, h6, h7, wrap_next (show i ≤ 140737488355328 by unfold cap at hl; omega)]
      · exact ih (i + 1) _ hd (by omega) (by simp [h0, h5, h6, h7, intsD]) (by simp [h0, h5, h6, h7, intsD]) (by simp [h0, h5, h6, h7]) (by simp) (by rw [← hm]; simp [h1])
      · exact hQ2 _ _ (by rw [← hm]; simp [h1]) (by rfl)
  refine key _ (xs.all place) (fun fr h => ?_) (fun fr bs h h2 => ?_) xs 0 _ rfl (Nat.zero_le _) rfl rfl rfl rfl rfl
  · simp -implicitDefEqProofs [h]
  · simp -implicitDefEqProofs [h, h2]

theorem passive_May (xs : List Int) (hl : xs.length ≤ cap) : Den PP 132 [intsD xs] [] (.bool (passiveMay xs)) [] := by
  refine den_of [] [] is_passive_May ?_
  simp -implicitDefEqProofs [c_passive_May, intsD]
  refine anyLoop_of (xs.length + 1) ?_
  have key : ∀ (Q : Ex → St → Prop) (r : Bool) (hQ1 : ∀ fr, r = true → fr 0 = .sl (xs.map irow) xs.length → Q .normal ⟨fr, []⟩) (hQ2 : ∀ fr bs, r = false → fr 2 = .bool false → Q .ret ⟨fr, bs⟩) (rest : List Int) (i : Nat) (fr : Nat → D), xs.drop i = rest → i ≤ xs.length →
      fr 0 = .sl (xs.map irow) xs.length → fr 5 = .sl (xs.map irow) xs.length → fr 6 = .int .i64 xs.length → fr 7 = .int .i64 i → ups (if i = 0 then none else xs[i - 1]?) rest = r → sLoop (cf 0 [] []) 0 c_passive_May_L0 (blockQ 0 Q) (rest.length + 1) ⟨fr, []⟩ := by
    intro Q r hQ1 hQ2 rest
    induction rest with
    | nil =>
      intro i fr e hi h0 h5 h6 h7 hm
      refine sLoop_body c_passive_May_L0.eq_1 ?_
      have hi' := drop_nil e hi
      simp -implicitDefEqProofs [h0, h5, h6, h7, hi']
      exact hQ1 _ hm.symm (by simp [h0, h5, h6, h7])
    | cons x rest ih =>
      intro i fr e hi h0 h5 h6 h7 hm
      refine sLoop_body c_passive_May_L0.eq_1 ?_
      obtain ⟨hlt, hget, hd, hlen⟩ := drop_cons e
      have hlt' : (i : Int) < xs.length := by omega
      have hw := wrap_next (show i ≤ 140737488355328 by unfold cap at hl; omega)
      have hprev : (if i + 1 = 0 then none else xs[i + 1 - 1]?) = some x := by simp [hget]
      simp only [ups] at hm
      simp -implicitDefEqProofs [h0, h5, h6, h7, hlt', hget, irow]
      refine callThen_of (ring_Place x) ?_
      simp -implicitDefEqProofs [h0, h5, h6, h7]
      refine gOps_split (fun h1 => ?_) (fun h1 => ?_)
      rotate_left
      · simp -implicitDefEqProofs [h1, h0, h5, h6, h7]
        exact hQ2 _ _ (by rw [← hm]; simp [h1]) (by rfl)
      simp -implicitDefEqProofs [h1, h0, h5, h6, h7]
      by_cases hi0 : i = 0
      · simp -implicitDefEqProofs [hi0, h0, h5, h6, h7]
        simp -implicitDefEqProofs [hi0] at hw
        simp -implicitDefEqProofs [hw]
        refine ih 1 _ (by rw [← hd, hi0]) (by omega) (by simp [h0, h5, h6, h7]) (by simp [h0, h5, h6, h7]) (by simp [h0, h5, h6, h7]) (by simp) ?_
        rw [hi0] at hprev hm
        rw [← hm]
        simp [h1] at hprev ⊢
        rw [hprev]
      · have hpos : 0 < i := by omega
        have hwp : IntKind.wrap .i64 ((i : Int) - 1) = ((i - 1 : Nat) : Int) := by unfold cap at hl; rw [wrap_in (by omega) (by omega)]; omega
        have hlt2 : ((i - 1 : Nat) : Int) < xs.length := by omega
        obtain ⟨y, hy⟩ : ∃ y, xs[i - 1]? = some y := ⟨xs[i - 1], by simp⟩
        rw [if_neg hi0, hy] at hm
        simp -implicitDefEqProofs [hpos, h0, h5, h6, h7, hwp, hlt2, hy, irow]
        refine condC_dec (fun h2 => ?_) (fun h2 => ?_)
        all_goals simp -implicitDefEqProofs [h2, h0, h5, h6, h7, hw]
        · exact hQ2 _ _ (by rw [← hm]; simp; intros; omega) (by rfl)
        · refine ih (i + 1) _ hd (by omega) (by simp [h0, h5, h6, h7]) (by simp [h0, h5, h6, h7]) (by simp [h0, h5, h6, h7]) (by simp) ?_
          rw [hprev, ← hm, h1]
          simp [show y < x by omega]
  refine key _ (ups none xs) (fun fr h h0 => ?_) (fun fr bs h h2 => ?_) xs 0 _ rfl (Nat.zero_le _) rfl rfl rfl rfl rfl
  · simp -implicitDefEqProofs [h, h0, passiveMay]
    omega
  · simp -implicitDefEqProofs [h, h2, passiveMay]

def TellsI (f : Nat) (caps : List D) (p : Int → Bool) (xs : List Int) : Prop := (∀ bs, caps.map (D.freeze bs) = caps) ∧ (∀ fr fp, mapRL fr fp caps = caps) ∧ ∀ x ∈ xs, Den PP f (.int .i64 x :: caps) [] (.bool (p x)) []
theorem slices_IndexFunc_int (xs : List Int) (hl : xs.length ≤ cap) (f : Nat) (caps : List D) (p : Int → Bool) (hp : TellsI f caps p xs) : Den PP 165 [intsD xs, .fn f [] caps] [] (.int .i64 (fIdx p 0 xs)) [] := by
  refine den_of [] [] is_slices_IndexFunc_int_int ?_
  simp -implicitDefEqProofs [c_slices_IndexFunc_int_int, intsD]
  refine anyLoop_of (xs.length + 1) ?_
  have key : ∀ (Q : Ex → St → Prop) (r : Int) (hQ1 : ∀ fr, r = -1 → Q .normal ⟨fr, []⟩) (hQ2 : ∀ fr bs, fr 4 = .int .i64 r → Q .ret ⟨fr, bs⟩) (rest : List Int) (i : Nat) (fr : Nat → D), xs.drop i = rest → i ≤ xs.length →
      fr 0 = .sl (xs.map irow) xs.length → fr 1 = .fn f [] caps → fr 7 = .int .i64 xs.length → fr 8 = .int .i64 i → fIdx p i rest = r → sLoop (cf 0 [] []) 0 c_slices_IndexFunc_int_int_L0 (blockQ 0 Q) (rest.length + 1) ⟨fr, []⟩ := by
    intro Q r hQ1 hQ2 rest
    induction rest with
    | nil =>
      intro i fr e hi h0 h1 h7 h8 hm
      refine sLoop_body c_slices_IndexFunc_int_int_L0.eq_1 ?_
      have hi' := drop_nil e hi
      simp -implicitDefEqProofs [h0, h1, h7, h8, hi']
      exact hQ1 _ hm.symm
    | cons x rest ih =>
      intro i fr e hi h0 h1 h7 h8 hm
      refine sLoop_body c_slices_IndexFunc_int_int_L0.eq_1 ?_
      obtain ⟨hlt, hget, hd, hlen⟩ := drop_cons e
      have hlt' : (i : Int) < xs.length := by omega
      have hw := wrap_next (show i ≤ 140737488355328 by unfold cap at hl; omega)
      simp -implicitDefEqProofs [h0, h1, h7, h8, hlt', hget, irow, hp.1]
      refine callThen_of (hp.2.2 x (List.mem_of_getElem? hget)) ?_
      simp only [fIdx] at hm
      simp -implicitDefEqProofs
      refine condC_split (fun h2 => ?_) (fun h2 => ?_)
      all_goals simp -implicitDefEqProofs [h2, h0, h1, h7, h8, hw]
      · exact hQ2 _ _ (by rw [← hm, h2]; simp)
      · exact ih (i + 1) _ hd (by omega) (by simp [h0, h1, h7, h8]) (by simp [h0, h1, h7, h8, hp.2.1]) (by simp [h0, h1, h7, h8]) (by simp) (by rw [← hm, h2]; simp)
  refine key _ (fIdx p 0 xs) (fun fr h => ?_) (fun fr bs h => ?_) xs 0 _ rfl (Nat.zero_le _) rfl rfl rfl rfl rfl
  · simp -implicitDefEqProofs [h]
  · simp -implicitDefEqProofs [h]

theorem slices_ContainsFunc_int (xs : List Int) (hl : xs.length ≤ cap) (f : Nat) (caps : List D) (p : Int → Bool) (hp : TellsI f caps p xs) : Den PP 79 [intsD xs, .fn f [] caps] [] (.bool (xs.any p)) [] := by
  refine den_of [] [] is_slices_ContainsFunc_int_int ?_
  simp -implicitDefEqProofs [c_slices_ContainsFunc_int_int, intsD, hp.2.1]
  refine callThen_of (slices_IndexFunc_int xs hl f caps p hp) ?_
  have := fIdx_any p xs 0
  simp -implicitDefEqProofs [← this]

theorem bsearch_Peer (base : Int) (ps : List Peer) (id : Int) (hl : ps.length ≤ cap) (at_ : Nat) (hat : at_ ≤ ps.length)
    (hlo : ∀ i p, i < at_ → ps[i]? = some p → far base p.id < far base id) (hhi : ∀ i p, at_ ≤ i → ps[i]? = some p → far base id ≤ far base p.id) :
    Den PP 228 [peersD ps, .int .i64 id, .fn 227 [.agg [.int .i64 base]] []] [] (.tup [.int .i64 at_, .bool (isFar base id ps[at_]?)]) [] := by
  refine den_of [] [] is_slices_BinarySearchFunc_api_Peer_api_Peer_int ?_
  simp -implicitDefEqProofs [c_slices_BinarySearchFunc_api_Peer_api_Peer_int, peersD]
  refine anyLoop_of (ps.length + 1) ?_
  have key : ∀ (Q : Ex → St → Prop) (hQ1 : ∀ fr, fr 0 = .sl (ps.map Peer.row) ps.length → fr 1 = .int .i64 id → fr 2 = .fn 227 [.agg [.int .i64 base]] [] → fr 8 = .int .i64 ps.length → fr 9 = .int .i64 at_ → Q .normal ⟨fr, []⟩) (d lo hi : Nat) (fr : Nat → D), hi - lo ≤ d → lo ≤ at_ → at_ ≤ hi → hi ≤ ps.length →
      fr 0 = .sl (ps.map Peer.row) ps.length → fr 1 = .int .i64 id → fr 2 = .fn 227 [.agg [.int .i64 base]] [] → fr 8 = .int .i64 ps.length → fr 9 = .int .i64 lo → fr 10 = .int .i64 hi → sLoop (cf 0 [] []) 0 c_slices_BinarySearchFunc_api_Peer_api_Peer_int_L0 (blockQ 0 Q) (d + 1) ⟨fr, []⟩ := by
    intro Q hQ1 d
    induction d with
    | zero =>
      intro lo hi fr hd h3 h4 h5 h0 h1 h2 h8 h9 h10
      refine sLoop_body c_slices_BinarySearchFunc_api_Peer_api_Peer_int_L0.eq_1 ?_
      have e1 : lo = at_ := by omega
      have e2 : hi = at_ := by omega
      simp -implicitDefEqProofs [h0, h1, h2, h8, h9, h10, e1, e2]
      exact hQ1 _ (by simp [h0, h1, h2, h8, h9, h10]) (by simp [h0, h1, h2, h8, h9, h10]) (by simp [h0, h1, h2, h8, h9, h10]) (by simp [h0, h1, h2, h8, h9, h10]) (by simp [h0, h1, h2, h8, h9, h10, e1])
    | succ d ih =>
      intro lo hi fr hd h3 h4 h5 h0 h1 h2 h8 h9 h10
      refine sLoop_body c_slices_BinarySearchFunc_api_Peer_api_Peer_int_L0.eq_1 ?_
      by_cases hlt : lo < hi
      · have hlt' : (lo : Int) < hi := by omega
        have hm := mid_eq (lo := lo) (hi := hi) (by omega) (by omega)
        have hml : (lo + hi) / 2 < ps.length := by omega
        have hml' : (((lo + hi) / 2 : Nat) : Int) < ps.length := by omega
        have hw := wrap_next (n := (lo + hi) / 2) (by unfold cap at hl; omega)
        have hb1 : lo ≤ (lo + hi) / 2 := by omega
        have hb2 : (lo + hi) / 2 < hi := by omega
        generalize (lo + hi) / 2 = mid at *
        simp -implicitDefEqProofs [h0, h1, h2, h8, h9, h10, hlt', hlt, hm, hml, hml', Peer.row]
        refine callThen_of (peers_order_find base ps[mid] id) ?_
        simp -implicitDefEqProofs [cmpI_neg]
        refine condC_dec (fun hc => ?_) (fun hc => ?_)
        all_goals simp -implicitDefEqProofs [h0, h1, h2, h8, h9, h10, hc, hw]
        · have : mid < at_ := by
            apply Classical.byContradiction
            intro hx
            have := hhi mid ps[mid] (by omega) (by simp)
            omega
          refine ih (mid + 1) hi _ (by omega) (by omega) (by omega) (by omega) (by simp [h0, h1, h2, h8, h9, h10]) (by simp [h0, h1, h2, h8, h9, h10]) (by simp [h0, h1, h2, h8, h9, h10]) (by simp [h0, h1, h2, h8, h9, h10]) (by simp) (by simp [h0, h1, h2, h8, h9, h10])
        · have : at_ ≤ mid := by
            apply Classical.byContradiction
            intro hx
            have := hlo mid ps[mid] (by omega) (by simp)
            omega
          refine ih lo mid _ (by omega) (by omega) (by omega) (by omega) (by simp [h0, h1, h2, h8, h9, h10]) (by simp [h0, h1, h2, h8, h9, h10]) (by simp [h0, h1, h2, h8, h9, h10]) (by simp [h0, h1, h2, h8, h9, h10]) (by simp [h0, h1, h2, h8, h9, h10]) (by simp)
      · have e1 : lo = at_ := by omega
        have e2 : hi = at_ := by omega
        simp -implicitDefEqProofs [h0, h1, h2, h8, h9, h10, e1, e2]
        exact hQ1 _ (by simp [h0, h1, h2, h8, h9, h10]) (by simp [h0, h1, h2, h8, h9, h10]) (by simp [h0, h1, h2, h8, h9, h10]) (by simp [h0, h1, h2, h8, h9, h10]) (by simp [h0, h1, h2, h8, h9, h10, e1])
  refine key _ (fun fr h0 h1 h2 h8 h9 => ?_) ps.length 0 ps.length _ (by omega) (by omega) hat (Nat.le_refl _) rfl rfl rfl rfl rfl rfl
  simp -implicitDefEqProofs [h0, h1, h2, h8, h9]
  refine gOps_dec (fun hc => ?_) (fun hc => ?_)
  · simp -implicitDefEqProofs [h0, h1, h2, h8, h9, hc, Peer.row]
    refine callThen_of (peers_order_find base ps[at_] id) ?_
    simp -implicitDefEqProofs [cmpI_beq, cmpI_zero, hc, isFar]
  · have hp : ps[at_]? = none := by rw [List.getElem?_eq_none]; omega
    simp -implicitDefEqProofs [h0, h1, h2, h8, h9, hc, hp, isFar]

theorem peers_Find (base : Int) (ps : List Peer) (id : Int) (hl : ps.length ≤ cap) (hr : Rowed base ps) :
    Den PP 193 [.int .i64 base, peersD ps, .int .i64 id] [] (.tup [.int .i64 (findAt base ps id), .bool (peerIs base ps id)]) [] := by
  refine den_of [] [] is_peers_Find ?_
  simp -implicitDefEqProofs [c_peers_Find, peersD]
  refine callThen_of (bsearch_Peer base ps id hl (findAt base ps id) (findAt_le _ _ _) findAt_lo (findAt_hi hr)) ?_
  simp -implicitDefEqProofs [peerIs]

theorem view_Peer (v : View) (id : Int) (hl : v.peers.length ≤ cap) (hr : Rowed v.id v.peers) : Den PP 121 [.mem v.cells, .int .i64 id] [] (.bool (peerIs v.id v.peers id)) [] := by
  refine den_of [] [] is_view_Peer ?_
  simp -implicitDefEqProofs [c_view_Peer, View.cells, peersD]
  refine callThen_of (peers_Find v.id v.peers id hl hr) ?_
  simp -implicitDefEqProofs

theorem view_May_1 (v : View) (id : Int) (hl : v.peers.length ≤ cap) (hr : Rowed v.id v.peers) : Den PP 182 [.int .i64 id, .mem v.cells] [] (.bool (oddIn v id)) [] := by
  refine den_of [] [] is_view_May_1 ?_
  simp -implicitDefEqProofs [c_view_May_1, View.cells, peersD]
  refine gOps_not (fun h => ?_) (fun h => ?_) <;> simp -implicitDefEqProofs [h, oddIn]
  refine callThen_of (view_Peer v id hl hr) ?_
  simp -implicitDefEqProofs

theorem view_May (v : View) (hs : v.small) : Den PP 109 [viewD v] [] (.bool (viewMay v)) [] := by
  refine den_of [] [] is_view_May ?_
  simp -implicitDefEqProofs [c_view_May, viewD, View.cells, peersD, intsD]
  refine callThen_of (peers_May v.id v.peers (cap_of hs.1)) ?_
  simp -implicitDefEqProofs
  refine gOps_split (fun h1 => ?_) (fun h1 => ?_)
  rotate_left
  · simp -implicitDefEqProofs [h1, viewMay]
  simp -implicitDefEqProofs [h1]
  refine callThen_of (passive_May v.passive hs.2) ?_
  simp -implicitDefEqProofs
  refine gOps_split (fun h2 => ?_) (fun h2 => ?_)
  rotate_left
  · simp -implicitDefEqProofs [h2, h1, viewMay]
  have hw : IntKind.wrap .i64 ((v.peers.length : Int) + v.passive.length) = v.peers.length + v.passive.length := by
    obtain ⟨a, b⟩ := hs
    unfold cap16 at a
    unfold cap at b
    exact wrap_in (by omega) (by omega)
  simp -implicitDefEqProofs [h2, hw]
  refine condC_dec (fun h3 => ?_) (fun h3 => ?_)
  · simp -implicitDefEqProofs [h3, viewMay]
    intros
    omega
  simp -implicitDefEqProofs [h3]
  refine callThen_of (slices_ContainsFunc_int v.passive hs.2 _ _ (oddIn v) ⟨fun bs => rfl, fun fr fp => rfl, fun x _ => view_May_1 v x (cap_of hs.1) (peersMay_rowed h1)⟩) ?_
  simp -implicitDefEqProofs [viewMay, h1, h2]
  intros
  omega
end Go.AM
/- AM: contracts: a view's ends. -/
namespace Go.AM
set_option linter.unusedSimpArgs false
set_option linter.unusedVariables false
set_option maxRecDepth 8000
set_option maxHeartbeats 0
theorem view_Ids (v : View) (hl : v.peers.length ≤ cap16) : Den PP 108 [.mem v.cells] [] (.ref 0 0 v.peers.length) [⟨v.peers.map fun p => irow p.id, 1, .mut⟩] := by
  refine den_of [] [] is_view_Ids ?_
  simp -implicitDefEqProofs [c_view_Ids, View.cells, peersD]
  refine anyLoop_of (v.peers.length + 1) ?_
  have key : ∀ (Q : Ex → St → Prop) (hQ1 : ∀ fr, fr 3 = .ref 1 0 v.peers.length → Q .normal ⟨fr, [⟨[], 1, .mut⟩, ⟨v.peers.map fun p => irow p.id, 1, .mut⟩]⟩) (rest : List Peer) (i : Nat) (fr : Nat → D), v.peers.drop i = rest → i ≤ v.peers.length →
      fr 3 = .ref 1 0 i → fr 9 = .sl (v.peers.map Peer.row) v.peers.length → fr 10 = .int .i64 v.peers.length → fr 11 = .int .i64 i → sLoop (cf 0 [] []) 2 c_view_Ids_L0 (blockQ 0 Q) (rest.length + 1) ⟨fr, [⟨[], 1, .mut⟩, ⟨(v.peers.map fun p => irow p.id).take i, 1, .mut⟩]⟩ := by
    intro Q hQ1 rest
    induction rest with
    | nil =>
      intro i fr e hi h3 h9 h10 h11
      refine sLoop_body c_view_Ids_L0.eq_1 ?_
      have hi' := drop_nil e hi
      have hall : (v.peers.map fun p => irow p.id).take v.peers.length = v.peers.map fun p => irow p.id := List.take_of_length_le (by simp)
      simp -implicitDefEqProofs [h3, h9, h10, h11, hi', hall]
      exact hQ1 _ (by simp [h3, h9, h10, h11, hi'])
    | cons p rest ih =>
      intro i fr e hi h3 h9 h10 h11
      refine sLoop_body c_view_Ids_L0.eq_1 ?_
      obtain ⟨hlt, hget, hd, hlen⟩ := drop_cons e
      have hlt' : (i : Int) < v.peers.length := by omega
      have hw := wrap_next (n := i) (by unfold cap16 at hl; omega)
      have hb1 : (i + 1) * 8 ≤ 140737488355328 := by unfold cap16 at hl; omega
      have hb2 : i ≤ 9223372036854775806 := by unfold cap16 at hl; omega
      have hmin : min i v.peers.length = i := Nat.min_eq_left hi
      have htk : (v.peers.map fun p => irow p.id).take (i + 1) = (v.peers.map fun p => irow p.id).take i ++ [[.int .i64 p.id]] := by
        rw [List.take_add_one, List.getElem?_map, hget]
        rfl
      have := ih (i + 1)
      rw [htk] at this
      simp -implicitDefEqProofs [h3, h9, h10, h11, hlt', hget, Peer.row, hw, hb1, hb2, hmin, Fits]
      exact this _ hd (by omega) (by simp [h3, h9, h10, h11]) (by simp [h3, h9, h10, h11]) (by simp [h3, h9, h10, h11]) (by simp)
  refine key _ (fun fr h3 => ?_) v.peers 0 _ rfl (Nat.zero_le _) rfl rfl rfl rfl
  simp -implicitDefEqProofs [h3]

end Go.AM
/- AM: contracts: the library's functions over slices. -/
namespace Go.AM
set_option linter.unusedSimpArgs false
set_option linter.unusedVariables false
set_option maxRecDepth 8000
set_option maxHeartbeats 0
theorem clone_int (rows : List (List D)) (hf : Fits 1 rows) (hl : rows.length * 8 ≤ 140737488355328) : Den PP 184 [.sl rows rows.length] [] (.ref 0 0 rows.length) [⟨rows, 1, .mut⟩] := by
  cases hr : rows with
  | nil =>
    refine den_zs (pre := []) (post := []) ?_ ?_
    · refine den_of [] [] is_slices_Clone_int_int ?_
      simp -implicitDefEqProofs [c_slices_Clone_int_int]
    · refine den_of [] [] is_slices_Clone_int_int ?_
      simp -implicitDefEqProofs [c_slices_Clone_int_int, Fits]
  | cons r rs =>
    rw [hr] at hf hl
    have h63 : (r :: rs).length ≤ 9223372036854775807 := by omega
    have hlen : 0 < (r :: rs).length := by simp
    generalize hn : (r :: rs).length = n at *
    generalize r :: rs = rows at *
    refine den_of [] [] is_slices_Clone_int_int ?_
    simp -implicitDefEqProofs [c_slices_Clone_int_int, hlen, List.take_of_length_le (Nat.le_of_eq hn), hf, hn, hl, h63]
theorem insert_int (rows : List (List D)) (v : List D) (at_ : Nat) (hf : Fits 1 rows) (hst : StillR rows) (hv : Fits 1 [v]) (hvs : ∀ d ∈ v, d.still = true) (hat : at_ ≤ rows.length) (hl : rows.length ≤ 1000000) :
    GivesC (DenF PP [0]) 186 rows 1 [.int .i64 at_, .sl [v] 1] (insL rows at_ v) := by
  refine gives_of (fun r hr => (hf r hr).1) hst fun fl hfl hrow hfs htake hget => ?_
  have hv1 : v.length = 1 := (hv v (by simp)).1
  obtain ⟨c0, cs0, hvv⟩ : ∃ c0 cs0, v = c0 :: cs0 := by
    cases v with
    | nil => simp at hv1
    | cons a b => exact ⟨a, b, rfl⟩
  have hvS : StillR [v] := by intro r hr; rw [List.mem_singleton.1 hr]; exact hvs
  generalize hn : rows.length = n at *
  have w1 : IntKind.wrap .i64 ((n : Int) + 1) = n + 1 := wrap_in (by omega) (by omega)
  have w2 : IntKind.wrap .i64 ((at_ : Int) + 1) = at_ + 1 := wrap_in (by omega) (by omega)
  have w3 : IntKind.wrap .i64 ((n : Int) + 1 - at_) = ((n + 1 - at_ : Nat) : Int) := by rw [wrap_in (by omega) (by omega)]; omega
  by_cases h1 : at_ = n
  · subst h1
    by_cases h2 : at_ + 1 ≤ fl.length
    · refine ⟨.ref 0 0 (at_ + 1), [⟨ovr fl at_ [v], 1, .mut⟩], ?_, ?_⟩
      · refine denF_of [] [66] [] [221] (by simp) ovls221 is_slices_Insert_int_int ?_
        simp -implicitDefEqProofs [-leave, c_slices_Insert_int_int]
        refine outK_slice (at_) (at_) (by simp; rfl) rfl (by first | rfl | omega | (simp [boundD]; done) | (simp [boundD]; omega) | (simp; done) | (simp; omega) | (simp [*]; done) | (simp [*]; omega)) (by first | rfl | omega | (simp [boundD]; done) | (simp [boundD]; omega) | (simp; done) | (simp; omega) | (simp [*]; done) | (simp [*]; omega)) (by omega) (by first | rfl | omega | (simp [boundD]; done) | (simp [boundD]; omega) | (simp; done) | (simp; omega) | (simp [*]; done) | (simp [*]; omega)) rfl (by first | rfl | omega | (simp [boundD]; done) | (simp [boundD]; omega) | (simp; done) | (simp; omega) | (simp [*]; done) | (simp [*]; omega)) ?_
        simp -implicitDefEqProofs [-leave, hv]
        repeat' (first | (refine appK2_if (by omega) ?_) | (refine appK2_else (by omega) ?_))
        simp -implicitDefEqProofs [-leave, hv, h2]
        rw [leave_lent (by omega) (by simpa using ((hfs.take _).append hvS).append (hfs.drop _))]
        simp [ovr]
      · exact outRows_of rfl rfl rfl (by rw [ovr_length (by simpa using h2)]; omega) (ins_rows1 hn h2 htake) (.inl rfl)
    · have h3 : fl.length = at_ := by omega
      refine ⟨.ref 1 0 (at_ + 1), [⟨fl, 1, .mut⟩, ⟨fl.take at_ ++ [v], 1, .mut⟩], ?_, ?_⟩
      · refine denF_of [] [66] [] [221] (by simp) ovls221 is_slices_Insert_int_int ?_
        simp -implicitDefEqProofs [-leave, c_slices_Insert_int_int]
        by_cases h0 : at_ = 0
        · refine outK_slice (at_) (at_) (by simp; rfl) rfl (by first | rfl | omega | (simp [boundD]; done) | (simp [boundD]; omega) | (simp; done) | (simp; omega) | (simp [*]; done) | (simp [*]; omega)) (by first | rfl | omega | (simp [boundD]; done) | (simp [boundD]; omega) | (simp; done) | (simp; omega) | (simp [*]; done) | (simp [*]; omega)) (by omega) (by first | rfl | omega | (simp [boundD]; done) | (simp [boundD]; omega) | (simp; done) | (simp; omega) | (simp [*]; done) | (simp [*]; omega)) rfl (by first | rfl | omega | (simp [boundD]; done) | (simp [boundD]; omega) | (simp; done) | (simp; omega) | (simp [*]; done) | (simp [*]; omega)) ?_
          simp -implicitDefEqProofs [-leave, hv, h3]
          repeat' (first | (refine appK2_if (by omega) ?_) | (refine appK2_else (by omega) ?_))
          simp -implicitDefEqProofs [-leave, hv, h3]
          rw [leave_new (by omega) rfl rfl (by simpa using hfs)]
          rfl
        · refine outK_sliceE (at_) (by simp; rfl) rfl (by first | rfl | omega | (simp [boundD]; done) | (simp [boundD]; omega) | (simp; done) | (simp; omega) | (simp [*]; done) | (simp [*]; omega)) (by first | rfl | omega | (simp [boundD]; done) | (simp [boundD]; omega) | (simp; done) | (simp; omega) | (simp [*]; done) | (simp [*]; omega)) (by first | rfl | omega | (simp [boundD]; done) | (simp [boundD]; omega) | (simp; done) | (simp; omega) | (simp [*]; done) | (simp [*]; omega)) rfl (by omega) ?_
          simp -implicitDefEqProofs [-leave, hv, h3]
          repeat' (first | (refine appK2_if (by omega) ?_) | (refine appK2_else (by omega) ?_))
          simp -implicitDefEqProofs [-leave, hv, h3]
          rw [leave_new (by omega) rfl rfl (by simpa using hfs)]
          rfl
      · exact outRows_of rfl rfl rfl (by simp; omega) (ins_rows2 hn htake) (.inr (by omega))
  · have hlt : at_ < n := by omega
    have hT1 : ∀ X : List (List D), List.take (n - at_) (List.take (n + 1 - at_) X) = List.take (n - at_) X := by
      intro X
      rw [List.take_take]
      congr 1
      omega
    have hfit : Fits 1 (List.take (n - at_) (List.drop at_ fl)) := by
      intro r hr
      rw [← List.drop_take, htake] at hr
      exact hf r (List.mem_of_mem_drop hr)
    have hrr : ∀ m, ∀ r ∈ List.take m (List.drop at_ fl), r.length = 1 := fun m r hr => hrow r (List.mem_of_mem_drop (List.mem_of_mem_take hr))
    have hT3 : ∀ X : List (List D), List.take (n - at_) (List.take (n - at_) X) = List.take (n - at_) X := by intro X; rw [List.take_take]; congr 1; omega
    have hT2 : List.take (n + 1 - at_) [v] = [v] := List.take_of_length_le (by simp; omega)
    have hap : ∀ (fl' : List (List D)) (bs : List Blk) (o l : Nat), apartD (⟨fl', 1, .mut⟩ :: bs) [.sl [v] 1, .ref 0 o l] = true := by
      intro _ _ _ _
      rw [hvv]
      rfl
    have hyl : (List.take (n - at_) (List.drop at_ fl)).length = n - at_ := by simp; omega
    have hne : ¬ (at_ : Int) = n := by omega
    by_cases h2 : n + 1 ≤ fl.length
    · have h2' : ¬ ((fl.length : Int) < (n : Int) + 1) := by omega
      refine ⟨.ref 0 0 (n + 1), [⟨ovr (ovr fl (at_ + 1) ((fl.drop at_).take (n - at_))) at_ [v], 1, .mut⟩], ?_, ?_⟩
      · refine denF_of [] [66] [] [221] (by simp) ovls221 is_slices_Insert_int_int ?_
        simp -implicitDefEqProofs [-leave, c_slices_Insert_int_int]
        refine outK_slice (at_) (n) (by simp; rfl) rfl (by first | rfl | omega | (simp [boundD]; done) | (simp [boundD]; omega) | (simp; done) | (simp; omega) | (simp [*]; done) | (simp [*]; omega)) (by first | rfl | omega | (simp [boundD]; done) | (simp [boundD]; omega) | (simp; done) | (simp; omega) | (simp [*]; done) | (simp [*]; omega)) (by omega) (by first | rfl | omega | (simp [boundD]; done) | (simp [boundD]; omega) | (simp; done) | (simp; omega) | (simp [*]; done) | (simp [*]; omega)) rfl (by first | rfl | omega | (simp [boundD]; done) | (simp [boundD]; omega) | (simp; done) | (simp; omega) | (simp [*]; done) | (simp [*]; omega)) ?_
        simp -implicitDefEqProofs [-leave, hv, h1, hne, w1, w2, h2']
        refine outK_slice (0) (n + 1) (by simp; rfl) rfl (by first | rfl | omega | (simp [boundD]; done) | (simp [boundD]; omega) | (simp; done) | (simp; omega) | (simp [*]; done) | (simp [*]; omega)) (by first | rfl | omega | (simp [boundD]; done) | (simp [boundD]; omega) | (simp; done) | (simp; omega) | (simp [*]; done) | (simp [*]; omega)) (by omega) (by first | rfl | omega | (simp [boundD]; done) | (simp [boundD]; omega) | (simp; done) | (simp; omega) | (simp [*]; done) | (simp [*]; omega)) rfl (by first | rfl | omega | (simp [boundD]; done) | (simp [boundD]; omega) | (simp; done) | (simp; omega) | (simp [*]; done) | (simp [*]; omega)) ?_
        simp -implicitDefEqProofs [-leave, hv, h1, hne, w1, w2, h2']
        refine outK_slice (at_ + 1) (n + 1) (by simp; rfl) rfl (by first | rfl | omega | (simp [boundD]; done) | (simp [boundD]; omega) | (simp; done) | (simp; omega) | (simp [*]; done) | (simp [*]; omega)) (by first | rfl | omega | (simp [boundD]; done) | (simp [boundD]; omega) | (simp; done) | (simp; omega) | (simp [*]; done) | (simp [*]; omega)) (by omega) (by first | rfl | omega | (simp [boundD]; done) | (simp [boundD]; omega) | (simp; done) | (simp; omega) | (simp [*]; done) | (simp [*]; omega)) rfl (by first | rfl | omega | (simp [boundD]; done) | (simp [boundD]; omega) | (simp; done) | (simp; omega) | (simp [*]; done) | (simp [*]; omega)) ?_
        simp -implicitDefEqProofs [-leave, hv, h1, hne, w1, w2, h2', hap]
        refine outK_slice (at_ + 1) (n + 1) (by simp; rfl) rfl (by first | rfl | omega | (simp [boundD]; done) | (simp [boundD]; omega) | (simp; done) | (simp; omega) | (simp [*]; done) | (simp [*]; omega)) (by first | rfl | omega | (simp [boundD]; done) | (simp [boundD]; omega) | (simp; done) | (simp; omega) | (simp [*]; done) | (simp [*]; omega)) (by omega) (by first | rfl | omega | (simp [boundD]; done) | (simp [boundD]; omega) | (simp; done) | (simp; omega) | (simp [*]; done) | (simp [*]; omega)) rfl (by first | rfl | omega | (simp [boundD]; done) | (simp [boundD]; omega) | (simp; done) | (simp; omega) | (simp [*]; done) | (simp [*]; omega)) ?_
        simp -implicitDefEqProofs [-leave, hv, h1, hne, w1, w2, h2']
        refine outK_slice (at_) (n + 1) (by simp; rfl) rfl (by first | rfl | omega | (simp [boundD]; done) | (simp [boundD]; omega) | (simp; done) | (simp; omega) | (simp [*]; done) | (simp [*]; omega)) (by first | rfl | omega | (simp [boundD]; done) | (simp [boundD]; omega) | (simp; done) | (simp; omega) | (simp [*]; done) | (simp [*]; omega)) (by omega) (by first | rfl | omega | (simp [boundD]; done) | (simp [boundD]; omega) | (simp; done) | (simp; omega) | (simp [*]; done) | (simp [*]; omega)) rfl (by first | rfl | omega | (simp [boundD]; done) | (simp [boundD]; omega) | (simp; done) | (simp; omega) | (simp [*]; done) | (simp [*]; omega)) ?_
        simp -implicitDefEqProofs [-leave, hv, h1, hne, w1, w2, h2', hT1, hfit]
        refine ⟨hrr _, ?_⟩
        try refine overK_if (by first | omega | (simp; done) | (simp; omega)) ?_
        have hB1 := ovr_length (rows := fl) (p := at_ + 1) (ys := List.take (n - at_) (List.drop at_ fl)) (by omega)
        have hBS := hfs.ovr ((hfs.drop at_).take (n - at_)) (at_ + 1)
        generalize hB : ovr fl (at_ + 1) (List.take (n - at_) (List.drop at_ fl)) = B at *
        simp -implicitDefEqProofs [-leave, hv, h1, hne, w1, w2, h2']
        refine outK_slice (at_) (n + 1) (by simp; rfl) rfl (by first | rfl | omega | (simp [boundD]; done) | (simp [boundD]; omega) | (simp; done) | (simp; omega) | (simp [*]; done) | (simp [*]; omega)) (by first | rfl | omega | (simp [boundD]; done) | (simp [boundD]; omega) | (simp; done) | (simp; omega) | (simp [*]; done) | (simp [*]; omega)) (by omega) (by first | rfl | omega | (simp [boundD]; done) | (simp [boundD]; omega) | (simp; done) | (simp; omega) | (simp [*]; done) | (simp [*]; omega)) rfl (by first | rfl | omega | (simp [boundD]; done) | (simp [boundD]; omega) | (simp; done) | (simp; omega) | (simp [*]; done) | (simp [*]; omega)) ?_
        simp -implicitDefEqProofs [-leave, hv, h1, hne, w1, w2, h2', hv1, hT2]
        try refine overK_if (by first | omega | (simp; done) | (simp; omega)) ?_
        simp -implicitDefEqProofs [-leave, hv, h1, hne, w1, w2, h2']
        rw [leave_lent (by omega) (by simpa using hBS.ovr hvS at_)]
        rfl
      · exact outRows_of rfl rfl rfl (by show 0 + (n + 1) ≤ (ovr (ovr fl (at_ + 1) _) at_ [v]).length; rw [ovr_length (by rw [ovr_length (by omega)]; simp; omega), ovr_length (by omega)]; omega) (ins_rowsC hn hlt h2 htake) (.inl rfl)
    · have h3 : fl.length = n := by omega
      have h3' : (n : Int) < (n : Int) + 1 := by omega
      refine ⟨.ref 1 0 (n + 1), [⟨fl, 1, .mut⟩, ⟨ovr (ovr (fl.take at_ ++ List.replicate (n + 1 - at_) (TT 3).zero) at_ [v]) (at_ + 1) ((fl.drop at_).take (n - at_)), 1, .mut⟩], ?_, ?_⟩
      · refine denF_of [] [66] [] [221] (by simp) ovls221 is_slices_Insert_int_int ?_
        simp -implicitDefEqProofs [-leave, c_slices_Insert_int_int]
        refine outK_slice (at_) (n) (by simp; rfl) rfl (by first | rfl | omega | (simp [boundD]; done) | (simp [boundD]; omega) | (simp; done) | (simp; omega) | (simp [*]; done) | (simp [*]; omega)) (by first | rfl | omega | (simp [boundD]; done) | (simp [boundD]; omega) | (simp; done) | (simp; omega) | (simp [*]; done) | (simp [*]; omega)) (by omega) (by first | rfl | omega | (simp [boundD]; done) | (simp [boundD]; omega) | (simp; done) | (simp; omega) | (simp [*]; done) | (simp [*]; omega)) rfl (by first | rfl | omega | (simp [boundD]; done) | (simp [boundD]; omega) | (simp; done) | (simp; omega) | (simp [*]; done) | (simp [*]; omega)) ?_
        simp -implicitDefEqProofs [-leave, hv, h1, hne, w1, w2, h3, h3']
        refine outK_slice (0) (at_) (by simp; rfl) rfl (by first | rfl | omega | (simp [boundD]; done) | (simp [boundD]; omega) | (simp; done) | (simp; omega) | (simp [*]; done) | (simp [*]; omega)) (by first | rfl | omega | (simp [boundD]; done) | (simp [boundD]; omega) | (simp; done) | (simp; omega) | (simp [*]; done) | (simp [*]; omega)) (by omega) (by first | rfl | omega | (simp [boundD]; done) | (simp [boundD]; omega) | (simp; done) | (simp; omega) | (simp [*]; done) | (simp [*]; omega)) rfl (by first | rfl | omega | (simp [boundD]; done) | (simp [boundD]; omega) | (simp; done) | (simp; omega) | (simp [*]; done) | (simp [*]; omega)) ?_
        simp -implicitDefEqProofs [-leave, hv, h1, hne, w1, w2, w3, h3, h3']
        refine appK_if (by omega) ?_
        have e1 : at_ + (n + 1 - at_) = n + 1 := by omega
        simp -implicitDefEqProofs [-leave, hv, h1, hne, w1, w2, w3, h3, h3', e1]
        repeat' (first | (refine appK2_if (by omega) ?_) | (refine appK2_else (by omega) ?_))
        simp -implicitDefEqProofs [-leave, hv, h1, hne, w1, w2, w3, h3, h3', e1]
        have hA1 : (List.take at_ fl ++ List.replicate (n + 1 - at_) [D.int IntKind.i64 0]).length = n + 1 := by simp; omega
        generalize hA : List.take at_ fl ++ List.replicate (n + 1 - at_) [D.int IntKind.i64 0] = A at *
        refine outK_slice (at_) (n + 1) (by simp; rfl) rfl (by first | rfl | omega | (simp [boundD]; done) | (simp [boundD]; omega) | (simp; done) | (simp; omega) | (simp [*]; done) | (simp [*]; omega)) (by first | rfl | omega | (simp [boundD]; done) | (simp [boundD]; omega) | (simp; done) | (simp; omega) | (simp [*]; done) | (simp [*]; omega)) (by omega) (by first | rfl | omega | (simp [boundD]; done) | (simp [boundD]; omega) | (simp; done) | (simp; omega) | (simp [*]; done) | (simp [*]; omega)) rfl (by first | rfl | omega | (simp [boundD]; done) | (simp [boundD]; omega) | (simp; done) | (simp; omega) | (simp [*]; done) | (simp [*]; omega)) ?_
        simp -implicitDefEqProofs [-leave, hv, h1, hne, w1, w2, h3, hv1, hT2]
        try refine overK_if (by first | omega | (simp; done) | (simp; omega)) ?_
        have hB1 := ovr_length (rows := A) (p := at_) (ys := [v]) (by simp; omega)
        generalize hB : ovr A at_ [v] = B at *
        simp -implicitDefEqProofs [-leave, hv, h1, hne, w1, w2, h3]
        refine outK_slice (at_ + 1) (n + 1) (by simp; rfl) rfl (by first | rfl | omega | (simp [boundD]; done) | (simp [boundD]; omega) | (simp; done) | (simp; omega) | (simp [*]; done) | (simp [*]; omega)) (by first | rfl | omega | (simp [boundD]; done) | (simp [boundD]; omega) | (simp; done) | (simp; omega) | (simp [*]; done) | (simp [*]; omega)) (by omega) (by first | rfl | omega | (simp [boundD]; done) | (simp [boundD]; omega) | (simp; done) | (simp; omega) | (simp [*]; done) | (simp [*]; omega)) rfl (by first | rfl | omega | (simp [boundD]; done) | (simp [boundD]; omega) | (simp; done) | (simp; omega) | (simp [*]; done) | (simp [*]; omega)) ?_
        simp -implicitDefEqProofs [-leave, hv, h1, hne, w1, w2, h3]
        refine outK_slice (at_) (n) (by simp; rfl) rfl (by first | rfl | omega | (simp [boundD]; done) | (simp [boundD]; omega) | (simp; done) | (simp; omega) | (simp [*]; done) | (simp [*]; omega)) (by first | rfl | omega | (simp [boundD]; done) | (simp [boundD]; omega) | (simp; done) | (simp; omega) | (simp [*]; done) | (simp [*]; omega)) (by omega) (by first | rfl | omega | (simp [boundD]; done) | (simp [boundD]; omega) | (simp; done) | (simp; omega) | (simp [*]; done) | (simp [*]; omega)) rfl (by first | rfl | omega | (simp [boundD]; done) | (simp [boundD]; omega) | (simp; done) | (simp; omega) | (simp [*]; done) | (simp [*]; omega)) ?_
        simp -implicitDefEqProofs [-leave, hv, h1, hne, w1, w2, h3, hfit, hT3]
        refine ⟨hrr _, ?_⟩
        try refine overK_if (by first | omega | (simp; done) | (simp; omega)) ?_
        try simp -implicitDefEqProofs [-leave, hv, h1, hne, w1, w2, h3]
        rw [leave_new (by omega) rfl rfl (by simpa using hfs)]
        simp [hA, hB]
      · exact outRows_of rfl rfl rfl (by
          have hA1 : (List.take at_ fl ++ List.replicate (n + 1 - at_) (TT 3).zero).length = n + 1 := by simp; omega
          show 0 + (n + 1) ≤ (ovr (ovr _ at_ [v]) (at_ + 1) _).length
          rw [ovr_length (by rw [ovr_length (by rw [hA1]; simp; omega), hA1]; omega), ovr_length (by rw [hA1]; simp; omega), hA1]; omega) (ins_rowsB hn hlt h3 htake) (.inr (by omega))
theorem clone_Peer (rows : List (List D)) (hf : Fits 2 rows) (hl : rows.length * 16 ≤ 140737488355328) : Den PP 183 [.sl rows rows.length] [] (.ref 0 0 rows.length) [⟨rows, 2, .mut⟩] := by
  cases hr : rows with
  | nil =>
    refine den_zs (pre := []) (post := []) ?_ ?_
    · refine den_of [] [] is_slices_Clone_api_Peer_api_Peer ?_
      simp -implicitDefEqProofs [c_slices_Clone_api_Peer_api_Peer]
    · refine den_of [] [] is_slices_Clone_api_Peer_api_Peer ?_
      simp -implicitDefEqProofs [c_slices_Clone_api_Peer_api_Peer, Fits]
  | cons r rs =>
    rw [hr] at hf hl
    have h63 : (r :: rs).length ≤ 9223372036854775807 := by omega
    have hlen : 0 < (r :: rs).length := by simp
    generalize hn : (r :: rs).length = n at *
    generalize r :: rs = rows at *
    refine den_of [] [] is_slices_Clone_api_Peer_api_Peer ?_
    simp -implicitDefEqProofs [c_slices_Clone_api_Peer_api_Peer, hlen, List.take_of_length_le (Nat.le_of_eq hn), hf, hn, hl, h63]
theorem insert_Peer (rows : List (List D)) (v : List D) (at_ : Nat) (hf : Fits 2 rows) (hst : StillR rows) (hv : Fits 2 [v]) (hvs : ∀ d ∈ v, d.still = true) (hat : at_ ≤ rows.length) (hl : rows.length ≤ 1000000) :
    GivesC (DenF PP [0]) 226 rows 2 [.int .i64 at_, .sl [v] 1] (insL rows at_ v) := by
  refine gives_of (fun r hr => (hf r hr).1) hst fun fl hfl hrow hfs htake hget => ?_
  have hv1 : v.length = 2 := (hv v (by simp)).1
  obtain ⟨c0, cs0, hvv⟩ : ∃ c0 cs0, v = c0 :: cs0 := by
    cases v with
    | nil => simp at hv1
    | cons a b => exact ⟨a, b, rfl⟩
  have hvS : StillR [v] := by intro r hr; rw [List.mem_singleton.1 hr]; exact hvs
  generalize hn : rows.length = n at *
  have w1 : IntKind.wrap .i64 ((n : Int) + 1) = n + 1 := wrap_in (by omega) (by omega)
  have w2 : IntKind.wrap .i64 ((at_ : Int) + 1) = at_ + 1 := wrap_in (by omega) (by omega)
  have w3 : IntKind.wrap .i64 ((n : Int) + 1 - at_) = ((n + 1 - at_ : Nat) : Int) := by rw [wrap_in (by omega) (by omega)]; omega
  by_cases h1 : at_ = n
  · subst h1
    by_cases h2 : at_ + 1 ≤ fl.length
    · refine ⟨.ref 0 0 (at_ + 1), [⟨ovr fl at_ [v], 2, .mut⟩], ?_, ?_⟩
      · refine denF_of [] [66] [] [241] (by simp) ovls241 is_slices_Insert_api_Peer_api_Peer ?_
        simp -implicitDefEqProofs [-leave, c_slices_Insert_api_Peer_api_Peer]
        refine outK_slice (at_) (at_) (by simp; rfl) rfl (by first | rfl | omega | (simp [boundD]; done) | (simp [boundD]; omega) | (simp; done) | (simp; omega) | (simp [*]; done) | (simp [*]; omega)) (by first | rfl | omega | (simp [boundD]; done) | (simp [boundD]; omega) | (simp; done) | (simp; omega) | (simp [*]; done) | (simp [*]; omega)) (by omega) (by first | rfl | omega | (simp [boundD]; done) | (simp [boundD]; omega) | (simp; done) | (simp; omega) | (simp [*]; done) | (simp [*]; omega)) rfl (by first | rfl | omega | (simp [boundD]; done) | (simp [boundD]; omega) | (simp; done) | (simp; omega) | (simp [*]; done) | (simp [*]; omega)) ?_
        simp -implicitDefEqProofs [-leave, hv]
        repeat' (first | (refine appK2_if (by omega) ?_) | (refine appK2_else (by omega) ?_))
        simp -implicitDefEqProofs [-leave, hv, h2]
        rw [leave_lent (by omega) (by simpa using ((hfs.take _).append hvS).append (hfs.drop _))]
        simp [ovr]
      · exact outRows_of rfl rfl rfl (by rw [ovr_length (by simpa using h2)]; omega) (ins_rows1 hn h2 htake) (.inl rfl)
    · have h3 : fl.length = at_ := by omega
      refine ⟨.ref 1 0 (at_ + 1), [⟨fl, 2, .mut⟩, ⟨fl.take at_ ++ [v], 2, .mut⟩], ?_, ?_⟩
      · refine denF_of [] [66] [] [241] (by simp) ovls241 is_slices_Insert_api_Peer_api_Peer ?_
        simp -implicitDefEqProofs [-leave, c_slices_Insert_api_Peer_api_Peer]
        by_cases h0 : at_ = 0
        · refine outK_slice (at_) (at_) (by simp; rfl) rfl (by first | rfl | omega | (simp [boundD]; done) | (simp [boundD]; omega) | (simp; done) | (simp; omega) | (simp [*]; done) | (simp [*]; omega)) (by first | rfl | omega | (simp [boundD]; done) | (simp [boundD]; omega) | (simp; done) | (simp; omega) | (simp [*]; done) | (simp [*]; omega)) (by omega) (by first | rfl | omega | (simp [boundD]; done) | (simp [boundD]; omega) | (simp; done) | (simp; omega) | (simp [*]; done) | (simp [*]; omega)) rfl (by first | rfl | omega | (simp [boundD]; done) | (simp [boundD]; omega) | (simp; done) | (simp; omega) | (simp [*]; done) | (simp [*]; omega)) ?_
          simp -implicitDefEqProofs [-leave, hv, h3]
          repeat' (first | (refine appK2_if (by omega) ?_) | (refine appK2_else (by omega) ?_))
          simp -implicitDefEqProofs [-leave, hv, h3]
          rw [leave_new (by omega) rfl rfl (by simpa using hfs)]
          rfl
        · refine outK_sliceE (at_) (by simp; rfl) rfl (by first | rfl | omega | (simp [boundD]; done) | (simp [boundD]; omega) | (simp; done) | (simp; omega) | (simp [*]; done) | (simp [*]; omega)) (by first | rfl | omega | (simp [boundD]; done) | (simp [boundD]; omega) | (simp; done) | (simp; omega) | (simp [*]; done) | (simp [*]; omega)) (by first | rfl | omega | (simp [boundD]; done) | (simp [boundD]; omega) | (simp; done) | (simp; omega) | (simp [*]; done) | (simp [*]; omega)) rfl (by omega) ?_
          simp -implicitDefEqProofs [-leave, hv, h3]
          repeat' (first | (refine appK2_if (by omega) ?_) | (refine appK2_else (by omega) ?_))
          simp -implicitDefEqProofs [-leave, hv, h3]
          rw [leave_new (by omega) rfl rfl (by simpa using hfs)]
          rfl
      · exact outRows_of rfl rfl rfl (by simp; omega) (ins_rows2 hn htake) (.inr (by omega))
  · have hlt : at_ < n := by omega
    have hT1 : ∀ X : List (List D), List.take (n - at_) (List.take (n + 1 - at_) X) = List.take (n - at_) X := by
      intro X
      rw [List.take_take]
      congr 1
      omega
    have hfit : Fits 2 (List.take (n - at_) (List.drop at_ fl)) := by
      intro r hr
      rw [← List.drop_take, htake] at hr
      exact hf r (List.mem_of_mem_drop hr)
    have hrr : ∀ m, ∀ r ∈ List.take m (List.drop at_ fl), r.length = 2 := fun m r hr => hrow r (List.mem_of_mem_drop (List.mem_of_mem_take hr))
    have hT3 : ∀ X : List (List D), List.take (n - at_) (List.take (n - at_) X) = List.take (n - at_) X := by intro X; rw [List.take_take]; congr 1; omega
    have hT2 : List.take (n + 1 - at_) [v] = [v] := List.take_of_length_le (by simp; omega)
    have hap : ∀ (fl' : List (List D)) (bs : List Blk) (o l : Nat), apartD (⟨fl', 2, .mut⟩ :: bs) [.sl [v] 1, .ref 0 o l] = true := by
      intro _ _ _ _
      rw [hvv]
      rfl
    have hyl : (List.take (n - at_) (List.drop at_ fl)).length = n - at_ := by simp; omega
    have hne : ¬ (at_ : Int) = n := by omega
    by_cases h2 : n + 1 ≤ fl.length
    · have h2' : ¬ ((fl.length : Int) < (n : Int) + 1) := by omega
      refine ⟨.ref 0 0 (n + 1), [⟨ovr (ovr fl (at_ + 1) ((fl.drop at_).take (n - at_))) at_ [v], 2, .mut⟩], ?_, ?_⟩
      · refine denF_of [] [66] [] [241] (by simp) ovls241 is_slices_Insert_api_Peer_api_Peer ?_
        simp -implicitDefEqProofs [-leave, c_slices_Insert_api_Peer_api_Peer]
        refine outK_slice (at_) (n) (by simp; rfl) rfl (by first | rfl | omega | (simp [boundD]; done) | (simp [boundD]; omega) | (simp; done) | (simp; omega) | (simp [*]; done) | (simp [*]; omega)) (by first | rfl | omega | (simp [boundD]; done) | (simp [boundD]; omega) | (simp; done) | (simp; omega) | (simp [*]; done) | (simp [*]; omega)) (by omega) (by first | rfl | omega | (simp [boundD]; done) | (simp [boundD]; omega) | (simp; done) | (simp; omega) | (simp [*]; done) | (simp [*]; omega)) rfl (by first | rfl | omega | (simp [boundD]; done) | (simp [boundD]; omega) | (simp; done) | (simp; omega) | (simp [*]; done) | (simp [*]; omega)) ?_
        simp -implicitDefEqProofs [-leave, hv, h1, hne, w1, w2, h2']
        refine outK_slice (0) (n + 1) (by simp; rfl) rfl (by first | rfl | omega | (simp [boundD]; done) | (simp [boundD]; omega) | (simp; done) | (simp; omega) | (simp [*]; done) | (simp [*]; omega)) (by first | rfl | omega | (simp [boundD]; done) | (simp [boundD]; omega) | (simp; done) | (simp; omega) | (simp [*]; done) | (simp [*]; omega)) (by omega) (by first | rfl | omega | (simp [boundD]; done) | (simp [boundD]; omega) | (simp; done) | (simp; omega) | (simp [*]; done) | (simp [*]; omega)) rfl (by first | rfl | omega | (simp [boundD]; done) | (simp [boundD]; omega) | (simp; done) | (simp; omega) | (simp [*]; done) | (simp [*]; omega)) ?_
        simp -implicitDefEqProofs [-leave, hv, h1, hne, w1, w2, h2']
        refine outK_slice (at_ + 1) (n + 1) (by simp; rfl) rfl (by first | rfl | omega | (simp [boundD]; done) | (simp [boundD]; omega) | (simp; done) | (simp; omega) | (simp [*]; done) | (simp [*]; omega)) (by first | rfl | omega | (simp [boundD]; done) | (simp [boundD]; omega) | (simp; done) | (simp; omega) | (simp [*]; done) | (simp [*]; omega)) (by omega) (by first | rfl | omega | (simp [boundD]; done) | (simp [boundD]; omega) | (simp; done) | (simp; omega) | (simp [*]; done) | (simp [*]; omega)) rfl (by first | rfl | omega | (simp [boundD]; done) | (simp [boundD]; omega) | (simp; done) | (simp; omega) | (simp [*]; done) | (simp [*]; omega)) ?_
        simp -implicitDefEqProofs [-leave, hv, h1, hne, w1, w2, h2', hap]
        refine outK_slice (at_ + 1) (n + 1) (by simp; rfl) rfl (by first | rfl | omega | (simp [boundD]; done) | (simp [boundD]; omega) | (simp; done) | (simp; omega) | (simp [*]; done) | (simp [*]; omega)) (by first | rfl | omega | (simp [boundD]; done) | (simp [boundD]; omega) | (simp; done) | (simp; omega) | (simp [*]; done) | (simp [*]; omega)) (by omega) (by first | rfl | omega | (simp [boundD]; done) | (simp [boundD]; omega) | (simp; done) | (simp; omega) | (simp [*]; done) | (simp [*]; omega)) rfl (by first | rfl | omega | (simp [boundD]; done) | (simp [boundD]; omega) | (simp; done) | (simp; omega) | (simp [*]; done) | (simp [*]; omega)) ?_
        simp -implicitDefEqProofs [-leave, hv, h1, hne, w1, w2, h2']
        refine outK_slice (at_) (n + 1) (by simp; rfl) rfl (by first | rfl | omega | (simp [boundD]; done) | (simp [boundD]; omega) | (simp; done) | (simp; omega) | (simp [*]; done) | (simp [*]; omega)) (by first | rfl | omega | (simp [boundD]; done) | (simp [boundD]; omega) | (simp; done) | (simp; omega) | (simp [*]; done) | (simp [*]; omega)) (by omega) (by first | rfl | omega | (simp [boundD]; done) | (simp [boundD]; omega) | (simp; done) | (simp; omega) | (simp [*]; done) | (simp [*]; omega)) rfl (by first | rfl | omega | (simp [boundD]; done) | (simp [boundD]; omega) | (simp; done) | (simp; omega) | (simp [*]; done) | (simp [*]; omega)) ?_
        simp -implicitDefEqProofs [-leave, hv, h1, hne, w1, w2, h2', hT1, hfit]
        refine ⟨hrr _, ?_⟩
        try refine overK_if (by first | omega | (simp; done) | (simp; omega)) ?_
        have hB1 := ovr_length (rows := fl) (p := at_ + 1) (ys := List.take (n - at_) (List.drop at_ fl)) (by omega)
        have hBS := hfs.ovr ((hfs.drop at_).take (n - at_)) (at_ + 1)
        generalize hB : ovr fl (at_ + 1) (List.take (n - at_) (List.drop at_ fl)) = B at *
        simp -implicitDefEqProofs [-leave, hv, h1, hne, w1, w2, h2']
        refine outK_slice (at_) (n + 1) (by simp; rfl) rfl (by first | rfl | omega | (simp [boundD]; done) | (simp [boundD]; omega) | (simp; done) | (simp; omega) | (simp [*]; done) | (simp [*]; omega)) (by first | rfl | omega | (simp [boundD]; done) | (simp [boundD]; omega) | (simp; done) | (simp; omega) | (simp [*]; done) | (simp [*]; omega)) (by omega) (by first | rfl | omega | (simp [boundD]; done) | (simp [boundD]; omega) | (simp; done) | (simp; omega) | (simp [*]; done) | (simp [*]; omega)) rfl (by first | rfl | omega | (simp [boundD]; done) | (simp [boundD]; omega) | (simp; done) | (simp; omega) | (simp [*]; done) | (simp [*]; omega)) ?_
        simp -implicitDefEqProofs [-leave, hv, h1, hne, w1, w2, h2', hv1, hT2]
        try refine overK_if (by first | omega | (simp; done) | (simp; omega)) ?_
        simp -implicitDefEqProofs [-leave, hv, h1, hne, w1, w2, h2']
        rw [leave_lent (by omega) (by simpa using hBS.ovr hvS at_)]
        rfl
      · exact outRows_of rfl rfl rfl (by show 0 + (n + 1) ≤ (ovr (ovr fl (at_ + 1) _) at_ [v]).length; rw [ovr_length (by rw [ovr_length (by omega)]; simp; omega), ovr_length (by omega)]; omega) (ins_rowsC hn hlt h2 htake) (.inl rfl)
    · have h3 : fl.length = n := by omega
      have h3' : (n : Int) < (n : Int) + 1 := by omega
      refine ⟨.ref 1 0 (n + 1), [⟨fl, 2, .mut⟩, ⟨ovr (ovr (fl.take at_ ++ List.replicate (n + 1 - at_) (TT 204).zero) at_ [v]) (at_ + 1) ((fl.drop at_).take (n - at_)), 2, .mut⟩], ?_, ?_⟩
      · refine denF_of [] [66] [] [241] (by simp) ovls241 is_slices_Insert_api_Peer_api_Peer ?_
        simp -implicitDefEqProofs [-leave, c_slices_Insert_api_Peer_api_Peer]
        refine outK_slice (at_) (n) (by simp; rfl) rfl (by first | rfl | omega | (simp [boundD]; done) | (simp [boundD]; omega) | (simp; done) | (simp; omega) | (simp [*]; done) | (simp [*]; omega)) (by first | rfl | omega | (simp [boundD]; done) | (simp [boundD]; omega) | (simp; done) | (simp; omega) | (simp [*]; done) | (simp [*]; omega)) (by omega) (by first | rfl | omega | (simp [boundD]; done) | (simp [boundD]; omega) | (simp; done) | (simp; omega) | (simp [*]; done) | (simp [*]; omega)) rfl (by first | rfl | omega | (simp [boundD]; done) | (simp [boundD]; omega) | (simp; done) | (simp; omega) | (simp [*]; done) | (simp [*]; omega)) ?_
        simp -implicitDefEqProofs [-leave, hv, h1, hne, w1, w2, h3, h3']
        refine outK_slice (0) (at_) (by simp; rfl) rfl (by first | rfl | omega | (simp [boundD]; done) | (simp [boundD]; omega) | (simp; done) | (simp; omega) | (simp [*]; done) | (simp [*]; omega)) (by first | rfl | omega | (simp [boundD]; done) | (simp [boundD]; omega) | (simp; done) | (simp; omega) | (simp [*]; done) | (simp [*]; omega)) (by omega) (by first | rfl | omega | (simp [boundD]; done) | (simp [boundD]; omega) | (simp; done) | (simp; omega) | (simp [*]; done) | (simp [*]; omega)) rfl (by first | rfl | omega | (simp [boundD]; done) | (simp [boundD]; omega) | (simp; done) | (simp; omega) | (simp [*]; done) | (simp [*]; omega)) ?_
        simp -implicitDefEqProofs [-leave, hv, h1, hne, w1, w2, w3, h3, h3']
        refine appK_if (by omega) ?_
        have e1 : at_ + (n + 1 - at_) = n + 1 := by omega
        simp -implicitDefEqProofs [-leave, hv, h1, hne, w1, w2, w3, h3, h3', e1]
        repeat' (first | (refine appK2_if (by omega) ?_) | (refine appK2_else (by omega) ?_))
        simp -implicitDefEqProofs [-leave, hv, h1, hne, w1, w2, w3, h3, h3', e1]
        have hA1 : (List.take at_ fl ++ List.replicate (n + 1 - at_) [D.int IntKind.i64 0, D.int IntKind.i64 0]).length = n + 1 := by simp; omega
        generalize hA : List.take at_ fl ++ List.replicate (n + 1 - at_) [D.int IntKind.i64 0, D.int IntKind.i64 0] = A at *
        refine outK_slice (at_) (n + 1) (by simp; rfl) rfl (by first | rfl | omega | (simp [boundD]; done) | (simp [boundD]; omega) | (simp; done) | (simp; omega) | (simp [*]; done) | (simp [*]; omega)) (by first | rfl | omega | (simp [boundD]; done) | (simp [boundD]; omega) | (simp; done) | (simp; omega) | (simp [*]; done) | (simp [*]; omega)) (by omega) (by first | rfl | omega | (simp [boundD]; done) | (simp [boundD]; omega) | (simp; done) | (simp; omega) | (simp [*]; done) | (simp [*]; omega)) rfl (by first | rfl | omega | (simp [boundD]; done) | (simp [boundD]; omega) | (simp; done) | (simp; omega) | (simp [*]; done) | (simp [*]; omega)) ?_
        simp -implicitDefEqProofs [-leave, hv, h1, hne, w1, w2, h3, hv1, hT2]
        try refine overK_if (by first | omega | (simp; done) | (simp; omega)) ?_
        have hB1 := ovr_length (rows := A) (p := at_) (ys := [v]) (by simp; omega)
        generalize hB : ovr A at_ [v] = B at *
        simp -implicitDefEqProofs [-leave, hv, h1, hne, w1, w2, h3]
        refine outK_slice (at_ + 1) (n + 1) (by simp; rfl) rfl (by first | rfl | omega | (simp [boundD]; done) | (simp [boundD]; omega) | (simp; done) | (simp; omega) | (simp [*]; done) | (simp [*]; omega)) (by first | rfl | omega | (simp [boundD]; done) | (simp [boundD]; omega) | (simp; done) | (simp; omega) | (simp [*]; done) | (simp [*]; omega)) (by omega) (by first | rfl | omega | (simp [boundD]; done) | (simp [boundD]; omega) | (simp; done) | (simp; omega) | (simp [*]; done) | (simp [*]; omega)) rfl (by first | rfl | omega | (simp [boundD]; done) | (simp [boundD]; omega) | (simp; done) | (simp; omega) | (simp [*]; done) | (simp [*]; omega)) ?_
        simp -implicitDefEqProofs [-leave, hv, h1, hne, w1, w2, h3]
        refine outK_slice (at_) (n) (by simp; rfl) rfl (by first | rfl | omega | (simp [boundD]; done) | (simp [boundD]; omega) | (simp; done) | (simp; omega) | (simp [*]; done) | (simp [*]; omega)) (by first | rfl | omega | (simp [boundD]; done) | (simp [boundD]; omega) | (simp; done) | (simp; omega) | (simp [*]; done) | (simp [*]; omega)) (by omega) (by first | rfl | omega | (simp [boundD]; done) | (simp [boundD]; omega) | (simp; done) | (simp; omega) | (simp [*]; done) | (simp [*]; omega)) rfl (by first | rfl | omega | (simp [boundD]; done) | (simp [boundD]; omega) | (simp; done) | (simp; omega) | (simp [*]; done) | (simp [*]; omega)) ?_
        simp -implicitDefEqProofs [-leave, hv, h1, hne, w1, w2, h3, hfit, hT3]
        refine ⟨hrr _, ?_⟩
        try refine overK_if (by first | omega | (simp; done) | (simp; omega)) ?_
        try simp -implicitDefEqProofs [-leave, hv, h1, hne, w1, w2, h3]
        rw [leave_new (by omega) rfl rfl (by simpa using hfs)]
        simp [hA, hB]
      · exact outRows_of rfl rfl rfl (by
          have hA1 : (List.take at_ fl ++ List.replicate (n + 1 - at_) (TT 204).zero).length = n + 1 := by simp; omega
          show 0 + (n + 1) ≤ (ovr (ovr _ at_ [v]) (at_ + 1) _).length
          rw [ovr_length (by rw [ovr_length (by rw [hA1]; simp; omega), hA1]; omega), ovr_length (by rw [hA1]; simp; omega), hA1]; omega) (ins_rowsB hn hlt h3 htake) (.inr (by omega))
theorem clone_Item (rows : List (List D)) (hf : Fits 5 rows) (hl : rows.length * 40 ≤ 140737488355328) : Den PP 124 [.sl rows rows.length] [] (.ref 0 0 rows.length) [⟨rows, 5, .mut⟩] := by
  cases hr : rows with
  | nil =>
    refine den_zs (pre := []) (post := []) ?_ ?_
    · refine den_of [] [] is_slices_Clone_api_Item_api_Item ?_
      simp -implicitDefEqProofs [c_slices_Clone_api_Item_api_Item]
    · refine den_of [] [] is_slices_Clone_api_Item_api_Item ?_
      simp -implicitDefEqProofs [c_slices_Clone_api_Item_api_Item, Fits]
  | cons r rs =>
    rw [hr] at hf hl
    have h63 : (r :: rs).length ≤ 9223372036854775807 := by omega
    have hlen : 0 < (r :: rs).length := by simp
    generalize hn : (r :: rs).length = n at *
    generalize r :: rs = rows at *
    refine den_of [] [] is_slices_Clone_api_Item_api_Item ?_
    simp -implicitDefEqProofs [c_slices_Clone_api_Item_api_Item, hlen, List.take_of_length_le (Nat.le_of_eq hn), hf, hn, hl, h63]
theorem clone_Told (rows : List (List D)) (hf : Fits 3 rows) (hl : rows.length * 24 ≤ 140737488355328) : Den PP 170 [.sl rows rows.length] [] (.ref 0 0 rows.length) [⟨rows, 3, .mut⟩] := by
  cases hr : rows with
  | nil =>
    refine den_zs (pre := []) (post := []) ?_ ?_
    · refine den_of [] [] is_slices_Clone_api_Told_api_Told ?_
      simp -implicitDefEqProofs [c_slices_Clone_api_Told_api_Told]
    · refine den_of [] [] is_slices_Clone_api_Told_api_Told ?_
      simp -implicitDefEqProofs [c_slices_Clone_api_Told_api_Told, Fits]
  | cons r rs =>
    rw [hr] at hf hl
    have h63 : (r :: rs).length ≤ 9223372036854775807 := by omega
    have hlen : 0 < (r :: rs).length := by simp
    generalize hn : (r :: rs).length = n at *
    generalize r :: rs = rows at *
    refine den_of [] [] is_slices_Clone_api_Told_api_Told ?_
    simp -implicitDefEqProofs [c_slices_Clone_api_Told_api_Told, hlen, List.take_of_length_le (Nat.le_of_eq hn), hf, hn, hl, h63]
end Go.AM
/- AM: contracts: slices.Delete of one. -/
namespace Go.AM
set_option linter.unusedSimpArgs false
set_option linter.unusedVariables false
set_option maxRecDepth 8000
set_option maxHeartbeats 0
theorem delete_Msg (rows : List (List D)) (p : Nat) (hf : Fits 11 rows) (hst : StillR rows) (hp : p < rows.length) (hl : rows.length ≤ 1000000) :
    GivesC (DenF PP [0]) 236 rows 11 [.int .i64 p, .int .i64 ((p : Int) + 1)] (rows.take p ++ rows.drop (p + 1)) := by
  refine gives_of (fun r hr => (hf r hr).1) hst fun fl hfl hrow hfs htake hget => ?_
  have hzs : StillR [([D.int IntKind.i64 0, D.int IntKind.i64 0, D.int IntKind.i64 0, D.nil, D.int IntKind.i64 0, D.int IntKind.i64 0, D.int IntKind.i64 0, D.int IntKind.i64 0, D.int IntKind.i64 0, D.bool false, D.bool false] : List D)] := by intro r hr d hd; rw [List.mem_singleton.1 hr] at hd; exact List.all_eq_true.1 (rfl : ([D.int IntKind.i64 0, D.int IntKind.i64 0, D.int IntKind.i64 0, D.nil, D.int IntKind.i64 0, D.int IntKind.i64 0, D.int IntKind.i64 0, D.int IntKind.i64 0, D.int IntKind.i64 0, D.bool false, D.bool false] : List D).all D.still = true) d hd
  generalize hn : rows.length = n at *
  have hfit : Fits 11 (List.take (n - (p + 1)) (List.drop (p + 1) fl)) := by
    intro r hr
    have : r ∈ rows := by
      rw [← htake]
      have h1 : List.take (n - (p + 1)) (List.drop (p + 1) fl) = List.drop (p + 1) (List.take n fl) := by rw [List.drop_take]
      rw [h1] at hr
      exact List.mem_of_mem_drop hr
    exact hf r this
  have hyl : (List.take (n - (p + 1)) (List.drop (p + 1) fl)).length = n - (p + 1) := by simp; omega
  have hne : ¬ (p : Int) = (p : Int) + 1 := by omega
  have hcl : (fl.take p ++ (List.take (n - (p + 1)) (List.drop (p + 1) fl) ++ fl.drop (n - 1))).length = fl.length := by simp; omega
  have hmin : p + min (n - (p + 1)) (fl.length - (p + 1)) = n - 1 := by omega
  have hmin2 : (p : Int) + ((min (n - (p + 1)) (fl.length - (p + 1)) : Nat) : Int) = ((n - 1 : Nat) : Int) := by omega
  have hpn : p + (n - (p + 1)) = n - 1 := by omega
  have hcS : StillR (fl.take p ++ (List.take (n - (p + 1)) (List.drop (p + 1) fl) ++ fl.drop (n - 1))) := (hfs.take _).append (((hfs.drop _).take _).append (hfs.drop _))
  refine ⟨.ref 0 0 (n - 1), [⟨ovr (fl.take p ++ (List.take (n - (p + 1)) (List.drop (p + 1) fl) ++ fl.drop (n - 1))) (n - 1) [[D.int IntKind.i64 0, D.int IntKind.i64 0, D.int IntKind.i64 0, D.nil, D.int IntKind.i64 0, D.int IntKind.i64 0, D.int IntKind.i64 0, D.int IntKind.i64 0, D.int IntKind.i64 0, D.bool false, D.bool false]], 11, .mut⟩], ?_, ?_⟩
  · refine denF_of [] [] [] [] (by simp) (fun _ h => absurd h List.not_mem_nil) is_slices_Delete_api_Msg_api_Msg ?_
    simp -implicitDefEqProofs [-leave, c_slices_Delete_api_Msg_api_Msg]
    refine pureV_if (by simp [boundD]; omega) ?_
    simp -implicitDefEqProofs [-leave, hne]
    refine outK_slice (0) (p) (by simp; rfl) rfl (by first | rfl | omega | (simp [boundD]; done) | (simp [boundD]; omega) | (simp; done) | (simp; omega) | (simp [*]; done) | (simp [*]; omega)) (by first | rfl | omega | (simp [boundD]; done) | (simp [boundD]; omega) | (simp; done) | (simp; omega) | (simp [*]; done) | (simp [*]; omega)) (by omega) (by first | rfl | omega | (simp [boundD]; done) | (simp [boundD]; omega) | (simp; done) | (simp; omega) | (simp [*]; done) | (simp [*]; omega)) rfl (by first | rfl | omega | (simp [boundD]; done) | (simp [boundD]; omega) | (simp; done) | (simp; omega) | (simp [*]; done) | (simp [*]; omega)) ?_
    simp -implicitDefEqProofs [-leave, hne]
    by_cases hE : p + 1 < fl.length
    · refine outK_slice (p + 1) (n) (by simp; rfl) rfl (by first | rfl | omega | (simp [boundD]; done) | (simp [boundD]; omega) | (simp; done) | (simp; omega) | (simp [*]; done) | (simp [*]; omega)) (by first | rfl | omega | (simp [boundD]; done) | (simp [boundD]; omega) | (simp; done) | (simp; omega) | (simp [*]; done) | (simp [*]; omega)) (by omega) (by first | rfl | omega | (simp [boundD]; done) | (simp [boundD]; omega) | (simp; done) | (simp; omega) | (simp [*]; done) | (simp [*]; omega)) rfl (by first | rfl | omega | (simp [boundD]; done) | (simp [boundD]; omega) | (simp; done) | (simp; omega) | (simp [*]; done) | (simp [*]; omega)) ?_
      simp -implicitDefEqProofs [-leave, hne, hfit]
      repeat' (first | (refine appK2_if (by omega) ?_) | (refine appK2_else (by omega) ?_))
      simp -implicitDefEqProofs [-leave, hne, hyl, hpn, hmin, hmin2]
      generalize (fl.take p ++ (List.take (n - (p + 1)) (List.drop (p + 1) fl) ++ fl.drop (n - 1))) = B at *
      refine outK_slice (n - 1) (n) (by simp; rfl) rfl (by first | rfl | omega | (simp [boundD]; done) | (simp [boundD]; omega) | (simp; done) | (simp; omega) | (simp [*]; done) | (simp [*]; omega)) (by first | rfl | omega | (simp [boundD]; done) | (simp [boundD]; omega) | (simp; done) | (simp; omega) | (simp [*]; done) | (simp [*]; omega)) (by omega) (by first | rfl | omega | (simp [boundD]; done) | (simp [boundD]; omega) | (simp; done) | (simp; omega) | (simp [*]; done) | (simp [*]; omega)) rfl (by first | rfl | omega | (simp [boundD]; done) | (simp [boundD]; omega) | (simp; done) | (simp; omega) | (simp [*]; done) | (simp [*]; omega)) ?_
      simp -implicitDefEqProofs [-leave, hne]
      try refine overK_if (by first | omega | (simp; done) | (simp; omega)) ?_
      have hnn : n - (n - 1) = 1 := by omega
      try simp -implicitDefEqProofs [-leave, hne, hnn]
      rw [leave_lent (by omega) (by simpa [hnn] using hcS.ovr hzs (n - 1))]
      simp [hnn]
    · obtain rfl : n = p + 1 := by omega
      have hB : fl.take p ++ (List.take (p + 1 - (p + 1)) (List.drop (p + 1) fl) ++ fl.drop (p + 1 - 1)) = fl := by simp
      rw [hB] at *
      refine outK_sliceE (p + 1) (by simp; rfl) rfl (by first | rfl | omega | (simp [boundD]; done) | (simp [boundD]; omega) | (simp; done) | (simp; omega) | (simp [*]; done) | (simp [*]; omega)) (by first | rfl | omega | (simp [boundD]; done) | (simp [boundD]; omega) | (simp; done) | (simp; omega) | (simp [*]; done) | (simp [*]; omega)) (by first | rfl | omega | (simp [boundD]; done) | (simp [boundD]; omega) | (simp; done) | (simp; omega) | (simp [*]; done) | (simp [*]; omega)) rfl (by omega) ?_
      try simp -implicitDefEqProofs [-leave, hne]
      refine ⟨by simp [Fits], ?_⟩
      repeat' (first | (refine appK2_if (by omega) ?_) | (refine appK2_else (by omega) ?_))
      try simp -implicitDefEqProofs [-leave, hne]
      refine outK_slice (p) (p + 1) (by simp; rfl) rfl (by first | rfl | omega | (simp [boundD]; done) | (simp [boundD]; omega) | (simp; done) | (simp; omega) | (simp [*]; done) | (simp [*]; omega)) (by first | rfl | omega | (simp [boundD]; done) | (simp [boundD]; omega) | (simp; done) | (simp; omega) | (simp [*]; done) | (simp [*]; omega)) (by omega) (by first | rfl | omega | (simp [boundD]; done) | (simp [boundD]; omega) | (simp; done) | (simp; omega) | (simp [*]; done) | (simp [*]; omega)) rfl (by first | rfl | omega | (simp [boundD]; done) | (simp [boundD]; omega) | (simp; done) | (simp; omega) | (simp [*]; done) | (simp [*]; omega)) ?_
      simp -implicitDefEqProofs [-leave, hne]
      try refine overK_if (by first | omega | (simp; done) | (simp; omega)) ?_
      try simp -implicitDefEqProofs [-leave, hne]
      rw [leave_lent (by omega) (by simpa using hcS.ovr hzs p)]
      simp [Fits]
  · refine outRows_of rfl rfl rfl ?_ ?_ (.inl rfl)
    · rw [ovr_length (by rw [hcl]; simp; omega), hcl]
      omega
    · rw [List.drop_zero, ← htake]
      have h1 : (ovr (fl.take p ++ (List.take (n - (p + 1)) (List.drop (p + 1) fl) ++ fl.drop (n - 1))) (n - 1) [[D.int IntKind.i64 0, D.int IntKind.i64 0, D.int IntKind.i64 0, D.nil, D.int IntKind.i64 0, D.int IntKind.i64 0, D.int IntKind.i64 0, D.int IntKind.i64 0, D.int IntKind.i64 0, D.bool false, D.bool false]]).take (n - 1) = fl.take p ++ List.take (n - (p + 1)) (List.drop (p + 1) fl) := by
        unfold ovr
        rw [List.append_assoc, List.take_append_of_le_length (by simp; omega), List.take_take, Nat.min_self, ← List.append_assoc, List.take_left' (by simp; omega)]
      rw [h1, List.take_take, List.drop_take, Nat.min_eq_left (by omega)]
end Go.AM
/- AM: contracts: a view's ends, a key's owner. -/
namespace Go.AM
set_option linter.unusedSimpArgs false
set_option linter.unusedVariables false
set_option maxRecDepth 8000
set_option maxHeartbeats 0
theorem view_end_Succ (v : View) (hs : v.small) : Den PP 136 [viewD v, .fn 137 [] []] [] (pairD (succV v)) [] := by
  refine den_of [] [] is_view_end ?_
  simp -implicitDefEqProofs [c_view_end, viewD, View.cells, peersD, intsD]
  refine callThen_of (view_May v hs) ?_
  simp -implicitDefEqProofs
  refine condC_not (fun h => ?_) (fun h => ?_)
  rotate_left
  · simp -implicitDefEqProofs [h, succV, pairD]
  simp -implicitDefEqProofs [h]
  refine condC_split (fun h2 => ?_) (fun h2 => ?_)
  · have h3 : v.peers = [] := by simpa using h2
    simp -implicitDefEqProofs [h, h2, h3, succV, pairD]
  simp -implicitDefEqProofs [h2]
  refine callThen_of (view_Ids v hs.1) ?_
  cases hp : v.peers with
  | nil => rw [hp] at h2; simp at h2
  | cons p ps =>
    have hc := view_Succ_1 p.id (ps.map Peer.id)
    simp [intsD] at hc
    simp -implicitDefEqProofs [downTo]
    refine callThen_of hc ?_
    simp -implicitDefEqProofs [h, hp, succV, pairD]

theorem view_Succ (v : View) (hs : v.small) : Den PP 50 [viewD v] [] (pairD (succV v)) [] := by
  have hc := view_end_Succ v hs
  simp [viewD, View.cells, peersD, intsD, pairD] at hc
  refine den_of [] [] is_view_Succ ?_
  simp -implicitDefEqProofs [c_view_Succ, viewD, View.cells, peersD, intsD, pairD]
  refine callThen_of hc ?_
  simp -implicitDefEqProofs
end Go.AM
/- AM: contracts: a key's owner. -/
namespace Go.AM
set_option linter.unusedSimpArgs false
set_option linter.unusedVariables false
set_option maxRecDepth 8000
set_option maxHeartbeats 0
theorem row_may (one : Int) (ids : List Int) (hl : ids.length ≤ cap) : Den PP 138 [.int .i64 one, intsD ids] [] (.bool (place one && decide (ids.length ≤ 64) && ids.all place)) [] := by
  have hc := ring_Places ids hl
  simp [intsD] at hc
  refine den_of [] [] is_row_may ?_
  simp -implicitDefEqProofs [c_row_may, intsD]
  refine callThen_of (ring_Place one) ?_
  simp -implicitDefEqProofs
  refine gOps_split (fun h => ?_) (fun h => ?_)
  rotate_left
  · simp -implicitDefEqProofs [h]
  simp -implicitDefEqProofs [h]
  refine gOps_dec (fun h2 => ?_) (fun h2 => ?_)
  rotate_left
  · simp -implicitDefEqProofs [h, h2]
    omega
  simp -implicitDefEqProofs [h2]
  refine callThen_of hc ?_
  simp -implicitDefEqProofs
  intros
  omega
theorem slices_MinFunc (key_ x : Int) (xs : List Int) (hl : xs.length < cap) : Den PP 223 [intsD (x :: xs), .fn 203 [] [.mem [.int .i64 key_]]] [] (.int .i64 (nearest key_ x xs)) [] := by
  refine den_of [] [] is_slices_MinFunc_int_int ?_
  have h0 : ¬ ((xs.length : Int) + 1 < 1) := by omega
  simp -implicitDefEqProofs [c_slices_MinFunc_int_int, intsD, h0, irow]
  refine anyLoop_of (xs.length + 1) ?_
  have key : ∀ (Q : Ex → St → Prop) (r : Int) (hQ1 : ∀ fr, fr 5 = .int .i64 r → Q .normal ⟨fr, []⟩) (ys : List Int) (hys : ys.length ≤ cap) (rest : List Int) (i : Nat) (m : Int) (fr : Nat → D), ys.drop i = rest → i ≤ ys.length →
      fr 0 = .sl (ys.map irow) ys.length → fr 1 = .fn 203 [] [.mem [.int .i64 key_]] → fr 5 = .int .i64 m → fr 6 = .int .i64 i → nearest key_ m rest = r → sLoop (cf 0 [] []) 0 c_slices_MinFunc_int_int_L0 (blockQ 0 Q) (rest.length + 1) ⟨fr, []⟩ := by
    intro Q r hQ1 ys hys rest
    induction rest with
    | nil =>
      intro i m fr e hi h0 h1 h5 h6 hm
      refine sLoop_body c_slices_MinFunc_int_int_L0.eq_1 ?_
      have hi' := drop_nil e hi
      simp -implicitDefEqProofs [h0, h1, h5, h6, hi']
      exact hQ1 _ (by rw [← hm]; simp [h0, h1, h5, h6, nearest])
    | cons y rest ih =>
      intro i m fr e hi h0 h1 h5 h6 hm
      refine sLoop_body c_slices_MinFunc_int_int_L0.eq_1 ?_
      obtain ⟨hlt, hget, hd, hlen⟩ := drop_cons e
      have hlt' : (i : Int) < ys.length := by omega
      have hw := wrap_next (n := i) (by unfold cap at hys; omega)
      simp only [nearest] at hm
      simp -implicitDefEqProofs [h0, h1, h5, h6, hlt', hget, irow]
      refine callThen_of (row_By_1 key_ y m) ?_
      simp -implicitDefEqProofs [cmpI_neg]
      refine condC_dec (fun h2 => ?_) (fun h2 => ?_)
      all_goals simp -implicitDefEqProofs [h2, h0, h1, h5, h6, hw, hlt', hget, irow]
      · exact ih (i + 1) y _ hd (by omega) (by simp [h0, h1, h5, h6]) (by simp [h0, h1, h5, h6]) (by simp) (by simp) (by rw [← hm, if_pos h2])
      · exact ih (i + 1) m _ hd (by omega) (by simp [h0, h1, h5, h6]) (by simp [h0, h1, h5, h6]) (by simp [h0, h1, h5, h6]) (by simp) (by rw [← hm, if_neg h2])
  refine key _ (nearest key_ x xs) (fun fr h => ?_) (x :: xs) (by simp; omega) xs 1 x _ rfl (by simp) rfl rfl rfl rfl rfl
  simp -implicitDefEqProofs [h]
theorem row_Owner (ids : List Int) (key : Int) (hl : ids.length ≤ cap) : Den PP 188 [intsD ids, .int .i64 key] [] (pairD (rowOwner ids key)) [] := by
  have hc := row_may key ids hl
  simp only [rowOwner, pairD]
  generalize (place key && decide (ids.length ≤ 64) && ids.all place) = b at *
  simp [intsD] at hc
  refine den_of [] [] is_row_Owner ?_
  simp -implicitDefEqProofs [c_row_Owner, intsD]
  refine callThen_of hc ?_
  simp -implicitDefEqProofs
  cases b
  · simp -implicitDefEqProofs
  simp -implicitDefEqProofs
  cases ids with
  | nil => simp -implicitDefEqProofs
  | cons x xs =>
    have hm := slices_MinFunc key x xs (by simpa [Nat.lt_iff_add_one_le] using hl)
    simp [intsD] at hm
    simp -implicitDefEqProofs
    refine callThen_of (row_By key) ?_
    simp -implicitDefEqProofs
    refine callThen_of hm ?_
    simp -implicitDefEqProofs
theorem view_Owner (v : View) (key : Int) (hs : v.small) : Den PP 114 [viewD v, .int .i64 key] [] (pairD (ownerV v key)) [] := by
  have hc := view_May v hs
  have hi := view_Ids v hs.1
  simp only [ownerV, pairD]
  simp [viewD, View.cells, peersD, intsD] at hc hi
  refine den_of [17] [] is_view_Owner ?_
  simp -implicitDefEqProofs [c_view_Owner, viewD, View.cells, peersD, intsD]
  refine callThen_of hc ?_
  simp -implicitDefEqProofs
  refine gOps_split (fun h => ?_) (fun h => ?_)
  rotate_left
  · simp -implicitDefEqProofs [h]
  simp -implicitDefEqProofs [h]
  refine callThen_of (ring_Place key) ?_
  simp -implicitDefEqProofs
  refine condC_not (fun h2 => ?_) (fun h2 => ?_)
  rotate_left
  · simp -implicitDefEqProofs [h, h2]
  simp -implicitDefEqProofs [h, h2]
  refine callThen_of hi ?_
  have hb1 : (v.peers.length + 1) * 8 ≤ 140737488355328 := by
    have := hs.1
    unfold cap16 at this
    omega
  have hb2 : v.peers.length ≤ 9223372036854775806 := by omega
  have ho := row_Owner (v.peers.map Peer.id ++ [v.id]) key (by unfold cap; simp; omega)
  simp [intsD, pairD, irow] at ho
  simp -implicitDefEqProofs [downTo, hb1, hb2, Fits]
  refine callThen_of ho ?_
  simp -implicitDefEqProofs
end Go.AM
/- AM: contracts: the document's answers about views. -/
namespace Go.AM
set_option linter.unusedSimpArgs false
set_option linter.unusedVariables false
set_option maxRecDepth 8000
set_option maxHeartbeats 0
theorem law_SameInts (xs ys : List Int) (hl : xs.length ≤ cap) : Den PP 104 [intsD xs, intsD ys] [] (.bool (decide (xs = ys))) [] := by
  refine den_of [] [] is_gimmallaw0_SameInts ?_
  simp -implicitDefEqProofs [c_gimmallaw0_SameInts, intsD]
  refine condC_split (fun h => ?_) (fun h => ?_)
  · simp -implicitDefEqProofs
    intro he
    subst he
    simp at h
  have hlen : xs.length = ys.length := by simp at h; omega
  simp -implicitDefEqProofs
  refine anyLoop_of (xs.length + 1) ?_
  have key : ∀ (Q : Ex → St → Prop) (r : Bool) (hQ1 : ∀ fr, r = true → Q .normal ⟨fr, []⟩) (hQ2 : ∀ fr bs, r = false → fr 4 = .bool false → Q .ret ⟨fr, bs⟩) (rest : List Int) (i : Nat) (fr : Nat → D), xs.drop i = rest → i ≤ xs.length →
      fr 0 = .sl (xs.map irow) xs.length → fr 1 = .sl (ys.map irow) ys.length → fr 5 = .int .i64 i → decide (rest = ys.drop i) = r → sLoop (cf 0 [] []) 0 c_gimmallaw0_SameInts_L0 (blockQ 0 Q) (rest.length + 1) ⟨fr, []⟩ := by
    intro Q r hQ1 hQ2 rest
    induction rest with
    | nil =>
      intro i fr e hi h0 h1 h5 hm
      refine sLoop_body c_gimmallaw0_SameInts_L0.eq_1 ?_
      have hi' := drop_nil e hi
      simp -implicitDefEqProofs [h0, h1, h5, hi']
      exact hQ1 _ (by rw [← hm, hi', hlen]; simp)
    | cons x rest ih =>
      intro i fr e hi h0 h1 h5 hm
      refine sLoop_body c_gimmallaw0_SameInts_L0.eq_1 ?_
      obtain ⟨hlt, hget, hd, hl2⟩ := drop_cons e
      have hlt' : (i : Int) < xs.length := by omega
      have hlt2 : (i : Int) < ys.length := by omega
      have hw := wrap_next (n := i) (by unfold cap at hl; omega)
      obtain ⟨y, hy⟩ : ∃ y, ys[i]? = some y := ⟨ys[i], by simp⟩
      have hyd : ys.drop i = y :: ys.drop (i + 1) := by
        rw [List.drop_eq_getElem_cons (by omega)]
        have : ys[i] = y := by
          have := (List.getElem?_eq_some_iff.1 hy).2
          exact this
        rw [this]
      simp -implicitDefEqProofs [h0, h1, h5, hlt', hlt2, hget, hy, irow]
      refine condC_split (fun h2 => ?_) (fun h2 => ?_)
      all_goals simp -implicitDefEqProofs [h2, h0, h1, h5, hw]
      · refine hQ2 _ _ ?_ (by rfl)
        rw [← hm, hyd]
        simp at h2
        simp [h2]
      · refine ih (i + 1) _ hd (by omega) (by simp [h0, h1, h5]) (by simp [h0, h1, h5]) (by simp) ?_
        rw [← hm, hyd]
        simp at h2
        simp [h2]
  refine key _ (decide (xs = ys)) (fun fr h => ?_) (fun fr bs h h2 => ?_) xs 0 _ rfl (Nat.zero_le _) rfl rfl rfl rfl
  · simp -implicitDefEqProofs [h]
  · simp -implicitDefEqProofs [h, h2]

end Go.AM
/- AM: contracts: the document's peers. -/
namespace Go.AM
set_option linter.unusedSimpArgs false
set_option linter.unusedVariables false
set_option maxRecDepth 8000
set_option maxHeartbeats 0
end Go.AM
/- AM: contracts: the document's answers about views. -/
namespace Go.AM
set_option linter.unusedSimpArgs false
set_option linter.unusedVariables false
set_option maxRecDepth 8000
set_option maxHeartbeats 0
theorem law_SamePeers (xs ys : List Peer) (hl : xs.length ≤ cap) : Den PP 176 [peersD xs, peersD ys] [] (.bool (decide (xs = ys))) [] := by
  refine den_of [] [] is_gimmallaw0_SamePeers ?_
  simp -implicitDefEqProofs [c_gimmallaw0_SamePeers, peersD]
  refine condC_split (fun h => ?_) (fun h => ?_)
  · simp -implicitDefEqProofs
    grind
  have hlen : xs.length = ys.length := by simp at h; omega
  simp -implicitDefEqProofs
  refine list_rule xs (fun i rest => fun ⟨fr, bs⟩ => bs = [] ∧ fr 0 = .sl (xs.map Peer.row) xs.length ∧ fr 1 = .sl (ys.map Peer.row) ys.length ∧ fr 5 = .int .i64 i ∧ (rest = ys.drop i ↔ xs = ys))
    (fun ⟨fr, bs⟩ => bs = [] ∧ xs = ys) (fun ⟨fr, bs⟩ => fr 4 = .bool false ∧ ¬ xs = ys) c_gimmallaw0_SamePeers_L0.eq_1 ?_ ?_ ?_ ?_ ?_
  · exact ⟨rfl, rfl, rfl, rfl, by simp⟩
  · rintro i ⟨fr, bs⟩ hi ⟨rfl, h0, h1, h5, he⟩
    simp -implicitDefEqProofs [*]
    grind
  · rintro i a rest ⟨fr, bs⟩ hlt hget hg hd hd2 ⟨rfl, h0, h1, h5, he⟩
    have hlt' : (i : Int) < xs.length := by omega
    have hlt2 : i < ys.length := by omega
    have hlt3 : (i : Int) < ys.length := by omega
    have hw := wrap_next (n := i) (by unfold cap at hl; omega)
    rw [List.drop_eq_getElem_cons hlt2] at he
    generalize hy : ys[i] = b at he
    simp -implicitDefEqProofs [h0, h1, h5, hlt, hlt', hlt2, hlt3, hget, hg, hy, Peer.row, EQS]
    repeat' ((first | with_reducible refine gOps_dec (fun _ => ?_) (fun _ => ?_) | with_reducible refine gOps_ndec (fun _ => ?_) (fun _ => ?_) | (with_reducible refine gOps_and (fun hq => ?_) (fun hq => ?_) <;> (try simp at hq)) | (with_reducible refine gOps_or (fun hq => ?_) (fun hq => ?_) <;> (try simp at hq)) | (with_reducible refine gOps_not (fun hq => ?_) (fun hq => ?_) <;> (try simp at hq)) | (with_reducible refine gOps_split (fun hq => ?_) (fun hq => ?_) <;> (try simp at hq)) | with_reducible refine condC_dec (fun _ => ?_) (fun _ => ?_) | with_reducible refine condC_ndec (fun _ => ?_) (fun _ => ?_) | (with_reducible refine condC_and (fun hq => ?_) (fun hq => ?_) <;> (try simp at hq)) | (with_reducible refine condC_or (fun hq => ?_) (fun hq => ?_) <;> (try simp at hq)) | (with_reducible refine condC_not (fun hq => ?_) (fun hq => ?_) <;> (try simp at hq)) | (with_reducible refine condC_split (fun hq => ?_) (fun hq => ?_) <;> (try simp at hq)) | refine appK2_if (by omega) ?_ | refine pureV_if (by omega) ?_) <;> simp -implicitDefEqProofs [*, EQS])
    all_goals (obtain ⟨a1, a2⟩ := a; obtain ⟨b1, b2⟩ := b; grind)
  · rintro ⟨fr, bs⟩ ⟨rfl, h6⟩
    simp -implicitDefEqProofs [*]
  · rintro ⟨fr, bs⟩ h
    simp -implicitDefEqProofs [h.1, h.2]
theorem law_SameView (v w : View) (hs : v.small) : Den PP 98 [viewD v, viewD w] [] (.bool (decide (v = w))) [] := by
  have h1 := law_SamePeers v.peers w.peers (cap_of hs.1)
  have h2 := law_SameInts v.passive w.passive hs.2
  simp [peersD, intsD] at h1 h2
  refine den_of [] [] is_gimmallaw0_SameView ?_
  simp -implicitDefEqProofs [c_gimmallaw0_SameView, viewD, View.cells, peersD, intsD]
  repeat' ((first | refine callThen_of (by first | exact h1 | exact h2) ?_ | with_reducible refine gOps_dec (fun _ => ?_) (fun _ => ?_) | with_reducible refine gOps_ndec (fun _ => ?_) (fun _ => ?_) | (with_reducible refine gOps_and (fun hq => ?_) (fun hq => ?_) <;> (try simp at hq)) | (with_reducible refine gOps_or (fun hq => ?_) (fun hq => ?_) <;> (try simp at hq)) | (with_reducible refine gOps_not (fun hq => ?_) (fun hq => ?_) <;> (try simp at hq)) | (with_reducible refine gOps_split (fun hq => ?_) (fun hq => ?_) <;> (try simp at hq)) | with_reducible refine condC_dec (fun _ => ?_) (fun _ => ?_) | with_reducible refine condC_ndec (fun _ => ?_) (fun _ => ?_) | (with_reducible refine condC_and (fun hq => ?_) (fun hq => ?_) <;> (try simp at hq)) | (with_reducible refine condC_or (fun hq => ?_) (fun hq => ?_) <;> (try simp at hq)) | (with_reducible refine condC_not (fun hq => ?_) (fun hq => ?_) <;> (try simp at hq)) | (with_reducible refine condC_split (fun hq => ?_) (fun hq => ?_) <;> (try simp at hq)) | refine appK2_if (by omega) ?_ | refine pureV_if (by omega) ?_) <;> simp -implicitDefEqProofs [*, peersD])
  all_goals (obtain ⟨a, b, c⟩ := v; obtain ⟨a', b', c'⟩ := w; grind)
theorem law_CopyView (v : View) (hs : v.small) : Den PP 83 [viewD v] [] (.agg [.int .i64 v.id, .ref 0 0 v.peers.length, .ref 1 0 v.passive.length]) [⟨v.peers.map Peer.row, 2, .mut⟩, ⟨v.passive.map irow, 1, .mut⟩] := by
  obtain ⟨h1, h2⟩ := hs
  unfold cap16 at h1
  unfold cap at h2
  refine den_of [] [] is_gimmallaw0_CopyView ?_
  simp -implicitDefEqProofs [c_gimmallaw0_CopyView, viewD, View.cells, peersD, intsD]
  repeat' ((first | with_reducible refine gOps_dec (fun _ => ?_) (fun _ => ?_) | with_reducible refine gOps_ndec (fun _ => ?_) (fun _ => ?_) | (with_reducible refine gOps_and (fun hq => ?_) (fun hq => ?_) <;> (try simp at hq)) | (with_reducible refine gOps_or (fun hq => ?_) (fun hq => ?_) <;> (try simp at hq)) | (with_reducible refine gOps_not (fun hq => ?_) (fun hq => ?_) <;> (try simp at hq)) | (with_reducible refine gOps_split (fun hq => ?_) (fun hq => ?_) <;> (try simp at hq)) | with_reducible refine condC_dec (fun _ => ?_) (fun _ => ?_) | with_reducible refine condC_ndec (fun _ => ?_) (fun _ => ?_) | (with_reducible refine condC_and (fun hq => ?_) (fun hq => ?_) <;> (try simp at hq)) | (with_reducible refine condC_or (fun hq => ?_) (fun hq => ?_) <;> (try simp at hq)) | (with_reducible refine condC_not (fun hq => ?_) (fun hq => ?_) <;> (try simp at hq)) | (with_reducible refine condC_split (fun hq => ?_) (fun hq => ?_) <;> (try simp at hq)) | refine appK2_if (by omega) ?_ | refine pureV_if (by omega) ?_) <;> simp -implicitDefEqProofs [*])
end Go.AM
/- Plain law: places put in their row, taken out. -/
namespace Go.AM
set_option linter.unusedSimpArgs false
set_option linter.unusedVariables false

theorem incr_iff : ∀ xs : List Int, incr xs = true ↔ xs.Pairwise (· < ·) := by
  intro xs
  induction xs with
  | nil => simp [incr]
  | cons x xs ih =>
    cases xs with
    | nil => simp [incr]
    | cons y ys =>
      simp only [incr, Bool.and_eq_true, decide_eq_true_eq, ih, List.pairwise_cons, List.mem_cons]
      constructor
      · rintro ⟨h1, h2, h3⟩
        refine ⟨?_, h2, h3⟩
        rintro a (rfl | ha)
        · exact h1
        · have := h2 a ha
          omega
      · rintro ⟨h1, h2, h3⟩
        exact ⟨h1 y (.inl rfl), h2, h3⟩
theorem passiveMay_iff (xs : List Int) : passiveMay xs = true ↔ xs.Pairwise (· < ·) ∧ (∀ x ∈ xs, place x = true) ∧ xs.length ≤ 16 := by
  rw [← passiveMay_eq]
  simp only [refPassiveMay, Bool.and_eq_true, incr_iff, decide_eq_true_eq, List.all_eq_true]
  constructor
  · rintro ⟨⟨h1, h2⟩, h3⟩; exact ⟨h1, h2, h3⟩
  · rintro ⟨h1, h2, h3⟩; exact ⟨⟨h1, h2⟩, h3⟩

def posI (xs : List Int) (id : Int) : Nat := (xs.takeWhile fun x => decide (x < id)).length
theorem posI_le (xs : List Int) (id : Int) : posI xs id ≤ xs.length := (List.takeWhile_prefix _).length_le
def insU (id : Int) : List Int → List Int
  | [] => [id]
  | x :: xs => if x < id then x :: insU id xs else id :: x :: xs
theorem insL_insU (id : Int) : ∀ xs : List Int, insL xs (posI xs id) id = insU id xs := by
  intro xs
  induction xs with
  | nil => rfl
  | cons x xs ih =>
    unfold insU
    by_cases h : x < id
    · rw [if_pos h, ← ih]
      simp [posI, insL, List.takeWhile_cons, h]
    · rw [if_neg h]
      simp [posI, insL, List.takeWhile_cons, h]
theorem mem_insU {id a : Int} : ∀ {xs : List Int}, a ∈ insU id xs ↔ a = id ∨ a ∈ xs := by
  intro xs
  induction xs with
  | nil => simp [insU]
  | cons x xs ih =>
    unfold insU
    split
    · simp only [List.mem_cons, ih]
      constructor
      · rintro (h | h | h)
        · exact .inr (.inl h)
        · exact .inl h
        · exact .inr (.inr h)
      · rintro (h | h | h)
        · exact .inr (.inl h)
        · exact .inl h
        · exact .inr (.inr h)
    · simp
theorem insU_length (id : Int) (xs : List Int) : (insU id xs).length = xs.length + 1 := by rw [← insL_insU, insL_length]
theorem rising_insU {id : Int} : ∀ {xs : List Int}, xs.Pairwise (· < ·) → id ∉ xs → (insU id xs).Pairwise (· < ·) := by
  intro xs
  induction xs with
  | nil => intro _ _; simp [insU]
  | cons x xs ih =>
    intro h hn
    rw [List.pairwise_cons] at h
    simp only [List.mem_cons, not_or] at hn
    unfold insU
    split
    · rename_i hlt
      rw [List.pairwise_cons]
      refine ⟨fun a ha => ?_, ih h.2 hn.2⟩
      rcases mem_insU.1 ha with rfl | ha
      · exact hlt
      · exact h.1 a ha
    · rename_i hge
      rw [List.pairwise_cons, List.pairwise_cons]
      refine ⟨?_, h⟩
      intro a ha
      rcases List.mem_cons.1 ha with rfl | ha
      · omega
      · have := h.1 a ha
        omega
theorem posI_lo {xs : List Int} {id : Int} (i : Nat) (x : Int) (h : i < posI xs id) (hx : xs[i]? = some x) : x < id := by simpa using takeWhile_get _ xs i x h hx
theorem rising_get {xs : List Int} (h : xs.Pairwise (· < ·)) {i j : Nat} {x y : Int} (hij : i < j) (hx : xs[i]? = some x) (hy : xs[j]? = some y) : x < y := by
  obtain ⟨hi, rfl⟩ := List.getElem?_eq_some_iff.1 hx
  obtain ⟨hj, rfl⟩ := List.getElem?_eq_some_iff.1 hy
  exact List.pairwise_iff_getElem.1 h i j hi hj hij
theorem posI_hi {xs : List Int} {id : Int} (h : xs.Pairwise (· < ·)) (i : Nat) (x : Int) (hi : posI xs id ≤ i) (hx : xs[i]? = some x) : id ≤ x := by
  have hlt : posI xs id < xs.length := by
    have := (List.getElem?_eq_some_iff.1 hx).1
    omega
  have hq : xs[posI xs id]? = some xs[posI xs id] := by simp [hlt]
  have h1 := takeWhile_end _ xs _ hq
  simp at h1
  rcases Nat.lt_or_ge (posI xs id) i with h2 | h2
  · have := rising_get h h2 hq hx
    omega
  · have : i = posI xs id := by omega
    subst this
    rw [hq] at hx
    cases hx
    exact h1
theorem posI_mem {xs : List Int} {id : Int} (h : xs.Pairwise (· < ·)) : xs[posI xs id]? = some id ↔ id ∈ xs := by
  constructor
  · intro h'
    exact List.mem_of_getElem? h'
  · intro h'
    obtain ⟨j, hj⟩ := List.getElem?_of_mem h'
    rcases Nat.lt_trichotomy j (posI xs id) with h1 | h1 | h1
    · have := posI_lo j id h1 hj
      omega
    · rw [← h1]; exact hj
    · have hlt := (List.getElem?_eq_some_iff.1 hj).1
      have hq : xs[posI xs id]? = some (xs[posI xs id]'(by omega)) := by simp
      have h2 := rising_get h h1 hq hj
      have h3 := posI_hi h (posI xs id) _ (Nat.le_refl _) hq
      omega

def withP (xs : List Int) (id : Int) : List Int × Int :=
  if passiveMay xs && place id then (if id ∈ xs then (xs, 0) else if xs.length = 16 then ([], 801) else (insU id xs, 0)) else ([], 800)
theorem passiveMay_insU {xs : List Int} {id : Int} (h : passiveMay xs = true) (hp : place id = true) (hn : id ∉ xs) (hl : xs.length ≠ 16) : passiveMay (insU id xs) = true := by
  obtain ⟨h1, h2, h3⟩ := (passiveMay_iff xs).1 h
  refine (passiveMay_iff _).2 ⟨rising_insU h1 hn, fun x hx => ?_, by rw [insU_length]; omega⟩
  rcases mem_insU.1 hx with rfl | hx
  · exact hp
  · exact h2 x hx
theorem withP_len (xs : List Int) (id : Int) : (withP xs id).1.length ≤ 16 := by
  unfold withP
  split
  · rename_i h
    rw [Bool.and_eq_true] at h
    have hl := ((passiveMay_iff xs).1 h.1).2.2
    split
    · exact hl
    · split
      · simp
      · rw [insU_length]; omega
  · simp
theorem fIdx_spec0 (p : Int → Bool) : ∀ (xs : List Int) (i : Nat), (fIdx p i xs = -1 ∧ xs.filter (fun x => !p x) = xs) ∨ ∃ f, fIdx p i xs = ((i + f : Nat) : Int) ∧ f < xs.length ∧ (xs.take (f + 1)).filter (fun x => !p x) = xs.take f := by
  intro xs
  induction xs with
  | nil => intro i; exact .inl ⟨rfl, rfl⟩
  | cons x xs ih =>
    intro i
    simp only [fIdx]
    by_cases h : p x = true
    · right
      exact ⟨0, by simp [h], by simp, by simp [h]⟩
    · have h' : p x = false := by simpa using h
      rw [if_neg h]
      rcases ih (i + 1) with ⟨h1, h2⟩ | ⟨f, h1, h2, h3⟩
      · left
        refine ⟨h1, ?_⟩
        rw [List.filter_cons]
        simp [h', h2]
      · right
        refine ⟨f + 1, by rw [h1]; congr 1; omega, by simpa using h2, ?_⟩
        rw [List.take_succ_cons, List.filter_cons, h3]
        simp [h']
theorem fIdx_spec (p : Int → Bool) (xs : List Int) : (fIdx p 0 xs = -1 ∧ xs.filter (fun x => !p x) = xs) ∨ ∃ f : Nat, fIdx p 0 xs = (f : Int) ∧ f < xs.length ∧ (xs.take (f + 1)).filter (fun x => !p x) = xs.take f := by
  rcases fIdx_spec0 p xs 0 with h | ⟨f, h⟩
  · exact .inl h
  · exact .inr ⟨f, by simpa using h⟩
end Go.AM
/- AM: contracts: binary search, places put and taken out. -/
namespace Go.AM
set_option linter.unusedSimpArgs false
set_option linter.unusedVariables false
set_option maxRecDepth 8000
set_option maxHeartbeats 0
theorem slices_isNaN (a : Int) : Den PP 220 [.int .i64 a] [] (.bool false) [] := by
  refine den_of [] [] is_slices_isNaN_int ?_
  simp -implicitDefEqProofs [c_slices_isNaN_int]
theorem cmp_Less (a b : Int) : Den PP 219 [.int .i64 a, .int .i64 b] [] (.bool (decide (a < b))) [] := by
  refine den_of [] [] is_cmp_Less_int ?_
  simp -implicitDefEqProofs [c_cmp_Less_int]
  repeat' ((first | refine callThen_of (by first | exact cmp_isNaN _) ?_ | with_reducible refine gOps_dec (fun _ => ?_) (fun _ => ?_) | with_reducible refine gOps_ndec (fun _ => ?_) (fun _ => ?_) | (with_reducible refine gOps_and (fun hq => ?_) (fun hq => ?_) <;> (try simp at hq)) | (with_reducible refine gOps_or (fun hq => ?_) (fun hq => ?_) <;> (try simp at hq)) | (with_reducible refine gOps_not (fun hq => ?_) (fun hq => ?_) <;> (try simp at hq)) | (with_reducible refine gOps_split (fun hq => ?_) (fun hq => ?_) <;> (try simp at hq)) | with_reducible refine condC_dec (fun _ => ?_) (fun _ => ?_) | with_reducible refine condC_ndec (fun _ => ?_) (fun _ => ?_) | (with_reducible refine condC_and (fun hq => ?_) (fun hq => ?_) <;> (try simp at hq)) | (with_reducible refine condC_or (fun hq => ?_) (fun hq => ?_) <;> (try simp at hq)) | (with_reducible refine condC_not (fun hq => ?_) (fun hq => ?_) <;> (try simp at hq)) | (with_reducible refine condC_split (fun hq => ?_) (fun hq => ?_) <;> (try simp at hq)) | refine appK2_if (by omega) ?_ | refine pureV_if (by omega) ?_) <;> simp -implicitDefEqProofs [*])
theorem bsearch_int (xs : List Int) (id : Int) (hl : xs.length ≤ cap) (hr : xs.Pairwise (· < ·)) :
    Den PP 185 [intsD xs, .int .i64 id] [] (.tup [.int .i64 (posI xs id), .bool (decide (xs[posI xs id]? = some id))]) [] := by
  have hlo := fun i x => posI_lo (xs := xs) (id := id) i x
  have hhi := fun i x => posI_hi (id := id) hr i x
  have hat := posI_le xs id
  generalize posI xs id = at_ at *
  refine den_of [] [] is_slices_BinarySearch_int_int ?_
  simp -implicitDefEqProofs [c_slices_BinarySearch_int_int, intsD]
  refine loop_rule xs.length (fun m ⟨fr, bs⟩ => ∃ lo hi : Nat, bs = [] ∧ hi - lo ≤ m ∧ lo ≤ at_ ∧ at_ ≤ hi ∧ hi ≤ xs.length ∧ fr 0 = intsD xs ∧ fr 1 = .int .i64 id ∧ fr 6 = .int .i64 xs.length ∧ fr 7 = .int .i64 lo ∧ fr 8 = .int .i64 hi)
    (fun ⟨fr, bs⟩ => bs = [] ∧ fr 0 = intsD xs ∧ fr 1 = .int .i64 id ∧ fr 6 = .int .i64 xs.length ∧ fr 7 = .int .i64 at_) (fun _ => False) c_slices_BinarySearch_int_int_L0.eq_1 ?_ ?_ ?_ ?_ ?_
  · exact ⟨0, xs.length, rfl, by omega, by omega, hat, by omega, rfl, rfl, rfl, rfl, rfl⟩
  · rintro ⟨fr, bs⟩ ⟨lo, hi, rfl, h1, h2, h3, h4, h0, h5, h6, h7, h8⟩
    have e1 : lo = at_ := by omega
    have e2 : hi = at_ := by omega
    simp -implicitDefEqProofs [h0, h5, h6, h7, h8, e1, e2]
  · rintro m ⟨fr, bs⟩ ⟨lo, hi, rfl, h1, h2, h3, h4, h0, h5, h6, h7, h8⟩
    by_cases hlt : lo < hi
    · have hlt' : (lo : Int) < hi := by omega
      have hm := mid_eq (lo := lo) (hi := hi) (by omega) (by omega)
      have hml : (lo + hi) / 2 < xs.length := by omega
      have hml' : (((lo + hi) / 2 : Nat) : Int) < xs.length := by omega
      have hw := wrap_next (n := (lo + hi) / 2) (by unfold cap at hl; omega)
      have hb1 : lo ≤ (lo + hi) / 2 := by omega
      have hb2 : (lo + hi) / 2 < hi := by omega
      generalize (lo + hi) / 2 = mid at *
      obtain ⟨x, hx⟩ : ∃ x, xs[mid] = x := ⟨_, rfl⟩
      have hx' : xs[mid]? = some x := by simp [hml, hx]
      simp -implicitDefEqProofs [h0, h5, h6, h7, h8, hlt', hlt, hm, hml, hml', irow, hx, intsD]
      refine callThen_of (cmp_Less x id) ?_
      simp -implicitDefEqProofs
      refine condC_dec (fun hc => ?_) (fun hc => ?_)
      all_goals simp -implicitDefEqProofs [h0, h5, h6, h7, h8, hc, hw, intsD]
      · have : mid < at_ := by
          apply Classical.byContradiction
          intro hx2
          have := hhi mid x (by omega) hx'
          omega
        exact ⟨mid + 1, hi, by omega, by omega, by omega, by omega, by simp, by simp⟩
      · have : at_ ≤ mid := by
          apply Classical.byContradiction
          intro hx2
          have := hlo mid x (by omega) hx'
          omega
        exact ⟨lo, mid, by omega, by omega, by omega, by omega, by simp, by simp⟩
    · have e1 : lo = at_ := by omega
      have e2 : hi = at_ := by omega
      simp -implicitDefEqProofs [h0, h5, h6, h7, h8, e1, e2]
  · rintro ⟨fr, bs⟩ ⟨rfl, h0, h1, h6, h7⟩
    simp -implicitDefEqProofs [h0, h1, h6, h7]
    refine gOps_dec (fun hc => ?_) (fun hc => ?_)
    · obtain ⟨x, hx⟩ : ∃ x, xs[at_] = x := ⟨_, rfl⟩
      simp -implicitDefEqProofs [h0, h1, h6, h7, hc, irow, hx, intsD]
      repeat' ((first | refine callThen_of (by first | exact slices_isNaN _) ?_ | with_reducible refine gOps_dec (fun _ => ?_) (fun _ => ?_) | with_reducible refine gOps_ndec (fun _ => ?_) (fun _ => ?_) | (with_reducible refine gOps_and (fun hq => ?_) (fun hq => ?_) <;> (try simp at hq)) | (with_reducible refine gOps_or (fun hq => ?_) (fun hq => ?_) <;> (try simp at hq)) | (with_reducible refine gOps_not (fun hq => ?_) (fun hq => ?_) <;> (try simp at hq)) | (with_reducible refine gOps_split (fun hq => ?_) (fun hq => ?_) <;> (try simp at hq)) | with_reducible refine condC_dec (fun _ => ?_) (fun _ => ?_) | with_reducible refine condC_ndec (fun _ => ?_) (fun _ => ?_) | (with_reducible refine condC_and (fun hq => ?_) (fun hq => ?_) <;> (try simp at hq)) | (with_reducible refine condC_or (fun hq => ?_) (fun hq => ?_) <;> (try simp at hq)) | (with_reducible refine condC_not (fun hq => ?_) (fun hq => ?_) <;> (try simp at hq)) | (with_reducible refine condC_split (fun hq => ?_) (fun hq => ?_) <;> (try simp at hq)) | refine appK2_if (by omega) ?_ | refine pureV_if (by omega) ?_) <;> simp -implicitDefEqProofs [*, h0, h1, h6, h7, hc, irow, hx, intsD])
    · have hp : xs[at_]? = none := by rw [List.getElem?_eq_none]; omega
      simp -implicitDefEqProofs [h0, h1, h6, h7, hc, hp, intsD]
  · rintro ⟨fr, bs⟩ h
    exact h.elim
theorem deleteFunc_int (xs : List Int) (g : Nat) (caps : List D) (p : Int → Bool) (hp : TellsI g caps p xs) (hl : xs.length ≤ 1000000) :
    GivesC (DenF PP [0]) 225 (xs.map irow) 1 [.fn g [] caps] ((xs.filter fun x => !p x).map irow) := by
  refine gives_of (fun r hr => by obtain ⟨a, _, rfl⟩ := List.mem_map.1 hr; rfl) (StillR.map _ _ fun a _ d hd => by rw [List.mem_singleton.1 hd]; rfl) fun fl hfl hrow hfs htake hget => ?_
  have hi0 := slices_IndexFunc_int xs (by unfold cap; omega) g caps p hp
  have hi1 : Den PP 165 [.sl fl xs.length, .fn g [] caps] [] (.int .i64 (fIdx p 0 xs)) [] := den_cut (by
    simp only [List.map_cons, List.map_nil, D.cut]
    rw [List.length_map] at htake
    rw [htake]
    exact hi0)
  simp only [List.length_map] at *
  rcases fIdx_spec p xs with ⟨he, hf⟩ | ⟨f, he, hf, hff⟩
  · rw [he] at hi1
    refine ⟨.ref 0 0 xs.length, [⟨fl, 1, .mut⟩], ?_, ?_⟩
    · refine denF_of [] [] [] [] (by simp) (fun _ h => absurd h List.not_mem_nil) is_slices_DeleteFunc_int_int ?_
      simp -implicitDefEqProofs [-leave, c_slices_DeleteFunc_int_int, hp.2.1]
      refine callThen_of hi1 ?_
      simp -implicitDefEqProofs [-leave, hp.2.1]
      rw [leave_lent (by omega) (by simpa using hfs)]
      rfl
    · rw [hf]
      exact outRows_of rfl rfl rfl (by simpa using hfl) (by simpa using htake.symm) (.inl rfl)
  · rw [he] at hi1
    have hfl' : f < fl.length := by omega
    have hw := wrap_next (n := f) (by omega)
    have hne : ¬ (f : Int) = -1 := by omega
    have hm1 := List.length_filter_le (fun x => !p x) xs
    obtain ⟨m, hm⟩ : ∃ m, (xs.filter fun x => !p x).length = m := ⟨_, rfl⟩
    rw [hm] at hm1
    have hcells : ∀ k, k < xs.length → fl[k]? = (xs[k]?).map irow := by
      intro k hk
      rw [hget k hk, List.getElem?_map]
    refine ⟨.ref 0 0 m, [⟨(xs.filter fun x => !p x).map irow ++ List.replicate (xs.length - m) [.int .i64 0] ++ fl.drop xs.length, 1, .mut⟩], ?_, ?_⟩
    · refine denF_of [] [] [] [] (by simp) (fun _ h => absurd h List.not_mem_nil) is_slices_DeleteFunc_int_int ?_
      simp -implicitDefEqProofs [-leave, c_slices_DeleteFunc_int_int, hp.2.1]
      refine callThen_of hi1 ?_
      simp -implicitDefEqProofs [-leave, hp.2.1, hne, hw]
      refine loop_rule (xs.length - (f + 1)) (fun q ⟨fr, bs⟩ => ∃ (i j : Nat) (cur : List (List D)), bs = [⟨cur, 1, .mut⟩, ⟨[], 1, .mut⟩] ∧ xs.length - j ≤ q ∧ j ≤ xs.length ∧ i < j ∧ cur.length = fl.length ∧ StillR cur ∧
          (∀ r ∈ cur, r.length = 1) ∧ cur.take i = ((xs.take j).filter fun x => !p x).map irow ∧ cur.drop j = fl.drop j ∧ fr 0 = .ref 0 0 xs.length ∧ fr 1 = .fn g [] caps ∧ fr 5 = .int .i64 i ∧ fr 6 = .int .i64 j)
        (fun ⟨fr, bs⟩ => ∃ cur : List (List D), bs = [⟨cur, 1, .mut⟩, ⟨[], 1, .mut⟩] ∧ m < xs.length ∧ cur.length = fl.length ∧ StillR cur ∧ cur.take m = (xs.filter fun x => !p x).map irow ∧ cur.drop xs.length = fl.drop xs.length ∧ fr 0 = .ref 0 0 xs.length ∧ fr 5 = .int .i64 m)
        (fun _ => False) c_slices_DeleteFunc_int_int_L0.eq_1 ?_ ?_ ?_ ?_ ?_
      · refine ⟨f, f + 1, fl, rfl, by omega, by omega, by omega, rfl, hfs, hrow, ?_, rfl, rfl, rfl, rfl, rfl⟩
        rw [hff, List.map_take, ← htake, List.take_take]
        congr 1
        omega
      · rintro ⟨fr, bs⟩ ⟨i, j, cur, rfl, hq, hj, hij, hcl, hcs, hcr, hct, hcd, h0, h1, h5, h6⟩
        have hje : j = xs.length := by omega
        subst hje
        rw [List.take_length] at hct
        have him : i = m := by
          have := congrArg List.length hct
          simp at this
          omega
        subst him
        simp -implicitDefEqProofs [-leave, h0, h1, h5, h6]
        exact ⟨hij, hcl, hcs, hct, hcd⟩
      · rintro q ⟨fr, bs⟩ ⟨i, j, cur, rfl, hq, hj, hij, hcl, hcs, hcr, hct, hcd, h0, h1, h5, h6⟩
        by_cases hjx : j = xs.length
        · subst hjx
          rw [List.take_length] at hct
          have him : i = m := by
            have := congrArg List.length hct
            simp at this
            omega
          subst him
          simp -implicitDefEqProofs [-leave, h0, h1, h5, h6]
          exact ⟨hij, hcl, hcs, hct, hcd⟩
        · have hjl : j < xs.length := by omega
          have hjl' : (j : Int) < xs.length := by omega
          obtain ⟨x, hx⟩ : ∃ x, xs[j] = x := ⟨_, rfl⟩
          have hx' : xs[j]? = some x := by simp [hjl, hx]
          have hcj : cur[j]? = some [.int .i64 x] := by
            have h7 : (cur.drop j)[0]? = (fl.drop j)[0]? := by rw [hcd]
            rw [List.getElem?_drop, List.getElem?_drop, Nat.add_zero, hcells j hjl, hx'] at h7
            exact h7
          have hwj := wrap_next (n := j) (by omega)
          have hwi := wrap_next (n := i) (by omega)
          have hil' : (i : Int) < xs.length := by omega
          obtain ⟨r0, hr0⟩ : ∃ r0, cur[i]? = some r0 := ⟨cur[i]'(by omega), by simp⟩
          have hr0l : r0.length = 1 := hcr r0 (List.mem_of_getElem? hr0)
          obtain ⟨d0, rfl⟩ := List.length_eq_one_iff.1 hr0l
          have hsw := hcs.sweep
          have hicl : i < cur.length := by omega
          have htk : xs.take (j + 1) = xs.take j ++ [x] := by rw [List.take_add_one, hx']; rfl
          simp -implicitDefEqProofs [-leave, h0, h1, h5, h6, hjl', hcj, hp.1, hp.2.1]
          refine callThen_of (hp.2.2 x (List.mem_of_getElem? hx')) ?_
          simp -implicitDefEqProofs [-leave]
          refine condC_not (fun hpx => ?_) (fun hpx => ?_)
          all_goals simp -implicitDefEqProofs [-leave, h0, h1, h5, h6, hwi, hwj, hil', hr0, hp.1, hp.2.1, hsw]
          · refine ⟨i, j + 1, ?_⟩
            simp
            refine ⟨by omega, by omega, by omega, hcl, hcs, hcr, ?_, ?_⟩
            · rw [htk, List.filter_append, hct]
              simp [hpx]
            · rw [← List.drop_drop, ← List.drop_drop, hcd]
          · refine ⟨i + 1, j + 1, ?_⟩
            simp
            refine ⟨by omega, by omega, by omega, hcl, hcs.set (by simp [D.still]) i, ?_, ?_, ?_⟩
            · intro r hr
              rcases List.mem_or_eq_of_mem_set hr with h | h
              · exact hcr r h
              · rw [h]; rfl
            · rw [htk, List.filter_append, List.map_append, ← hct, List.take_add_one]
              simp [hpx, irow, List.take_set, hicl]
              rw [List.set_eq_of_length_le (by simp; omega)]
            · rw [List.drop_set_of_lt (by omega), ← List.drop_drop, ← List.drop_drop, hcd]
      · rintro ⟨fr, bs⟩ ⟨cur, rfl, hlt, hcl, hcs, hct, hcd, h0, h5⟩
        simp -implicitDefEqProofs [-leave, h0, h5]
        refine outK_slice (m) (xs.length) (by simp; rfl) rfl (by first | rfl | omega | (simp [boundD]; done) | (simp [boundD]; omega) | (simp; done) | (simp; omega)) (by first | rfl | omega | (simp [boundD]; done) | (simp [boundD]; omega) | (simp; done) | (simp; omega)) (by omega) (by first | rfl | omega | (simp [boundD]; done) | (simp [boundD]; omega) | (simp; done) | (simp; omega)) rfl (by first | rfl | omega | (simp [boundD]; done) | (simp [boundD]; omega) | (simp; done) | (simp; omega)) ?_
        simp -implicitDefEqProofs [-leave, h0, h5]
        try refine overK_if (by first | omega | (simp; done) | (simp; omega)) ?_
        try simp -implicitDefEqProofs [-leave, h0, h5]
        have hov := ovr_length (rows := cur) (p := m) (ys := List.replicate (xs.length - m) [D.int IntKind.i64 0]) (by simp; omega)
        refine outK_slice (0) (m) (by simp; rfl) rfl (by first | rfl | omega | (simp [boundD]; done) | (simp [boundD]; omega) | (simp; done) | (simp; omega)) (by first | rfl | omega | (simp [boundD]; done) | (simp [boundD]; omega) | (simp; done) | (simp; omega)) (by omega) (by first | rfl | omega | (simp [boundD]; done) | (simp [boundD]; omega) | (simp; done) | (simp; omega)) rfl (by first | rfl | omega | (simp [boundD]; done) | (simp [boundD]; omega) | (simp; done) | (simp; omega)) ?_
        simp -implicitDefEqProofs [-leave, h0, h5]
        rw [leave_lent (by omega) (by simpa using hcs.ovr (b := List.replicate (xs.length - m) [D.int IntKind.i64 0]) (fun r hr d hd => by rw [(List.mem_replicate.1 hr).2] at hd; rw [List.mem_singleton.1 hd]; rfl) m)]
        simp only [List.take_succ_cons, List.take_zero, ovr, List.length_replicate, hct, show m + (xs.length - m) = xs.length by omega, hcd, List.append_assoc]
      · rintro ⟨fr, bs⟩ h
        exact h.elim
    · refine outRows_of rfl rfl rfl ?_ ?_ (.inl rfl)
      · simp; omega
      · rw [List.drop_zero, List.append_assoc, List.take_left' (by simpa using hm)]
theorem passive_With (xs : List Int) (id : Int) (hl : xs.length ≤ cap) : Den PP 112 [intsD xs, .int .i64 id] [] (.tup [.ref 0 0 (withP xs id).1.length, .int .i64 (withP xs id).2]) [⟨(withP xs id).1.map irow, 1, .mut⟩] := by
  have c1 := passive_May xs hl
  have c2 := fun h : xs.length ≤ 16 => clone_int (xs.map irow) (by simp) (by simp; omega)
  have c3 := fun h => bsearch_int xs id hl h
  simp only [intsD, List.length_map] at c1 c2 c3
  refine den_ofG [25, 31] [31] [31] [] (fun _ h => absurd h List.not_mem_nil) is_passive_With ?_
  simp -implicitDefEqProofs [c_passive_With, intsD]
  refine callThen_of c1 ?_
  simp -implicitDefEqProofs
  refine gOps_split (fun h1 => ?_) (fun h1 => ?_)
  rotate_left
  · simp -implicitDefEqProofs [h1, withP]
  obtain ⟨hr, hp, h16⟩ := (passiveMay_iff xs).1 h1
  simp -implicitDefEqProofs [h1]
  refine callThen_of (ring_Place id) ?_
  simp -implicitDefEqProofs
  refine condC_not (fun h2 => ?_) (fun h2 => ?_)
  rotate_left
  · simp -implicitDefEqProofs [h1, h2, withP]
  simp -implicitDefEqProofs [h1, h2]
  refine callThen_of (c3 hr) ?_
  simp -implicitDefEqProofs
  refine condC_dec (fun h3 => ?_) (fun h3 => ?_)
  · have h4 := (posI_mem hr).1 h3
    simp -implicitDefEqProofs
    refine callThen_of (c2 h16) ?_
    simp -implicitDefEqProofs [h1, h2, h4, withP]
  · have h4 : ¬ id ∈ xs := fun h => h3 ((posI_mem hr).2 h)
    simp -implicitDefEqProofs
    refine condC_dec (fun h5 => ?_) (fun h5 => ?_)
    · have h5' : xs.length = 16 := by omega
      simp -implicitDefEqProofs [h1, h2, h4, h5', withP]
    · have h5' : ¬ xs.length = 16 := by omega
      simp -implicitDefEqProofs
      refine callThen_of (c2 h16) ?_
      simp -implicitDefEqProofs
      refine giveThen_of rfl (by simp) (by simp) (by simp) (insert_int (xs.map irow) (irow id) (posI xs id) (by simp) (StillR.map _ _ fun a _ d hd => by rw [List.mem_singleton.1 hd]; rfl) (by intro r hr; rw [List.mem_singleton.1 hr]; exact ⟨rfl, rfl⟩) (by intro d hd; rw [List.mem_singleton.1 hd]; rfl) (by simpa using posI_le xs id) (by simp; omega)) ?_
      rw [← insL_map, insL_insU]
      simp -implicitDefEqProofs [downTo, h1, h2, h4, h5', withP]
theorem passive_Without_1 (id a : Int) : Den PP 224 [.int .i64 a, .mem [.int .i64 id]] [] (.bool (decide (a = id))) [] := by
  refine den_of [] [] is_passive_Without_1 ?_
  simp -implicitDefEqProofs [c_passive_Without_1]
end Go.AM
/- AM: code run by reckoning: a frame is a tree; a run that comes to an end tells the contract. -/
namespace Go.AM
set_option linter.unusedSimpArgs false
set_option linter.unusedVariables false

/-! ### data held against each other -/
mutual
def D.beq : D → D → Bool
  | .undef, .undef => true
  | .int k n, .int k' n' => decide (k = k') && decide (n = n')
  | .bool a, .bool b => a == b
  | .nil, .nil => true
  | .zs a, .zs b => a == b
  | .sl r n, .sl r' n' => Nat.beq n n' && beqLL r r'
  | .mem a, .mem b => beqL a b
  | .ref b o l, .ref b' o' l' => Nat.beq b b' && (Nat.beq o o' && Nat.beq l l')
  | .ptr b o l, .ptr b' o' l' => Nat.beq b b' && (Nat.beq o o' && Nat.beq l l')
  | .agg a, .agg b => beqL a b
  | .tup a, .tup b => beqL a b
  | .fn f a c, .fn f' a' c' => Nat.beq f f' && (beqL a a' && beqL c c')
  | _, _ => false
def beqL : List D → List D → Bool
  | [], [] => true
  | a :: us, b :: bs => D.beq a b && beqL us bs
  | _, _ => false
def beqLL : List (List D) → List (List D) → Bool
  | [], [] => true
  | a :: us, b :: bs => beqL a b && beqLL us bs
  | _, _ => false
end
mutual
theorem D.beq_sound : ∀ (a b : D), D.beq a b = true → a = b := by
  intro a b h
  cases a <;> cases b <;> simp only [D.beq, Bool.false_eq_true] at h <;> try rfl
  · simp only [Bool.and_eq_true, decide_eq_true_eq] at h; rw [h.1, h.2]
  · rw [eq_of_beq h]
  · rw [eq_of_beq h]
  · simp only [Bool.and_eq_true, Nat.beq_eq] at h; rw [h.1, beqLL_sound _ _ h.2]
  · rw [beqL_sound _ _ h]
  · simp only [Bool.and_eq_true, Nat.beq_eq] at h; rw [h.1, h.2.1, h.2.2]
  · simp only [Bool.and_eq_true, Nat.beq_eq] at h; rw [h.1, h.2.1, h.2.2]
  · rw [beqL_sound _ _ h]
  · rw [beqL_sound _ _ h]
  · simp only [Bool.and_eq_true, Nat.beq_eq] at h; rw [h.1, beqL_sound _ _ h.2.1, beqL_sound _ _ h.2.2]
theorem beqL_sound : ∀ (a b : List D), beqL a b = true → a = b := by
  intro a b h
  cases a <;> cases b <;> simp only [beqL, Bool.false_eq_true] at h
  · rfl
  · simp only [Bool.and_eq_true] at h; rw [D.beq_sound _ _ h.1, beqL_sound _ _ h.2]
theorem beqLL_sound : ∀ (a b : List (List D)), beqLL a b = true → a = b := by
  intro a b h
  cases a <;> cases b <;> simp only [beqLL, Bool.false_eq_true] at h
  · rfl
  · simp only [Bool.and_eq_true] at h; rw [beqL_sound _ _ h.1, beqLL_sound _ _ h.2]
end
def Blk.beq (a b : Blk) : Bool := beqLL a.rows b.rows && (Nat.beq a.esz b.esz && decide (a.kind = b.kind))
theorem Blk.beq_sound {a b : Blk} (h : a.beq b = true) : a = b := by
  obtain ⟨r, e, k⟩ := a
  obtain ⟨r', e', k'⟩ := b
  simp only [Blk.beq, Bool.and_eq_true, Nat.beq_eq, decide_eq_true_eq] at h
  rw [beqLL_sound _ _ h.1, h.2.1, h.2.2]
def beqB : List Blk → List Blk → Bool
  | [], [] => true
  | a :: us, b :: bs => a.beq b && beqB us bs
  | _, _ => false
theorem beqB_sound : ∀ (a b : List Blk), beqB a b = true → a = b
  | [], [], _ => rfl
  | a :: us, b :: bs, h => by
    simp only [beqB, Bool.and_eq_true] at h
    rw [Blk.beq_sound h.1, beqB_sound us bs h.2]
  | [], _ :: _, h => by simp [beqB] at h
  | _ :: _, [], h => by simp [beqB] at h

/-! ### frames -/
inductive Tr where
  | leaf
  | node (v : D) (l r : Tr)
  deriving Inhabited
def Tr.get : Tr → Nat → D
  | .leaf, _ => .undef
  | .node v l r, t => cond (Nat.beq t 0) v (cond (Nat.beq (Nat.mod t 2) 1) (l.get (Nat.div t 2)) (r.get (Nat.sub (Nat.div t 2) 1)))
def Tr.set : Tr → Nat → D → Option Tr
  | .leaf, _, _ => none
  | .node v l r, t, d => cond (Nat.beq t 0) (some (.node d l r)) (cond (Nat.beq (Nat.mod t 2) 1)
      (match l.set (Nat.div t 2) d with | some l' => some (.node v l' r) | none => none)
      (match r.set (Nat.sub (Nat.div t 2) 1) d with | some r' => some (.node v l r') | none => none))
def Tr.map (f : D → D) : Tr → Tr
  | .leaf => .leaf
  | .node v l r => .node (f v) (l.map f) (r.map f)
def Tr.mk : Nat → Tr
  | 0 => .leaf
  | n + 1 => .node .undef (Tr.mk n) (Tr.mk n)
def Tr.beq : Tr → Tr → Bool
  | .leaf, .leaf => true
  | .node v l r, .node v' l' r' => v.beq v' && (l.beq l' && r.beq r')
  | _, _ => false
theorem Tr.beq_sound : ∀ (a b : Tr), a.beq b = true → a = b
  | .leaf, .leaf, _ => rfl
  | .node v l r, .node v' l' r', h => by
    simp only [Tr.beq, Bool.and_eq_true] at h
    rw [D.beq_sound _ _ h.1, Tr.beq_sound l l' h.2.1, Tr.beq_sound r r' h.2.2]
  | .leaf, .node _ _ _, h => by simp [Tr.beq] at h
  | .node _ _ _, .leaf, h => by simp [Tr.beq] at h
theorem nbeq_no {a b : Nat} (h : ¬ a = b) : Nat.beq a b = false := by
  cases hb : Nat.beq a b with
  | false => rfl
  | true => exact absurd (Nat.eq_of_beq_eq_true hb) h
theorem nbeq_yes {a b : Nat} (h : a = b) : Nat.beq a b = true := by subst h; exact Nat.beq_refl a
theorem Tr.get_set : ∀ (tr : Tr) (t : Nat) (d : D) (tr' : Tr), tr.set t d = some tr' → tr'.get = upd tr.get t d := by
  intro tr
  induction tr with
  | leaf => intro t d tr' h; cases h
  | node v l r ihl ihr =>
    intro t d tr' h
    funext s
    unfold Tr.set at h
    by_cases h0 : t = 0
    · subst h0
      rw [nbeq_yes rfl, cond_true] at h
      cases h
      unfold upd
      by_cases hs : s = 0
      · subst hs; simp [Tr.get]
      · have hs' : Nat.beq s 0 = false := nbeq_no hs
        simp [Tr.get, hs, hs']
    · have h0' : Nat.beq t 0 = false := nbeq_no h0
      rw [h0', cond_false] at h
      by_cases h1 : t % 2 = 1
      · have h1' : Nat.beq (Nat.mod t 2) 1 = true := nbeq_yes h1
        rw [h1', cond_true] at h
        split at h
        · rename_i l' hl
          cases h
          have := ihl _ _ _ hl
          unfold upd at this ⊢
          by_cases hs : s = 0
          · subst hs; simp [Tr.get, Ne.symm h0]
          · have hs' : Nat.beq s 0 = false := nbeq_no hs
            by_cases hs2 : s % 2 = 1
            · have hs2' : Nat.beq (Nat.mod s 2) 1 = true := nbeq_yes hs2
              have e : (Nat.div s 2 = Nat.div t 2) = (s = t) := by
                apply propext
                show (s / 2 = t / 2) ↔ _
                omega
              simp only [Tr.get, hs', hs2', cond_true, cond_false, this, e]
            · have hs2' : Nat.beq (Nat.mod s 2) 1 = false := nbeq_no hs2
              have : s ≠ t := by intro e; subst e; exact hs2 h1
              simp only [Tr.get, hs', hs2', cond_false, this, if_false]
        · cases h
      · have h1' : Nat.beq (Nat.mod t 2) 1 = false := nbeq_no h1
        rw [h1', cond_false] at h
        split at h
        · rename_i r' hr
          cases h
          have := ihr _ _ _ hr
          unfold upd at this ⊢
          by_cases hs : s = 0
          · subst hs; simp [Tr.get, Ne.symm h0]
          · have hs' : Nat.beq s 0 = false := nbeq_no hs
            by_cases hs2 : s % 2 = 1
            · have hs2' : Nat.beq (Nat.mod s 2) 1 = true := nbeq_yes hs2
              have : s ≠ t := by intro e; subst e; exact h1 hs2
              simp only [Tr.get, hs', hs2', cond_true, cond_false, this, if_false]
            · have hs2' : Nat.beq (Nat.mod s 2) 1 = false := nbeq_no hs2
              have e : (Nat.sub (Nat.div s 2) 1 = Nat.sub (Nat.div t 2) 1) = (s = t) := by
                apply propext
                show (s / 2 - 1 = t / 2 - 1) ↔ _
                omega
              simp only [Tr.get, hs', hs2', cond_false, this, e]
        · cases h
theorem Tr.get_map {f : D → D} (hf : f .undef = .undef) : ∀ (tr : Tr) (t : Nat), (tr.map f).get t = f (tr.get t) := by
  intro tr
  induction tr with
  | leaf => intro t; exact hf.symm
  | node v l r ihl ihr =>
    intro t
    simp only [Tr.map, Tr.get, ihl, ihr]
    cases Nat.beq t 0 <;> cases Nat.beq (Nat.mod t 2) 1 <;> rfl
theorem Tr.get_mk : ∀ (n t : Nat), (Tr.mk n).get t = .undef := by
  intro n
  induction n with
  | zero => intro t; rfl
  | succ n ih =>
    intro t
    simp only [Tr.mk, Tr.get, ih]
    cases Nat.beq t 0 <;> cases Nat.beq (Nat.mod t 2) 1 <;> rfl

structure E where
  tr : Tr
  bs : List Blk
def E.st (e : E) : St := ⟨e.tr.get, e.bs⟩
def E.ev (e : E) : Operand → D
  | .tmp t => e.tr.get t
  | .const v => constD v
  | .func f => .fn f [] []
  | .global _ => .undef
theorem E.ev_st (e : E) : e.st.ev = e.ev := by funext x; cases x <;> rfl
def forceN {α : Type} (n : Nat) (k : Nat → α) : α := match n with
  | 0 => k 0
  | n + 1 => k (n + 1)
theorem forceN_eq {α : Type} (n : Nat) (k : Nat → α) : forceN n k = k n := by cases n <;> rfl
def forceD {α : Type} (d : D) (k : D → α) : α := match d with
  | .int i n => match n with
    | .ofNat m => forceN m fun m => k (.int i (.ofNat m))
    | .negSucc m => forceN m fun m => k (.int i (.negSucc m))
  | .bool b => match b with
    | true => k (.bool true)
    | false => k (.bool false)
  | .undef => k .undef
  | .nil => k .nil
  | .zs b => k (.zs b)
  | .sl r n => forceN n fun n => k (.sl r n)
  | .mem a => k (.mem a)
  | .ref b o l => forceN b fun b => forceN o fun o => forceN l fun l => k (.ref b o l)
  | .ptr b i j => forceN b fun b => forceN i fun i => forceN j fun j => k (.ptr b i j)
  | .agg a => k (.agg a)
  | .tup a => k (.tup a)
  | .fn f a c => k (.fn f a c)
theorem forceD_eq {α : Type} (d : D) (k : D → α) : forceD d k = k d := by
  cases d <;> simp only [forceD, forceN_eq]
  · rename_i n; cases n <;> rfl
  · rename_i b; cases b <;> rfl
def E.put (e : E) (dst : Option Nat) (d : D) : Option E := match dst with
  | none => some e
  | some t => forceD d fun d => match e.tr.set t d with
    | some tr => some ⟨tr, e.bs⟩
    | none => none
theorem E.put_st {e e' : E} {dst : Option Nat} {d : D} (h : e.put dst d = some e') : e'.st = e.st.put dst d := by
  cases dst with
  | none => cases h; rfl
  | some t =>
    simp only [E.put, forceD_eq] at h
    split at h
    · rename_i tr ht
      cases h
      simp only [E.st, St.put, Tr.get_set _ _ _ _ ht]
    · cases h
def E.out (e : E) (dst : Option Nat) (o : Out) : Option E := match e.put dst o.d with
  | some e' => some ⟨e'.tr, downTo o.down e.bs ++ o.news⟩
  | none => none
theorem E.out_st {e e' : E} {dst : Option Nat} {o : Out} (h : e.out dst o = some e') : e'.st = e.st.out dst o := by
  unfold E.out at h
  split at h
  · rename_i e1 h1
    cases h
    have := E.put_st h1
    simp only [St.out, ← this]
    rfl
  · cases h
theorem sweep_undef (S : Nat → Bool) : D.sweep S .undef = .undef := rfl

def fitsB (sz : Nat) (ys : List (List D)) : Bool := ys.all fun r => Nat.beq r.length sz && r.all D.isCell
theorem fitsB_sound {sz : Nat} {ys : List (List D)} (h : fitsB sz ys = true) : Fits sz ys := by
  unfold fitsB at h
  rw [List.all_eq_true] at h
  intro r hr
  have := h r hr
  simp only [Bool.and_eq_true, Nat.beq_eq] at this
  exact this

abbrev XC := Nat → List D → List Blk → Option (D × List Blk)
abbrev XG := Nat → List (List D) → Nat → List D → Option (List (List D))

def eAppend (c : Cfg) (e : E) (el : Nat) (base : D) (ys : List (List D)) : Option (D × E) :=
    match base with
    | .nil => if ys.length * (c.T el).bytes ≤ 140737488355328 ∧ ys.length ≤ 9223372036854775807 then
        some (.ref e.bs.length 0 ys.length, ⟨e.tr, e.bs ++ [⟨ys, (c.T el).size, .mut⟩]⟩) else none
    | .ref b off len => match e.bs[b]? with
      | some k =>
        if k.esz = (c.T el).size ∧ k.kind.isBox = false ∧ (len + ys.length) * (c.T el).bytes ≤ 140737488355328 ∧ len + ys.length ≤ 9223372036854775807 then
          (if off + len = k.rows.length ∧ c.n0 ≤ b then
            some (.ref b 0 (len + ys.length), ⟨e.tr.map (D.sweep (· == b)), setBlk (e.bs.map (Blk.sweep (· == b))) b (k.rows.drop off ++ ys)⟩)
          else if off + len + ys.length ≤ k.rows.length ∧ k.kind = .mut then
            some (.ref b off (len + ys.length), ⟨e.tr, setBlk e.bs b (k.rows.take (off + len) ++ ys ++ k.rows.drop (off + len + ys.length))⟩)
          else if k.rows.length < off + len + ys.length ∧ off + len ≤ k.rows.length ∧ c.full.contains b = true ∧ 0 < k.esz then
            some (.ref e.bs.length 0 (len + ys.length), ⟨e.tr, e.bs ++ [⟨(k.rows.drop off).take len ++ ys, (c.T el).size, .mut⟩]⟩)
          else none)
        else none
      | none => none
    | _ => none
theorem eAppend_st {c : Cfg} {e : E} {el : Nat} {base : D} {ys : List (List D)} {r : D} {e' : E} (h : eAppend c e el base ys = some (r, e')) : appendD c e.st el base ys = some (r, e'.st) := by
  have hm : ∀ b, (fun t => (e.tr.map (D.sweep (· == b))).get t) = sweepF (· == b) e.tr.get := fun b => by
    funext t
    rw [Tr.get_map (sweep_undef _)]
    rfl
  unfold eAppend at h
  unfold appendD
  cases base <;> simp only at h ⊢ <;> try cases h
  · split at h
    · rename_i h1; cases h; rw [if_pos h1]; rfl
    · cases h
  · simp only [E.st]
    split at h
    · rename_i k hk
      rw [hk]
      simp only
      split at h
      · rename_i h1
        rw [if_pos h1]
        split at h
        · rename_i h2
          rw [if_pos h2]
          cases h
          simp only [E.st, ← hm]
        · rename_i h2
          rw [if_neg h2]
          split at h
          · rename_i h3; rw [if_pos h3]; cases h; rfl
          · rename_i h3
            rw [if_neg h3]
            split at h
            · rename_i h4; rw [if_pos h4]; cases h; rfl
            · cases h
      · cases h
    · cases h

def eCall (c : Cfg) (X : XC) (dst : Option Nat) (f : D) (args : List D) (e : E) : Option E :=
  match f with
  | .fn f first caps => match X f ((first ++ args ++ caps).map (D.freeze e.bs)) [] with
    | some (r, nbs) =>
      cond ((nbs.all fun b => !b.kind.isBox) && ((importD (ownT c dst) e.bs.length r nbs (reach e.bs (idsL (first ++ args ++ caps)))).down.all fun b => decide (b < e.bs.length)))
        (e.out dst (importD (ownT c dst) e.bs.length r nbs (reach e.bs (idsL (first ++ args ++ caps))))) none
    | none => none
  | _ => none
def eLend (X : XC) (dst : Option Nat) (f : D) (args : List D) (e : E) : Option E :=
  match f with
  | .fn f first caps => match X f (first ++ args ++ caps) e.bs with
    | some (r, bs') => E.put ⟨e.tr, bs'⟩ dst r
    | none => none
  | _ => none
def eGive (c : Cfg) (G : XG) (dst : Option Nat) (f : D) (args : List D) (e : E) : Option E :=
  match f, args with
  | .fn f [] [], .ref b 0 len :: rest => match e.bs[b]? with
    | some k => if c.n0 ≤ b ∧ k.kind = .mut ∧ k.rows.length = len ∧ (reach e.bs (idsL rest)).contains b = false then
        (match G f k.rows k.esz (rest.map (D.freeze e.bs)) with
        | some R => E.put ⟨e.tr.map (D.sweep (· == b)), setBlk ((downTo (reach e.bs (idsL rest)) e.bs).map (Blk.sweep (· == b))) b R⟩ dst (.ref b 0 R.length)
        | none => none) else none
    | none => none
  | _, _ => none
def eBar (c : Cfg) (X : XC) (G : XG) (dst : Option Nat) (f : Operand) (args : Array Operand) (e : E) : Option E :=
  cond (isOvl c f) (cond (apartD e.bs (args.toList.map e.ev)) (e.put dst (.bool false)) none)
    (cond (isGive c args) (eGive c G dst (e.ev f) (args.toList.map e.ev) e) (eLend X dst (e.ev f) (args.toList.map e.ev) e))
def eOver (e : E) (dst : Option Nat) (d : D) (x : Option St) : Option E := match x with
  | some st => E.put ⟨e.tr, st.bs⟩ dst d
  | none => none

def eOther (c : Cfg) (X : XC) (G : XG) (o : SO) (e : E) : Option E :=
  match o.op with
  | .call ⟨.value f, args, _⟩ => cond (isLend c f args) (eBar c X G o.dst f args e) (eCall c X o.dst (e.ev f) (args.toList.map e.ev) e)
  | .call ⟨.builtin .append, args, tys⟩ => match tys.toList, args.toList with
    | [t0, t1], [s, x] => match (c.T t0).d with
      | .slice el => match moreRows c.T e.bs el (c.T t1).d (e.ev x) with
        | some ys => cond (fitsB (c.T el).size ys) (match eAppend c e el (e.ev s) ys with
          | some (r, e') => e'.put o.dst r
          | none => none) none
        | none => none
      | _ => none
    | _, _ => none
  | .call ⟨.builtin .copy, args, tys⟩ => match tys.toList, args.toList with
    | [t0, _], [s, x] => match (c.T t0).d, e.ev s with
      | .slice el, .ref b off len => match srcRows e.bs (e.ev x) with
        | some ys => cond (ys.all fun r => Nat.beq r.length (c.T el).size) (cond (fitsB (c.T el).size (ys.take len))
            (eOver e o.dst (.int .i64 ((ys.take len).length : Int)) (overD e.st (.ref b off len) (c.T el).size (ys.take len))) none) none
        | none => none
      | _, _ => none
    | _, _ => none
  | .call ⟨.builtin .clear, args, tys⟩ => match tys.toList, args.toList with
    | [t0], [s] => match (c.T t0).d, e.ev s with
      | .slice el, .ref b off len => cond (fitsB (c.T el).size (replicateRows len (c.T el).zero))
          (eOver e o.dst (.tup []) (overD e.st (.ref b off len) (c.T el).size (replicateRows len (c.T el).zero))) none
      | _, _ => none
    | _, _ => none
  | .call _ => none
  | .store t a x => match storeD c.T e.st t (e.ev a) (e.ev x) with
    | some st => E.put ⟨e.tr, st.bs⟩ o.dst (.tup [])
    | none => none
  | op => match opFn c.T c.eqs e.bs.length e.bs e.ev o.ty op with
    | some out => cond (out.down.all fun b => decide (b < e.bs.length)) (e.out o.dst out) none
    | none => none
def eOp (c : Cfg) (X : XC) (G : XG) (o : SO) (e : E) : Option E :=
  match pureD c e.bs e.ev o.op with
  | some x => e.put o.dst x
  | none => eOther c X G o e

theorem overD_fr {st st' : St} {d : D} {sz : Nat} {ys : List (List D)} (h : overD st d sz ys = some st') : st'.fr = st.fr := by
  unfold overD at h
  split at h
  · split at h
    · split at h
      · cases h; rfl
      · cases h
    · cases h
  · cases h
theorem storeD_fr {T : Tab} {st st' : St} {t : Nat} {a x : D} (h : storeD T st t a x = some st') : st'.fr = st.fr := by
  unfold storeD at h
  split at h
  · split at h
    · split at h
      · split at h
        · split at h
          · cases h; rfl
          · split at h
            · cases h
            · cases h; rfl
          · cases h
        · cases h
      · cases h
    · cases h
  · cases h
theorem eOver_st {e e' : E} {dst : Option Nat} {d : D} {x : Option St} (hx : ∀ st, x = some st → st.fr = e.st.fr) (h : eOver e dst d x = some e') {K : St → Prop} (hK : K e'.st) : overK dst d x K := by
  unfold eOver at h
  split at h
  · rename_i st
    have h1 := E.put_st h
    have h2 := hx st rfl
    show K (st.put dst d)
    have : E.st ⟨e.tr, st.bs⟩ = st := by
      obtain ⟨fr, bs⟩ := st
      simp only [E.st] at h2 ⊢
      rw [h2]
    rw [← this, ← h1]
    exact hK
  · cases h

theorem eOther_sound {c : Cfg} {X : XC} {G : XG} (hX : ∀ f args bs r bs', X f args bs = some (r, bs') → c.C f args bs r bs') (hG : ∀ f rows esz rest R, G f rows esz rest = some R → GivesC c.G f rows esz rest R)
    {o : SO} {e e' : E} (h : eOther c X G o e = some e') {K : St → Prop} (hK : K e'.st) : vOther c o.oper e.st K := by
  have hs : e.st.bs = e.bs := rfl
  unfold eOther at h
  unfold vOther
  obtain ⟨dst, op, ty, g⟩ := o
  simp only [SO.oper] at h ⊢
  rw [E.ev_st]
  split at h
  · rename_i f args tys
    simp only
    cases hl : isLend c f args with
    | false =>
      rw [hl, cond_false] at h
      rw [if_neg (by simp)]
      unfold eCall at h
      unfold callV
      split at h
      · rename_i fid first caps hf
        rw [hf]
        simp only
        split at h
        · rename_i r nbs hr
          simp only [Bool.cond_eq_ite] at h
          split at h
          · rename_i hc
            simp only [Bool.and_eq_true] at hc
            exact ⟨r, nbs, hX _ _ _ _ _ hr, hc.1, hc.2, by rw [hs, ← E.out_st h]; exact hK⟩
          · cases h
        · cases h
      · cases h
    | true =>
      rw [hl, cond_true] at h
      rw [if_pos rfl]
      unfold eBar at h
      unfold barV
      rw [E.ev_st]
      cases ho : isOvl c f with
      | true =>
        rw [ho, cond_true] at h
        rw [if_pos rfl]
        simp only [Bool.cond_eq_ite] at h
        split at h
        · rename_i ha; exact ⟨ha, by rw [← E.put_st h]; exact hK⟩
        · cases h
      | false =>
        rw [ho, cond_false] at h
        rw [if_neg (by simp)]
        cases hg : isGive c args with
        | true =>
          rw [hg, cond_true] at h
          rw [if_pos rfl]
          unfold eGive at h
          unfold giveCall
          split at h
          · rename_i fid b len rest hf ha
            rw [hf, ha]
            simp only
            split at h
            · rename_i k hk
              split at h
              · rename_i hc
                split at h
                · rename_i R hR
                  refine ⟨k, R, hk, hc.1, hc.2.1, hc.2.2.1, hc.2.2.2, hG _ _ _ _ _ hR, ?_⟩
                  have h1 := E.put_st h
                  have h2 : E.st ⟨e.tr.map (D.sweep (· == b)), setBlk ((downTo (reach e.bs (idsL rest)) e.bs).map (Blk.sweep (· == b))) b R⟩ =
                      ⟨sweepF (· == b) e.st.fr, setBlk ((downTo (reach e.st.bs (idsL rest)) e.st.bs).map (Blk.sweep (· == b))) b R⟩ := by
                    simp only [E.st]
                    congr 1
                    funext t
                    rw [Tr.get_map (sweep_undef _)]
                    rfl
                  rw [← h2, ← h1]
                  exact hK
                · cases h
              · cases h
            · cases h
          · cases h
        | false =>
          rw [hg, cond_false] at h
          rw [if_neg (by simp)]
          unfold eLend at h
          unfold lendCall
          split at h
          · rename_i fid first caps hf
            rw [hf]
            simp only
            split at h
            · rename_i r bs' hr
              refine ⟨r, bs', hX _ _ _ _ _ hr, ?_⟩
              have h1 := E.put_st h
              show K (St.put (E.st ⟨e.tr, bs'⟩) dst r)
              rw [← h1]
              exact hK
            · cases h
          · cases h
  · rename_i args tys
    simp only
    split at h
    · rename_i t0 t1 s x h1 h2
      rw [h1, h2]
      simp only [appT]
      split at h
      · rename_i el h3
        rw [h3]
        simp only [appK, hs]
        split at h
        · rename_i ys hys
          rw [hys]
          simp only [Bool.cond_eq_ite] at h
          split at h
          · rename_i hf
            split at h
            · rename_i r e1 hr
              refine ⟨fitsB_sound hf, ?_⟩
              rw [eAppend_st hr]
              show K (e1.st.put dst r)
              rw [← E.put_st h]
              exact hK
            · cases h
          · cases h
        · cases h
      · cases h
    · cases h
  · rename_i args tys
    simp only
    split at h
    · rename_i t0 t1 s x h1 h2
      rw [h1, h2]
      simp only [copyT]
      split at h
      · rename_i el b off len h3 h4
        rw [h3, h4]
        simp only [copyK, hs]
        split at h
        · rename_i ys hys
          rw [hys]
          simp only [Bool.cond_eq_ite] at h
          split at h
          · rename_i hf
            split at h
            · rename_i hf2
              refine ⟨fun r hr => ?_, fitsB_sound hf2, eOver_st (fun st hst => overD_fr hst) h hK⟩
              rw [List.all_eq_true] at hf
              exact Nat.eq_of_beq_eq_true (hf r hr)
            · cases h
          · cases h
        · cases h
      · cases h
    · cases h
  · rename_i args tys
    simp only
    split at h
    · rename_i t0 s h1 h2
      rw [h1, h2]
      simp only [clearT]
      split at h
      · rename_i el b off len h3 h4
        rw [h3, h4]
        simp only [Bool.cond_eq_ite] at h ⊢
        split at h
        · rename_i hf
          exact ⟨fitsB_sound hf, eOver_st (fun st hst => overD_fr hst) h hK⟩
        · cases h
      · cases h
    · cases h
  · cases h
  · rename_i t a x
    split at h
    · rename_i st hst
      have h2 := storeD_fr hst
      simp only [hst]
      show K (st.put dst (.tup []))
      have : E.st ⟨e.tr, st.bs⟩ = st := by
        obtain ⟨fr, bs⟩ := st
        simp only [E.st] at h2 ⊢
        rw [h2]
      rw [← this, ← E.put_st h]
      exact hK
    · cases h
  · rename_i g1 g2 g3 g4 g5 g6
    split at h
    · rename_i out hout
      simp only [Bool.cond_eq_ite] at h
      split at h
      · rename_i hd
        have : outK e.st dst (opFn c.T c.eqs e.st.bs.length e.st.bs e.ev ty op) K := by
          rw [hs, hout]
          exact ⟨hd, by rw [← E.out_st h]; exact hK⟩
        cases op <;> first | exact this | exact absurd rfl (g5 _) | exact absurd rfl (g6 _ _ _)
      · cases h
    · cases h

theorem eOp_sound {c : Cfg} {X : XC} {G : XG} (hX : ∀ f args bs r bs', X f args bs = some (r, bs') → c.C f args bs r bs') (hG : ∀ f rows esz rest R, G f rows esz rest = some R → GivesC c.G f rows esz rest R)
    {o : SO} {e e' : E} (h : eOp c X G o e = some e') {K : St → Prop} (hK : K e'.st) : vOp c o.oper e.st K := by
  unfold eOp at h
  unfold vOp
  rw [E.ev_st]
  split at h
  · rename_i x hx
    have e1 : pureD c e.st.bs e.ev o.oper.op = some x := hx
    rw [e1]
    show K (e.st.put o.dst x)
    rw [← E.put_st h]
    exact hK
  · rename_i hx
    have e1 : pureD c e.st.bs e.ev o.oper.op = none := hx
    rw [e1]
    exact eOther_sound hX hG h hK

def eOps (c : Cfg) (X : XC) (G : XG) : List SO → E → Option E
  | [], e => some e
  | o :: rest, e => match o.g with
    | none => match eOp c X G o e with
      | some e' => eOps c X G rest e'
      | none => none
    | some (t, want) => match e.tr.get t with
      | .bool b => cond (b == want) (match eOp c X G o e with
        | some e' => eOps c X G rest e'
        | none => none) (match e.put o.dst (.tup []) with
        | some e' => eOps c X G rest e'
        | none => none)
      | .tup [] => match e.put o.dst (.tup []) with
        | some e' => eOps c X G rest e'
        | none => none
      | _ => none

theorem eOps_sound {c : Cfg} {X : XC} {G : XG} (hX : ∀ f args bs r bs', X f args bs = some (r, bs') → c.C f args bs r bs') (hG : ∀ f rows esz rest R, G f rows esz rest = some R → GivesC c.G f rows esz rest R) :
    ∀ (l : List SO) (e e' : E), eOps c X G l e = some e' → ∀ K : St → Prop, K e'.st → sOps c l e.st K := by
  intro l
  induction l with
  | nil => intro e e' h K hK; cases h; exact hK
  | cons o rest ih =>
    intro e e' h K hK
    unfold eOps at h
    unfold sOps
    split at h
    · rename_i hg
      rw [hg]
      simp only
      split at h
      · rename_i e1 h1
        exact eOp_sound hX hG h1 (ih _ _ h K hK)
      · cases h
    · rename_i t want hg
      rw [hg]
      simp only
      split at h
      · rename_i b hb
        show match e.tr.get t with | .bool b => _ | .tup [] => _ | _ => False
        rw [hb]
        simp only
        simp only [Bool.cond_eq_ite] at h
        split at h
        · rename_i hw
          rw [if_pos (eq_of_beq hw)]
          split at h
          · rename_i e1 h1
            exact eOp_sound hX hG h1 (ih _ _ h K hK)
          · cases h
        · rename_i hw
          rw [if_neg (fun he => hw (by rw [he]; simp))]
          split at h
          · rename_i e1 h1
            rw [← E.put_st h1]
            exact ih _ _ h K hK
          · cases h
      · rename_i hb
        show match e.tr.get t with | .bool b => _ | .tup [] => _ | _ => False
        rw [hb]
        simp only
        split at h
        · rename_i e1 h1
          rw [← E.put_st h1]
          exact ih _ _ h K hK
        · cases h
      · cases h

def E.beq (a b : E) : Bool := a.tr.beq b.tr && beqB a.bs b.bs
theorem E.beq_sound {a b : E} (h : a.beq b = true) : a = b := by
  obtain ⟨x, y⟩ := a
  obtain ⟨x', y'⟩ := b
  simp only [E.beq, Bool.and_eq_true] at h
  rw [Tr.beq_sound _ _ h.1, beqB_sound _ _ h.2]
def eAlts (c : Cfg) (X : XC) (G : XG) : List (List SO) → E → Option E
  | [], _ => none
  | l :: ls, e => match eOps c X G l e with
    | some e' => cond (ls.all fun l => match eOps c X G l e with
      | some e2 => e2.beq e'
      | none => false) (some e') none
    | none => none
theorem sAlts_all {c : Cfg} {st : St} {K : St → Prop} : ∀ (ls : List (List SO)), (∀ l ∈ ls, sOps c l st K) → sAlts c ls st K
  | [], _ => trivial
  | l :: ls, h => ⟨h l (by simp), sAlts_all ls fun x hx => h x (by simp [hx])⟩
theorem eAlts_sound {c : Cfg} {X : XC} {G : XG} (hX : ∀ f args bs r bs', X f args bs = some (r, bs') → c.C f args bs r bs') (hG : ∀ f rows esz rest R, G f rows esz rest = some R → GivesC c.G f rows esz rest R)
    {ls : List (List SO)} {e e' : E} (h : eAlts c X G ls e = some e') {K : St → Prop} (hK : K e'.st) : sAlts c ls e.st K := by
  cases ls with
  | nil => cases h
  | cons l ls =>
    simp only [eAlts] at h
    split at h
    · rename_i e1 h1
      simp only [Bool.cond_eq_ite] at h
      split at h
      · rename_i ha
        cases h
        rw [List.all_eq_true] at ha
        refine ⟨eOps_sound hX hG _ _ _ h1 K hK, sAlts_all ls fun x hx => ?_⟩
        have := ha x hx
        split at this
        · rename_i e2 h2
          have := E.beq_sound this
          subst this
          exact eOps_sound hX hG _ _ _ h2 K hK
        · cases this
      · cases h
    · cases h

def eLoop (b : E → Option (Ex × E)) : Nat → E → Option (Ex × E)
  | 0, _ => none
  | n + 1, e => match b e with
    | some (.normal, e') => eLoop b n e'
    | r => r
def eCode (c : Cfg) (X : XC) (G : XG) (lf : Nat) : SC → E → Option (Ex × E)
  | .skip, e => some (.normal, e)
  | .ops l, e => match eOps c X G l e with
    | some e' => some (.normal, e')
    | none => none
  | .alts ls, e => match eAlts c X G ls e with
    | some e' => some (.normal, e')
    | none => none
  | .seq a b, e => match eCode c X G lf a e with
    | some (.normal, e') => eCode c X G lf b e'
    | r => r
  | .cond t a b, e => match e.ev t with
    | .bool v => cond v (eCode c X G lf a e) (eCode c X G lf b e)
    | _ => none
  | .block id a, e => match eCode c X G lf a e with
    | some (.exit i, e') => cond (Nat.beq i id) (some (.normal, e')) (some (.exit i, e'))
    | r => r
  | .loop a, e => eLoop (fun e => eCode c X G lf a e) lf e
  | .exit id, e => some (.exit id, e)
  | .ret, e => some (.ret, e)

theorem eCode_sound {c : Cfg} {X : XC} {G : XG} (hX : ∀ f args bs r bs', X f args bs = some (r, bs') → c.C f args bs r bs') (hG : ∀ f rows esz rest R, G f rows esz rest = some R → GivesC c.G f rows esz rest R) (lf : Nat) :
    ∀ (s : SC) (e e' : E) (ex : Ex), eCode c X G lf s e = some (ex, e') → ∀ Q : Ex → St → Prop, Q ex e'.st → sCode c s e.st Q := by
  intro s
  induction s with
  | skip => intro e e' ex h Q hQ; cases h; exact hQ
  | ops l =>
    intro e e' ex h Q hQ
    unfold eCode at h
    split at h
    · rename_i e1 h1; cases h; exact eOps_sound hX hG _ _ _ h1 _ hQ
    · cases h
  | alts ls =>
    intro e e' ex h Q hQ
    unfold eCode at h
    split at h
    · rename_i e1 h1; cases h; exact eAlts_sound hX hG h1 hQ
    · cases h
  | seq a b iha ihb =>
    intro e e' ex h Q hQ
    unfold eCode at h
    unfold sCode
    split at h
    · rename_i e1 h1
      exact iha _ _ _ h1 _ (ihb _ _ _ h Q hQ)
    · rename_i hne
      refine iha _ _ _ h _ ?_
      cases ex with
      | normal => exact absurd h (hne e')
      | exit i => exact hQ
      | ret => exact hQ
  | cond t a b iha ihb =>
    intro e e' ex h Q hQ
    unfold eCode at h
    unfold sCode
    rw [E.ev_st]
    split at h
    · rename_i v hv
      rw [hv]
      cases v with
      | true => exact iha _ _ _ h Q hQ
      | false => exact ihb _ _ _ h Q hQ
    · cases h
  | block id a ih =>
    intro e e' ex h Q hQ
    unfold eCode at h
    unfold sCode
    split at h
    · rename_i i e1 h1
      refine ih _ _ _ h1 _ ?_
      simp only [Bool.cond_eq_ite] at h
      split at h
      · rename_i hi
        cases h
        simp only [blockQ]
        rw [if_pos (Nat.eq_of_beq_eq_true hi)]
        exact hQ
      · rename_i hi
        cases h
        simp only [blockQ]
        rw [if_neg (fun he => hi (by rw [he]; simp))]
        exact hQ
    · rename_i hne
      refine ih _ _ _ h _ ?_
      cases ex with
      | normal => exact hQ
      | exit i => exact absurd h (hne i e')
      | ret => exact hQ
  | loop a ih =>
    intro e e' ex h Q hQ
    unfold eCode at h
    unfold sCode
    have key : ∀ (n : Nat) (e : E), eLoop (fun e => eCode c X G lf a e) n e = some (ex, e') → xRounds e.st.bs.length (fun st K => sCode c a st K) Q n e.st ∨ True := fun _ _ _ => .inr trivial
    have main : ∀ (k n : Nat) (e : E), eLoop (fun e => eCode c X G lf a e) n e = some (ex, e') → xRounds k (fun st K => sCode c a st K) Q n e.st := by
      intro k n
      induction n with
      | zero => intro e h; cases h
      | succ n ihn =>
        intro e h
        unfold eLoop at h
        rw [xR_succ]
        split at h
        · rename_i e1 h1
          exact ih _ _ _ h1 _ (.inr (.inr (ihn _ h)))
        · rename_i hne
          refine ih _ _ _ h _ ?_
          cases ex with
          | normal => exact absurd h (hne e')
          | exit i => exact hQ
          | ret => exact hQ
    exact ⟨lf, main _ lf e h⟩
  | exit id => intro e e' ex h Q hQ; cases h; exact hQ
  | ret => intro e e' ex h Q hQ; cases h; exact hQ

def initTr : Nat → List D → Tr → Option Tr
  | _, [], tr => some tr
  | i, d :: ds, tr => match forceD d (fun d => tr.set i d) with
    | some tr' => initTr (i + 1) ds tr'
    | none => none
theorem initTr_get : ∀ (ds : List D) (i : Nat) (tr tr' : Tr), initTr i ds tr = some tr' → ∀ t, tr'.get t = if i ≤ t ∧ t < i + ds.length then ds.getD (t - i) .undef else tr.get t := by
  intro ds
  induction ds with
  | nil => intro i tr tr' h t; cases h; simp; intro h1 h2; omega
  | cons d ds ih =>
    intro i tr tr' h t
    unfold initTr at h
    rw [forceD_eq] at h
    split at h
    · rename_i tr1 h1
      rw [ih _ _ _ h t, Tr.get_set _ _ _ _ h1]
      unfold upd
      by_cases h2 : t = i
      · subst h2
        rw [if_neg (by omega), if_pos rfl, if_pos (by simp)]
        simp
      · by_cases h3 : i + 1 ≤ t ∧ t < i + 1 + ds.length
        · rw [if_pos h3, if_pos (by simp only [List.length_cons]; omega)]
          have : t - i = (t - (i + 1)) + 1 := by omega
          rw [this, List.getD_cons_succ]
        · rw [if_neg h3, if_neg h2, if_neg (by simp only [List.length_cons]; omega)]
    · cases h

def eEnd (c : Cfg) (F : SF) (e : E) : Option (D × List Blk) := match resL c.T e.st F.res with
  | some ds => leave c.n0 e.st (resOne ds)
  | none => none
def eFun (c : Cfg) (X : XC) (G : XG) (lf : Nat) (F : SF) (args : List D) (bs : List Blk) : Option (D × List Blk) :=
  match initTr 0 args (Tr.mk 9) with
  | some tr => match eCode c X G lf F.body ⟨tr, bs⟩ with
    | some (.normal, e) => eEnd c F e
    | some (.ret, e) => eEnd c F e
    | _ => none
  | none => none
theorem eEnd_sound {c : Cfg} {F : SF} {e : E} {r : D} {bs' : List Blk} (h : eEnd c F e = some (r, bs')) : ∃ ds, resL c.T e.st F.res = some ds ∧ leave c.n0 e.st (resOne ds) = some (r, bs') := by
  unfold eEnd at h
  split at h
  · rename_i ds hds; exact ⟨ds, hds, h⟩
  · cases h
theorem eFun_sound {c : Cfg} {X : XC} {G : XG} (hX : ∀ f args bs r bs', X f args bs = some (r, bs') → c.C f args bs r bs') (hG : ∀ f rows esz rest R, G f rows esz rest = some R → GivesC c.G f rows esz rest R) {lf : Nat}
    {F : SF} {args : List D} {bs : List Blk} {r : D} {bs' : List Blk} (h : eFun c X G lf F args bs = some (r, bs')) : sFun c F args bs r bs' := by
  unfold eFun at h
  split at h
  · rename_i tr htr
    have hst : E.st ⟨tr, bs⟩ = start args bs := by
      simp only [E.st, start]
      congr 1
      funext t
      rw [initTr_get _ _ _ _ htr t, Tr.get_mk]
      by_cases ht : t < args.length
      · rw [if_pos (by omega)]; rfl
      · rw [if_neg (by omega)]
        simp [List.getD, List.getElem?_eq_none (by omega : args.length ≤ t)]
    unfold sFun
    rw [← hst]
    split at h
    · rename_i e h1
      exact eCode_sound hX hG lf _ _ _ _ h1 _ (eEnd_sound h)
    · rename_i e h1
      exact eCode_sound hX hG lf _ _ _ _ h1 _ (eEnd_sound h)
    · cases h
  · cases h

structure FE where
  own : List Nat
  lend : List Nat
  give : List Nat
  ovl : List Nat
  F : SF
def D.empty : D → Bool
  | .nil => true
  | .sl [] 0 => true
  | _ => false
def bothZ (a b : Option (D × List Blk)) : Option (D × List Blk) := match a, b with
  | some (r, n), some (r', n') => cond (D.beq r' r && beqB n' n) (some (r, n)) none
  | _, _ => none
def runZ (X : List D → Option (D × List Blk)) (args : List D) (bs : List Blk) : Option (D × List Blk) := match args, bs with
  | [x], [] => cond x.empty (bothZ (X [.zs true]) (X [.zs false])) none
  | _, _ => none
def run (mk : FE → Nat → Cfg) (tab : Nat → Option FE) (H : XC) (G : XG) (lf : Nat) : Nat → XC
  | 0, _, _, _ => none
  | n + 1, f, args, bs => match H f args bs with
    | some r => some r
    | none => match tab f with
      | some fe => match eFun (mk fe bs.length) (run mk tab H G lf n) G lf fe.F args bs with
        | some r => some r
        | none => runZ (fun args => eFun (mk fe 0) (run mk tab H G lf n) G lf fe.F args []) args bs
      | none => none
theorem run_sound {mk : FE → Nat → Cfg} {tab : Nat → Option FE} {H : XC} {G : XG} {lf : Nat} {C : Con} (hC : ∀ fe n, (mk fe n).C = C) (hG : ∀ fe n f rows esz rest R, G f rows esz rest = some R → GivesC (mk fe n).G f rows esz rest R)
    (hH : ∀ f args bs r bs', H f args bs = some (r, bs') → C f args bs r bs')
    (hF : ∀ f fe args bs r bs', tab f = some fe → sFun (mk fe bs.length) fe.F args bs r bs' → C f args bs r bs')
    (hZ : ∀ f x r nbs, x.empty = true → C f [.zs true] [] r nbs → C f [.zs false] [] r nbs → C f [x] [] r nbs) :
    ∀ (n f : Nat) (args : List D) (bs : List Blk) (r : D) (bs' : List Blk), run mk tab H G lf n f args bs = some (r, bs') → C f args bs r bs' := by
  intro n
  induction n with
  | zero => intro f args bs r bs' h; cases h
  | succ n ih =>
    intro f args bs r bs' h
    unfold run at h
    split at h
    · rename_i x hx; cases h; exact hH _ _ _ _ _ hx
    · split at h
      · rename_i fe hfe
        split at h
        · rename_i x hx
          cases h
          exact hF _ _ _ _ _ _ hfe (eFun_sound (fun f args bs r bs' h => by rw [hC]; exact ih f args bs r bs' h) (hG fe bs.length) hx)
        · unfold runZ at h
          split at h
          · rename_i x
            simp only [Bool.cond_eq_ite] at h
            split at h
            · rename_i hx
              unfold bothZ at h
              split at h
              · rename_i r1 n1 r2 n2 h1 h2
                simp only [Bool.cond_eq_ite] at h
                split at h
                · rename_i hb
                  cases h
                  simp only [Bool.and_eq_true] at hb
                  have e1 := D.beq_sound _ _ hb.1
                  have e2 := beqB_sound _ _ hb.2
                  subst e1 e2
                  have key : ∀ z, eFun (mk fe 0) (run mk tab H G lf n) G lf fe.F [z] [] = some (r2, n2) → C f [z] [] r2 n2 := fun z hz =>
                    hF _ _ _ [] _ _ hfe (eFun_sound (fun f args bs r bs' h => by rw [hC]; exact ih f args bs r bs' h) (hG fe 0) hz)
                  exact hZ _ _ _ _ hx (key _ h1) (key _ h2)
                · cases h
              · cases h
            · cases h
          · cases h
      · cases h

def known : List (Nat × List D × D × List Blk) → XC
  | [], _, _, _ => none
  | (g, us, r, nbs) :: l, f, args, bs => cond (Nat.beq f g && (bs.isEmpty && beqL us args)) (some (r, nbs)) (known l f args bs)
theorem known_sound {C : Con} : ∀ (l : List (Nat × List D × D × List Blk)), (∀ x ∈ l, C x.1 x.2.1 [] x.2.2.1 x.2.2.2) → ∀ f args bs r bs', known l f args bs = some (r, bs') → C f args bs r bs' := by
  intro l
  induction l with
  | nil => intro _ f args bs r bs' h; cases h
  | cons x l ih =>
    obtain ⟨g, us, r0, nbs⟩ := x
    intro hl f args bs r bs' h
    unfold known at h
    simp only [Bool.cond_eq_ite] at h
    split at h
    · rename_i hc
      simp only [Bool.and_eq_true, Nat.beq_eq, List.isEmpty_iff] at hc
      cases h
      have := hl _ (List.mem_cons_self ..)
      rw [hc.1, hc.2.1, ← beqL_sound _ _ hc.2.2]
      exact this
    · exact ih (fun x hx => hl x (List.mem_cons_of_mem _ hx)) _ _ _ _ _ h
def SFof (P : Program) (f : Nat) (l : List Nat) : Option SF := match P.funcs[f]? with
  | some fn => match fn.body with
    | some body => match slim l body with
      | some s => cond (!(fn.name == "runtime.NumGoroutine") && codeOk (bare l) fn.ntmps body) (some ⟨fn.ntmps, fn.results.toList, s⟩) none
      | none => none
    | none => none
  | none => none
theorem SFof_sound {P : Program} {f : Nat} {l : List Nat} {F : SF} (h : SFof P f l = some F) (c : Cfg) (hc : c.lendT = l) : isF P c f F := by
  unfold SFof at h
  split at h
  · rename_i fn hfn
    split at h
    · rename_i body hb
      split at h
      · rename_i s hs
        simp only [Bool.cond_eq_ite] at h
        split at h
        · rename_i hk
          cases h
          simp only [Bool.and_eq_true, Bool.not_eq_true'] at hk
          exact isF_of hfn hk.1 hb hc hk.2 rfl rfl hs
        · cases h
      · cases h
    · cases h
  · cases h
def slimF (P : Program) (f : Nat) (l : List Nat) : SF := match P.funcs[f]? with
  | some fn => match fn.body with
    | some body => match slim l body with
      | some s => ⟨fn.ntmps, fn.results.toList, s⟩
      | none => ⟨0, [], .skip⟩
    | none => ⟨0, [], .skip⟩
  | none => ⟨0, [], .skip⟩
theorem slimF_sound {P : Program} {f : Nat} {l : List Nat} (h : (SFof P f l).isSome = true) (c : Cfg) (hc : c.lendT = l) : isF P c f (slimF P f l) := by
  rw [Option.isSome_iff_exists] at h
  obtain ⟨F, hF⟩ := h
  have h2 := SFof_sound hF c hc
  suffices hs : F = slimF P f l by rw [← hs]; exact h2
  unfold SFof at hF
  unfold slimF
  split at hF
  · rename_i fn hfn
    try rw [hfn]
    try simp only
    split at hF
    · rename_i body hb
      try rw [hb]
      try simp only
      split at hF
      · rename_i s hs
        try simp only [hs]
        simp only [Bool.cond_eq_ite] at hF
        split at hF
        · cases hF; rfl
        · cases hF
      · cases hF
    · cases hF
  · cases hF
structure XR where
  f : Nat
  own : List Nat
  lend : List Nat
  give : List Nat
  ovl : List Nat
def findX : List XR → Nat → Option XR
  | [], _ => none
  | x :: l, f => cond (Nat.beq x.f f) (some x) (findX l f)
theorem findX_mem : ∀ (l : List XR) (f : Nat) (x : XR), findX l f = some x → x ∈ l ∧ x.f = f := by
  intro l
  induction l with
  | nil => intro f x h; cases h
  | cons y l ih =>
    intro f x h
    unfold findX at h
    simp only [Bool.cond_eq_ite] at h
    split at h
    · rename_i hf; cases h; exact ⟨List.mem_cons_self .., Nat.eq_of_beq_eq_true hf⟩
    · obtain ⟨h1, h2⟩ := ih f x h; exact ⟨List.mem_cons_of_mem _ h1, h2⟩
def tabX (P : Program) (l : List XR) (f : Nat) : Option FE := match findX l f with
  | some x => some ⟨x.own, x.lend, x.give, x.ovl, slimF P x.f x.lend⟩
  | none => none
def knownG : List (Nat × List (List D) × Nat × List D × List (List D)) → XG
  | [], _, _, _, _ => none
  | (g, rs, e, us, R) :: l, f, rows, esz, rest => cond (Nat.beq f g && (Nat.beq esz e && (beqLL rs rows && beqL us rest))) (some R) (knownG l f rows esz rest)
theorem knownG_sound {G : Con} : ∀ (l : List (Nat × List (List D) × Nat × List D × List (List D))), (∀ x ∈ l, GivesC G x.1 x.2.1 x.2.2.1 x.2.2.2.1 x.2.2.2.2) → ∀ f rows esz rest R, knownG l f rows esz rest = some R → GivesC G f rows esz rest R := by
  intro l
  induction l with
  | nil => intro _ f rows esz rest R h; cases h
  | cons x l ih =>
    obtain ⟨g, rs, e, us, R0⟩ := x
    intro hl f rows esz rest R h
    unfold knownG at h
    simp only [Bool.cond_eq_ite] at h
    split at h
    · rename_i hc
      simp only [Bool.and_eq_true, Nat.beq_eq] at hc
      cases h
      have := hl _ (List.mem_cons_self ..)
      rw [hc.1, hc.2.1, ← beqLL_sound _ _ hc.2.2.1, ← beqL_sound _ _ hc.2.2.2]
      exact this
    · exact ih (fun x hx => hl x (List.mem_cons_of_mem _ hx)) _ _ _ _ _ h
def chkX (X : XC) (l : List (Nat × List D × D × List Blk)) : Bool := l.all fun x => match X x.1 x.2.1 [] with
  | some (r, nbs) => D.beq r x.2.2.1 && beqB nbs x.2.2.2
  | none => false
theorem chkX_sound {X : XC} {C : Con} {l : List (Nat × List D × D × List Blk)} (h : chkX X l = true) (hX : ∀ f args r nbs, X f args [] = some (r, nbs) → C f args [] r nbs) : ∀ x ∈ l, C x.1 x.2.1 [] x.2.2.1 x.2.2.2 := by
  intro x hx
  unfold chkX at h
  rw [List.all_eq_true] at h
  have := h x hx
  split at this
  · rename_i r nbs hr
    simp only [Bool.and_eq_true] at this
    rw [← D.beq_sound _ _ this.1, ← beqB_sound _ _ this.2]
    exact hX _ _ _ _ hr
  · cases this
end Go.AM
/- AM: awake: the program's own first answers, reckoned out. -/
namespace Go.AM
set_option linter.unusedSimpArgs false
set_option linter.unusedVariables false
set_option maxRecDepth 100000
theorem fits_of {n : Nat} {rows : List (List D)} (h : (rows.all fun r => Nat.beq r.length n && r.all D.isCell) = true) : Fits n rows := by
  intro r hr
  have := List.all_eq_true.1 h r hr
  simp only [Bool.and_eq_true, Nat.beq_eq] at this
  exact this
theorem still_of {rows : List (List D)} (h : (rows.all fun r => r.all D.still) = true) : StillR rows :=
  fun r hr d hd => List.all_eq_true.1 (List.all_eq_true.1 h r hr) d hd
abbrev i (n : Int) : D := .int .i64 n
def xtab : List XR := [
 ⟨11, [12, 13, 18, 23, 27, 29, 48, 52, 56, 64, 69, 74, 82], [], [], []⟩,
 ⟨14, [16, 46, 59, 65], [], [], []⟩,
 ⟨15, [], [], [], []⟩,
 ⟨20, [9, 13, 17, 47], [46], [], []⟩,
 ⟨21, [7, 11, 12, 29, 34], [], [], []⟩,
 ⟨23, [5, 10, 16, 19, 21], [], [], []⟩,
 ⟨28, [10, 14, 27, 44], [43], [], []⟩,
 ⟨37, [15, 19, 23, 39, 46], [], [], []⟩,
 ⟨38, [12, 16, 22, 38, 44, 48], [], [], []⟩,
 ⟨39, [12, 17, 32], [], [], []⟩,
 ⟨40, [28, 32, 43], [], [], []⟩,
 ⟨41, [12, 16, 32, 37, 39, 52, 57, 61], [38, 60], [], []⟩,
 ⟨49, [5], [], [], []⟩,
 ⟨50, [5], [], [], []⟩,
 ⟨51, [9, 12, 14, 15, 17], [], [], []⟩,
 ⟨52, [5], [], [], []⟩,
 ⟨53, [], [], [], []⟩,
 ⟨57, [6, 9, 12, 30], [], [], []⟩,
 ⟨58, [43, 58, 84, 93, 99, 108], [], [], []⟩,
 ⟨59, [10, 15, 26], [8, 24], [], []⟩,
 ⟨60, [16, 37, 46, 52, 63], [14, 41, 61], [], []⟩,
 ⟨70, [17], [], [], []⟩,
 ⟨76, [13], [], [], []⟩,
 ⟨77, [14, 19, 39], [], [], []⟩,
 ⟨78, [10], [], [], []⟩,
 ⟨79, [7], [], [], []⟩,
 ⟨80, [25], [], [], []⟩,
 ⟨81, [8], [], [], []⟩,
 ⟨82, [11], [], [], []⟩,
 ⟨84, [7], [], [], []⟩,
 ⟨85, [6, 11, 28, 38, 45, 49, 55, 59, 70, 74, 83], [], [], []⟩,
 ⟨86, [5, 8, 11], [], [], []⟩,
 ⟨87, [15], [], [], []⟩,
 ⟨108, [], [], [], []⟩,
 ⟨109, [8, 13, 30], [], [], []⟩,
 ⟨110, [5, 8], [], [], []⟩,
 ⟨111, [13], [], [], []⟩,
 ⟨113, [24], [], [], []⟩,
 ⟨114, [9, 13, 17, 23], [], [], []⟩,
 ⟨115, [13], [], [], []⟩,
 ⟨116, [7], [], [], []⟩,
 ⟨118, [], [], [], []⟩,
 ⟨119, [12], [], [], []⟩,
 ⟨120, [7, 11, 17, 27, 43], [], [], []⟩,
 ⟨121, [17], [], [], []⟩,
 ⟨122, [10], [], [], []⟩,
 ⟨123, [5, 9, 14], [], [], []⟩,
 ⟨124, [], [], [], []⟩,
 ⟨132, [13], [], [], []⟩,
 ⟨135, [28], [], [], []⟩,
 ⟨136, [7, 16, 17], [], [], []⟩,
 ⟨137, [], [], [], []⟩,
 ⟨138, [6, 14], [], [], []⟩,
 ⟨139, [7, 10], [8], [], []⟩,
 ⟨140, [], [], [], []⟩,
 ⟨141, [], [], [], []⟩,
 ⟨142, [], [], [], []⟩,
 ⟨143, [], [], [], []⟩,
 ⟨144, [], [], [], []⟩,
 ⟨145, [], [], [], []⟩,
 ⟨146, [6, 19], [], [], []⟩,
 ⟨147, [12], [], [], []⟩,
 ⟨149, [], [], [], []⟩,
 ⟨150, [15], [], [], []⟩,
 ⟨151, [11], [], [], []⟩,
 ⟨152, [35], [], [], []⟩,
 ⟨153, [14], [], [], []⟩,
 ⟨163, [4], [], [], []⟩,
 ⟨164, [7], [], [], []⟩,
 ⟨165, [16], [], [], []⟩,
 ⟨166, [30, 46], [], [], []⟩,
 ⟨167, [9], [], [], []⟩,
 ⟨168, [8, 10], [], [], []⟩,
 ⟨169, [], [], [], []⟩,
 ⟨170, [], [], [], []⟩,
 ⟨181, [9, 24, 40, 47], [], [], []⟩,
 ⟨182, [10], [], [], []⟩,
 ⟨183, [], [], [], []⟩,
 ⟨184, [], [], [], []⟩,
 ⟨187, [], [], [], []⟩,
 ⟨188, [8, 17, 18], [], [], []⟩,
 ⟨189, [16], [], [], []⟩,
 ⟨190, [], [], [], []⟩,
 ⟨191, [8, 12, 17, 19], [17], [17], []⟩,
 ⟨192, [13, 17, 26, 31, 39], [34], [34], []⟩,
 ⟨193, [15], [], [], []⟩,
 ⟨194, [7], [], [], []⟩,
 ⟨195, [14], [], [], []⟩,
 ⟨199, [11, 32], [], [], []⟩,
 ⟨201, [11, 13], [7], [], []⟩,
 ⟨203, [8, 11, 12], [], [], []⟩,
 ⟨204, [], [], [], []⟩,
 ⟨205, [], [], [], []⟩,
 ⟨206, [13, 17, 22, 35], [], [], []⟩,
 ⟨207, [10, 24, 34], [30], [30], []⟩,
 ⟨208, [12, 16, 21, 40, 44], [], [], []⟩,
 ⟨215, [16], [], [], []⟩,
 ⟨216, [], [], [], []⟩,
 ⟨223, [26], [], [], []⟩,
 ⟨227, [11, 15, 16], [], [], []⟩,
 ⟨228, [30, 46], [], [], []⟩,
 ⟨229, [], [], [], []⟩,
 ⟨234, [30, 37, 44, 52, 61, 80, 94, 103, 111, 134, 146], [26, 33, 40, 48, 57, 76, 98, 106, 129, 140], [], []⟩,
 ⟨237, [30, 46], [], [], []⟩,
 ⟨244, [32], [], [], []⟩]
theorem xtab_ok : (xtab.all fun x => x.ovl.isEmpty && (SFof PP x.f x.lend).isSome) = true := by kernel_rfl
def LH : List (Nat × List D × D × List Blk) := [
 (200, [.fn 202 [] [.mem [.sl [[i 3], [i 9]] 2]]], .ref 0 0 2, [⟨[[i 3], [i 9]], 1, .mut⟩]),
 (235, [.int .u64 2], i 2, [])]
def LG : List (Nat × List (List D) × Nat × List D × List (List D)) := [
 (236, [[i 0, i 3, i 9, .sl [] 0, i 0, i 0, i 0, i 0, i 0, .bool false, .bool false]], 11, [i 0, i 1], []),
 (225, [], 1, [.fn 224 [] [.mem [i 3]]], []),
 (226, [], 2, [i 0, .sl [[i 3, i 0]] 1], [[i 3, i 0]]),
 (236, [[i 0, i 3, i 9, .sl [] 0, i 0, i 0, i 0, i 0, i 0, .bool false, .bool false], [i 0, i 9, i 3, .sl [[i 3]] 1, i 0, i 0, i 0, i 0, i 0, .bool false, .bool false]], 11, [i 0, i 1], [[i 0, i 9, i 3, .sl [[i 3]] 1, i 0, i 0, i 0, i 0, i 0, .bool false, .bool false]]),
 (236, [[i 0, i 9, i 3, .sl [[i 3]] 1, i 0, i 0, i 0, i 0, i 0, .bool false, .bool false]], 11, [i 0, i 1], []),
 (225, [[i 9]], 1, [.fn 224 [] [.mem [i 9]]], []),
 (226, [], 2, [i 0, .sl [[i 9, i 0]] 1], [[i 9, i 0]])]
theorem LH_ok : ∀ x ∈ LH, Den PP x.1 x.2.1 [] x.2.2.1 x.2.2.2 := by
  intro x hx
  simp only [LH, List.mem_cons, List.not_mem_nil, or_false] at hx
  rcases hx with rfl | rfl
  · exact collect_den [3, 9] (by simp) (by simp)
  · exact len_den
theorem LG_ok : ∀ x ∈ LG, GivesC (DenF PP [0]) x.1 x.2.1 x.2.2.1 x.2.2.2.1 x.2.2.2.2 := by
  intro x hx
  simp only [LG, List.mem_cons, List.not_mem_nil, or_false] at hx
  rcases hx with rfl | rfl | rfl | rfl | rfl | rfl | rfl
  · exact delete_Msg _ 0 (fits_of rfl) (still_of rfl) (by simp) (by simp)
  · exact deleteFunc_int [] 224 [.mem [.int .i64 3]] (fun a => decide (a = 3)) ⟨fun _ => rfl, fun _ _ => rfl, fun a _ => passive_Without_1 3 a⟩ (by simp)
  · exact insert_Peer [] _ 0 (by intro r hr; cases hr) (by intro r hr; cases hr) (by intro r hr; rw [List.mem_singleton.1 hr]; exact ⟨rfl, rfl⟩) (fun d hd => List.all_eq_true.1 (rfl : List.all _ D.still = true) d hd) (by simp) (by simp)
  · exact delete_Msg _ 0 (fits_of rfl) (still_of rfl) (by simp) (by simp)
  · exact delete_Msg _ 0 (fits_of rfl) (still_of rfl) (by simp) (by simp)
  · exact deleteFunc_int [9] 224 [.mem [.int .i64 9]] (fun a => decide (a = 9)) ⟨fun _ => rfl, fun _ _ => rfl, fun a _ => passive_Without_1 9 a⟩ (by simp)
  · exact insert_Peer [] _ 0 (by intro r hr; cases hr) (by intro r hr; cases hr) (by intro r hr; rw [List.mem_singleton.1 hr]; exact ⟨rfl, rfl⟩) (fun d hd => List.all_eq_true.1 (rfl : List.all _ D.still = true) d hd) (by simp) (by simp)
noncomputable def mkX (fe : FE) (n : Nat) : Cfg := cfx n fe.own fe.lend fe.give [] fe.ovl
noncomputable abbrev XX (L : List (Nat × List D × D × List Blk)) : XC := run mkX (tabX PP xtab) (known L) (knownG LG) 1000 40
theorem XX_sound (L : List (Nat × List D × D × List Blk)) (hL : ∀ x ∈ L, Den PP x.1 x.2.1 [] x.2.2.1 x.2.2.2) (f : Nat) (args : List D) (bs : List Blk) (r : D) (bs' : List Blk) (h : XX L f args bs = some (r, bs')) : Den PP f args bs r bs' := by
  refine run_sound (C := Den PP) (fun _ _ => rfl) (fun fe n f rows esz rest R hR => knownG_sound LG LG_ok _ _ _ _ _ hR) (known_sound L hL) ?_ ?_ 40 f args bs r bs' h
  · intro f fe args bs r bs' hfe h
    unfold tabX at hfe
    split at hfe
    · rename_i x hx
      cases hfe
      obtain ⟨hm, rfl⟩ := findX_mem _ _ _ hx
      have hk := List.all_eq_true.1 xtab_ok x hm
      simp only [Bool.and_eq_true, List.isEmpty_iff] at hk
      refine den_ofG x.own x.lend x.give x.ovl (fun f hf => by rw [hk.1] at hf; exact absurd hf List.not_mem_nil) (slimF_sound hk.2) ?_
      simpa only [mkX] using h
    · cases hfe
  · intro f x r nbs hx h1 h2
    have key : Den PP f [.sl [] 0] [] r nbs := den_zs (pre := []) (post := []) h1 h2
    unfold D.empty at hx
    split at hx
    · exact den_nrm (by simpa using key)
    · exact key
    · cases hx
theorem chkL {L M : List (Nat × List D × D × List Blk)} (hL : ∀ x ∈ L, Den PP x.1 x.2.1 [] x.2.2.1 x.2.2.2) (h : chkX (XX L) M = true) : ∀ x ∈ M ++ L, Den PP x.1 x.2.1 [] x.2.2.1 x.2.2.2 := by
  intro x hx
  rcases List.mem_append.1 hx with h1 | h1
  · exact chkX_sound (C := Den PP) h (fun f args r nbs h => XX_sound L hL _ _ _ _ _ h) x h1
  · exact hL x h1
def VW1 : List (Nat × List D × D × List Blk) := [
 (23, [.agg [.sl [[.bool true, i 3, .nil, .sl [[i 9]] 1, .sl [[i 5, i 1, i 3, i 7, .bool false]] 1, .nil], [.bool true, i 9, .nil, .sl [] 0, .nil, .nil]] 2, .nil, .nil]], .bool true, []),
 (23, [.agg [.sl [[.bool true, i 3, .sl [] 0, .sl [[i 9]] 1, .sl [[i 5, i 1, i 3, i 7, .bool false]] 1, .sl [] 0], [.bool true, i 9, .sl [] 0, .sl [] 0, .sl [] 0, .sl [] 0]] 2, .sl [] 0, .sl [] 0]], .bool true, []),
 (23, [.agg [.sl [[.bool true, i 3, .sl [] 0, .sl [[i 9]] 1, .sl [[i 5, i 1, i 3, i 7, .bool false]] 1, .sl [] 0], [.bool true, i 9, .sl [] 0, .sl [] 0, .sl [] 0, .sl [] 0]] 2, .sl [] 0, .sl [[i 0, i 3, i 9, .sl [] 0, i 0, i 0, i 0, i 0, i 0, .bool false, .bool false]] 1]], .bool true, []),
 (23, [.agg [.sl [[.bool true, i 3, .sl [] 0, .sl [[i 9]] 1, .sl [[i 5, i 1, i 3, i 7, .bool false]] 1, .sl [] 0], [.bool true, i 9, .sl [[i 3, i 0]] 1, .sl [] 0, .sl [] 0, .sl [] 0]] 2, .sl [] 0, .sl [] 0]], .bool true, []),
 (23, [.agg [.sl [[.bool true, i 3, .sl [] 0, .sl [[i 9]] 1, .sl [[i 5, i 1, i 3, i 7, .bool false]] 1, .sl [] 0], [.bool true, i 9, .sl [[i 3, i 0]] 1, .sl [] 0, .sl [] 0, .sl [] 0]] 2, .sl [] 0, .nil]], .bool true, []),
 (23, [.agg [.sl [[.bool true, i 3, .sl [] 0, .sl [[i 9]] 1, .sl [[i 5, i 1, i 3, i 7, .bool false]] 1, .sl [] 0], [.bool true, i 9, .sl [[i 3, i 0]] 1, .sl [] 0, .sl [] 0, .sl [] 0]] 2, .sl [] 0, .sl [[i 0, i 3, i 9, .sl [] 0, i 0, i 0, i 0, i 0, i 0, .bool false, .bool false]] 1]], .bool true, [])]
theorem ck_W1 : chkX (XX LH) VW1 = true := by kernel_rfl
abbrev LW1 : List (Nat × List D × D × List Blk) := VW1 ++ LH
theorem LW1_ok : ∀ x ∈ LW1, Den PP x.1 x.2.1 [] x.2.2.1 x.2.2.2 := chkL LH_ok ck_W1
def VW2 : List (Nat × List D × D × List Blk) := [
 (23, [.agg [.sl [[.bool true, i 3, .sl [] 0, .sl [[i 9]] 1, .sl [[i 5, i 1, i 3, i 7, .bool false]] 1, .sl [] 0], [.bool true, i 9, .sl [[i 3, i 1]] 1, .sl [] 0, .sl [] 0, .sl [] 0]] 2, .sl [] 0, .sl [[i 0, i 3, i 9, .sl [] 0, i 0, i 0, i 0, i 0, i 0, .bool false, .bool false]] 1]], .bool true, []),
 (23, [.agg [.sl [[.bool true, i 3, .sl [] 0, .sl [[i 9]] 1, .sl [[i 5, i 1, i 3, i 7, .bool false]] 1, .sl [] 0], [.bool true, i 9, .sl [[i 3, i 1]] 1, .sl [] 0, .sl [] 0, .sl [] 0]] 2, .sl [] 0, .sl [[i 0, i 9, i 3, .sl [[i 3]] 1, i 0, i 0, i 0, i 0, i 0, .bool false, .bool false]] 1]], .bool true, []),
 (23, [.agg [.sl [[.bool true, i 3, .sl [] 0, .sl [[i 9]] 1, .sl [[i 5, i 1, i 3, i 7, .bool false]] 1, .sl [] 0], [.bool true, i 9, .sl [[i 3, i 1]] 1, .sl [] 0, .sl [] 0, .sl [] 0]] 2, .sl [] 0, .sl [[i 0, i 3, i 9, .sl [] 0, i 0, i 0, i 0, i 0, i 0, .bool false, .bool false], [i 0, i 9, i 3, .sl [[i 3]] 1, i 0, i 0, i 0, i 0, i 0, .bool false, .bool false]] 2]], .bool true, []),
 (23, [.agg [.sl [[.bool true, i 3, .sl [] 0, .sl [[i 9]] 1, .sl [[i 5, i 1, i 3, i 7, .bool false]] 1, .sl [] 0], [.bool true, i 9, .sl [[i 3, i 0]] 1, .sl [] 0, .sl [] 0, .sl [] 0]] 2, .sl [] 0, .sl [[i 0, i 9, i 3, .sl [[i 3]] 1, i 0, i 0, i 0, i 0, i 0, .bool false, .bool false]] 1]], .bool true, []),
 (23, [.agg [.sl [[.bool true, i 3, .sl [[i 9, i 0]] 1, .sl [] 0, .sl [[i 5, i 1, i 3, i 7, .bool false]] 1, .sl [] 0], [.bool true, i 9, .sl [[i 3, i 0]] 1, .sl [] 0, .sl [] 0, .sl [] 0]] 2, .sl [] 0, .sl [] 0]], .bool true, []),
 (23, [.agg [.sl [[.bool true, i 3, .sl [[i 9, i 0]] 1, .sl [] 0, .sl [[i 5, i 1, i 3, i 7, .bool false]] 1, .sl [] 0], [.bool true, i 9, .sl [[i 3, i 0]] 1, .sl [] 0, .sl [] 0, .sl [] 0]] 2, .sl [] 0, .nil]], .bool true, [])]
theorem ck_W2 : chkX (XX LW1) VW2 = true := by kernel_rfl
abbrev LW2 : List (Nat × List D × D × List Blk) := VW2 ++ LW1
theorem LW2_ok : ∀ x ∈ LW2, Den PP x.1 x.2.1 [] x.2.2.1 x.2.2.2 := chkL LW1_ok ck_W2
def VA1 : List (Nat × List D × D × List Blk) := [
 (20, [.agg [.sl [[.bool true, i 3, .sl [] 0, .sl [[i 9]] 1, .sl [[i 5, i 1, i 3, i 7, .bool false]] 1, .sl [] 0], [.bool true, i 9, .sl [] 0, .sl [] 0, .sl [] 0, .sl [] 0]] 2, .sl [] 0, .sl [] 0], .agg [i 0, i 3, i 0, i 0, .nil, i 0, i 0]], .tup [.agg [.ref 0 0 2, .ref 1 0 0, .ref 2 0 1], i 0], [⟨[[.bool true, i 3, .sl [] 0, .sl [[i 9]] 1, .sl [[i 5, i 1, i 3, i 7, .bool false]] 1, .sl [] 0], [.bool true, i 9, .sl [] 0, .sl [] 0, .sl [] 0, .sl [] 0]], 6, .mut⟩, ⟨[], 2, .mut⟩, ⟨[[i 0, i 3, i 9, .sl [] 0, i 0, i 0, i 0, i 0, i 0, .bool false, .bool false]], 11, .mut⟩]),
 (20, [.agg [.sl [[.bool true, i 3, .sl [] 0, .sl [[i 9]] 1, .sl [[i 5, i 1, i 3, i 7, .bool false]] 1, .sl [] 0], [.bool true, i 9, .sl [] 0, .sl [] 0, .sl [] 0, .sl [] 0]] 2, .sl [] 0, .sl [[i 0, i 3, i 9, .sl [] 0, i 0, i 0, i 0, i 0, i 0, .bool false, .bool false]] 1], .agg [i 0, i 9, i 0, i 0, .nil, i 0, i 0]], .tup [.agg [.ref 0 0 2, .ref 1 0 0, .ref 2 0 1], i 0], [⟨[[.bool true, i 3, .sl [] 0, .sl [[i 9]] 1, .sl [[i 5, i 1, i 3, i 7, .bool false]] 1, .sl [] 0], [.bool true, i 9, .sl [] 0, .sl [] 0, .sl [] 0, .sl [] 0]], 6, .mut⟩, ⟨[], 2, .mut⟩, ⟨[[i 0, i 3, i 9, .sl [] 0, i 0, i 0, i 0, i 0, i 0, .bool false, .bool false]], 11, .mut⟩]),
 (20, [.agg [.sl [[.bool true, i 3, .sl [] 0, .sl [[i 9]] 1, .sl [[i 5, i 1, i 3, i 7, .bool false]] 1, .sl [] 0], [.bool true, i 9, .sl [] 0, .sl [] 0, .sl [] 0, .sl [] 0]] 2, .sl [] 0, .sl [[i 0, i 3, i 9, .sl [] 0, i 0, i 0, i 0, i 0, i 0, .bool false, .bool false]] 1], .agg [i 1, i 0, i 0, i 0, .nil, i 0, i 0]], .tup [.agg [.ref 0 0 2, .ref 1 0 0, .ref 2 0 0], i 0], [⟨[[.bool true, i 3, .sl [] 0, .sl [[i 9]] 1, .sl [[i 5, i 1, i 3, i 7, .bool false]] 1, .sl [] 0], [.bool true, i 9, .sl [[i 3, i 0]] 1, .sl [] 0, .sl [] 0, .sl [] 0]], 6, .mut⟩, ⟨[], 2, .mut⟩, ⟨[], 11, .mut⟩]),
 (20, [.agg [.sl [[.bool true, i 3, .sl [] 0, .sl [[i 9]] 1, .sl [[i 5, i 1, i 3, i 7, .bool false]] 1, .sl [] 0], [.bool true, i 9, .sl [[i 3, i 0]] 1, .sl [] 0, .sl [] 0, .sl [] 0]] 2, .sl [] 0, .sl [] 0], .agg [i 0, i 3, i 0, i 0, .nil, i 0, i 0]], .tup [.agg [.ref 0 0 2, .ref 1 0 0, .ref 2 0 1], i 0], [⟨[[.bool true, i 3, .sl [] 0, .sl [[i 9]] 1, .sl [[i 5, i 1, i 3, i 7, .bool false]] 1, .sl [] 0], [.bool true, i 9, .sl [[i 3, i 0]] 1, .sl [] 0, .sl [] 0, .sl [] 0]], 6, .mut⟩, ⟨[], 2, .mut⟩, ⟨[[i 0, i 3, i 9, .sl [] 0, i 0, i 0, i 0, i 0, i 0, .bool false, .bool false]], 11, .mut⟩])]
theorem ck_A1 : chkX (XX LW2) VA1 = true := by kernel_rfl
abbrev LA1 : List (Nat × List D × D × List Blk) := VA1 ++ LW2
theorem LA1_ok : ∀ x ∈ LA1, Den PP x.1 x.2.1 [] x.2.2.1 x.2.2.2 := chkL LW2_ok ck_A1
def VA2 : List (Nat × List D × D × List Blk) := [
 (20, [.agg [.sl [[.bool true, i 3, .sl [] 0, .sl [[i 9]] 1, .sl [[i 5, i 1, i 3, i 7, .bool false]] 1, .sl [] 0], [.bool true, i 9, .sl [[i 3, i 0]] 1, .sl [] 0, .sl [] 0, .sl [] 0]] 2, .sl [] 0, .sl [[i 0, i 3, i 9, .sl [] 0, i 0, i 0, i 0, i 0, i 0, .bool false, .bool false]] 1], .agg [i 0, i 9, i 0, i 0, .nil, i 0, i 0]], .tup [.agg [.ref 0 0 2, .ref 1 0 0, .ref 2 0 2], i 0], [⟨[[.bool true, i 3, .sl [] 0, .sl [[i 9]] 1, .sl [[i 5, i 1, i 3, i 7, .bool false]] 1, .sl [] 0], [.bool true, i 9, .sl [[i 3, i 1]] 1, .sl [] 0, .sl [] 0, .sl [] 0]], 6, .mut⟩, ⟨[], 2, .mut⟩, ⟨[[i 0, i 3, i 9, .sl [] 0, i 0, i 0, i 0, i 0, i 0, .bool false, .bool false], [i 0, i 9, i 3, .sl [[i 3]] 1, i 0, i 0, i 0, i 0, i 0, .bool false, .bool false]], 11, .mut⟩]),
 (20, [.agg [.sl [[.bool true, i 3, .sl [] 0, .sl [[i 9]] 1, .sl [[i 5, i 1, i 3, i 7, .bool false]] 1, .sl [] 0], [.bool true, i 9, .sl [[i 3, i 1]] 1, .sl [] 0, .sl [] 0, .sl [] 0]] 2, .sl [] 0, .sl [[i 0, i 3, i 9, .sl [] 0, i 0, i 0, i 0, i 0, i 0, .bool false, .bool false], [i 0, i 9, i 3, .sl [[i 3]] 1, i 0, i 0, i 0, i 0, i 0, .bool false, .bool false]] 2], .agg [i 1, i 0, i 0, i 0, .nil, i 0, i 0]], .tup [.agg [.ref 0 0 2, .ref 1 0 0, .ref 2 0 1], i 0], [⟨[[.bool true, i 3, .sl [] 0, .sl [[i 9]] 1, .sl [[i 5, i 1, i 3, i 7, .bool false]] 1, .sl [] 0], [.bool true, i 9, .sl [[i 3, i 0]] 1, .sl [] 0, .sl [] 0, .sl [] 0]], 6, .mut⟩, ⟨[], 2, .mut⟩, ⟨[[i 0, i 9, i 3, .sl [[i 3]] 1, i 0, i 0, i 0, i 0, i 0, .bool false, .bool false]], 11, .mut⟩]),
 (20, [.agg [.sl [[.bool true, i 3, .sl [] 0, .sl [[i 9]] 1, .sl [[i 5, i 1, i 3, i 7, .bool false]] 1, .sl [] 0], [.bool true, i 9, .sl [[i 3, i 0]] 1, .sl [] 0, .sl [] 0, .sl [] 0]] 2, .sl [] 0, .sl [[i 0, i 9, i 3, .sl [[i 3]] 1, i 0, i 0, i 0, i 0, i 0, .bool false, .bool false]] 1], .agg [i 1, i 0, i 0, i 0, .nil, i 0, i 0]], .tup [.agg [.ref 0 0 2, .ref 1 0 0, .ref 2 0 0], i 0], [⟨[[.bool true, i 3, .sl [[i 9, i 0]] 1, .sl [] 0, .sl [[i 5, i 1, i 3, i 7, .bool false]] 1, .sl [] 0], [.bool true, i 9, .sl [[i 3, i 0]] 1, .sl [] 0, .sl [] 0, .sl [] 0]], 6, .mut⟩, ⟨[], 2, .mut⟩, ⟨[], 11, .mut⟩]),
 (20, [.agg [.sl [[.bool true, i 3, .nil, .sl [[i 9]] 1, .sl [[i 5, i 1, i 3, i 7, .bool false]] 1, .nil], [.bool true, i 9, .nil, .sl [] 0, .nil, .nil]] 2, .nil, .nil], .agg [i 0, i 3, i 0, i 0, .nil, i 0, i 0]], .tup [.agg [.ref 0 0 2, .ref 1 0 0, .ref 2 0 1], i 0], [⟨[[.bool true, i 3, .sl [] 0, .sl [[i 9]] 1, .sl [[i 5, i 1, i 3, i 7, .bool false]] 1, .sl [] 0], [.bool true, i 9, .sl [] 0, .sl [] 0, .sl [] 0, .sl [] 0]], 6, .mut⟩, ⟨[], 2, .mut⟩, ⟨[[i 0, i 3, i 9, .sl [] 0, i 0, i 0, i 0, i 0, i 0, .bool false, .bool false]], 11, .mut⟩])]
theorem ck_A2 : chkX (XX LA1) VA2 = true := by kernel_rfl
abbrev LA2 : List (Nat × List D × D × List Blk) := VA2 ++ LA1
theorem LA2_ok : ∀ x ∈ LA2, Den PP x.1 x.2.1 [] x.2.2.1 x.2.2.2 := chkL LA1_ok ck_A2
def VO1 : List (Nat × List D × D × List Blk) := [
 (14, [.agg [.sl [[.bool true, i 3, .sl [[i 9, i 0]] 1, .sl [] 0, .sl [[i 5, i 1, i 3, i 7, .bool false]] 1, .sl [] 0], [.bool true, i 9, .sl [[i 3, i 0]] 1, .sl [] 0, .sl [] 0, .sl [] 0]] 2, .sl [] 0, .sl [] 0]], .tup [.bool true, i 0], [])]
theorem ck_O1 : chkX (XX LA2) VO1 = true := by kernel_rfl
abbrev LO1 : List (Nat × List D × D × List Blk) := VO1 ++ LA2
theorem LO1_ok : ∀ x ∈ LO1, Den PP x.1 x.2.1 [] x.2.2.1 x.2.2.2 := chkL LA2_ok ck_O1
def VR1 : List (Nat × List D × D × List Blk) := [
 (21, [.agg [.sl [[.bool true, i 3, .nil, .sl [[i 9]] 1, .sl [[i 5, i 1, i 3, i 7, .bool false]] 1, .nil], [.bool true, i 9, .nil, .sl [] 0, .nil, .nil]] 2, .nil, .nil]], .tup [.agg [.ref 0 0 2, .ref 1 0 0, .ref 2 0 0], i 0], [⟨[[.bool true, i 3, .sl [] 0, .sl [[i 9]] 1, .sl [[i 5, i 1, i 3, i 7, .bool false]] 1, .sl [] 0], [.bool true, i 9, .sl [[i 3, i 0]] 1, .sl [] 0, .sl [] 0, .sl [] 0]], 6, .mut⟩, ⟨[], 2, .mut⟩, ⟨[], 11, .mut⟩]),
 (21, [.agg [.sl [[.bool true, i 3, .sl [] 0, .sl [[i 9]] 1, .sl [[i 5, i 1, i 3, i 7, .bool false]] 1, .sl [] 0], [.bool true, i 9, .sl [[i 3, i 0]] 1, .sl [] 0, .sl [] 0, .sl [] 0]] 2, .sl [] 0, .sl [] 0]], .tup [.agg [.ref 0 0 2, .ref 1 0 0, .ref 2 0 0], i 0], [⟨[[.bool true, i 3, .sl [[i 9, i 0]] 1, .sl [] 0, .sl [[i 5, i 1, i 3, i 7, .bool false]] 1, .sl [] 0], [.bool true, i 9, .sl [[i 3, i 0]] 1, .sl [] 0, .sl [] 0, .sl [] 0]], 6, .mut⟩, ⟨[], 2, .mut⟩, ⟨[], 11, .mut⟩])]
theorem ck_R1 : chkX (XX LO1) VR1 = true := by kernel_rfl
abbrev LR1 : List (Nat × List D × D × List Blk) := VR1 ++ LO1
theorem LR1_ok : ∀ x ∈ LR1, Den PP x.1 x.2.1 [] x.2.2.1 x.2.2.2 := chkL LO1_ok ck_R1
theorem awake_run : XX LR1 11 [] [] = some (.bool true, []) := by kernel_rfl
theorem awake : Den PP 11 [] [] (.bool true) [] := XX_sound LR1 LR1_ok _ _ _ _ _ awake_run
end Go.AM
/- AM: contracts: the document's answers about views, more. -/
namespace Go.AM
set_option linter.unusedSimpArgs false
set_option linter.unusedVariables false
set_option maxRecDepth 8000
set_option maxHeartbeats 0
end Go.AM
/- AM: contracts: items, stores, nodes. -/
namespace Go.AM
set_option linter.unusedSimpArgs false
set_option linter.unusedVariables false
set_option maxRecDepth 8000
set_option maxHeartbeats 0
theorem version_May (c w : Int) : Den PP 195 [.agg [.int .i64 c, .int .i64 w]] [] (.bool (verMay c w)) [] := by
  refine den_of [] [] is_version_May ?_
  simp -implicitDefEqProofs [c_version_May]
  repeat' ((first | refine callThen_of (by first | exact ring_Place _) ?_ | with_reducible refine gOps_dec (fun _ => ?_) (fun _ => ?_) | with_reducible refine gOps_ndec (fun _ => ?_) (fun _ => ?_) | (with_reducible refine gOps_and (fun hq => ?_) (fun hq => ?_) <;> (try simp at hq)) | (with_reducible refine gOps_or (fun hq => ?_) (fun hq => ?_) <;> (try simp at hq)) | (with_reducible refine gOps_not (fun hq => ?_) (fun hq => ?_) <;> (try simp at hq)) | (with_reducible refine gOps_split (fun hq => ?_) (fun hq => ?_) <;> (try simp at hq)) | with_reducible refine condC_dec (fun _ => ?_) (fun _ => ?_) | with_reducible refine condC_ndec (fun _ => ?_) (fun _ => ?_) | (with_reducible refine condC_and (fun hq => ?_) (fun hq => ?_) <;> (try simp at hq)) | (with_reducible refine condC_or (fun hq => ?_) (fun hq => ?_) <;> (try simp at hq)) | (with_reducible refine condC_not (fun hq => ?_) (fun hq => ?_) <;> (try simp at hq)) | (with_reducible refine condC_split (fun hq => ?_) (fun hq => ?_) <;> (try simp at hq)) | refine appK2_if (by omega) ?_ | refine pureV_if (by omega) ?_) <;> simp -implicitDefEqProofs [*, verMay])
theorem item_Byte (x : Int) : Den PP 149 [.int .i64 x] [] (.bool (byte x)) [] := by
  refine den_of [] [] is_item_Byte ?_
  simp -implicitDefEqProofs [c_item_Byte]
  repeat' ((first | with_reducible refine gOps_dec (fun _ => ?_) (fun _ => ?_) | with_reducible refine gOps_ndec (fun _ => ?_) (fun _ => ?_) | (with_reducible refine gOps_and (fun hq => ?_) (fun hq => ?_) <;> (try simp at hq)) | (with_reducible refine gOps_or (fun hq => ?_) (fun hq => ?_) <;> (try simp at hq)) | (with_reducible refine gOps_not (fun hq => ?_) (fun hq => ?_) <;> (try simp at hq)) | (with_reducible refine gOps_split (fun hq => ?_) (fun hq => ?_) <;> (try simp at hq)) | with_reducible refine condC_dec (fun _ => ?_) (fun _ => ?_) | with_reducible refine condC_ndec (fun _ => ?_) (fun _ => ?_) | (with_reducible refine condC_and (fun hq => ?_) (fun hq => ?_) <;> (try simp at hq)) | (with_reducible refine condC_or (fun hq => ?_) (fun hq => ?_) <;> (try simp at hq)) | (with_reducible refine condC_not (fun hq => ?_) (fun hq => ?_) <;> (try simp at hq)) | (with_reducible refine condC_split (fun hq => ?_) (fun hq => ?_) <;> (try simp at hq)) | refine appK2_if (by omega) ?_ | refine pureV_if (by omega) ?_) <;> simp -implicitDefEqProofs [*, byte])
theorem item_May (i : Item) : Den PP 123 [.agg i.row] [] (.bool (itemMay i)) [] := by
  refine den_of [] [] is_item_May ?_
  simp -implicitDefEqProofs [c_item_May, Item.row]
  repeat' ((first | refine callThen_of (by first | exact item_Byte _ | exact version_May _ _) ?_ | with_reducible refine gOps_dec (fun _ => ?_) (fun _ => ?_) | with_reducible refine gOps_ndec (fun _ => ?_) (fun _ => ?_) | (with_reducible refine gOps_and (fun hq => ?_) (fun hq => ?_) <;> (try simp at hq)) | (with_reducible refine gOps_or (fun hq => ?_) (fun hq => ?_) <;> (try simp at hq)) | (with_reducible refine gOps_not (fun hq => ?_) (fun hq => ?_) <;> (try simp at hq)) | (with_reducible refine gOps_split (fun hq => ?_) (fun hq => ?_) <;> (try simp at hq)) | with_reducible refine condC_dec (fun _ => ?_) (fun _ => ?_) | with_reducible refine condC_ndec (fun _ => ?_) (fun _ => ?_) | (with_reducible refine condC_and (fun hq => ?_) (fun hq => ?_) <;> (try simp at hq)) | (with_reducible refine condC_or (fun hq => ?_) (fun hq => ?_) <;> (try simp at hq)) | (with_reducible refine condC_not (fun hq => ?_) (fun hq => ?_) <;> (try simp at hq)) | (with_reducible refine condC_split (fun hq => ?_) (fun hq => ?_) <;> (try simp at hq)) | refine appK2_if (by omega) ?_ | refine pureV_if (by omega) ?_) <;> simp -implicitDefEqProofs [*, itemMay])
def prevKey (is : List Item) (i : Nat) : Option Int := if i = 0 then none else (is[i - 1]?).map Item.key
theorem store_May (is : List Item) (hl : is.length ≤ cap16) : Den PP 115 [itemsD is] [] (.bool (storeMay is)) [] := by
  obtain ⟨A, hA⟩ : ∃ A, itemsOk none is = A := ⟨_, rfl⟩
  unfold cap16 at hl
  refine den_of [] [] is_store_May ?_
  simp -implicitDefEqProofs [c_store_May, itemsD]
  refine list_rule is (fun i rest => fun ⟨fr, bs⟩ => bs = [] ∧ fr 0 = itemsD is ∧ fr 5 = itemsD is ∧ fr 6 = .int .i64 is.length ∧ fr 7 = .int .i64 i ∧ itemsOk (prevKey is i) rest = A)
    (fun ⟨fr, bs⟩ => bs = [] ∧ fr 0 = itemsD is ∧ A = true) (fun ⟨fr, bs⟩ => fr 2 = .bool false ∧ A = false) c_store_May_L0.eq_1 ?_ ?_ ?_ ?_ ?_
  · exact ⟨rfl, rfl, rfl, rfl, rfl, hA⟩
  · rintro i ⟨fr, bs⟩ hi ⟨rfl, h0, h5, h6, h7, he⟩
    simp -implicitDefEqProofs [h0, h5, h6, h7, hi]
    simpa [itemsOk] using he.symm
  · rintro i a rest ⟨fr, bs⟩ hlt hget hg hd hd2 ⟨rfl, h0, h5, h6, h7, he⟩
    have hlt' : (i : Int) < is.length := by omega
    have hw := wrap_next (n := i) (by omega)
    have c1 := item_May a
    simp [Item.row] at c1
    simp only [itemsOk] at he
    have hp : prevKey is (i + 1) = some a.key := by simp [prevKey, hget]
    cases i with
    | zero =>
      simp [prevKey] at he
      simp -implicitDefEqProofs [h0, h5, h6, h7, hlt, hlt', hget, hg, itemsD, Item.row]
      repeat' ((first | refine callThen_of (by first | exact c1) ?_ | with_reducible refine gOps_dec (fun _ => ?_) (fun _ => ?_) | with_reducible refine gOps_ndec (fun _ => ?_) (fun _ => ?_) | (with_reducible refine gOps_and (fun hq => ?_) (fun hq => ?_) <;> (try simp at hq)) | (with_reducible refine gOps_or (fun hq => ?_) (fun hq => ?_) <;> (try simp at hq)) | (with_reducible refine gOps_not (fun hq => ?_) (fun hq => ?_) <;> (try simp at hq)) | (with_reducible refine gOps_split (fun hq => ?_) (fun hq => ?_) <;> (try simp at hq)) | with_reducible refine condC_dec (fun _ => ?_) (fun _ => ?_) | with_reducible refine condC_ndec (fun _ => ?_) (fun _ => ?_) | (with_reducible refine condC_and (fun hq => ?_) (fun hq => ?_) <;> (try simp at hq)) | (with_reducible refine condC_or (fun hq => ?_) (fun hq => ?_) <;> (try simp at hq)) | (with_reducible refine condC_not (fun hq => ?_) (fun hq => ?_) <;> (try simp at hq)) | (with_reducible refine condC_split (fun hq => ?_) (fun hq => ?_) <;> (try simp at hq)) | refine appK2_if (by omega) ?_ | refine pureV_if (by omega) ?_) <;> simp -implicitDefEqProofs [*, itemsD, Item.row, hw])
      all_goals grind
    | succ j =>
      have hj : j < is.length := by omega
      have hj' : (j : Int) < is.length := by omega
      have hjw : IntKind.wrap .i64 (j : Int) = j := wrap_in (by omega) (by omega)
      obtain ⟨b, hb⟩ : ∃ b, is[j] = b := ⟨_, rfl⟩
      have hpj : prevKey is (j + 1) = some b.key := by simp [prevKey, hj, hb]
      rw [hpj] at he
      simp -implicitDefEqProofs [h0, h5, h6, h7, hlt, hlt', hget, hg, itemsD, Item.row]
      repeat' ((first | refine callThen_of (by first | exact c1) ?_ | with_reducible refine gOps_dec (fun _ => ?_) (fun _ => ?_) | with_reducible refine gOps_ndec (fun _ => ?_) (fun _ => ?_) | (with_reducible refine gOps_and (fun hq => ?_) (fun hq => ?_) <;> (try simp at hq)) | (with_reducible refine gOps_or (fun hq => ?_) (fun hq => ?_) <;> (try simp at hq)) | (with_reducible refine gOps_not (fun hq => ?_) (fun hq => ?_) <;> (try simp at hq)) | (with_reducible refine gOps_split (fun hq => ?_) (fun hq => ?_) <;> (try simp at hq)) | with_reducible refine condC_dec (fun _ => ?_) (fun _ => ?_) | with_reducible refine condC_ndec (fun _ => ?_) (fun _ => ?_) | (with_reducible refine condC_and (fun hq => ?_) (fun hq => ?_) <;> (try simp at hq)) | (with_reducible refine condC_or (fun hq => ?_) (fun hq => ?_) <;> (try simp at hq)) | (with_reducible refine condC_not (fun hq => ?_) (fun hq => ?_) <;> (try simp at hq)) | (with_reducible refine condC_split (fun hq => ?_) (fun hq => ?_) <;> (try simp at hq)) | refine appK2_if (by omega) ?_ | refine pureV_if (by omega) ?_) <;> simp -implicitDefEqProofs [*, itemsD, Item.row, hw, hb])
      all_goals grind
  · rintro ⟨fr, bs⟩ ⟨rfl, h0, h1⟩
    simp -implicitDefEqProofs [h0, itemsD, storeMay, hA, h1]
    omega
  · rintro ⟨fr, bs⟩ h
    simp -implicitDefEqProofs [h.1, h.2, storeMay, hA]
theorem node_odd (t : Told) : Den PP 117 [.agg t.row] [] (.bool (toldOdd t)) [] := by
  refine den_of [] [] is_node_odd ?_
  simp -implicitDefEqProofs [c_node_odd, Told.row]
  repeat' ((first | refine callThen_of (by first | exact item_Byte _) ?_ | with_reducible refine gOps_dec (fun _ => ?_) (fun _ => ?_) | with_reducible refine gOps_ndec (fun _ => ?_) (fun _ => ?_) | (with_reducible refine gOps_and (fun hq => ?_) (fun hq => ?_) <;> (try simp at hq)) | (with_reducible refine gOps_or (fun hq => ?_) (fun hq => ?_) <;> (try simp at hq)) | (with_reducible refine gOps_not (fun hq => ?_) (fun hq => ?_) <;> (try simp at hq)) | (with_reducible refine gOps_split (fun hq => ?_) (fun hq => ?_) <;> (try simp at hq)) | with_reducible refine condC_dec (fun _ => ?_) (fun _ => ?_) | with_reducible refine condC_ndec (fun _ => ?_) (fun _ => ?_) | (with_reducible refine condC_and (fun hq => ?_) (fun hq => ?_) <;> (try simp at hq)) | (with_reducible refine condC_or (fun hq => ?_) (fun hq => ?_) <;> (try simp at hq)) | (with_reducible refine condC_not (fun hq => ?_) (fun hq => ?_) <;> (try simp at hq)) | (with_reducible refine condC_split (fun hq => ?_) (fun hq => ?_) <;> (try simp at hq)) | refine appK2_if (by omega) ?_ | refine pureV_if (by omega) ?_) <;> simp -implicitDefEqProofs [*, toldOdd])
end Go.AM
/- AM: contracts: nodes, sharing. -/
namespace Go.AM
set_option linter.unusedSimpArgs false
set_option linter.unusedVariables false
set_option maxRecDepth 8000
set_option maxHeartbeats 0
theorem slices_IndexFunc_Told (xs : List Told) (hl : xs.length ≤ cap) : Den PP 189 [toldsD xs, .fn 117 [] []] [] (.int .i64 (gIdx toldOdd 0 xs)) [] := by
  obtain ⟨A, hA⟩ : ∃ A, gIdx toldOdd 0 xs = A := ⟨_, rfl⟩
  unfold cap at hl
  refine den_of [] [] is_slices_IndexFunc_api_Told_api_Told ?_
  simp -implicitDefEqProofs [c_slices_IndexFunc_api_Told_api_Told, toldsD, hA]
  refine list_rule xs (fun i rest => fun ⟨fr, bs⟩ => bs = [] ∧ fr 0 = toldsD xs ∧ fr 1 = .fn 117 [] [] ∧ fr 7 = .int .i64 xs.length ∧ fr 8 = .int .i64 i ∧ gIdx toldOdd i rest = A)
    (fun ⟨fr, bs⟩ => bs = [] ∧ A = -1) (fun ⟨fr, bs⟩ => fr 4 = .int .i64 A) c_slices_IndexFunc_api_Told_api_Told_L0.eq_1 ?_ ?_ ?_ ?_ ?_
  · exact ⟨rfl, rfl, rfl, rfl, rfl, hA⟩
  · rintro i ⟨fr, bs⟩ hi ⟨rfl, h0, h1, h7, h8, he⟩
    simp -implicitDefEqProofs [h0, h1, h7, h8, hi]
    simpa [gIdx] using he.symm
  · rintro i a rest ⟨fr, bs⟩ hlt hget hg hd hd2 ⟨rfl, h0, h1, h7, h8, he⟩
    have hlt' : (i : Int) < xs.length := by omega
    have hw := wrap_next (n := i) (by omega)
    have c1 := node_odd a
    simp [Told.row] at c1
    simp only [gIdx] at he
    simp -implicitDefEqProofs [h0, h1, h7, h8, hlt, hlt', hget, hg, toldsD, Told.row]
    repeat' ((first | refine callThen_of (by first | exact c1) ?_ | with_reducible refine gOps_dec (fun _ => ?_) (fun _ => ?_) | with_reducible refine gOps_ndec (fun _ => ?_) (fun _ => ?_) | (with_reducible refine gOps_and (fun hq => ?_) (fun hq => ?_) <;> (try simp at hq)) | (with_reducible refine gOps_or (fun hq => ?_) (fun hq => ?_) <;> (try simp at hq)) | (with_reducible refine gOps_not (fun hq => ?_) (fun hq => ?_) <;> (try simp at hq)) | (with_reducible refine gOps_split (fun hq => ?_) (fun hq => ?_) <;> (try simp at hq)) | with_reducible refine condC_dec (fun _ => ?_) (fun _ => ?_) | with_reducible refine condC_ndec (fun _ => ?_) (fun _ => ?_) | (with_reducible refine condC_and (fun hq => ?_) (fun hq => ?_) <;> (try simp at hq)) | (with_reducible refine condC_or (fun hq => ?_) (fun hq => ?_) <;> (try simp at hq)) | (with_reducible refine condC_not (fun hq => ?_) (fun hq => ?_) <;> (try simp at hq)) | (with_reducible refine condC_split (fun hq => ?_) (fun hq => ?_) <;> (try simp at hq)) | refine appK2_if (by omega) ?_ | refine pureV_if (by omega) ?_) <;> simp -implicitDefEqProofs [*, toldsD, Told.row, hw])
    all_goals grind
  · rintro ⟨fr, bs⟩ ⟨rfl, h1⟩
    simp -implicitDefEqProofs [h1]
  · rintro ⟨fr, bs⟩ h
    simp -implicitDefEqProofs [h]
theorem slices_ContainsFunc_Told (xs : List Told) (hl : xs.length ≤ cap) : Den PP 116 [toldsD xs, .fn 117 [] []] [] (.bool (xs.any toldOdd)) [] := by
  have c1 := slices_IndexFunc_Told xs hl
  have h1 := gIdx_any toldOdd xs 0
  obtain ⟨A, hA⟩ : ∃ A, xs.any toldOdd = A := ⟨_, rfl⟩
  rw [hA] at h1
  simp [toldsD] at c1
  refine den_of [] [] is_slices_ContainsFunc_api_Told_api_Told ?_
  simp -implicitDefEqProofs [c_slices_ContainsFunc_api_Told_api_Told, toldsD]
  refine callThen_of c1 ?_
  simp -implicitDefEqProofs [h1, hA]
theorem node_May (x : Node) (hs : x.small) : Den PP 40 [nodeD x] [] (.bool (nodeMay x)) [] := by
  obtain ⟨h1, h2, h3⟩ := hs
  have c1 := view_May x.view h1
  have c2 := store_May x.items (by unfold cap16; omega)
  have c3 := slices_ContainsFunc_Told x.log (by unfold cap; omega)
  obtain ⟨A, hA⟩ : ∃ A, x.log.any toldOdd = A := ⟨_, rfl⟩
  rw [hA] at c3
  simp [viewD, View.cells, peersD, intsD, itemsD, toldsD] at c1 c2 c3
  obtain ⟨hp, hq⟩ := h1
  unfold cap16 at hp
  unfold cap at hq
  have w1 : IntKind.wrap .i64 ((x.view.peers.length : Int) + x.view.passive.length) = x.view.peers.length + x.view.passive.length := wrap_in (by omega) (by omega)
  have w2 : IntKind.wrap .i64 ((x.view.peers.length : Int) + x.view.passive.length + x.items.length) = x.view.peers.length + x.view.passive.length + x.items.length := wrap_in (by omega) (by omega)
  have w3 : IntKind.wrap .i64 ((x.view.peers.length : Int) + x.view.passive.length + x.items.length + x.log.length) = x.view.peers.length + x.view.passive.length + x.items.length + x.log.length := wrap_in (by omega) (by omega)
  refine den_of [] [] is_node_May ?_
  simp -implicitDefEqProofs [c_node_May, nodeD, Node.cells, peersD, intsD, itemsD, toldsD]
  repeat' ((first | refine callThen_of (by first | exact c1 | exact c2 | exact c3) ?_ | with_reducible refine gOps_dec (fun _ => ?_) (fun _ => ?_) | with_reducible refine gOps_ndec (fun _ => ?_) (fun _ => ?_) | (with_reducible refine gOps_and (fun hq => ?_) (fun hq => ?_) <;> (try simp at hq)) | (with_reducible refine gOps_or (fun hq => ?_) (fun hq => ?_) <;> (try simp at hq)) | (with_reducible refine gOps_not (fun hq => ?_) (fun hq => ?_) <;> (try simp at hq)) | (with_reducible refine gOps_split (fun hq => ?_) (fun hq => ?_) <;> (try simp at hq)) | with_reducible refine condC_dec (fun _ => ?_) (fun _ => ?_) | with_reducible refine condC_ndec (fun _ => ?_) (fun _ => ?_) | (with_reducible refine condC_and (fun hq => ?_) (fun hq => ?_) <;> (try simp at hq)) | (with_reducible refine condC_or (fun hq => ?_) (fun hq => ?_) <;> (try simp at hq)) | (with_reducible refine condC_not (fun hq => ?_) (fun hq => ?_) <;> (try simp at hq)) | (with_reducible refine condC_split (fun hq => ?_) (fun hq => ?_) <;> (try simp at hq)) | refine appK2_if (by omega) ?_ | refine pureV_if (by omega) ?_) <;> simp -implicitDefEqProofs [*, w1, w2, w3])
  all_goals simp only [nodeMay, emptyN, hA]
  all_goals grind
theorem node_Up (x : Node) (hs : x.small) : Den PP 84 [nodeD x] [] (.bool (nodeUp x)) [] := by
  have c1 := node_May x hs
  simp only [nodeD, Node.cells, peersD, intsD, itemsD, toldsD] at c1
  refine den_of [] [] is_node_Up ?_
  cases hu : x.up
  all_goals
    rw [hu] at c1
    simp -implicitDefEqProofs [c_node_Up, nodeD, Node.cells, peersD, intsD, itemsD, toldsD, hu]
    repeat' ((first | refine callThen_of (by first | exact c1) ?_ | with_reducible refine gOps_dec (fun _ => ?_) (fun _ => ?_) | with_reducible refine gOps_ndec (fun _ => ?_) (fun _ => ?_) | (with_reducible refine gOps_and (fun hq => ?_) (fun hq => ?_) <;> (try simp at hq)) | (with_reducible refine gOps_or (fun hq => ?_) (fun hq => ?_) <;> (try simp at hq)) | (with_reducible refine gOps_not (fun hq => ?_) (fun hq => ?_) <;> (try simp at hq)) | (with_reducible refine gOps_split (fun hq => ?_) (fun hq => ?_) <;> (try simp at hq)) | with_reducible refine condC_dec (fun _ => ?_) (fun _ => ?_) | with_reducible refine condC_ndec (fun _ => ?_) (fun _ => ?_) | (with_reducible refine condC_and (fun hq => ?_) (fun hq => ?_) <;> (try simp at hq)) | (with_reducible refine condC_or (fun hq => ?_) (fun hq => ?_) <;> (try simp at hq)) | (with_reducible refine condC_not (fun hq => ?_) (fun hq => ?_) <;> (try simp at hq)) | (with_reducible refine condC_split (fun hq => ?_) (fun hq => ?_) <;> (try simp at hq)) | refine appK2_if (by omega) ?_ | refine pureV_if (by omega) ?_) <;> simp -implicitDefEqProofs [*])
    all_goals simp [nodeUp, hu]
theorem share_Of (x : Node) (hs : x.small) : Den PP 39 [nodeD x] [] (.tup [.ref 0 0 (shareOf x).1.length, .int .i64 (shareOf x).2]) [⟨(shareOf x).1.map Msg.row0, 11, .mut⟩] := by
  have c1 := node_Up x hs
  have c2 := view_Succ x.view hs.1
  have c3 := fun k => view_Owner x.view k hs.1
  simp only [nodeD, Node.cells, viewD, View.cells, peersD, intsD, itemsD, toldsD, pairD] at c1 c2 c3
  obtain ⟨h1, h2, h3⟩ := hs
  refine den_of [] [] is_share_Of ?_
  simp -implicitDefEqProofs [c_share_Of, nodeD, Node.cells, peersD, intsD, itemsD, toldsD]
  repeat' ((first | refine callThen_of (by first | exact c1 | exact c2) ?_ | with_reducible refine gOps_dec (fun _ => ?_) (fun _ => ?_) | with_reducible refine gOps_ndec (fun _ => ?_) (fun _ => ?_) | (with_reducible refine gOps_and (fun hq => ?_) (fun hq => ?_) <;> (try simp at hq)) | (with_reducible refine gOps_or (fun hq => ?_) (fun hq => ?_) <;> (try simp at hq)) | (with_reducible refine gOps_not (fun hq => ?_) (fun hq => ?_) <;> (try simp at hq)) | (with_reducible refine gOps_split (fun hq => ?_) (fun hq => ?_) <;> (try simp at hq)) | with_reducible refine condC_dec (fun _ => ?_) (fun _ => ?_) | with_reducible refine condC_ndec (fun _ => ?_) (fun _ => ?_) | (with_reducible refine condC_and (fun hq => ?_) (fun hq => ?_) <;> (try simp at hq)) | (with_reducible refine condC_or (fun hq => ?_) (fun hq => ?_) <;> (try simp at hq)) | (with_reducible refine condC_not (fun hq => ?_) (fun hq => ?_) <;> (try simp at hq)) | (with_reducible refine condC_split (fun hq => ?_) (fun hq => ?_) <;> (try simp at hq)) | refine appK2_if (by omega) ?_ | refine pureV_if (by omega) ?_) <;> simp -implicitDefEqProofs [*, shareOf])
  have hu : x.items.length ≤ 16 := by
    have := ‹nodeUp x = true›
    simp only [nodeUp, nodeMay, storeMay, Bool.and_eq_true, decide_eq_true_eq] at this
    exact this.2.1.1.2.2
  have hf : ∀ i, ((x.items.take i).filterMap (shareOne x)).length ≤ 16 := fun i => Nat.le_trans (List.length_filterMap_le _ _) (by simp; omega)
  refine list_rule x.items (fun i rest => fun ⟨fr, bs⟩ => bs = [⟨[x.cells], 6, .box⟩, ⟨[], 11, .mut⟩, ⟨((x.items.take i).filterMap (shareOne x)).map Msg.row0, 11, .mut⟩] ∧ fr 1 = .ptr 0 0 0 ∧ fr 4 = .ref 2 0 ((x.items.take i).filterMap (shareOne x)).length ∧ fr 5 = .int .i64 (succV x.view).1 ∧ fr 21 = itemsD x.items ∧ fr 22 = .int .i64 x.items.length ∧ fr 23 = .int .i64 i)
    (fun ⟨fr, bs⟩ => bs = [⟨[x.cells], 6, .box⟩, ⟨[], 11, .mut⟩, ⟨(x.items.filterMap (shareOne x)).map Msg.row0, 11, .mut⟩] ∧ fr 4 = .ref 2 0 (x.items.filterMap (shareOne x)).length) (fun ⟨fr, bs⟩ => False) c_share_Of_L0.eq_1 ?_ ?_ ?_ ?_ ?_
  · exact ⟨rfl, rfl, rfl, rfl, rfl, rfl, rfl⟩
  · rintro i ⟨fr, bs⟩ hi ⟨rfl, h1', h4, h5, h21, h22, h23⟩
    simp -implicitDefEqProofs [h1', h4, h5, h21, h22, h23, hi]
  · rintro i a rest ⟨fr, bs⟩ hlt hget hg hd hd2 ⟨rfl, h1', h4, h5, h21, h22, h23⟩
    have hlt' : (i : Int) < x.items.length := by omega
    have hw := wrap_next (n := i) (by omega)
    have htk : x.items.take (i + 1) = x.items.take i ++ [a] := by rw [List.take_add_one, hget]; rfl
    have c4 := c3 a.key
    have hfi := hf i
    generalize hacc : (x.items.take i).filterMap (shareOne x) = acc at *
    clear c3 hf
    simp -implicitDefEqProofs [h1', h4, h5, h21, h22, h23, hlt, hlt', hget, hg, Node.cells, peersD, intsD, itemsD, toldsD, Item.row]
    repeat' ((first | refine callThen_of (by first | exact c4) ?_ | with_reducible refine gOps_dec (fun _ => ?_) (fun _ => ?_) | with_reducible refine gOps_ndec (fun _ => ?_) (fun _ => ?_) | (with_reducible refine gOps_and (fun hq => ?_) (fun hq => ?_) <;> (try simp at hq)) | (with_reducible refine gOps_or (fun hq => ?_) (fun hq => ?_) <;> (try simp at hq)) | (with_reducible refine gOps_not (fun hq => ?_) (fun hq => ?_) <;> (try simp at hq)) | (with_reducible refine gOps_split (fun hq => ?_) (fun hq => ?_) <;> (try simp at hq)) | with_reducible refine condC_dec (fun _ => ?_) (fun _ => ?_) | with_reducible refine condC_ndec (fun _ => ?_) (fun _ => ?_) | (with_reducible refine condC_and (fun hq => ?_) (fun hq => ?_) <;> (try simp at hq)) | (with_reducible refine condC_or (fun hq => ?_) (fun hq => ?_) <;> (try simp at hq)) | (with_reducible refine condC_not (fun hq => ?_) (fun hq => ?_) <;> (try simp at hq)) | (with_reducible refine condC_split (fun hq => ?_) (fun hq => ?_) <;> (try simp at hq)) | refine appK2_if (by omega) ?_ | refine pureV_if (by omega) ?_) <;> simp -implicitDefEqProofs [*, Node.cells, peersD, intsD, itemsD, toldsD, Item.row, hw, htk, hacc, Fits, shareOne, Msg.row0])
  · rintro ⟨fr, bs⟩ ⟨rfl, h1⟩
    simp -implicitDefEqProofs [h1]
  · rintro ⟨fr, bs⟩ h
    exact h.elim
end Go.AM
/- AM: contracts: what the statements' own helpers do with items, messages, nodes. -/
namespace Go.AM
set_option linter.unusedSimpArgs false
set_option linter.unusedVariables false
set_option maxRecDepth 8000
set_option maxHeartbeats 0
theorem law_SameItems (xs ys : List Item) (hl : xs.length ≤ cap) : Den PP 44 [itemsD xs, itemsD ys] [] (.bool (decide (xs = ys))) [] := by
  refine den_of [] [] is_gimmallaw0_SameItems ?_
  simp -implicitDefEqProofs [c_gimmallaw0_SameItems, itemsD]
  refine condC_split (fun h => ?_) (fun h => ?_)
  · simp -implicitDefEqProofs
    grind
  have hlen : xs.length = ys.length := by simp at h; omega
  simp -implicitDefEqProofs
  refine list_rule xs (fun i rest => fun ⟨fr, bs⟩ => bs = [] ∧ fr 0 = .sl (xs.map Item.row) xs.length ∧ fr 1 = .sl (ys.map Item.row) ys.length ∧ fr 5 = .int .i64 i ∧ (rest = ys.drop i ↔ xs = ys))
    (fun ⟨fr, bs⟩ => bs = [] ∧ xs = ys) (fun ⟨fr, bs⟩ => fr 4 = .bool false ∧ ¬ xs = ys) c_gimmallaw0_SameItems_L0.eq_1 ?_ ?_ ?_ ?_ ?_
  · exact ⟨rfl, rfl, rfl, rfl, by simp⟩
  · rintro i ⟨fr, bs⟩ hi ⟨rfl, h0, h1, h5, he⟩
    simp -implicitDefEqProofs [*]
    grind
  · rintro i a rest ⟨fr, bs⟩ hlt hget hg hd hd2 ⟨rfl, h0, h1, h5, he⟩
    have hlt' : (i : Int) < xs.length := by omega
    have hlt2 : i < ys.length := by omega
    have hlt3 : (i : Int) < ys.length := by omega
    have hw := wrap_next (n := i) (by unfold cap at hl; omega)
    rw [List.drop_eq_getElem_cons hlt2] at he
    generalize hy : ys[i] = b at he
    simp -implicitDefEqProofs [h0, h1, h5, hlt, hlt', hlt2, hlt3, hget, hg, hy, Item.row, EQS]
    repeat' ((first | with_reducible refine gOps_dec (fun _ => ?_) (fun _ => ?_) | with_reducible refine gOps_ndec (fun _ => ?_) (fun _ => ?_) | (with_reducible refine gOps_and (fun hq => ?_) (fun hq => ?_) <;> (try simp at hq)) | (with_reducible refine gOps_or (fun hq => ?_) (fun hq => ?_) <;> (try simp at hq)) | (with_reducible refine gOps_not (fun hq => ?_) (fun hq => ?_) <;> (try simp at hq)) | (with_reducible refine gOps_split (fun hq => ?_) (fun hq => ?_) <;> (try simp at hq)) | with_reducible refine condC_dec (fun _ => ?_) (fun _ => ?_) | with_reducible refine condC_ndec (fun _ => ?_) (fun _ => ?_) | (with_reducible refine condC_and (fun hq => ?_) (fun hq => ?_) <;> (try simp at hq)) | (with_reducible refine condC_or (fun hq => ?_) (fun hq => ?_) <;> (try simp at hq)) | (with_reducible refine condC_not (fun hq => ?_) (fun hq => ?_) <;> (try simp at hq)) | (with_reducible refine condC_split (fun hq => ?_) (fun hq => ?_) <;> (try simp at hq)) | refine appK2_if (by omega) ?_ | refine pureV_if (by omega) ?_) <;> simp -implicitDefEqProofs [*, EQS, hw, Item.row])
    all_goals (obtain ⟨_, _, _, _, _⟩ := a; obtain ⟨_, _, _, _, _⟩ := b; grind)
  · rintro ⟨fr, bs⟩ ⟨rfl, h6⟩
    simp -implicitDefEqProofs [*]
  · rintro ⟨fr, bs⟩ h
    simp -implicitDefEqProofs [h.1, h.2]
theorem law_SameTolds (xs ys : List Told) (hl : xs.length ≤ cap) : Den PP 99 [toldsD xs, toldsD ys] [] (.bool (decide (xs = ys))) [] := by
  refine den_of [] [] is_gimmallaw0_SameTolds ?_
  simp -implicitDefEqProofs [c_gimmallaw0_SameTolds, toldsD]
  refine condC_split (fun h => ?_) (fun h => ?_)
  · simp -implicitDefEqProofs
    grind
  have hlen : xs.length = ys.length := by simp at h; omega
  simp -implicitDefEqProofs
  refine list_rule xs (fun i rest => fun ⟨fr, bs⟩ => bs = [] ∧ fr 0 = .sl (xs.map Told.row) xs.length ∧ fr 1 = .sl (ys.map Told.row) ys.length ∧ fr 5 = .int .i64 i ∧ (rest = ys.drop i ↔ xs = ys))
    (fun ⟨fr, bs⟩ => bs = [] ∧ xs = ys) (fun ⟨fr, bs⟩ => fr 4 = .bool false ∧ ¬ xs = ys) c_gimmallaw0_SameTolds_L0.eq_1 ?_ ?_ ?_ ?_ ?_
  · exact ⟨rfl, rfl, rfl, rfl, by simp⟩
  · rintro i ⟨fr, bs⟩ hi ⟨rfl, h0, h1, h5, he⟩
    simp -implicitDefEqProofs [*]
    grind
  · rintro i a rest ⟨fr, bs⟩ hlt hget hg hd hd2 ⟨rfl, h0, h1, h5, he⟩
    have hlt' : (i : Int) < xs.length := by omega
    have hlt2 : i < ys.length := by omega
    have hlt3 : (i : Int) < ys.length := by omega
    have hw := wrap_next (n := i) (by unfold cap at hl; omega)
    rw [List.drop_eq_getElem_cons hlt2] at he
    generalize hy : ys[i] = b at he
    simp -implicitDefEqProofs [h0, h1, h5, hlt, hlt', hlt2, hlt3, hget, hg, hy, Told.row, EQS]
    repeat' ((first | with_reducible refine gOps_dec (fun _ => ?_) (fun _ => ?_) | with_reducible refine gOps_ndec (fun _ => ?_) (fun _ => ?_) | (with_reducible refine gOps_and (fun hq => ?_) (fun hq => ?_) <;> (try simp at hq)) | (with_reducible refine gOps_or (fun hq => ?_) (fun hq => ?_) <;> (try simp at hq)) | (with_reducible refine gOps_not (fun hq => ?_) (fun hq => ?_) <;> (try simp at hq)) | (with_reducible refine gOps_split (fun hq => ?_) (fun hq => ?_) <;> (try simp at hq)) | with_reducible refine condC_dec (fun _ => ?_) (fun _ => ?_) | with_reducible refine condC_ndec (fun _ => ?_) (fun _ => ?_) | (with_reducible refine condC_and (fun hq => ?_) (fun hq => ?_) <;> (try simp at hq)) | (with_reducible refine condC_or (fun hq => ?_) (fun hq => ?_) <;> (try simp at hq)) | (with_reducible refine condC_not (fun hq => ?_) (fun hq => ?_) <;> (try simp at hq)) | (with_reducible refine condC_split (fun hq => ?_) (fun hq => ?_) <;> (try simp at hq)) | refine appK2_if (by omega) ?_ | refine pureV_if (by omega) ?_) <;> simp -implicitDefEqProofs [*, EQS, hw, Told.row])
    all_goals (obtain ⟨_, _, _⟩ := a; obtain ⟨_, _, _⟩ := b; grind)
  · rintro ⟨fr, bs⟩ ⟨rfl, h6⟩
    simp -implicitDefEqProofs [*]
  · rintro ⟨fr, bs⟩ h
    simp -implicitDefEqProofs [h.1, h.2]
theorem law_SameMsg (a b : Msg) (hl : a.ids.length ≤ cap) : Den PP 34 [msgD a, msgD b] [] (.bool (decide (a = b))) [] := by
  have h1 := law_SameInts a.ids b.ids hl
  simp only [intsD] at h1
  refine den_of [] [] is_gimmallaw0_SameMsg ?_
  simp -implicitDefEqProofs [c_gimmallaw0_SameMsg, msgD, Msg.row, intsD, EQS]
  repeat' ((first | refine callThen_of (by first | exact h1) ?_ | with_reducible refine gOps_dec (fun _ => ?_) (fun _ => ?_) | with_reducible refine gOps_ndec (fun _ => ?_) (fun _ => ?_) | (with_reducible refine gOps_and (fun hq => ?_) (fun hq => ?_) <;> (try simp at hq)) | (with_reducible refine gOps_or (fun hq => ?_) (fun hq => ?_) <;> (try simp at hq)) | (with_reducible refine gOps_not (fun hq => ?_) (fun hq => ?_) <;> (try simp at hq)) | (with_reducible refine gOps_split (fun hq => ?_) (fun hq => ?_) <;> (try simp at hq)) | with_reducible refine condC_dec (fun _ => ?_) (fun _ => ?_) | with_reducible refine condC_ndec (fun _ => ?_) (fun _ => ?_) | (with_reducible refine condC_and (fun hq => ?_) (fun hq => ?_) <;> (try simp at hq)) | (with_reducible refine condC_or (fun hq => ?_) (fun hq => ?_) <;> (try simp at hq)) | (with_reducible refine condC_not (fun hq => ?_) (fun hq => ?_) <;> (try simp at hq)) | (with_reducible refine condC_split (fun hq => ?_) (fun hq => ?_) <;> (try simp at hq)) | refine appK2_if (by omega) ?_ | refine pureV_if (by omega) ?_) <;> simp -implicitDefEqProofs [*, EQS])
  all_goals (obtain ⟨_, _, _, _, _, ⟨_, _, _, _, _⟩, _⟩ := a; obtain ⟨_, _, _, _, _, ⟨_, _, _, _, _⟩, _⟩ := b; grind)
theorem law_SameMsgs (xs ys : List Msg) (hl : xs.length ≤ cap16) (hi : ∀ m ∈ xs, m.ids.length ≤ cap) : Den PP 31 [msgsD xs, msgsD ys] [] (.bool (decide (xs = ys))) [] := by
  refine den_of [] [] is_gimmallaw0_SameMsgs ?_
  simp -implicitDefEqProofs [c_gimmallaw0_SameMsgs, msgsD]
  refine condC_split (fun h => ?_) (fun h => ?_)
  · simp -implicitDefEqProofs
    grind
  have hlen : xs.length = ys.length := by simp at h; omega
  simp -implicitDefEqProofs
  refine list_rule xs (fun i rest => fun ⟨fr, bs⟩ => bs = [] ∧ fr 0 = .sl (xs.map Msg.row) xs.length ∧ fr 1 = .sl (ys.map Msg.row) ys.length ∧ fr 5 = .int .i64 i ∧ (rest = ys.drop i ↔ xs = ys))
    (fun ⟨fr, bs⟩ => bs = [] ∧ xs = ys) (fun ⟨fr, bs⟩ => fr 4 = .bool false ∧ ¬ xs = ys) c_gimmallaw0_SameMsgs_L0.eq_1 ?_ ?_ ?_ ?_ ?_
  · exact ⟨rfl, rfl, rfl, rfl, by simp⟩
  · rintro i ⟨fr, bs⟩ hi ⟨rfl, h0, h1, h5, he⟩
    simp -implicitDefEqProofs [*]
    grind
  · rintro i a rest ⟨fr, bs⟩ hlt hget hg hd hd2 ⟨rfl, h0, h1, h5, he⟩
    have hlt' : (i : Int) < xs.length := by omega
    have hlt2 : i < ys.length := by omega
    have hlt3 : (i : Int) < ys.length := by omega
    have hw := wrap_next (n := i) (by unfold cap16 at hl; omega)
    rw [List.drop_eq_getElem_cons hlt2] at he
    generalize hy : ys[i] = b at he
    obtain ⟨e, hab⟩ : ∃ e, decide (a = b) = e := ⟨_, rfl⟩
    have c1 := law_SameMsg a b (hi a (List.mem_of_getElem? hget))
    rw [hab] at c1
    simp only [msgD, Msg.row] at c1
    simp -implicitDefEqProofs [h0, h1, h5, hlt, hlt', hlt2, hlt3, hget, hg, hy, Msg.row, EQS]
    repeat' ((first | refine callThen_of (by first | exact c1) ?_ | with_reducible refine gOps_dec (fun _ => ?_) (fun _ => ?_) | with_reducible refine gOps_ndec (fun _ => ?_) (fun _ => ?_) | (with_reducible refine gOps_and (fun hq => ?_) (fun hq => ?_) <;> (try simp at hq)) | (with_reducible refine gOps_or (fun hq => ?_) (fun hq => ?_) <;> (try simp at hq)) | (with_reducible refine gOps_not (fun hq => ?_) (fun hq => ?_) <;> (try simp at hq)) | (with_reducible refine gOps_split (fun hq => ?_) (fun hq => ?_) <;> (try simp at hq)) | with_reducible refine condC_dec (fun _ => ?_) (fun _ => ?_) | with_reducible refine condC_ndec (fun _ => ?_) (fun _ => ?_) | (with_reducible refine condC_and (fun hq => ?_) (fun hq => ?_) <;> (try simp at hq)) | (with_reducible refine condC_or (fun hq => ?_) (fun hq => ?_) <;> (try simp at hq)) | (with_reducible refine condC_not (fun hq => ?_) (fun hq => ?_) <;> (try simp at hq)) | (with_reducible refine condC_split (fun hq => ?_) (fun hq => ?_) <;> (try simp at hq)) | refine appK2_if (by omega) ?_ | refine pureV_if (by omega) ?_) <;> simp -implicitDefEqProofs [*, EQS, hw, Msg.row])
    all_goals (by_cases hq : a = b <;> grind)
  · rintro ⟨fr, bs⟩ ⟨rfl, h6⟩
    simp -implicitDefEqProofs [*]
  · rintro ⟨fr, bs⟩ h
    simp -implicitDefEqProofs [h.1, h.2]
theorem law_SameNode (x y : Node) (hs : x.small) : Den PP 30 [nodeD x, nodeD y] [] (.bool (decide (x = y))) [] := by
  have c1 := law_SameView x.view y.view hs.1
  have c2 := law_SameItems x.items y.items (by have := hs.2.1; unfold cap; omega)
  have c3 := law_SameTolds x.log y.log (by have := hs.2.2; unfold cap; omega)
  simp only [viewD, View.cells, peersD, intsD, itemsD, toldsD] at c1 c2 c3
  refine den_of [] [] is_gimmallaw0_SameNode ?_
  simp -implicitDefEqProofs [c_gimmallaw0_SameNode, nodeD, Node.cells, peersD, intsD, itemsD, toldsD]
  refine gOps_split (fun h => ?_) (fun h => ?_)
  all_goals simp -implicitDefEqProofs [h]
  all_goals repeat' ((first | refine callThen_of (by first | exact c1 | exact c2 | exact c3) ?_ | with_reducible refine gOps_dec (fun _ => ?_) (fun _ => ?_) | with_reducible refine gOps_ndec (fun _ => ?_) (fun _ => ?_) | (with_reducible refine gOps_and (fun hq => ?_) (fun hq => ?_) <;> (try simp at hq)) | (with_reducible refine gOps_or (fun hq => ?_) (fun hq => ?_) <;> (try simp at hq)) | (with_reducible refine gOps_not (fun hq => ?_) (fun hq => ?_) <;> (try simp at hq)) | (with_reducible refine gOps_split (fun hq => ?_) (fun hq => ?_) <;> (try simp at hq)) | with_reducible refine condC_dec (fun _ => ?_) (fun _ => ?_) | with_reducible refine condC_ndec (fun _ => ?_) (fun _ => ?_) | (with_reducible refine condC_and (fun hq => ?_) (fun hq => ?_) <;> (try simp at hq)) | (with_reducible refine condC_or (fun hq => ?_) (fun hq => ?_) <;> (try simp at hq)) | (with_reducible refine condC_not (fun hq => ?_) (fun hq => ?_) <;> (try simp at hq)) | (with_reducible refine condC_split (fun hq => ?_) (fun hq => ?_) <;> (try simp at hq)) | refine appK2_if (by omega) ?_ | refine pureV_if (by omega) ?_) <;> simp -implicitDefEqProofs [*])
  all_goals (obtain ⟨_, _, _, _⟩ := x; obtain ⟨_, _, _, _⟩ := y; grind)
theorem law_CopyNode (x : Node) (hs : x.small) : Den PP 26 [nodeD x] [] (.agg [.bool x.up, .int .i64 x.view.id, .ref 0 0 x.view.peers.length, .ref 1 0 x.view.passive.length, .ref 2 0 x.items.length, .ref 3 0 x.log.length])
    [⟨x.view.peers.map Peer.row, 2, .mut⟩, ⟨x.view.passive.map irow, 1, .mut⟩, ⟨x.items.map Item.row, 5, .mut⟩, ⟨x.log.map Told.row, 3, .mut⟩] := by
  have c1 := law_CopyView x.view hs.1
  simp only [viewD, View.cells, peersD, intsD] at c1
  obtain ⟨⟨h1, h2⟩, h3, h4⟩ := hs
  unfold cap16 at h1
  unfold cap at h2
  refine den_of [5] [] is_gimmallaw0_CopyNode ?_
  simp -implicitDefEqProofs [c_gimmallaw0_CopyNode, nodeD, Node.cells, peersD, intsD, itemsD, toldsD]
  repeat' ((first | refine callThen_of (by first | exact c1) ?_ | with_reducible refine gOps_dec (fun _ => ?_) (fun _ => ?_) | with_reducible refine gOps_ndec (fun _ => ?_) (fun _ => ?_) | (with_reducible refine gOps_and (fun hq => ?_) (fun hq => ?_) <;> (try simp at hq)) | (with_reducible refine gOps_or (fun hq => ?_) (fun hq => ?_) <;> (try simp at hq)) | (with_reducible refine gOps_not (fun hq => ?_) (fun hq => ?_) <;> (try simp at hq)) | (with_reducible refine gOps_split (fun hq => ?_) (fun hq => ?_) <;> (try simp at hq)) | with_reducible refine condC_dec (fun _ => ?_) (fun _ => ?_) | with_reducible refine condC_ndec (fun _ => ?_) (fun _ => ?_) | (with_reducible refine condC_and (fun hq => ?_) (fun hq => ?_) <;> (try simp at hq)) | (with_reducible refine condC_or (fun hq => ?_) (fun hq => ?_) <;> (try simp at hq)) | (with_reducible refine condC_not (fun hq => ?_) (fun hq => ?_) <;> (try simp at hq)) | (with_reducible refine condC_split (fun hq => ?_) (fun hq => ?_) <;> (try simp at hq)) | refine appK2_if (by omega) ?_ | refine pureV_if (by omega) ?_) <;> simp -implicitDefEqProofs [*])
end Go.AM
/- AM: contracts: what the statements' helpers do with slices. -/
namespace Go.AM
set_option linter.unusedSimpArgs false
set_option linter.unusedVariables false
set_option maxRecDepth 8000
set_option maxHeartbeats 0
end Go.AM
/- Plain law: where a search by a comparison ends; stores by it. -/
namespace Go.AM
set_option linter.unusedSimpArgs false
set_option linter.unusedVariables false

end Go.AM
/- Plain law: stores: put twice, in another row. -/
namespace Go.AM
set_option linter.unusedSimpArgs false
set_option linter.unusedVariables false

end Go.AM
namespace Go.AM
end Go.AM
/- Plain law: peers: one is heard, all age. -/
namespace Go.AM
set_option linter.unusedSimpArgs false
set_option linter.unusedVariables false

def PeerOk (base last : Int) (p : Peer) : Prop := place p.id = true ∧ 0 ≤ p.missed ∧ p.missed < 3 ∧ last < far base p.id
theorem peersOk_iff {base : Int} : ∀ (ps : List Peer) (last : Int), peersOk base last ps = true ↔ (∀ p ∈ ps, PeerOk base last p) ∧ ps.Pairwise (fun p q => far base p.id < far base q.id) := by
  intro ps
  induction ps with
  | nil => intro last; simp [peersOk]
  | cons p ps ih =>
    intro last
    simp only [peersOk, Bool.and_eq_true, decide_eq_true_eq, ih, List.mem_cons, List.pairwise_cons, PeerOk]
    constructor
    · rintro ⟨⟨⟨⟨h1, h2⟩, h3⟩, h4⟩, h5, h6⟩
      refine ⟨?_, fun q hq => (h5 q hq).2.2.2, h6⟩
      rintro q (rfl | hq)
      · exact ⟨h1, h2, h3, h4⟩
      · obtain ⟨a, b, c, d⟩ := h5 q hq
        exact ⟨a, b, c, by omega⟩
    · rintro ⟨h1, h2, h3⟩
      obtain ⟨a, b, c, d⟩ := h1 p (.inl rfl)
      refine ⟨⟨⟨⟨a, b⟩, c⟩, d⟩, fun q hq => ?_, h3⟩
      obtain ⟨a', b', c', d'⟩ := h1 q (.inr hq)
      exact ⟨a', b', c', h2 q hq⟩
theorem peersMay_iff {base : Int} {ps : List Peer} : peersMay base ps = true ↔ place base = true ∧ ps.length ≤ 16 ∧ (∀ p ∈ ps, PeerOk base 0 p) ∧ ps.Pairwise (fun p q => far base p.id < far base q.id) := by
  simp only [peersMay, Bool.and_eq_true, decide_eq_true_eq, peersOk_iff]
  constructor
  · rintro ⟨⟨a, b⟩, c⟩; exact ⟨a, b, c⟩
  · rintro ⟨a, b, c⟩; exact ⟨⟨a, b⟩, c⟩

def ageL (ps : List Peer) : List Peer := (ps.filter fun p => !decide (p.missed + 1 = 3)).map fun p => ⟨p.id, p.missed + 1⟩
def lostL (ps : List Peer) : List Int := (ps.filter fun p => decide (p.missed + 1 = 3)).map Peer.id
def ageR (base : Int) (ps : List Peer) : List Peer × List Int × Int := if peersMay base ps then (ageL ps, lostL ps, 0) else ([], [], 700)
theorem ageL_snoc (ps : List Peer) (p : Peer) : ageL (ps ++ [p]) = if p.missed + 1 = 3 then ageL ps else ageL ps ++ [⟨p.id, p.missed + 1⟩] := by
  by_cases h : p.missed + 1 = 3 <;> simp [ageL, h]
theorem lostL_snoc (ps : List Peer) (p : Peer) : lostL (ps ++ [p]) = if p.missed + 1 = 3 then lostL ps ++ [p.id] else lostL ps := by
  by_cases h : p.missed + 1 = 3 <;> simp [lostL, h]
theorem age_length (ps : List Peer) : (ageL ps).length + (lostL ps).length = ps.length := by
  induction ps with
  | nil => rfl
  | cons p ps ih =>
    by_cases h : p.missed + 1 = 3 <;> simp [ageL, lostL, h] at ih ⊢ <;> omega
theorem ageL_may {base : Int} {ps : List Peer} (h : peersMay base ps = true) : peersMay base (ageL ps) = true := by
  obtain ⟨a, b, c, d⟩ := peersMay_iff.1 h
  have hl := age_length ps
  refine peersMay_iff.2 ⟨a, by omega, fun q hq => ?_, ?_⟩
  · obtain ⟨p, hp, rfl⟩ := List.mem_map.1 hq
    obtain ⟨h1, h2⟩ := List.mem_filter.1 hp
    obtain ⟨e, f, g, k⟩ := c p h1
    simp at h2
    exact ⟨e, by simp; omega, by simp; omega, k⟩
  · unfold ageL
    rw [List.pairwise_map]
    exact d.filter _
end Go.AM
/- AM: contracts: peers: one is heard, all age. -/
namespace Go.AM
set_option linter.unusedSimpArgs false
set_option linter.unusedVariables false
set_option maxRecDepth 8000
set_option maxHeartbeats 0
theorem peers_Age (base : Int) (ps : List Peer) (hl : ps.length ≤ cap16) : Den PP 111 [.int .i64 base, peersD ps] [] (.tup [.ref 0 0 (ageR base ps).1.length, .ref 1 0 (ageR base ps).2.1.length, .int .i64 (ageR base ps).2.2]) [⟨(ageR base ps).1.map Peer.row, 2, .mut⟩, ⟨(ageR base ps).2.1.map irow, 1, .mut⟩] := by
  have c1 := peers_May base ps (cap_of hl)
  refine den_of [] [] is_peers_Age ?_
  simp -implicitDefEqProofs [c_peers_Age, peersD]
  refine callThen_of c1 ?_
  unfold ageR
  cases h1 : peersMay base ps with
  | false => simp -implicitDefEqProofs
  | true =>
    obtain ⟨hb, h16, hp, hd⟩ := peersMay_iff.1 h1
    simp -implicitDefEqProofs
    refine list_rule ps (fun i rest => fun ⟨fr, bs⟩ => bs = [⟨[], 2, .mut⟩, ⟨[], 1, .mut⟩, ⟨(ageL (ps.take i)).map Peer.row, 2, .mut⟩, ⟨(lostL (ps.take i)).map irow, 1, .mut⟩] ∧ fr 7 = .ref 2 0 (ageL (ps.take i)).length ∧ fr 8 = .ref 3 0 (lostL (ps.take i)).length ∧ fr 15 = .sl (ps.map Peer.row) ps.length ∧ fr 16 = .int .i64 ps.length ∧ fr 17 = .int .i64 i)
      (fun ⟨fr, bs⟩ => bs = [⟨[], 2, .mut⟩, ⟨[], 1, .mut⟩, ⟨(ageL ps).map Peer.row, 2, .mut⟩, ⟨(lostL ps).map irow, 1, .mut⟩] ∧ fr 7 = .ref 2 0 (ageL ps).length ∧ fr 8 = .ref 3 0 (lostL ps).length) (fun _ => False) c_peers_Age_L0.eq_1 ?_ ?_ ?_ ?_ ?_
    · exact ⟨rfl, rfl, rfl, rfl, rfl, rfl⟩
    · rintro i ⟨fr, bs⟩ hi ⟨rfl, h7, h8, h15, h16, h17⟩
      subst hi
      rw [List.take_length] at *
      simp -implicitDefEqProofs [h7, h8, h15, h16, h17]
    · rintro i q rest ⟨fr, bs⟩ hlt hget hg hd hd2 ⟨rfl, h7, h8, h15, h16, h17⟩
      have hlt' : (i : Int) < ps.length := by omega
      have hw := wrap_next (n := i) (by omega)
      have hm := hp q (List.mem_of_getElem? hget)
      have hwm : IntKind.wrap .i64 (q.missed + 1) = q.missed + 1 := wrap_in (by have := hm.2.1; omega) (by have := hm.2.2.1; omega)
      have e1 : ps.take (i + 1) = ps.take i ++ [q] := by rw [List.take_add_one, hget]; rfl
      have e2 := ageL_snoc (ps.take i) q
      have e3 := lostL_snoc (ps.take i) q
      rw [← e1] at e2 e3
      have hal := age_length (ps.take i)
      have htl : (ps.take i).length ≤ 16 := by simp; omega
      have ha16 : (ageL (ps.take i)).length ≤ 16 := by omega
      have hl16 : (lostL (ps.take i)).length ≤ 16 := by omega
      have w3 : IntKind.wrap .i64 3 = 3 := wrap_in (by omega) (by omega)
      clear hal htl
      generalize ageL (ps.take (i + 1)) = a' at *
      generalize ageL (ps.take i) = a at *
      generalize lostL (ps.take (i + 1)) = l' at *
      generalize lostL (ps.take i) = l at *
      by_cases hq : q.missed + 1 = 3
      · rw [if_pos hq] at e2 e3
        subst e2 e3
        obtain ⟨qi, qm⟩ := q
        have hq2 : qm = 2 := by simp at hq; omega
        subst hq2
        clear hwm hq hm
        simp -implicitDefEqProofs [h7, h8, h15, h16, h17, hlt, hlt', hget, hg, w3, Peer.row]
        refine ⟨by simp [Fits], ?_⟩
        repeat' ((first | refine callThen_of (by first | exact ring_Place _ | exact den_nrm (ring_Place _) | exact den_nrm (by simpa using ring_Place _)) ?_ | with_reducible refine gOps_dec (fun _ => ?_) (fun _ => ?_) | with_reducible refine gOps_ndec (fun _ => ?_) (fun _ => ?_) | (with_reducible refine gOps_and (fun hq => ?_) (fun hq => ?_) <;> (try simp at hq)) | (with_reducible refine gOps_or (fun hq => ?_) (fun hq => ?_) <;> (try simp at hq)) | (with_reducible refine gOps_not (fun hq => ?_) (fun hq => ?_) <;> (try simp at hq)) | (with_reducible refine gOps_split (fun hq => ?_) (fun hq => ?_) <;> (try simp at hq)) | with_reducible refine condC_dec (fun _ => ?_) (fun _ => ?_) | with_reducible refine condC_ndec (fun _ => ?_) (fun _ => ?_) | (with_reducible refine condC_and (fun hq => ?_) (fun hq => ?_) <;> (try simp at hq)) | (with_reducible refine condC_or (fun hq => ?_) (fun hq => ?_) <;> (try simp at hq)) | (with_reducible refine condC_not (fun hq => ?_) (fun hq => ?_) <;> (try simp at hq)) | (with_reducible refine condC_split (fun hq => ?_) (fun hq => ?_) <;> (try simp at hq)) | refine appK2_if (by omega) ?_ | refine pureV_if (by omega) ?_) <;> simp -implicitDefEqProofs [*, h7, h8, h15, h16, h17, hlt, hlt', hw, irow, Fits])
        exact fun _ _ => rfl
      · rw [if_neg hq] at e2 e3
        subst e2 e3
        simp -implicitDefEqProofs [h7, h8, h15, h16, h17, hlt, hlt', hget, hg, hwm, hq, Peer.row]
        refine ⟨by simp [Fits], ?_⟩
        repeat' ((first | refine callThen_of (by first | exact ring_Place _ | exact den_nrm (ring_Place _) | exact den_nrm (by simpa using ring_Place _)) ?_ | with_reducible refine gOps_dec (fun _ => ?_) (fun _ => ?_) | with_reducible refine gOps_ndec (fun _ => ?_) (fun _ => ?_) | (with_reducible refine gOps_and (fun hq => ?_) (fun hq => ?_) <;> (try simp at hq)) | (with_reducible refine gOps_or (fun hq => ?_) (fun hq => ?_) <;> (try simp at hq)) | (with_reducible refine gOps_not (fun hq => ?_) (fun hq => ?_) <;> (try simp at hq)) | (with_reducible refine gOps_split (fun hq => ?_) (fun hq => ?_) <;> (try simp at hq)) | with_reducible refine condC_dec (fun _ => ?_) (fun _ => ?_) | with_reducible refine condC_ndec (fun _ => ?_) (fun _ => ?_) | (with_reducible refine condC_and (fun hq => ?_) (fun hq => ?_) <;> (try simp at hq)) | (with_reducible refine condC_or (fun hq => ?_) (fun hq => ?_) <;> (try simp at hq)) | (with_reducible refine condC_not (fun hq => ?_) (fun hq => ?_) <;> (try simp at hq)) | (with_reducible refine condC_split (fun hq => ?_) (fun hq => ?_) <;> (try simp at hq)) | refine appK2_if (by omega) ?_ | refine pureV_if (by omega) ?_) <;> simp -implicitDefEqProofs [*, h7, h8, h15, h16, h17, hlt, hlt', hw, Peer.row, Fits])
    · rintro ⟨fr, bs⟩ ⟨rfl, h7, h8⟩
      simp -implicitDefEqProofs [h7, h8]
    · rintro ⟨fr, bs⟩ h
      exact h.elim
end Go.AM
/- AM: contracts: binary search by a comparison. -/
namespace Go.AM
set_option linter.unusedSimpArgs false
set_option linter.unusedVariables false
set_option maxRecDepth 8000
set_option maxHeartbeats 0
end Go.AM
/- AM: contracts: the document's best, its put; what a node takes. -/
namespace Go.AM
set_option linter.unusedSimpArgs false
set_option linter.unusedVariables false
set_option maxRecDepth 8000
set_option maxHeartbeats 0
end Go.AM
/- AM: contracts: the best of two, a store's item, its put. -/
namespace Go.AM
set_option linter.unusedSimpArgs false
set_option linter.unusedVariables false
set_option maxRecDepth 8000
set_option maxHeartbeats 0
end Go.AM
/- AM: contracts: a store's put. -/
namespace Go.AM
set_option linter.unusedSimpArgs false
set_option linter.unusedVariables false
set_option maxRecDepth 8000
set_option maxHeartbeats 0
end Go.AM
/- AM: contracts: what chapter 9's statements build on. -/
namespace Go.AM
set_option linter.unusedSimpArgs false
set_option linter.unusedVariables false
set_option maxRecDepth 8000
set_option maxHeartbeats 0
end Go.AM
/- AM: contracts: the document's nodes and sharing; chapter 18's helpers. -/
namespace Go.AM
set_option linter.unusedSimpArgs false
set_option linter.unusedVariables false
set_option maxRecDepth 8000
set_option maxHeartbeats 0
end Go.AM
/- AM: what is handed in, told. -/
namespace Go.AM
set_option linter.unusedSimpArgs false
set_option linter.unusedVariables false
set_option maxRecDepth 8000
theorem tell_int {n : Nat} {cs : List D} (h : Tell TT (n + 1) 3 cs) : ∃ x, cs = [.int .i64 x] ∧ in64 x := by
  simp [Tell] at h
  obtain ⟨x, rfl, hx⟩ := h
  exact ⟨x, rfl, wf64 hx⟩
theorem tell_bool {n : Nat} {cs : List D} (h : Tell TT (n + 1) 4 cs) : ∃ x, cs = [.bool x] := by
  simpa [Tell] using h
theorem tell_ints {n : Nat} {cs : List D} (h : Tell TT (n + 2) 36 cs) : ∃ xs : List Int, cs = [intsD xs] ∧ xs.length * 8 ≤ 140737488351232 ∧ ∀ x ∈ xs, in64 x := by
  unfold Tell at h
  simp at h
  obtain ⟨rows, rfl, hl, hr⟩ := h
  obtain ⟨xs, rfl, hx⟩ := rows_of (f := irow) (Q := in64) rows fun r h => by
    obtain ⟨x, rfl, hx⟩ := tell_int (hr r h)
    exact ⟨x, rfl, hx⟩
  exact ⟨xs, by simp [intsD], by simpa using hl, hx⟩
theorem tell_Peer {n : Nat} {cs : List D} (h : Tell TT (n + 2) 204 cs) : ∃ p : Peer, cs = p.row ∧ in64 p.id ∧ in64 p.missed := by
  unfold Tell at h
  simp [Tell.TellFs] at h
  obtain ⟨a, b, rfl, h1, h2⟩ := h
  obtain ⟨x, rfl, hx⟩ := tell_int h1
  obtain ⟨y, rfl, hy⟩ := tell_int h2
  exact ⟨⟨x, y⟩, rfl, hx, hy⟩
theorem tell_peers {n : Nat} {cs : List D} (h : Tell TT (n + 3) 35 cs) : ∃ ps : List Peer, cs = [peersD ps] ∧ ps.length * 16 ≤ 140737488351232 ∧ ∀ p ∈ ps, in64 p.id ∧ in64 p.missed := by
  unfold Tell at h
  simp at h
  obtain ⟨rows, rfl, hl, hr⟩ := h
  obtain ⟨xs, rfl, hx⟩ := rows_of (f := Peer.row) (Q := fun p => in64 p.id ∧ in64 p.missed) rows fun r h => tell_Peer (hr r h)
  exact ⟨xs, by simp [peersD], by simpa using hl, hx⟩
def View.tame (v : View) : Prop := v.peers.length * 16 ≤ 140737488351232 ∧ v.passive.length * 8 ≤ 140737488351232 ∧ in64 v.id ∧ (∀ p ∈ v.peers, in64 p.id ∧ in64 p.missed) ∧ ∀ x ∈ v.passive, in64 x
theorem View.tame.small {v : View} (h : v.tame) : v.small := by
  obtain ⟨h1, h2, _⟩ := h
  unfold View.small cap16 cap
  omega
theorem tell_View {n : Nat} {cs : List D} (h : Tell TT (n + 4) 38 cs) : ∃ v : View, cs = v.cells ∧ v.tame := by
  unfold Tell at h
  simp [Tell.TellFs] at h
  obtain ⟨a, r, rfl, h1, b, c, rfl, h2, h3⟩ := h
  obtain ⟨x, rfl, hx⟩ := tell_int h1
  obtain ⟨ps, rfl, hp, hp2⟩ := tell_peers h2
  obtain ⟨xs, rfl, hq, hq2⟩ := tell_ints h3
  exact ⟨⟨x, ps, xs⟩, rfl, hp, hq, hx, hp2, hq2⟩
theorem tell_Version {n : Nat} {cs : List D} (h : Tell TT (n + 2) 44 cs) : ∃ c w : Int, cs = [.int .i64 c, .int .i64 w] ∧ in64 c ∧ in64 w := by
  unfold Tell at h
  simp [Tell.TellFs] at h
  obtain ⟨a, b, rfl, h1, h2⟩ := h
  obtain ⟨x, rfl, hx⟩ := tell_int h1
  obtain ⟨y, rfl, hy⟩ := tell_int h2
  exact ⟨x, y, rfl, hx, hy⟩
def Item.tame (i : Item) : Prop := in64 i.key ∧ in64 i.count ∧ in64 i.writer ∧ in64 i.value
theorem tell_Item {n : Nat} {cs : List D} (h : Tell TT (n + 3) 46 cs) : ∃ i : Item, cs = i.row ∧ i.tame := by
  unfold Tell at h
  simp [Tell.TellFs] at h
  obtain ⟨a, r1, rfl, h1, b, r2, rfl, h2, c, d, rfl, h3, h4⟩ := h
  obtain ⟨x, rfl, hx⟩ := tell_int h1
  obtain ⟨y, z, rfl, hy, hz⟩ := tell_Version h2
  obtain ⟨u, rfl, hu⟩ := tell_int h3
  obtain ⟨g, rfl⟩ := tell_bool h4
  exact ⟨⟨x, y, z, u, g⟩, rfl, hx, hy, hz, hu⟩
theorem tell_items {n : Nat} {cs : List D} (h : Tell TT (n + 4) 39 cs) : ∃ is : List Item, cs = [itemsD is] ∧ is.length * 40 ≤ 140737488351232 ∧ ∀ i ∈ is, i.tame := by
  unfold Tell at h
  simp at h
  obtain ⟨rows, rfl, hl, hr⟩ := h
  obtain ⟨xs, rfl, hx⟩ := rows_of (f := Item.row) (Q := Item.tame) rows fun r h => tell_Item (hr r h)
  exact ⟨xs, by simp [itemsD], by simpa using hl, hx⟩
theorem tell_Told {n : Nat} {cs : List D} (h : Tell TT (n + 2) 61 cs) : ∃ t : Told, cs = t.row ∧ in64 t.key ∧ in64 t.value := by
  unfold Tell at h
  simp [Tell.TellFs] at h
  obtain ⟨a, r1, rfl, h1, b, c, rfl, h2, h3⟩ := h
  obtain ⟨x, rfl, hx⟩ := tell_int h1
  obtain ⟨g, rfl⟩ := tell_bool h2
  obtain ⟨u, rfl, hu⟩ := tell_int h3
  exact ⟨⟨x, g, u⟩, rfl, hx, hu⟩
theorem tell_tolds {n : Nat} {cs : List D} (h : Tell TT (n + 3) 40 cs) : ∃ ts : List Told, cs = [toldsD ts] ∧ ts.length * 24 ≤ 140737488351232 ∧ ∀ t ∈ ts, in64 t.key ∧ in64 t.value := by
  unfold Tell at h
  simp at h
  obtain ⟨rows, rfl, hl, hr⟩ := h
  obtain ⟨xs, rfl, hx⟩ := rows_of (f := Told.row) (Q := fun t => in64 t.key ∧ in64 t.value) rows fun r h => tell_Told (hr r h)
  exact ⟨xs, by simp [toldsD], by simpa using hl, hx⟩
def Node.tame (x : Node) : Prop := x.view.tame ∧ x.items.length * 40 ≤ 140737488351232 ∧ (∀ i ∈ x.items, i.tame) ∧ x.log.length * 24 ≤ 140737488351232 ∧ ∀ t ∈ x.log, in64 t.key ∧ in64 t.value
theorem Node.tame.small {x : Node} (h : x.tame) : x.small := ⟨h.1.small, h.2.1, h.2.2.2.1⟩
theorem tell_Node {n : Nat} {cs : List D} (h : Tell TT (n + 5) 42 cs) : ∃ x : Node, cs = x.cells ∧ x.tame := by
  unfold Tell at h
  simp [Tell.TellFs] at h
  obtain ⟨a, r1, rfl, h1, b, r2, rfl, h2, c, d, rfl, h3, h4⟩ := h
  obtain ⟨u, rfl⟩ := tell_bool h1
  obtain ⟨v, rfl, hv⟩ := tell_View h2
  obtain ⟨is, rfl, h5, h6⟩ := tell_items h3
  obtain ⟨ts, rfl, h7, h8⟩ := tell_tolds h4
  exact ⟨⟨u, v, is, ts⟩, rfl, hv, h5, h6, h7, h8⟩
theorem arg_Node {n : Nat} {d : D} (h : TellArg TT (n + 5) 42 d) : ∃ x : Node, d = nodeD x ∧ x.tame := by
  simp [TellArg] at h
  obtain ⟨cs, rfl, h⟩ := h
  obtain ⟨v, rfl, hv⟩ := tell_Node h
  exact ⟨v, rfl, hv⟩
theorem arg_Item {n : Nat} {d : D} (h : TellArg TT (n + 3) 46 d) : ∃ x : Item, d = .agg x.row ∧ x.tame := by
  simp [TellArg] at h
  obtain ⟨cs, rfl, h⟩ := h
  obtain ⟨v, rfl, hv⟩ := tell_Item h
  exact ⟨v, rfl, hv⟩
theorem arg_items {n : Nat} {d : D} (h : TellArg TT (n + 4) 39 d) : ∃ x : List Item, d = itemsD x ∧ x.length * 40 ≤ 140737488351232 ∧ ∀ i ∈ x, i.tame := by
  simp [TellArg] at h
  obtain ⟨xs, hx, h2⟩ := tell_items h
  simp at hx
  exact ⟨xs, hx, h2⟩
theorem arg_ints {n : Nat} {d : D} (h : TellArg TT (n + 2) 36 d) : ∃ x : List Int, d = intsD x ∧ x.length * 8 ≤ 140737488351232 ∧ ∀ i ∈ x, in64 i := by
  simp [TellArg] at h
  obtain ⟨xs, hx, h2⟩ := tell_ints h
  simp at hx
  exact ⟨xs, hx, h2⟩
theorem arg_peers {n : Nat} {d : D} (h : TellArg TT (n + 3) 35 d) : ∃ x : List Peer, d = peersD x ∧ x.length * 16 ≤ 140737488351232 ∧ ∀ p ∈ x, in64 p.id ∧ in64 p.missed := by
  simp [TellArg] at h
  obtain ⟨xs, hx, h2⟩ := tell_peers h
  simp at hx
  exact ⟨xs, hx, h2⟩
theorem arg_bool {n : Nat} {d : D} (h : TellArg TT (n + 1) 4 d) : ∃ x, d = .bool x ∧ True := by
  simp [TellArg] at h
  obtain ⟨x, hx⟩ := tell_bool h
  simp at hx
  exact ⟨x, hx, trivial⟩
theorem arg_int {n : Nat} {d : D} (h : TellArg TT (n + 1) 3 d) : ∃ x, d = .int .i64 x ∧ in64 x := by
  simp [TellArg] at h
  obtain ⟨x, hx, h2⟩ := tell_int h
  simp at hx
  exact ⟨x, hx, h2⟩
theorem arg_View {n : Nat} {d : D} (h : TellArg TT (n + 4) 38 d) : ∃ v : View, d = viewD v ∧ v.tame := by
  simp [TellArg] at h
  obtain ⟨cs, rfl, h⟩ := h
  obtain ⟨v, rfl, hv⟩ := tell_View h
  exact ⟨v, rfl, hv⟩
end Go.AM
/- AM: contracts: a node is copied, takes an item. -/
namespace Go.AM
set_option linter.unusedSimpArgs false
set_option linter.unusedVariables false
set_option maxRecDepth 8000
set_option maxHeartbeats 0
theorem fit_of {α : Type} {f : α → List D} {n : Nat} (h : ∀ a, (f a).length = n ∧ (f a).all D.isCell = true) (xs : List α) : Fits n (xs.map f) := by
  intro r hr
  obtain ⟨a, _, rfl⟩ := List.mem_map.1 hr
  exact h a
theorem view_Copy (v : View) (hs : v.small) : Den PP 110 [viewD v] [] (.agg [.int .i64 v.id, .ref 0 0 v.peers.length, .ref 1 0 v.passive.length]) [⟨v.peers.map Peer.row, 2, .mut⟩, ⟨v.passive.map irow, 1, .mut⟩] := by
  obtain ⟨h1, h2⟩ := hs
  unfold cap16 at h1
  unfold cap at h2
  have c1 := clone_Peer (v.peers.map Peer.row) (fit_of (f := Peer.row) (n := 2) (fun _ => ⟨rfl, rfl⟩) _) (by simp; omega)
  have c2 := clone_int (v.passive.map irow) (fit_of (f := irow) (n := 1) (fun _ => ⟨rfl, rfl⟩) _) (by simp; omega)
  simp only [List.length_map] at c1 c2
  refine den_of [5, 8] [] is_view_Copy ?_
  simp -implicitDefEqProofs [c_view_Copy, viewD, View.cells, peersD, intsD]
  refine callThen_of c1 ?_
  simp -implicitDefEqProofs [downTo]
  refine callThen_of c2 ?_
  simp -implicitDefEqProofs [downTo]
def copyD (x : Node) : D := .agg [.bool x.up, .int .i64 x.view.id, .ref 0 0 x.view.peers.length, .ref 1 0 x.view.passive.length, .ref 2 0 x.items.length, .ref 3 0 x.log.length]
def nodeB (x : Node) : List Blk := [⟨x.view.peers.map Peer.row, 2, .mut⟩, ⟨x.view.passive.map irow, 1, .mut⟩, ⟨x.items.map Item.row, 5, .mut⟩, ⟨x.log.map Told.row, 3, .mut⟩]
theorem node_Copy (x : Node) (hs : x.small) : Den PP 86 [nodeD x] [] (copyD x) (nodeB x) := by
  have c1 := view_Copy x.view hs.1
  obtain ⟨⟨h1, h2⟩, h3, h4⟩ := hs
  unfold cap16 at h1
  unfold cap at h2
  have c2 := clone_Item (x.items.map Item.row) (fit_of (f := Item.row) (n := 5) (fun _ => ⟨rfl, rfl⟩) _) (by simp; omega)
  have c3 := clone_Told (x.log.map Told.row) (fit_of (f := Told.row) (n := 3) (fun _ => ⟨rfl, rfl⟩) _) (by simp; omega)
  simp only [List.length_map, viewD, View.cells, peersD, intsD] at c1 c2 c3
  unfold copyD nodeB
  refine den_of [5, 8, 11] [] is_node_Copy ?_
  simp -implicitDefEqProofs [c_node_Copy, nodeD, Node.cells, peersD, intsD, itemsD, toldsD]
  refine callThen_of c1 ?_
  simp -implicitDefEqProofs [downTo]
  refine callThen_of c2 ?_
  simp -implicitDefEqProofs [downTo]
  refine callThen_of c3 ?_
  simp -implicitDefEqProofs [downTo]
end Go.AM
/- Plain law: peers heard in a row stand in the row of distances. -/
namespace Go.AM
set_option linter.unusedSimpArgs false
set_option linter.unusedVariables false

end Go.AM
/- Plain law: greetings. -/
namespace Go.AM
set_option linter.unusedSimpArgs false
set_option linter.unusedVariables false

theorem viewMay_of {v : View} (h1 : peersMay v.id v.peers = true) (h2 : passiveMay v.passive = true) (h3 : v.peers.length + v.passive.length ≤ 16) (h4 : ∀ x ∈ v.passive, x ≠ v.id ∧ x ∉ v.peers.map Peer.id) : viewMay v = true := by
  simp only [viewMay, Bool.and_eq_true, decide_eq_true_eq, Bool.not_eq_true']
  refine ⟨⟨⟨h1, h2⟩, h3⟩, ?_⟩
  rw [List.any_eq_false]
  intro x hx
  simp only [oddIn, Bool.or_eq_true, not_or]
  rw [peerIs_mem h1 (passiveMay_places h2 x hx)]
  have := h4 x hx
  simpa using this
end Go.AM
/- AM: plain: time that goes by, for a view. -/
namespace Go.AM
set_option linter.unusedSimpArgs false
set_option linter.unusedVariables false
def agedP (lost : List Int) (p : List Int) : List Int := lost.foldl (fun p x => (withP p x).1) p
def ageV (v : View) : View := ⟨v.id, ageL v.peers, agedP (lostL v.peers) v.passive⟩
theorem aged_spec : ∀ (lost p : List Int), passiveMay p = true → (∀ x ∈ lost, place x = true ∧ x ∉ p) → lost.Nodup → p.length + lost.length ≤ 16 →
    passiveMay (agedP lost p) = true ∧ (agedP lost p).length = p.length + lost.length ∧ ∀ y, y ∈ agedP lost p ↔ y ∈ p ∨ y ∈ lost := by
  intro lost
  induction lost with
  | nil => intro p hp _ _ _; exact ⟨hp, by simp [agedP], by simp [agedP]⟩
  | cons x lost ih =>
    intro p hp hl hn hk
    obtain ⟨hx, hxp⟩ := hl x (by simp)
    have hne : p.length ≠ 16 := by simp at hk; omega
    have e : withP p x = (insU x p, 0) := by simp [withP, hp, hx, hxp, hne]
    have e2 : agedP (x :: lost) p = agedP lost (insU x p) := by simp [agedP, e]
    rw [List.nodup_cons] at hn
    obtain ⟨h1, h2, h3⟩ := ih (insU x p) (passiveMay_insU hp hx hxp hne) (fun y hy => ⟨(hl y (by simp [hy])).1, fun hm => by
      rcases mem_insU.1 hm with rfl | hm
      · exact hn.1 hy
      · exact (hl y (by simp [hy])).2 hm⟩) hn.2 (by rw [insU_length]; simp at hk; omega)
    rw [e2]
    refine ⟨h1, by rw [h2, insU_length]; simp; omega, fun y => ?_⟩
    rw [h3, mem_insU]
    simp only [List.mem_cons]
    constructor
    · rintro ((h | h) | h)
      · exact .inr (.inl h)
      · exact .inl h
      · exact .inr (.inr h)
    · rintro (h | h | h)
      · exact .inl (.inr h)
      · exact .inl (.inl h)
      · exact .inr h
theorem mem_lostL {x : Int} {ps : List Peer} (h : x ∈ lostL ps) : ∃ p ∈ ps, p.missed + 1 = 3 ∧ p.id = x := by
  obtain ⟨p, hp, rfl⟩ := List.mem_map.1 h
  obtain ⟨h1, h2⟩ := List.mem_filter.1 hp
  exact ⟨p, h1, by simpa using h2, rfl⟩
theorem mem_ageL {q : Peer} {ps : List Peer} (h : q ∈ ageL ps) : ∃ p ∈ ps, p.missed + 1 ≠ 3 ∧ q = ⟨p.id, p.missed + 1⟩ := by
  obtain ⟨p, hp, rfl⟩ := List.mem_map.1 h
  obtain ⟨h1, h2⟩ := List.mem_filter.1 hp
  exact ⟨p, h1, by simpa using h2, rfl⟩
theorem lostL_nodup {base : Int} {ps : List Peer} (h : peersMay base ps = true) : (lostL ps).Nodup := by
  have hp := (peersMay_iff.1 h).2.2.2
  unfold lostL List.Nodup
  rw [List.pairwise_map]
  refine (hp.filter _).imp ?_
  intro a b hab he
  rw [he] at hab
  omega
theorem peers_once {base : Int} {ps : List Peer} (h : peersMay base ps = true) {p q : Peer} (hp : p ∈ ps) (hq : q ∈ ps) (he : p.id = q.id) : p = q := by
  have hw := (peersMay_iff.1 h).2.2.2
  induction ps with
  | nil => cases hp
  | cons a ps ih =>
    have hh := peersMay_iff.1 h
    rw [List.pairwise_cons] at hw
    have key : ∀ b ∈ ps, far base a.id < far base b.id := hw.1
    rcases List.mem_cons.1 hp with rfl | hp' <;> rcases List.mem_cons.1 hq with rfl | hq'
    · rfl
    · have := key q hq'; rw [he] at this; omega
    · have := key p hp'; rw [he] at this; omega
    · refine ih (peersMay_iff.2 ⟨hh.1, by have := hh.2.1; simp at this; omega, fun x hx => hh.2.2.1 x (by simp [hx]), hw.2⟩) hp' hq' hw.2
theorem ageV_spec {v : View} (h : viewMay v = true) : viewMay (ageV v) = true ∧ (ageV v).peers.length + (ageV v).passive.length = v.peers.length + v.passive.length ∧ (∀ y, y ∈ (ageV v).passive ↔ y ∈ v.passive ∨ y ∈ lostL v.peers) := by
  obtain ⟨h1, h2, h3, h4⟩ := viewMay_parts h
  have hlen := age_length v.peers
  have hpl := peersMay_places h1
  have hlost : ∀ x ∈ lostL v.peers, place x = true ∧ x ∉ v.passive := by
    intro x hx
    obtain ⟨p, hp, hm, rfl⟩ := mem_lostL hx
    exact ⟨(hpl p hp).1, fun hm => (h4 _ hm).2 (List.mem_map.2 ⟨p, hp, rfl⟩)⟩
  obtain ⟨a1, a2, a3⟩ := aged_spec (lostL v.peers) v.passive h2 hlost (lostL_nodup h1) (by omega)
  refine ⟨viewMay_of (ageL_may h1) a1 ?_ ?_, ?_, a3⟩
  · show (ageL v.peers).length + (agedP (lostL v.peers) v.passive).length ≤ 16
    rw [a2]; omega
  · intro x hx
    show x ≠ v.id ∧ x ∉ (ageL v.peers).map Peer.id
    have hx' : x ∈ v.passive ∨ x ∈ lostL v.peers := (a3 x).1 hx
    rcases hx' with hx' | hx'
    · refine ⟨(h4 x hx').1, fun hm => ?_⟩
      obtain ⟨q, hq, rfl⟩ := List.mem_map.1 hm
      obtain ⟨p, hp, -, rfl⟩ := mem_ageL hq
      exact (h4 _ hx').2 (List.mem_map.2 ⟨p, hp, rfl⟩)
    · obtain ⟨p, hp, hm, rfl⟩ := mem_lostL hx'
      refine ⟨peer_ne h hp, fun hm' => ?_⟩
      obtain ⟨q, hq, he⟩ := List.mem_map.1 hm'
      obtain ⟨p', hp', hm2, rfl⟩ := mem_ageL hq
      have := peers_once h1 hp' hp he
      rw [this] at hm2
      exact hm2 hm
  · show (ageL v.peers).length + (agedP (lostL v.peers) v.passive).length = _
    rw [a2]; omega
def greetV (w : View) : List Int := w.peers.map Peer.id ++ w.passive
end Go.AM
/- AM: contracts: age.Tick. -/
namespace Go.AM
set_option linter.unusedSimpArgs false
set_option linter.unusedVariables false
set_option maxRecDepth 8000
set_option maxHeartbeats 0
theorem concat_none : Den PP 113 [.sl [[.sl [] 0], [.sl [] 0]] 2] [] (.ref 0 0 0) [⟨[], 1, .mut⟩] := XX_sound LH LH_ok _ _ _ _ _ (by kernel_rfl)
theorem concat2 (xs ys : List Int) (hl : xs.length + ys.length ≤ cap16) : Den PP 113 [.sl [[.sl (xs.map irow) xs.length], [.sl (ys.map irow) ys.length]] 2] [] (.ref 0 0 (xs ++ ys).length) [⟨(xs ++ ys).map irow, 1, .mut⟩] := by
  by_cases h : 0 < (xs ++ ys).length
  · have := concat_some [xs, ys] (by unfold cap16; simp) (by simpa [tot] using h) (by simpa [tot] using hl)
    simpa [tot, frow, lrow] using this
  · have h1 : xs = [] := List.length_eq_zero_iff.1 (by simp at h; simp [h])
    have h2 : ys = [] := List.length_eq_zero_iff.1 (by simp at h; simp [h])
    subst h1 h2
    exact concat_none
theorem age_Tick_no (v : View) (hs : v.small) (h : viewMay v = false) : Den PP 38 [viewD v] [] (.tup [.agg [.int .i64 0, .nil, .nil], .ref 0 0 0, .int .i64 1100]) [⟨[], 1, .mut⟩] := by
  have c1 := view_May v hs
  rw [h] at c1
  simp only [viewD, View.cells, peersD, intsD] at c1 ⊢
  refine den_of [] [] is_age_Tick ?_
  simp -implicitDefEqProofs [c_age_Tick]
  refine callThen_of c1 ?_
  simp -implicitDefEqProofs
theorem agedP_snoc {L : List Int} {i : Nat} {x : Int} (h : L[i]? = some x) (p : List Int) : agedP (L.take (i + 1)) p = (withP (agedP (L.take i) p) x).1 := by
  have e1 : L.take (i + 1) = L.take i ++ [x] := by rw [List.take_add_one, h]; rfl
  unfold agedP
  rw [e1, List.foldl_append]
  rfl
theorem agedP_len (L : List Int) (p : List Int) (h : p.length ≤ 16) : (agedP L p).length ≤ 16 := by
  unfold agedP
  induction L generalizing p with
  | nil => exact h
  | cons x L ih => exact ih _ (withP_len p x)
theorem age_Tick (v : View) (h : viewMay v = true) : Den PP 38 [viewD v] [] (.tup [viewD (ageV v), intsD (greetV (ageV v)), .int .i64 0]) [] := by
  obtain ⟨m1, m2, m3, m4⟩ := viewMay_parts h
  have hs : v.small := ⟨by unfold cap16; omega, by unfold cap; omega⟩
  have c1 := view_May v hs
  have c2 := view_Copy v hs
  have c3 := peers_Age v.id v.peers hs.1
  have c4 := view_Ids (ageV v) (by have := (ageV_spec h).2.1; unfold cap16; omega)
  have c5 := concat2 ((ageV v).peers.map Peer.id) (ageV v).passive (by have := (ageV_spec h).2.1; unfold cap16; simp; omega)
  have hal := age_length v.peers
  have c6 := fun i => agedP_len ((lostL v.peers).take i) v.passive (by omega)
  have e0 : ageR v.id v.peers = (ageL v.peers, lostL v.peers, 0) := by simp [ageR, m1]
  have hnx : ∀ i x, (lostL v.peers)[i]? = some x → _ := fun i x hx => agedP_snoc hx v.passive
  have e9 : agedP (lostL v.peers) v.passive = (ageV v).passive := rfl
  have e8 : ageL v.peers = (ageV v).peers := rfl
  have e7 : (ageV v).id = v.id := rfl
  have e6 : agedP [] v.passive = v.passive := rfl
  unfold greetV
  rw [h] at c1
  rw [e0] at c3
  rw [e8] at c3 hal
  simp only [viewD, View.cells, peersD, intsD, e7] at c1 c2 c3 c4 c5 ⊢
  have hll : (lostL v.peers).length ≤ 16 := by omega
  generalize lostL v.peers = lost at *
  clear e0 e8 hal m1 m4 h
  generalize (ageV v).peers = ps at *
  generalize (ageV v).passive = xs at *
  simp only [List.map_map, Function.comp_def, List.length_map, List.map_append, List.length_append] at c5
  refine den_of [] [] is_age_Tick ?_
  simp -implicitDefEqProofs [c_age_Tick]
  refine callThen_of c1 ?_
  simp -implicitDefEqProofs
  refine callThen_of c2 ?_
  simp -implicitDefEqProofs
  refine callThen_of c3 ?_
  simp -implicitDefEqProofs
  refine list_rule lost (fun i rest => fun ⟨fr, bs⟩ => bs = [⟨[[.int .i64 v.id, .sl (v.peers.map Peer.row) v.peers.length, .sl (v.passive.map irow) v.passive.length]], 3, .box⟩, ⟨[[.int .i64 0, .nil, .nil]], 3, .box⟩, ⟨[], 1, .mut⟩, ⟨[[.int .i64 v.id, .sl (ps.map Peer.row) ps.length, .sl ((agedP (lost.take i) v.passive).map irow) (agedP (lost.take i) v.passive).length]], 3, .box⟩] ∧ fr 2 = .ptr 1 0 0 ∧ fr 5 = .ptr 3 0 0 ∧ fr 28 = .sl (lost.map irow) lost.length ∧ fr 29 = .int .i64 lost.length ∧ fr 30 = .int .i64 i)
    (fun ⟨fr, bs⟩ => bs = [⟨[[.int .i64 v.id, .sl (v.peers.map Peer.row) v.peers.length, .sl (v.passive.map irow) v.passive.length]], 3, .box⟩, ⟨[[.int .i64 0, .nil, .nil]], 3, .box⟩, ⟨[], 1, .mut⟩, ⟨[[.int .i64 v.id, .sl (ps.map Peer.row) ps.length, .sl (xs.map irow) xs.length]], 3, .box⟩] ∧ fr 2 = .ptr 1 0 0 ∧ fr 5 = .ptr 3 0 0) (fun _ => False) c_age_Tick_L0.eq_1 ?_ ?_ ?_ ?_ ?_
  · refine ⟨?_, rfl, rfl, rfl, rfl, rfl⟩
    simp [e6]
  · rintro i ⟨fr, bs⟩ hi ⟨rfl, h2, h5, h28, h29, h30⟩
    subst hi
    rw [List.take_length] at *
    rw [e9]
    simp -implicitDefEqProofs [h2, h5, h28, h29, h30]
  · rintro i x rest ⟨fr, bs⟩ hlt hget hg hd hd2 ⟨rfl, h2, h5, h28, h29, h30⟩
    have hlt' : (i : Int) < lost.length := by omega
    have hx := hnx i x hget
    have hc := passive_With (agedP (lost.take i) v.passive) x (by have := c6 i; unfold cap; omega)
    rw [hx]
    clear hx
    simp only [intsD] at hc
    generalize withP (agedP (lost.take i) v.passive) x = r at *
    generalize agedP (lost.take i) v.passive = p at *
    obtain ⟨q, e⟩ := r
    simp only at hc
    simp -implicitDefEqProofs [h2, h5, h28, h29, h30, hlt, hlt', hget, hg, irow]
    refine callThen_of hc ?_
    simp -implicitDefEqProofs [h2, h5, h28, h29, h30, irow]
    exact wrap_in (by omega) (by omega)
  · rintro ⟨fr, bs⟩ ⟨rfl, h2, h5⟩
    simp -implicitDefEqProofs [h2, h5]
    repeat' ((first | refine callThen_of (by first | exact c4 | exact c5) ?_ | with_reducible refine gOps_dec (fun _ => ?_) (fun _ => ?_) | with_reducible refine gOps_ndec (fun _ => ?_) (fun _ => ?_) | (with_reducible refine gOps_and (fun hq => ?_) (fun hq => ?_) <;> (try simp at hq)) | (with_reducible refine gOps_or (fun hq => ?_) (fun hq => ?_) <;> (try simp at hq)) | (with_reducible refine gOps_not (fun hq => ?_) (fun hq => ?_) <;> (try simp at hq)) | (with_reducible refine gOps_split (fun hq => ?_) (fun hq => ?_) <;> (try simp at hq)) | with_reducible refine condC_dec (fun _ => ?_) (fun _ => ?_) | with_reducible refine condC_ndec (fun _ => ?_) (fun _ => ?_) | (with_reducible refine condC_and (fun hq => ?_) (fun hq => ?_) <;> (try simp at hq)) | (with_reducible refine condC_or (fun hq => ?_) (fun hq => ?_) <;> (try simp at hq)) | (with_reducible refine condC_not (fun hq => ?_) (fun hq => ?_) <;> (try simp at hq)) | (with_reducible refine condC_split (fun hq => ?_) (fun hq => ?_) <;> (try simp at hq)) | refine appK2_if (by omega) ?_ | refine pureV_if (by omega) ?_) <;> simp -implicitDefEqProofs [*, h2, h5, downTo])
  · rintro ⟨fr, bs⟩ h
    exact h.elim
end Go.AM
/- AM: contracts: the document's take; a node spoiled. -/
namespace Go.AM
set_option linter.unusedSimpArgs false
set_option linter.unusedVariables false
set_option maxRecDepth 8000
set_option maxHeartbeats 0
end Go.AM
/- AM: chapter 20's statements: Takes. -/
namespace Go.AM
set_option linter.unusedSimpArgs false
set_option linter.unusedVariables false
set_option maxRecDepth 8000
set_option maxHeartbeats 0
theorem nodeUp_parts {x : Node} (h : nodeUp x = true) : x.up = true ∧ viewMay x.view = true ∧ storeMay x.items = true ∧ x.log.length ≤ 64 ∧ x.log.any toldOdd = false := by
  simp only [nodeUp, nodeMay, Bool.and_eq_true, decide_eq_true_eq, Bool.not_eq_true'] at h
  exact ⟨h.1, h.2.1.1.1.2, h.2.1.1.2, h.2.1.2, h.2.2⟩
theorem nodeUp_of {x : Node} (h1 : x.up = true) (h2 : viewMay x.view = true) (h3 : storeMay x.items = true) (h4 : x.log.length ≤ 64) (h5 : x.log.any toldOdd = false) : nodeUp x = true := by
  simp [nodeUp, nodeMay, h1, h2, h3, h4, h5]
theorem nodeUp_small {x : Node} (h : nodeUp x = true) : x.view.peers.length ≤ 16 ∧ x.view.passive.length ≤ 16 ∧ x.items.length ≤ 16 ∧ x.log.length ≤ 64 := by
  obtain ⟨h1, h2, h3, h4, h5⟩ := nodeUp_parts h
  have h6 := (viewMay_parts h2).2.2.1
  have h7 := ((storeMay_iff _).1 h3).2.2
  omega
theorem nodeUp_small2 {x : Node} (h : nodeUp x = true) : x.small := by
  obtain ⟨h1, h2, h3, h4⟩ := nodeUp_small h
  unfold Node.small View.small cap16 cap
  omega
end Go.AM
/- AM: contracts: tick.Step. -/
namespace Go.AM
set_option linter.unusedSimpArgs false
set_option linter.unusedVariables false
set_option maxRecDepth 8000
set_option maxHeartbeats 0
def tickN (x : Node) : Node := { x with view := ageV x.view }
def greetR (w : View) (to : Int) : List D := [.int .i64 0, .int .i64 w.id, .int .i64 to, .sl (w.peers.map fun p => irow p.id) w.peers.length, .int .i64 0, .int .i64 0, .int .i64 0, .int .i64 0, .int .i64 0, .bool false, .bool false]
def greetsR (w : View) (L : List Int) : List (List D) := L.map (greetR w)
theorem greetsR_next {w : View} {L : List Int} {i : Nat} {x : Int} (h : L[i]? = some x) : greetsR w (L.take (i + 1)) = greetsR w (L.take i) ++ [greetR w x] := by
  have e1 : L.take (i + 1) = L.take i ++ [x] := by rw [List.take_add_one, h]; rfl
  rw [e1]; simp [greetsR]
theorem greetsR_sweep (w : View) (L : List Int) (S : Nat → Bool) : (greetsR w L).map (fun r => r.map (D.sweep S)) = greetsR w L := by
  unfold greetsR
  rw [List.map_map]
  rfl
theorem tick_Step_no (x : Node) (hs : x.small) (h : nodeUp x = false) : Den PP 37 [nodeD x] [] (.tup [.agg [.bool false, .int .i64 0, .nil, .nil, .nil, .nil], .ref 0 0 0, .int .i64 1900]) [⟨[], 11, .mut⟩] := by
  have c1 := node_Up x hs
  rw [h] at c1
  simp only [nodeD, Node.cells, viewD, View.cells, peersD, intsD, itemsD, toldsD] at c1 ⊢
  refine den_of [] [] is_tick_Step ?_
  simp -implicitDefEqProofs [c_tick_Step]
  refine callThen_of c1 ?_
  simp -implicitDefEqProofs
theorem tick_Step (x : Node) (h : nodeUp x = true) : Den PP 37 [nodeD x] [] (.tup [nodeD (tickN x), .ref 0 0 ((greetV (ageV x.view)).length + (shareOf (tickN x)).1.length), .int .i64 0]) [⟨greetsR (ageV x.view) (greetV (ageV x.view)) ++ (shareOf (tickN x)).1.map Msg.row0, 11, .mut⟩] := by
  obtain ⟨p1, p2, p3, p4, p5⟩ := nodeUp_parts h
  obtain ⟨v1, v2, v3⟩ := ageV_spec p2
  obtain ⟨l1, l2, l3, l4⟩ := nodeUp_small h
  have hs := nodeUp_small2 h
  have hu : nodeUp (tickN x) = true := nodeUp_of p1 v1 p3 p4 p5
  have c1 := node_Up x hs
  have c2 := node_Copy x hs
  have c3 := age_Tick x.view p2
  have c4 := view_Ids (ageV x.view) (by unfold cap16; omega)
  have c5 := share_Of (tickN x) (nodeUp_small2 hu)
  have hgl : (greetV (ageV x.view)).length ≤ 16 := by have := (viewMay_parts v1).2.2.1; unfold greetV; simp; omega
  have hsl : (shareOf (tickN x)).1.length ≤ 4096 := by
    have h1 : (shareOf (tickN x)).1.length ≤ x.items.length := by
      unfold shareOf
      rw [hu]
      exact List.length_filterMap_le ..
    omega
  have e0 : (shareOf (tickN x)).2 = 0 := by unfold shareOf; rw [hu]; rfl
  rw [e0] at c5
  rw [h] at c1
  generalize (shareOf (tickN x)).1 = ms at *
  have e7 : (ageV x.view).id = x.view.id := rfl
  unfold tickN at c5 ⊢
  generalize hw : ageV x.view = w at *
  generalize greetV w = gs at *
  simp only [nodeD, Node.cells, viewD, View.cells, peersD, intsD, itemsD, toldsD, copyD, nodeB, e7] at c1 c2 c3 c4 c5 ⊢
  have hnx := fun i y (hy : gs[i]? = some y) => greetsR_next (w := w) hy
  have hsw := greetsR_sweep w
  clear e0 hw hu h p1 p2 p3 p4 p5 v1 v2 v3
  refine den_of [] [] is_tick_Step ?_
  simp -implicitDefEqProofs [c_tick_Step]
  refine callThen_of c1 ?_
  simp -implicitDefEqProofs
  refine callThen_of c2 ?_
  simp -implicitDefEqProofs
  refine callThen_of c3 ?_
  simp -implicitDefEqProofs
  refine list_rule gs (fun i rest => fun ⟨fr, bs⟩ => (bs = [⟨[[.bool x.up, .int .i64 x.view.id, .sl (x.view.peers.map Peer.row) x.view.peers.length, .sl (x.view.passive.map irow) x.view.passive.length, .sl (x.items.map Item.row) x.items.length, .sl (x.log.map Told.row) x.log.length]], 6, .box⟩, ⟨[[.bool false, .int .i64 0, .nil, .nil, .nil, .nil]], 6, .box⟩, ⟨[], 11, .mut⟩, ⟨[[.bool x.up, .int .i64 x.view.id, .sl (w.peers.map Peer.row) w.peers.length, .sl (w.passive.map irow) w.passive.length, .sl (x.items.map Item.row) x.items.length, .sl (x.log.map Told.row) x.log.length]], 6, .box⟩, ⟨[[.int .i64 x.view.id, .sl (w.peers.map Peer.row) w.peers.length, .sl (w.passive.map irow) w.passive.length]], 3, .box⟩, ⟨greetsR w (gs.take i), 11, .mut⟩] ∨ bs = [⟨[[.bool x.up, .int .i64 x.view.id, .sl (x.view.peers.map Peer.row) x.view.peers.length, .sl (x.view.passive.map irow) x.view.passive.length, .sl (x.items.map Item.row) x.items.length, .sl (x.log.map Told.row) x.log.length]], 6, .box⟩, ⟨[[.bool false, .int .i64 0, .nil, .nil, .nil, .nil]], 6, .box⟩, ⟨[], 11, .mut⟩, ⟨[[.bool x.up, .int .i64 x.view.id, .sl (w.peers.map Peer.row) w.peers.length, .sl (w.passive.map irow) w.passive.length, .sl (x.items.map Item.row) x.items.length, .sl (x.log.map Told.row) x.log.length]], 6, .box⟩, ⟨[[.int .i64 x.view.id, .sl (w.peers.map Peer.row) w.peers.length, .sl (w.passive.map irow) w.passive.length]], 3, .ibox⟩, ⟨greetsR w (gs.take i), 11, .mut⟩]) ∧ fr 2 = .ptr 1 0 0 ∧ fr 5 = .ptr 3 0 0 ∧ fr 6 = .ptr 4 0 0 ∧ fr 9 = .ref 5 0 i ∧ fr 29 = .sl (gs.map irow) gs.length ∧ fr 30 = .int .i64 gs.length ∧ fr 31 = .int .i64 i)
    (fun ⟨fr, bs⟩ => (bs = [⟨[[.bool x.up, .int .i64 x.view.id, .sl (x.view.peers.map Peer.row) x.view.peers.length, .sl (x.view.passive.map irow) x.view.passive.length, .sl (x.items.map Item.row) x.items.length, .sl (x.log.map Told.row) x.log.length]], 6, .box⟩, ⟨[[.bool false, .int .i64 0, .nil, .nil, .nil, .nil]], 6, .box⟩, ⟨[], 11, .mut⟩, ⟨[[.bool x.up, .int .i64 x.view.id, .sl (w.peers.map Peer.row) w.peers.length, .sl (w.passive.map irow) w.passive.length, .sl (x.items.map Item.row) x.items.length, .sl (x.log.map Told.row) x.log.length]], 6, .box⟩, ⟨[[.int .i64 x.view.id, .sl (w.peers.map Peer.row) w.peers.length, .sl (w.passive.map irow) w.passive.length]], 3, .box⟩, ⟨greetsR w gs, 11, .mut⟩] ∨ bs = [⟨[[.bool x.up, .int .i64 x.view.id, .sl (x.view.peers.map Peer.row) x.view.peers.length, .sl (x.view.passive.map irow) x.view.passive.length, .sl (x.items.map Item.row) x.items.length, .sl (x.log.map Told.row) x.log.length]], 6, .box⟩, ⟨[[.bool false, .int .i64 0, .nil, .nil, .nil, .nil]], 6, .box⟩, ⟨[], 11, .mut⟩, ⟨[[.bool x.up, .int .i64 x.view.id, .sl (w.peers.map Peer.row) w.peers.length, .sl (w.passive.map irow) w.passive.length, .sl (x.items.map Item.row) x.items.length, .sl (x.log.map Told.row) x.log.length]], 6, .box⟩, ⟨[[.int .i64 x.view.id, .sl (w.peers.map Peer.row) w.peers.length, .sl (w.passive.map irow) w.passive.length]], 3, .ibox⟩, ⟨greetsR w gs, 11, .mut⟩]) ∧ fr 2 = .ptr 1 0 0 ∧ fr 5 = .ptr 3 0 0 ∧ fr 9 = .ref 5 0 gs.length) (fun _ => False) c_tick_Step_L0.eq_1 ?_ ?_ ?_ ?_ ?_
  · exact ⟨.inl (by simp [greetsR]), rfl, rfl, rfl, rfl, rfl, rfl, rfl⟩
  · rintro i ⟨fr, bs⟩ hi ⟨hb, h2, h5, h6, h9, h29, h30, h31⟩
    subst hi
    rw [List.take_length] at *
    simp -implicitDefEqProofs [h2, h5, h6, h9, h29, h30, h31]
    exact hb
  · rintro i y rest ⟨fr, bs⟩ hlt hget hg hd hd2 ⟨hb, h2, h5, h6, h9, h29, h30, h31⟩
    have hlt' : (i : Int) < gs.length := by omega
    have hgr : (greetsR w (gs.take i)).length = i := by simp [greetsR]; omega
    rw [hnx i y hget]
    have hsG := hsw (gs.take i)
    generalize greetsR w (gs.take i) = G at *
    rcases hb with rfl | rfl
    all_goals
      simp -implicitDefEqProofs [h2, h5, h6, h9, h29, h30, h31, hlt, hlt', hget, hg, irow]
      repeat' ((first | refine callThen_of (by first | exact c4) ?_ | with_reducible refine gOps_dec (fun _ => ?_) (fun _ => ?_) | with_reducible refine gOps_ndec (fun _ => ?_) (fun _ => ?_) | (with_reducible refine gOps_and (fun hq => ?_) (fun hq => ?_) <;> (try simp at hq)) | (with_reducible refine gOps_or (fun hq => ?_) (fun hq => ?_) <;> (try simp at hq)) | (with_reducible refine gOps_not (fun hq => ?_) (fun hq => ?_) <;> (try simp at hq)) | (with_reducible refine gOps_split (fun hq => ?_) (fun hq => ?_) <;> (try simp at hq)) | with_reducible refine condC_dec (fun _ => ?_) (fun _ => ?_) | with_reducible refine condC_ndec (fun _ => ?_) (fun _ => ?_) | (with_reducible refine condC_and (fun hq => ?_) (fun hq => ?_) <;> (try simp at hq)) | (with_reducible refine condC_or (fun hq => ?_) (fun hq => ?_) <;> (try simp at hq)) | (with_reducible refine condC_not (fun hq => ?_) (fun hq => ?_) <;> (try simp at hq)) | (with_reducible refine condC_split (fun hq => ?_) (fun hq => ?_) <;> (try simp at hq)) | refine appK2_if (by omega) ?_ | refine pureV_if (by omega) ?_) <;> simp -implicitDefEqProofs [*, h2, h5, h6, h9, h29, h30, h31, hlt, hlt', hgr, irow, downTo])
      refine ⟨by simp [Fits], ?_⟩
      refine appK2_if ⟨by omega, by omega⟩ ?_
      simp -implicitDefEqProofs [h2, h5, h6, h9, h29, h30, h31, hgr, irow, downTo, greetR, hsG]
      exact ⟨e7.symm, wrap_in (by omega) (by omega)⟩
  · rintro ⟨fr, bs⟩ ⟨hb, h2, h5, h9⟩
    have hgr : (greetsR w gs).length = gs.length := by simp [greetsR]
    have hsG := hsw gs
    generalize greetsR w gs = G at *
    rcases hb with rfl | rfl
    all_goals
      simp -implicitDefEqProofs [h2, h5, h9]
      refine callThen_of c5 ?_
      simp -implicitDefEqProofs [h2, h5, h9]
      repeat' apply And.intro
    all_goals
      refine appK2_if ⟨by omega, by omega⟩ ?_
      refine appK2_if (by omega) ?_
      simp -implicitDefEqProofs [h2, h5, h9, hsG]
  · rintro ⟨fr, bs⟩ h
    exact h.elim
end Go.AM
