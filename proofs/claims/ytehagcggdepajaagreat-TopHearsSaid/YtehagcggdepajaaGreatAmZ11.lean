/- What the proof of this claim stands on, part 11. -/
import Derived.RangeFuncBox
import Derived.RangeFuncLeaves
import Derived.Shelf.Abstract
import Derived.WalkKit
import Derived.OwnWalkIn
import Derived.TacticsInMore
import Derived.LoopNIn
import Derived.LoopIn
import Derived.Maps.AppendAt
import Derived.Shelf.Small.Bits
import Derived.Test.YtehagcggdepajaaGreatAmZ10
/- AM: contracts: an iterator's values collected; how many bits a number has. -/
namespace Go.AM
set_option linter.unusedSimpArgs false
set_option linter.unusedVariables false
open Go.RowKit Go.Shelf Go.Proofs
attribute [local go_sem] Oper.semAt_some
def upto (f : Nat → Int) (k : Nat) : List Int := (List.range k).map f
theorem upto_succ (f : Nat → Int) (k : Nat) : upto f (k + 1) = upto f k ++ [f k] := by simp [upto, List.range_succ]
theorem upto_length (f : Nat → Int) (k : Nat) : (upto f k).length = k := by simp [upto]
theorem upto_all (zs : List Int) : upto (fun j => zs[j]?.getD 0) zs.length = zs := by
  apply List.ext_getElem
  · simp [upto]
  · intro i h1 h2
    simp [upto, h2]
theorem upto_take (zs : List Int) {k : Nat} (hk : k ≤ zs.length) : upto (fun j => zs[j]?.getD 0) k = zs.take k := by
  apply List.ext_getElem
  · simp [upto, hk]
  · intro i h1 h2
    have : i < zs.length := by simp [upto] at h1; omega
    simp [upto, this]
set_option maxRecDepth 100000 in
set_option maxHeartbeats 2000000 in
theorem values_go (n : Nat) (hn : 1 ≤ n) (l n₀ b off len cap : Nat) (p : Addr) (zs : List Int) (hreach : len * 8 ≤ 140737488351232) (hb : b < n₀) (J Jx : List Int → World → Prop)
    (hY : ∀ pre x W, J pre W → pre.length < len → YieldAt Fence.wide (n - 1) PP l #[.int .i64 x] W fun e W' =>
      (e = .returned (.bool true) ∧ J (pre ++ [x]) W' ∧ Below n₀ W W') ∨ (e = .returned (.bool false) ∧ Jx (pre ++ [x]) W'))
    (W : World) (hBs : W.cell? p = some (.slice (some ⟨b, off, none⟩) len cap)) (hc : ∀ j, j < len → W.cell? ⟨b, off + j, none⟩ = some (.int .i64 (zs[j]?.getD 0))) (h0 : J [] W) :
    CallsIn Fence.wide n PP 202 #[.func (.yield l) #[] #[], .pointer (some p)] W fun e W' => (∃ v, e = .returned v) ∧
      ((∃ ys, ys = upto (fun j => zs[j]?.getD 0) len ∧ J ys W') ∨ (∃ pre, (∃ k, k ≤ len ∧ pre = upto (fun j => zs[j]?.getD 0) k) ∧ Jx pre W')) := by
  refine callsIn_of_wp Tryz.func202 rfl trivial ?_ rfl
  simp only [Tryz.ntmps202, List.size_toArray, List.length_cons, List.length_nil, Nat.reduceAdd, Nat.reduceSub, Array.replicate_succ, Array.replicate_zero, List.push_toArray, List.append_toArray, List.nil_append, List.cons_append]
  gi_wp2
  gi_loopw [7] (fun i wr => ∃ k : Nat, k ≤ len ∧ i = .int .i64 k ∧ J (upto (fun j => zs[j]?.getD 0) k) wr ∧ Below n₀ W wr)
    (fun i _ => len - (intOf i).toNat)
  case atStart => exact ⟨0, Nat.zero_le _, rfl, h0, Below.refl _ _⟩
  case round =>
    obtain ⟨k, hk, rfl, hJs, hnx⟩ := hrel
    have hcx : k < len → wr.cell? ⟨b, off + k, none⟩ = some (.int .i64 (zs[k]?.getD 0)) := fun h => (hnx.cell (p := ⟨b, off + k, none⟩) hb).trans (hc k h)
    by_cases hlt : k < len
    · obtain ⟨fn, tmps, assign, body, hy, hR⟩ := hY _ (zs[k]?.getD 0) wr hJs (by rw [upto_length]; exact hlt)
      have hcx' := hcx hlt
      gi_wp2
      refine hR.mono ?_
      rintro e W3 (⟨rfl, hJ3, hk3⟩ | ⟨rfl, hJx3⟩)
      · gi_wp2
        go_roundw
        case rel => exact ⟨k + 1, by omega, by simp, by rw [upto_succ]; exact hJ3, hnx.trans hk3⟩
        case measure => simp [intOf]; omega
      · gi_wp2
        refine bodyPost_ret (results_none rfl _ _ _) rfl ?_
        exact ⟨⟨_, rfl⟩, .inr ⟨_, ⟨k + 1, by omega, (upto_succ _ _).symm⟩, hJx3⟩⟩
    · obtain rfl : k = len := by omega
      gi_wp2
      go_end0
      exact ⟨⟨_, rfl⟩, .inl ⟨_, rfl, hJs⟩⟩
set_option maxRecDepth 100000 in
set_option maxHeartbeats 1000000 in
theorem values_none (n : Nat) (l cap : Nat) (p : Addr) (a : Option Addr) (J : List Int → World → Prop) (W : World) (hBs : W.cell? p = some (.slice a 0 cap)) (h0 : J [] W) :
    CallsIn Fence.wide n PP 202 #[.func (.yield l) #[] #[], .pointer (some p)] W fun e W' => (∃ v, e = .returned v) ∧ J [] W' := by
  refine callsIn_of_wp Tryz.func202 rfl trivial ?_ rfl
  simp only [Tryz.ntmps202, List.size_toArray, List.length_cons, List.length_nil, Nat.reduceAdd, Nat.reduceSub, Array.replicate_succ, Array.replicate_zero, List.push_toArray, List.append_toArray, List.nil_append, List.cons_append]
  gi_wp2
  gi_loopw [7] (fun i wr => i = .int .i64 0 ∧ J [] wr) (fun _ _ => 0)
  case atStart => exact ⟨rfl, h0⟩
  case round =>
    obtain ⟨rfl, hJs⟩ := hrel
    gi_wp2
    go_end0
    exact ⟨⟨_, rfl⟩, hJs⟩
def IntsAt (n₀ : Nat) (W : World) (sv : Value) (zs : List Int) : Prop :=
  (∃ a cap, sv = .slice a 0 cap ∧ zs = []) ∨ ∃ b off cap, sv = .slice (some ⟨b, off, none⟩) zs.length cap ∧ b < n₀ ∧ ∀ j, j < zs.length → W.cell? ⟨b, off + j, none⟩ = some (.int .i64 (zs[j]?.getD 0))
theorem IntsAt.below {n₀ : Nat} {A B : World} (h : Below n₀ A B) {sv : Value} {zs : List Int} : IntsAt n₀ A sv zs → IntsAt n₀ B sv zs
  | .inl e => .inl e
  | .inr ⟨b, off, cap, e, hb, hc⟩ => .inr ⟨b, off, cap, e, hb, fun j hj => (h.cell (p := ⟨b, off + j, none⟩) hb).trans (hc j hj)⟩
theorem values_stops (n : Nat) (hn : 1 ≤ n) (n₀ : Nat) (p : Addr) (sv : Value) (zs : List Int) (hreach : zs.length * 8 ≤ 140737488351232) (w : World) (hBs : p.block < w.heap.size) (hn₀ : n₀ ≤ w.heap.size)
    (hc : w.cell? p = some sv) (hI : IntsAt n₀ w sv zs) :
    SeqStopsK Fence.wide n PP 202 #[.pointer (some p)] (fun x : Int => #[Value.int .i64 x]) (Below n₀) (fun ys => ys = zs) (fun pre => pre <+: zs) zs.length w := fun l J Jx W hW _ _ hY h0 => by
  have hc' := (hW.cell (p := p) hBs).trans hc
  rcases hI.below (hW.mono hn₀) with ⟨a, cap, rfl, rfl⟩ | ⟨b, off, cap, rfl, hb, hcs⟩
  · exact (values_none n l cap p a J W hc' h0).mono fun e W' ⟨he, hj⟩ => ⟨he, .inl ⟨_, rfl, hj⟩⟩
  · refine (values_go n hn l n₀ b off zs.length cap p zs hreach hb J Jx hY W hc' hcs h0).mono ?_
    rintro e W' ⟨he, ⟨ys, rfl, hj⟩ | ⟨pre, ⟨k, hk, rfl⟩, hj⟩⟩
    · exact ⟨he, .inl ⟨_, upto_all zs, hj⟩⟩
    · exact ⟨he, .inr ⟨_, by rw [upto_take zs hk]; exact List.take_prefix _ _, hj⟩⟩
set_option maxRecDepth 100000 in
set_option maxHeartbeats 2000000 in
theorem appendSeq_calls (n : Nat) (hn : 3 ≤ n) (p : Addr) (sv : Value) (zs : List Int) (hlen : zs.length * 8 ≤ 140737488351232) (w : World) (hp : p.block < w.heap.size) (hc : w.cell? p = some sv) (hI : IntsAt w.heap.size w sv zs) :
    CallsIn Fence.wide n PP 233 #[.slice none 0 0, .func (.func 202) #[] #[.pointer (some p)]] w fun e W' => ∃ v, e = .returned v ∧
      W'.ownsRow w.heap.size 3 1 v zs.length (zs.map (Value.int .i64)) ∧ (v = .slice none 0 0 ↔ zs = []) ∧ Below w.heap.size w W' := by
  have h1 : 1 ≤ n := by omega
  have hmax : zs.length ≤ maxLen := by simp [maxLen]; omega
  obtain ⟨i0, hi, hz0, hz1, hz2⟩ := info_parts (by kernel_rfl : (PP.info? 3).map (fun i => (i.zero, i.size, i.bytes)) = some (some (.int .i64 0), 1, 8))
  refine callsIn_of_wp_marks Tryz.func233 rfl trivial ?_ rfl
  simp only [Tryz.ntmps233, List.size_toArray, List.length_cons, List.length_nil, Nat.reduceAdd, Nat.reduceSub, Array.replicate_succ, Array.replicate_zero, List.push_toArray, List.append_toArray, List.nil_append, List.cons_append]
  gi_wp2
  have bO := Boxed.new w 36 (.slice none 0 0)
  have hB0 : Below w.heap.size w (w.alloc (.cells #[.slice none 0 0] 36)) := (Below.refl _ w).alloc (Nat.le_refl _) _
  refine wpIn_rangeFunc_ownG rfl h1 (gf := 202) (lb := #[.pointer (some p)]) rfl trivial (enters_of Tryz.func202 (by kernel_rfl) rfl)
    (values_stops (n - 1) (by omega) w.heap.size p sv zs hlen _ (by simp; omega) (by simp) ((hB0.cell (p := p) hp).trans hc) (hI.below hB0)) belowK_t (belowK_b (by simp)) (Below.refl _ _) (fun _ => rfl)
    (fun pre W => (∃ v, Boxed W w.heap.size 36 v ∧ W.ownsRow w.heap.size 3 1 v pre.length (pre.map (Value.int .i64)) ∧ (v = .slice none 0 0 ↔ pre = [])) ∧ Below w.heap.size w W)
    (fun _ _ _ => False)
    (OwnFrom.and (Own.from (holdsRow_own w.heap.size w.heap.size 36 3 1 (fun pre => pre.length) (fun pre => pre.map (Value.int .i64)) (fun pre v => v = .slice none 0 0 ↔ pre = [])) _) (ownFrom_below (Nat.le_refl _) (by simp)))
    (fun _ _ _ _ _ hs _ _ => hs)
    ⟨⟨_, bO, World.ownsRow_nil _ _ _ _, by simp⟩, hB0⟩
    (fun x => { tmps := #[.slice none 0 0, .func (.func 202) #[] #[.pointer (some p)], .pointer (some ⟨w.heap.size, 0, none⟩), Go.undef, .slice none 0 0, .int .i64 x, .func (.func 202) #[] #[.pointer (some p)], .int .i64 x, Go.undef, Go.undef, Go.undef, Go.undef, Go.undef], defers := [] }) ?assign ?body ?done ?stop
  case assign =>
    intro l x W K hK
    gi_wp2
    exact hK
  case body =>
    rintro l pre x W ⟨⟨v, hv, hrow, hnil⟩, hB⟩ hlt
    have hc := hv.cell
    gi_wp2_with (gi_at_builtin; refine wpListIn_append_own _ rfl _ _ 36 rfl w.heap.size 3 i0 (.int .i64 0) 1 8 Tryz.underlying36 hi hz0 hz1 hz2 rfl (by decide) _ _ _ rfl (hrow.alloc _) ⟨W.heap.size, 0, none⟩ 1 1 [.int .i64 x] rfl rfl (cell_one_new _ _ _) (by simp [Value.oneCell']) (by omega) (by omega) (by have := hB.size; simp; omega) ?_; intro v' w1 hown' hgrow _; obtain ⟨g', cap', rfl⟩ := ownsRow_succ hown'; obtain ⟨hv1, hv2, hr2, hk2, hb2⟩ := hv.appended (by decide) hrow hB.size (Nat.le_refl _) hown' hgrow; have hc1 := hv1.cell; have hf1 := hv1.frozen)
    exact ⟨hk2.from _, hb2, ⟨_, hv2, by simpa using hr2, by simp⟩, hB.trans hb2⟩
  case done =>
    rintro D ys W hD rfl ⟨⟨v, hv, hrow, hnil⟩, hB⟩ hK
    have hc := hv.cell
    gi_wp2
    refine ⟨by simp, .inl ⟨_, _, rfl, run_takeDeferred hK, ?_⟩⟩
    exact ⟨_, results_tmp rfl _ _ _, v, rfl, ownsRow_putObj hrow _ hK rfl, hnil, hB.trans (belowK_b (w := w) (Nat.le_refl _) W D _ _ (by simp at hD; omega) hK rfl rfl)⟩
  case stop =>
    rintro D c pre W _ _ h _
    exact h.elim
end Go.AM
/- AM: contracts: slices.Collect of a slice's values; how many bits two takes. -/
namespace Go.AM
set_option linter.unusedSimpArgs false
set_option linter.unusedVariables false
open Go.RowKit Go.Shelf Go.Proofs
attribute [local go_sem] Oper.semAt_some
set_option maxRecDepth 100000 in
set_option maxHeartbeats 2000000 in
theorem collect_calls (n : Nat) (hn : 4 ≤ n) (p : Addr) (sv : Value) (zs : List Int) (hlen : zs.length * 8 ≤ 140737488351232) (w : World) (hp : p.block < w.heap.size) (hc : w.cell? p = some sv) (hI : IntsAt w.heap.size w sv zs) :
    CallsIn Fence.wide n PP 200 #[.func (.func 202) #[] #[.pointer (some p)]] w fun e W' => ∃ v, e = .returned v ∧
      W'.ownsRow w.heap.size 3 1 v zs.length (zs.map (Value.int .i64)) ∧ (v = .slice none 0 0 ↔ zs = []) ∧ Below w.heap.size w W' := by
  have h1 : 1 ≤ n := by omega
  have hf : Fence.wide.fn 233 := trivial
  refine callsIn_of_wp Tryz.func200 rfl trivial ?_ rfl
  simp only [Tryz.ntmps200, List.size_toArray, List.length_cons, List.length_nil, Nat.reduceAdd, Nat.reduceSub, Array.replicate_succ, Array.replicate_zero, List.push_toArray, List.append_toArray, List.nil_append, List.cons_append]
  gi_wp2_with (gi_at_call 233; refine (appendSeq_calls (n - 1) (by omega) p sv zs hlen w hp hc hI).mono ?_; rintro e w1 ⟨v, rfl, hr, hnil, hB⟩)
  go_ret
  exact ⟨_, rfl, hr, hnil, hB⟩
theorem arr_one {vs : Array Value} (h : vs.size = 1) : ∃ v, vs = #[v] := by
  obtain ⟨l⟩ := vs
  match l, h with
  | [v], _ => exact ⟨v, rfl⟩
theorem collect_den (zs : List Int) (hne : zs ≠ []) (hlen : zs.length * 8 ≤ 140737488351232) :
    Den PP 200 [.fn 202 [] [.mem [.sl (zs.map fun z => [.int .i64 z]) zs.length]]] [] (.ref 0 0 zs.length) [⟨zs.map fun z => [.int .i64 z], 1, .mut⟩] := by
  refine ⟨⟨_, Tryz.func200, by kernel_rfl, rfl⟩, fun w M0 ρ vals hM hS hs ha => ?_⟩
  obtain ⟨v0, rfl⟩ := arr_one hs
  obtain ⟨va, vc, rfl, h1, h2, -, h4⟩ := (ha 0 v0 _ (by simp) rfl).fn_inv
  obtain rfl : va = #[] := Array.eq_empty_of_size_eq_zero (by simpa using h1)
  obtain ⟨v1, rfl⟩ := arr_one h2
  have hm := (h4 0 v1 _ (by simp) rfl).mem_inv
  cases hm with
  | mem g off cs vs hc hv =>
  obtain ⟨-, hcell⟩ := hc 0 (by simp)
  have hsl := hv 0 _ rfl
  have key : ∃ b o cap, vs 0 = .slice (some ⟨b, o, none⟩) zs.length cap ∧ b < w.heap.size ∧ ∀ j, j < zs.length → w.cell? ⟨b, o + j, none⟩ = some (.int .i64 (zs[j]?.getD 0)) := by
    generalize vs 0 = sv at hsl
    cases hsl with
    | sl a len cap rows esz g off vals h1 h2 hr ha hc hv =>
      have h0 : 0 < zs.length := List.length_pos_iff.2 hne
      have he : esz = 1 := by
        cases zs with
        | nil => exact absurd rfl hne
        | cons z zs => exact (hr [.int .i64 z] (by simp)).symm
      subst he
      have hcc : ∀ j, j < zs.length → w.cell? ⟨g, off + j, none⟩ = some (.int .i64 (zs[j]?.getD 0)) := by
        intro j hj
        have hx := (hc j 0 (by simpa using hj) (by omega)).2
        have hy := hv j 0 [.int .i64 zs[j]] (.int .i64 zs[j]) (by simp [hj]) rfl
        have : vals j 0 = .int .i64 zs[j] := by
          generalize vals j 0 = u at hy
          cases hy; rfl
        rw [this] at hx
        simpa [hj] using hx
      exact ⟨g, off, cap, by rw [ha (by simpa using hne)], cell_lt (hcc 0 h0), hcc⟩
  obtain ⟨b, o, cap, hsv, hb, hcc⟩ := key
  have hcell' : w.cell? ⟨g, off + 0, none⟩ = some (vs 0) := hcell
  refine ((callsIn_wide (n := 4)).1 (collect_calls 4 (by omega) ⟨g, off, none⟩ (vs 0) zs hlen w (cell_lt hcell') hcell' (.inr ⟨b, o, cap, hsv, hb, hcc⟩))).mono ?_
  rintro e W' ⟨v, rfl, ⟨hl, hrow⟩, hnil, hB⟩
  rcases hrow with ⟨rfl, h0⟩ | ⟨g', cap', cur, rfl, hg, hh, hn1, hn2, hsz, htk⟩
  · exact absurd (hnil.1 rfl) hne
  have habs : ∀ i, ρ i = .absent := fun i => hS.out i (Nat.zero_le _)
  have hcur : ∀ i, i < zs.length → cur[i]? = some (.int .i64 (zs[i]?.getD 0)) := by
    intro i hi
    have : (cur.toList.take (zs.length * 1))[i]? = (zs.map (Value.int .i64))[i]? := by rw [htk]
    rw [List.getElem?_take_of_lt (by omega)] at this
    simpa [hi] using this
  have hgw : w.heap.size ≤ g' := hg
  have hMof : ∀ (x o : Nat), Mof M0 (updL ρ 0 (.at_ g' 0 cur.size zs.length 1)) [⟨zs.map fun z => [.int .i64 z], 1, .mut⟩] x o → M0 x o ∨ x = g' := by
    rintro x o (h | ⟨i, k, base, n, rl, esz, hi, hat, -⟩)
    · exact .inl h
    · by_cases h0 : i = 0
      · subst h0
        rw [updL_same] at hat
        cases hat
        exact .inr rfl
      · rw [updL_ne _ _ h0, habs] at hat
        cases hat
  refine ⟨_, updL ρ 0 (.at_ g' 0 cur.size zs.length 1), rfl, ?_, ?_, by simp, fun i hi => absurd hi (by simp), ?_, ?_⟩
  · have := Rep.ref (w := W') (M := Mof M0 (updL ρ 0 (.at_ g' 0 cur.size zs.length 1)) [⟨zs.map fun z => [.int .i64 z], 1, .mut⟩]) 0 0 zs.length cap' g' 0 cur.size zs.length 1 (updL_same ρ 0 _) (by omega) (by omega) (by omega)
    simpa using this
  · refine ⟨?_, ?_, ?_, ?_, ?_⟩
    · intro i k g2 base n rl esz hi hat
      by_cases h0 : i = 0
      · subst h0
        rw [updL_same] at hat
        cases hat
        cases hi
        refine ⟨by simp, rfl, by simp, by omega, cur, 3, hh, Nat.le_refl _, ?_⟩
        intro kk j r d hr hd
        rw [List.getElem?_map] at hr
        cases hz : zs[kk]? with
        | none => simp [hz] at hr
        | some z =>
          simp [hz] at hr
          subst hr
          cases j with
          | succ j => simp at hd
          | zero =>
            simp at hd
            subst hd
            have hlt := (List.getElem?_eq_some_iff.1 hz).1
            exact ⟨_, by simpa using hcur kk hlt, by rw [hz]; exact .int _ _⟩
      · rw [updL_ne _ _ h0, habs] at hat
        cases hat
    · intro i k hi hv
      by_cases h0 : i = 0
      · subst h0
        rw [updL_same] at hv
        cases hv
      · rw [updL_ne _ _ h0, habs] at hv
        cases hv
    · intro i hi
      have : i ≠ 0 := by simp at hi; omega
      rw [updL_ne _ _ this]
      exact habs i
    · intro i j g2 base n rl esz base' n' rl' esz' hi hj
      have hz : ∀ i, ∀ {base n rl esz}, updL ρ 0 (.at_ g' 0 cur.size zs.length 1) i = .at_ g2 base n rl esz → i = 0 := by
        intro i base n rl esz h
        by_cases h0 : i = 0
        · exact h0
        · rw [updL_ne _ _ h0, habs] at h
          cases h
      rw [hz i hi, hz j hj]
    · intro i g2 base n rl esz hi o hm
      by_cases h0 : i = 0
      · subst h0
        rw [updL_same] at hi
        cases hi
        have := hM _ _ hm
        omega
      · rw [updL_ne _ _ h0, habs] at hi
        cases hi
  · intro x o v hn hv
    have hx := cell_lt hv
    refine ⟨fun hm => ?_, (hB.cell (p := ⟨x, o, none⟩) hx).trans hv⟩
    rcases hMof _ _ hm with h | h
    · exact hn (.inl h)
    · subst h; omega
  · refine ⟨hB.size, hB.os, hB.tape, hB.output, fun g2 h2 _ => hB.block g2 h2, ?_⟩
    intro i g2 base n rl esz _ hi
    by_cases h0 : i = 0
    · subst h0
      rw [updL_same] at hi
      cases hi
      exact hgw
    · rw [updL_ne _ _ h0, habs] at hi
      cases hi
set_option maxRecDepth 100000 in
set_option maxHeartbeats 2000000 in
theorem len64_two (w : World) : Calls PP 253 #[.int .u64 2] w fun e w' => e = .returned (.int .i64 2) ∧ w' = w := by
  go_enter Tryz.func253, Tryz.ntmps253
  go_wp2
  all_goals go_ret
  all_goals refine ⟨congrArg Ending.returned (congrArg (Value.int IntKind.i64) ?_), rfl⟩
  all_goals first | decide | kernel_rfl | rfl
set_option maxRecDepth 100000 in
set_option maxHeartbeats 2000000 in
theorem len_two (w : World) : Calls PP 235 #[.int .u64 2] w fun e w' => e = .returned (.int .i64 2) ∧ w' = w := by
  go_enter Tryz.func235, Tryz.ntmps235
  go_wp2_with (go_at_call 253; refine (len64_two _).mono ?_; rintro e w' ⟨rfl, rfl⟩)
  all_goals go_ret
  all_goals exact ⟨rfl, rfl⟩
theorem len_den : Den PP 235 [.int .u64 2] [] (.int .i64 2) [] := by
  refine ⟨⟨_, Tryz.func235, by kernel_rfl, rfl⟩, fun w M0 ρ vals hM hS hs ha => ?_⟩
  obtain ⟨v0, rfl⟩ := arr_one hs
  obtain rfl := (ha 0 v0 _ (by simp) rfl).int_inv
  refine (len_two w).mono ?_
  rintro e w' ⟨rfl, rfl⟩
  exact ⟨_, ρ, rfl, .imm _ _ (.int _ _), hS, Nat.le_refl _, fun _ _ => rfl, Pres.refl _ _, ⟨Nat.le_refl _, rfl, rfl, rfl, fun _ _ _ => rfl, fun i g base n rl esz hi hat => by rw [hS.out i hi] at hat; cases hat⟩⟩
end Go.AM
/- AM: this seat's functions in short. -/
namespace Go.AM
set_option linter.unusedSimpArgs false
set_option linter.unusedVariables false
def c_gimmaltop_TopHears : SF := ⟨136, [(ResultVar.tmp 4)],
  (.seq (.ops [⟨some 2, (Op.box 42 (Operand.tmp 0)), 0, none⟩,
    ⟨some 3, (Op.box 68 (Operand.tmp 1)), 0, none⟩,
    ⟨some 4, (Op.assign (Operand.const (Value.bool false))), 4, none⟩]) (.seq (.seq (.ops [⟨some 19, (Op.call ⟨(Callee.value (Operand.func 11)), #[], #[]⟩), 4, none⟩,
    ⟨some 20, (Op.unOp UnOp.not 4 (Operand.tmp 19)), 4, none⟩]) (.cond (Operand.tmp 20) (.seq (.ops [⟨some 4, (Op.assign (Operand.const (Value.bool false))), 4, none⟩]) .ret) .skip)) (.seq (.ops [⟨some 22, (Op.load 42 (Operand.tmp 2)), 42, none⟩,
    ⟨some 23, (Op.load 68 (Operand.tmp 3)), 68, none⟩,
    ⟨some 24, (Op.call ⟨(Callee.value (Operand.func 28)), #[(Operand.tmp 22), (Operand.tmp 23)], #[42, 68]⟩), 71, none⟩,
    ⟨some 21, (Op.move (Operand.tmp 24)), 71, none⟩,
    ⟨some 25, (Op.extract (Operand.tmp 21) 0), 42, none⟩,
    ⟨some 26, (Op.extract (Operand.tmp 21) 1), 24, none⟩,
    ⟨some 27, (Op.extract (Operand.tmp 21) 2), 31, none⟩,
    ⟨some 5, (Op.alloc 42), 0, none⟩,
    ⟨none, (Op.store 42 (Operand.tmp 5) (Operand.tmp 25)), 0, none⟩,
    ⟨some 6, (Op.assign (Operand.tmp 26)), 24, none⟩,
    ⟨some 7, (Op.assign (Operand.tmp 27)), 31, none⟩]) (.seq (.seq (.ops [⟨some 28, (Op.move (Operand.tmp 7)), 31, none⟩,
    ⟨some 29, (Op.call ⟨(Callee.value (Operand.func 15)), #[(Operand.tmp 28)], #[31]⟩), 3, none⟩,
    ⟨some 30, (Op.binOp BinOp.neq 3 (Operand.tmp 29) (Operand.const (Value.int IntKind.i64 0)) 3), 4, none⟩]) (.cond (Operand.tmp 30) (.seq (.ops [⟨some 31, (Op.load 42 (Operand.tmp 5)), 42, none⟩,
    ⟨some 32, (Op.build 42 #[]), 42, none⟩,
    ⟨some 33, (Op.call ⟨(Callee.value (Operand.func 30)), #[(Operand.tmp 31), (Operand.tmp 32)], #[42, 42]⟩), 4, none⟩,
    ⟨some 34, (Op.move (Operand.tmp 33)), 4, none⟩,
    ⟨some 35, (Op.move (Operand.tmp 6)), 24, some (34, true)⟩,
    ⟨some 36, (Op.call ⟨(Callee.builtin Builtin.len), #[(Operand.tmp 35)], #[24]⟩), 3, some (34, true)⟩,
    ⟨some 37, (Op.binOp BinOp.eql 3 (Operand.tmp 36) (Operand.const (Value.int IntKind.i64 0)) 3), 4, some (34, true)⟩,
    ⟨some 38, (Op.pick (Operand.tmp 34) (Operand.tmp 37) (Operand.const (Value.bool false))), 4, none⟩,
    ⟨some 4, (Op.assign (Operand.tmp 38)), 4, none⟩]) .ret) .skip)) (.seq (.ops [⟨some 39, (Op.load 42 (Operand.tmp 2)), 42, none⟩,
    ⟨some 40, (Op.call ⟨(Callee.value (Operand.func 26)), #[(Operand.tmp 39)], #[42]⟩), 42, none⟩,
    ⟨some 8, (Op.alloc 42), 0, none⟩,
    ⟨none, (Op.store 42 (Operand.tmp 8) (Operand.tmp 40)), 0, none⟩]) (.seq (.seq (.ops [⟨some 41, (Op.fieldAddr 68 (Operand.tmp 3) 0), 0, none⟩,
    ⟨some 42, (Op.load 3 (Operand.tmp 41)), 3, none⟩]) (.block 0 (.seq (.ops [⟨some 44, (Op.binOp BinOp.eql 3 (Operand.tmp 42) (Operand.const (Value.int IntKind.i64 0)) 3), 4, none⟩,
    ⟨some 43, (Op.assign (Operand.tmp 44)), 4, none⟩]) (.cond (Operand.tmp 43) (.seq (.ops [⟨some 46, (Op.fieldAddr 42 (Operand.tmp 2) 1), 0, none⟩,
    ⟨some 47, (Op.load 38 (Operand.tmp 46)), 38, none⟩,
    ⟨some 48, (Op.fieldAddr 68 (Operand.tmp 3) 1), 0, none⟩,
    ⟨some 49, (Op.load 3 (Operand.tmp 48)), 3, none⟩,
    ⟨some 50, (Op.fieldAddr 68 (Operand.tmp 3) 3), 0, none⟩,
    ⟨some 51, (Op.load 36 (Operand.tmp 50)), 36, none⟩,
    ⟨some 52, (Op.call ⟨(Callee.value (Operand.func 41)), #[(Operand.tmp 47), (Operand.tmp 49), (Operand.tmp 51)], #[38, 3, 36]⟩), 89, none⟩,
    ⟨some 45, (Op.move (Operand.tmp 52)), 89, none⟩,
    ⟨some 53, (Op.extract (Operand.tmp 45) 0), 38, none⟩,
    ⟨some 54, (Op.extract (Operand.tmp 45) 1), 31, none⟩,
    ⟨some 9, (Op.alloc 38), 0, none⟩,
    ⟨none, (Op.store 38 (Operand.tmp 9) (Operand.tmp 53)), 0, none⟩,
    ⟨some 10, (Op.assign (Operand.tmp 54)), 31, none⟩]) (.seq (.ops [⟨some 55, (Op.load 38 (Operand.tmp 9)), 38, none⟩,
    ⟨some 56, (Op.fieldAddr 42 (Operand.tmp 8) 1), 0, none⟩,
    ⟨none, (Op.store 38 (Operand.tmp 56) (Operand.tmp 55)), 0, none⟩]) (.seq (.ops [⟨some 57, (Op.move (Operand.tmp 10)), 31, none⟩,
    ⟨some 58, (Op.call ⟨(Callee.value (Operand.func 15)), #[(Operand.tmp 57)], #[31]⟩), 3, none⟩,
    ⟨some 59, (Op.binOp BinOp.eql 3 (Operand.tmp 58) (Operand.const (Value.int IntKind.i64 0)) 3), 4, none⟩,
    ⟨some 60, (Op.move (Operand.tmp 59)), 4, none⟩,
    ⟨some 61, (Op.load 42 (Operand.tmp 5)), 42, some (60, true)⟩,
    ⟨some 62, (Op.load 42 (Operand.tmp 8)), 42, some (60, true)⟩,
    ⟨some 63, (Op.call ⟨(Callee.value (Operand.func 30)), #[(Operand.tmp 61), (Operand.tmp 62)], #[42, 42]⟩), 4, some (60, true)⟩,
    ⟨some 64, (Op.pick (Operand.tmp 60) (Operand.tmp 63) (Operand.const (Value.bool false))), 4, none⟩,
    ⟨some 4, (Op.assign (Operand.tmp 64)), 4, none⟩]) .ret))) (.seq (.ops [⟨some 66, (Op.binOp BinOp.eql 3 (Operand.tmp 42) (Operand.const (Value.int IntKind.i64 1)) 3), 4, none⟩,
    ⟨some 65, (Op.assign (Operand.tmp 66)), 4, none⟩]) (.cond (Operand.tmp 65) (.seq (.ops [⟨some 68, (Op.load 42 (Operand.tmp 2)), 42, none⟩,
    ⟨some 69, (Op.fieldAddr 68 (Operand.tmp 3) 5), 0, none⟩,
    ⟨some 70, (Op.load 46 (Operand.tmp 69)), 46, none⟩,
    ⟨some 71, (Op.call ⟨(Callee.value (Operand.func 42)), #[(Operand.tmp 68), (Operand.tmp 70)], #[42, 46]⟩), 91, none⟩,
    ⟨some 67, (Op.move (Operand.tmp 71)), 91, none⟩,
    ⟨some 72, (Op.extract (Operand.tmp 67) 0), 42, none⟩,
    ⟨some 73, (Op.extract (Operand.tmp 67) 1), 31, none⟩,
    ⟨some 11, (Op.alloc 42), 0, none⟩,
    ⟨none, (Op.store 42 (Operand.tmp 11) (Operand.tmp 72)), 0, none⟩,
    ⟨some 12, (Op.assign (Operand.tmp 73)), 31, none⟩]) (.seq (.ops [⟨some 75, (Op.fieldAddr 42 (Operand.tmp 2) 2), 0, none⟩,
    ⟨some 76, (Op.load 39 (Operand.tmp 75)), 39, none⟩,
    ⟨some 77, (Op.fieldAddr 68 (Operand.tmp 3) 5), 0, none⟩,
    ⟨some 78, (Op.load 46 (Operand.tmp 77)), 46, none⟩,
    ⟨some 79, (Op.call ⟨(Callee.value (Operand.func 43)), #[(Operand.tmp 76), (Operand.tmp 78)], #[39, 46]⟩), 93, none⟩,
    ⟨some 74, (Op.move (Operand.tmp 79)), 93, none⟩,
    ⟨some 80, (Op.extract (Operand.tmp 74) 0), 39, none⟩,
    ⟨some 81, (Op.extract (Operand.tmp 74) 1), 31, none⟩,
    ⟨some 13, (Op.assign (Operand.tmp 80)), 39, none⟩,
    ⟨some 14, (Op.assign (Operand.tmp 81)), 31, none⟩]) (.seq (.ops [⟨some 82, (Op.move (Operand.tmp 12)), 31, none⟩,
    ⟨some 83, (Op.call ⟨(Callee.value (Operand.func 15)), #[(Operand.tmp 82)], #[31]⟩), 3, none⟩,
    ⟨some 84, (Op.binOp BinOp.eql 3 (Operand.tmp 83) (Operand.const (Value.int IntKind.i64 0)) 3), 4, none⟩,
    ⟨some 85, (Op.move (Operand.tmp 84)), 4, none⟩,
    ⟨some 86, (Op.load 42 (Operand.tmp 5)), 42, some (85, true)⟩,
    ⟨some 87, (Op.load 42 (Operand.tmp 11)), 42, some (85, true)⟩,
    ⟨some 88, (Op.call ⟨(Callee.value (Operand.func 30)), #[(Operand.tmp 86), (Operand.tmp 87)], #[42, 42]⟩), 4, some (85, true)⟩,
    ⟨some 89, (Op.pick (Operand.tmp 85) (Operand.tmp 88) (Operand.const (Value.bool false))), 4, none⟩,
    ⟨some 90, (Op.move (Operand.tmp 89)), 4, none⟩,
    ⟨some 91, (Op.move (Operand.tmp 14)), 31, some (90, true)⟩,
    ⟨some 92, (Op.call ⟨(Callee.value (Operand.func 15)), #[(Operand.tmp 91)], #[31]⟩), 3, some (90, true)⟩,
    ⟨some 93, (Op.binOp BinOp.neq 3 (Operand.tmp 92) (Operand.const (Value.int IntKind.i64 0)) 3), 4, some (90, true)⟩,
    ⟨some 94, (Op.move (Operand.tmp 93)), 4, some (90, true)⟩,
    ⟨some 95, (Op.move (Operand.tmp 13)), 39, some (94, false)⟩,
    ⟨some 96, (Op.fieldAddr 42 (Operand.tmp 5) 2), 0, some (94, false)⟩,
    ⟨some 97, (Op.load 39 (Operand.tmp 96)), 39, some (94, false)⟩,
    ⟨some 98, (Op.call ⟨(Callee.value (Operand.func 44)), #[(Operand.tmp 95), (Operand.tmp 97)], #[39, 39]⟩), 4, some (94, false)⟩,
    ⟨some 99, (Op.pick (Operand.tmp 94) (Operand.const (Value.bool true)) (Operand.tmp 98)), 4, some (90, true)⟩,
    ⟨some 100, (Op.pick (Operand.tmp 90) (Operand.tmp 99) (Operand.const (Value.bool false))), 4, none⟩,
    ⟨some 4, (Op.assign (Operand.tmp 100)), 4, none⟩]) .ret))) (.seq (.ops [⟨some 102, (Op.binOp BinOp.eql 3 (Operand.tmp 42) (Operand.const (Value.int IntKind.i64 2)) 3), 4, none⟩,
    ⟨some 101, (Op.assign (Operand.tmp 102)), 4, none⟩]) (.cond (Operand.tmp 101) (.seq (.ops [⟨some 104, (Op.load 42 (Operand.tmp 2)), 42, none⟩,
    ⟨some 105, (Op.load 68 (Operand.tmp 3)), 68, none⟩,
    ⟨some 106, (Op.call ⟨(Callee.value (Operand.func 45)), #[(Operand.tmp 104), (Operand.tmp 105)], #[42, 68]⟩), 86, none⟩,
    ⟨some 103, (Op.move (Operand.tmp 106)), 86, none⟩,
    ⟨some 107, (Op.extract (Operand.tmp 103) 0), 24, none⟩,
    ⟨some 108, (Op.extract (Operand.tmp 103) 1), 31, none⟩,
    ⟨some 15, (Op.assign (Operand.tmp 107)), 24, none⟩,
    ⟨some 16, (Op.assign (Operand.tmp 108)), 31, none⟩]) (.seq (.ops [⟨some 109, (Op.move (Operand.tmp 16)), 31, none⟩,
    ⟨some 110, (Op.call ⟨(Callee.value (Operand.func 15)), #[(Operand.tmp 109)], #[31]⟩), 3, none⟩,
    ⟨some 111, (Op.binOp BinOp.eql 3 (Operand.tmp 110) (Operand.const (Value.int IntKind.i64 0)) 3), 4, none⟩,
    ⟨some 112, (Op.move (Operand.tmp 111)), 4, none⟩,
    ⟨some 113, (Op.load 42 (Operand.tmp 5)), 42, some (112, true)⟩,
    ⟨some 114, (Op.load 42 (Operand.tmp 8)), 42, some (112, true)⟩,
    ⟨some 115, (Op.call ⟨(Callee.value (Operand.func 30)), #[(Operand.tmp 113), (Operand.tmp 114)], #[42, 42]⟩), 4, some (112, true)⟩,
    ⟨some 116, (Op.pick (Operand.tmp 112) (Operand.tmp 115) (Operand.const (Value.bool false))), 4, none⟩,
    ⟨some 117, (Op.move (Operand.tmp 116)), 4, none⟩,
    ⟨some 118, (Op.move (Operand.tmp 6)), 24, some (117, true)⟩,
    ⟨some 119, (Op.move (Operand.tmp 15)), 24, some (117, true)⟩,
    ⟨some 120, (Op.call ⟨(Callee.value (Operand.func 31)), #[(Operand.tmp 118), (Operand.tmp 119)], #[24, 24]⟩), 4, some (117, true)⟩,
    ⟨some 121, (Op.pick (Operand.tmp 117) (Operand.tmp 120) (Operand.const (Value.bool false))), 4, none⟩,
    ⟨some 4, (Op.assign (Operand.tmp 121)), 4, none⟩]) .ret)) .skip)))))))) (.seq (.ops [⟨some 123, (Op.load 42 (Operand.tmp 2)), 42, none⟩,
    ⟨some 124, (Op.load 68 (Operand.tmp 3)), 68, none⟩,
    ⟨some 125, (Op.call ⟨(Callee.value (Operand.func 46)), #[(Operand.tmp 123), (Operand.tmp 124)], #[42, 68]⟩), 91, none⟩,
    ⟨some 122, (Op.move (Operand.tmp 125)), 91, none⟩,
    ⟨some 126, (Op.extract (Operand.tmp 122) 0), 42, none⟩,
    ⟨some 127, (Op.extract (Operand.tmp 122) 1), 31, none⟩,
    ⟨some 17, (Op.alloc 42), 0, none⟩,
    ⟨none, (Op.store 42 (Operand.tmp 17) (Operand.tmp 126)), 0, none⟩,
    ⟨some 18, (Op.assign (Operand.tmp 127)), 31, none⟩]) (.seq (.ops [⟨some 128, (Op.move (Operand.tmp 18)), 31, none⟩,
    ⟨some 129, (Op.call ⟨(Callee.value (Operand.func 15)), #[(Operand.tmp 128)], #[31]⟩), 3, none⟩,
    ⟨some 130, (Op.binOp BinOp.eql 3 (Operand.tmp 129) (Operand.const (Value.int IntKind.i64 0)) 3), 4, none⟩,
    ⟨some 131, (Op.move (Operand.tmp 130)), 4, none⟩,
    ⟨some 132, (Op.load 42 (Operand.tmp 5)), 42, some (131, true)⟩,
    ⟨some 133, (Op.load 42 (Operand.tmp 17)), 42, some (131, true)⟩,
    ⟨some 134, (Op.call ⟨(Callee.value (Operand.func 30)), #[(Operand.tmp 132), (Operand.tmp 133)], #[42, 42]⟩), 4, some (131, true)⟩,
    ⟨some 135, (Op.pick (Operand.tmp 131) (Operand.tmp 134) (Operand.const (Value.bool false))), 4, none⟩,
    ⟨some 4, (Op.assign (Operand.tmp 135)), 4, none⟩]) .ret))))))))⟩
theorem is_gimmaltop_TopHears (c : Cfg) (h : c.lendT = []) : isF PP c 9 c_gimmaltop_TopHears := isF_of (fn := Proofs.Tryz.f9) (by kernel_rfl) (by kernel_rfl) rfl h (by kernel_rfl) rfl rfl (by kernel_rfl)
def c_gimmallaw0_Num : SF := ⟨4, [(ResultVar.tmp 2)],
  (.seq (.ops [⟨some 2, (Op.assign (Operand.const (Value.int IntKind.i64 0))), 3, none⟩]) (.seq (.ops [⟨some 3, (Op.move (Operand.tmp 0)), 31, none⟩,
    ⟨some 2, (Op.assign (Operand.tmp 3)), 3, none⟩]) .ret))⟩
theorem is_gimmallaw0_Num (c : Cfg) (h : c.lendT = []) : isF PP c 15 c_gimmallaw0_Num := isF_of (fn := Proofs.Tryz.f15) (by kernel_rfl) (by kernel_rfl) rfl h (by kernel_rfl) rfl rfl (by kernel_rfl)
end Go.AM
/- AM: this seat's functions in short. -/
namespace Go.AM
set_option linter.unusedSimpArgs false
set_option linter.unusedVariables false
def c_gimmallaw0_CopyNode : SF := ⟨18, [(ResultVar.cell 2 42)],
  (.seq (.ops [⟨some 1, (Op.box 42 (Operand.tmp 0)), 0, none⟩,
    ⟨some 2, (Op.alloc 42), 0, none⟩]) (.seq (.ops [⟨some 3, (Op.fieldAddr 42 (Operand.tmp 1) 1), 0, none⟩,
    ⟨some 4, (Op.load 38 (Operand.tmp 3)), 38, none⟩,
    ⟨some 5, (Op.call ⟨(Callee.value (Operand.func 83)), #[(Operand.tmp 4)], #[38]⟩), 38, none⟩,
    ⟨some 6, (Op.fieldAddr 42 (Operand.tmp 1) 1), 0, none⟩,
    ⟨none, (Op.store 38 (Operand.tmp 6) (Operand.tmp 5)), 0, none⟩]) (.seq (.ops [⟨some 7, (Op.buildSlice 39 0 #[]), 39, none⟩,
    ⟨some 8, (Op.fieldAddr 42 (Operand.tmp 1) 2), 0, none⟩,
    ⟨some 9, (Op.load 39 (Operand.tmp 8)), 39, none⟩,
    ⟨some 10, (Op.call ⟨(Callee.builtin Builtin.append), #[(Operand.tmp 7), (Operand.tmp 9)], #[39, 39]⟩), 39, none⟩,
    ⟨some 11, (Op.fieldAddr 42 (Operand.tmp 1) 2), 0, none⟩,
    ⟨none, (Op.store 39 (Operand.tmp 11) (Operand.tmp 10)), 0, none⟩]) (.seq (.ops [⟨some 12, (Op.buildSlice 40 0 #[]), 40, none⟩,
    ⟨some 13, (Op.fieldAddr 42 (Operand.tmp 1) 3), 0, none⟩,
    ⟨some 14, (Op.load 40 (Operand.tmp 13)), 40, none⟩,
    ⟨some 15, (Op.call ⟨(Callee.builtin Builtin.append), #[(Operand.tmp 12), (Operand.tmp 14)], #[40, 40]⟩), 40, none⟩,
    ⟨some 16, (Op.fieldAddr 42 (Operand.tmp 1) 3), 0, none⟩,
    ⟨none, (Op.store 40 (Operand.tmp 16) (Operand.tmp 15)), 0, none⟩]) (.seq (.ops [⟨some 17, (Op.load 42 (Operand.tmp 1)), 42, none⟩,
    ⟨none, (Op.store 42 (Operand.tmp 2) (Operand.tmp 17)), 0, none⟩]) .ret)))))⟩
theorem is_gimmallaw0_CopyNode (c : Cfg) (h : c.lendT = []) : isF PP c 26 c_gimmallaw0_CopyNode := isF_of (fn := Proofs.Tryz.f26) (by kernel_rfl) (by kernel_rfl) rfl h (by kernel_rfl) rfl rfl (by kernel_rfl)
def c_handle_Do : SF := ⟨53, [(ResultVar.cell 4 42), (ResultVar.tmp 5), (ResultVar.tmp 6)],
  (.seq (.ops [⟨some 2, (Op.box 42 (Operand.tmp 0)), 0, none⟩,
    ⟨some 3, (Op.box 68 (Operand.tmp 1)), 0, none⟩,
    ⟨some 4, (Op.alloc 42), 0, none⟩,
    ⟨some 5, (Op.assign (Operand.const (Value.slice none 0 0))), 24, none⟩,
    ⟨some 6, (Op.assign (Operand.const (Value.int IntKind.i64 0))), 31, none⟩]) (.seq (.seq (.ops [⟨some 9, (Op.load 42 (Operand.tmp 2)), 42, none⟩,
    ⟨some 10, (Op.call ⟨(Callee.value (Operand.func 84)), #[(Operand.tmp 9)], #[42]⟩), 4, none⟩,
    ⟨some 11, (Op.unOp UnOp.not 4 (Operand.tmp 10)), 4, none⟩,
    ⟨some 12, (Op.move (Operand.tmp 11)), 4, none⟩,
    ⟨some 13, (Op.load 68 (Operand.tmp 3)), 68, some (12, false)⟩,
    ⟨some 14, (Op.call ⟨(Callee.value (Operand.func 85)), #[(Operand.tmp 13)], #[68]⟩), 4, some (12, false)⟩,
    ⟨some 15, (Op.unOp UnOp.not 4 (Operand.tmp 14)), 4, some (12, false)⟩,
    ⟨some 16, (Op.pick (Operand.tmp 12) (Operand.const (Value.bool true)) (Operand.tmp 15)), 4, none⟩,
    ⟨some 17, (Op.move (Operand.tmp 16)), 4, none⟩,
    ⟨some 18, (Op.fieldAddr 68 (Operand.tmp 3) 2), 0, some (17, false)⟩,
    ⟨some 19, (Op.load 3 (Operand.tmp 18)), 3, some (17, false)⟩,
    ⟨some 20, (Op.fieldAddr 42 (Operand.tmp 2) 1), 0, some (17, false)⟩,
    ⟨some 21, (Op.fieldAddr 38 (Operand.tmp 20) 0), 0, some (17, false)⟩,
    ⟨some 22, (Op.load 3 (Operand.tmp 21)), 3, some (17, false)⟩,
    ⟨some 23, (Op.binOp BinOp.neq 3 (Operand.tmp 19) (Operand.tmp 22) 3), 4, some (17, false)⟩,
    ⟨some 24, (Op.pick (Operand.tmp 17) (Operand.const (Value.bool true)) (Operand.tmp 23)), 4, none⟩]) (.cond (Operand.tmp 24) (.seq (.ops [⟨some 25, (Op.build 42 #[]), 42, none⟩,
    ⟨none, (Op.store 42 (Operand.tmp 4) (Operand.tmp 25)), 0, none⟩,
    ⟨some 5, (Op.assign (Operand.const (Value.slice none 0 0))), 24, none⟩,
    ⟨some 6, (Op.assign (Operand.const (Value.int IntKind.i64 2200))), 31, none⟩]) .ret) .skip)) (.seq (.ops [⟨some 26, (Op.load 42 (Operand.tmp 2)), 42, none⟩,
    ⟨some 27, (Op.call ⟨(Callee.value (Operand.func 86)), #[(Operand.tmp 26)], #[42]⟩), 42, none⟩,
    ⟨some 28, (Op.build 135 #[(0, (Operand.tmp 27))]), 135, none⟩,
    ⟨some 29, (Op.box 135 (Operand.tmp 28)), 133, none⟩,
    ⟨some 7, (Op.assign (Operand.tmp 29)), 133, none⟩]) (.seq (.ops [⟨some 30, (Op.move (Operand.tmp 7)), 133, none⟩,
    ⟨some 31, (Op.makeFunc (Fn.func 87) #[(Operand.tmp 30)] #[]), 136, none⟩,
    ⟨some 32, (Op.move (Operand.tmp 7)), 133, none⟩,
    ⟨some 33, (Op.makeFunc (Fn.func 88) #[(Operand.tmp 32)] #[]), 136, none⟩,
    ⟨some 34, (Op.move (Operand.tmp 7)), 133, none⟩,
    ⟨some 35, (Op.makeFunc (Fn.func 89) #[(Operand.tmp 34)] #[]), 136, none⟩,
    ⟨some 36, (Op.move (Operand.tmp 7)), 133, none⟩,
    ⟨some 37, (Op.makeFunc (Fn.func 90) #[(Operand.tmp 36)] #[]), 136, none⟩,
    ⟨some 38, (Op.build 137 #[(0, (Operand.tmp 31)), (1, (Operand.tmp 33)), (2, (Operand.tmp 35)), (3, (Operand.tmp 37))]), 137, none⟩,
    ⟨some 8, (Op.alloc 137), 0, none⟩,
    ⟨none, (Op.store 137 (Operand.tmp 8) (Operand.tmp 38)), 0, none⟩]) (.seq (.ops [⟨some 39, (Op.fieldAddr 68 (Operand.tmp 3) 0), 0, none⟩,
    ⟨some 40, (Op.load 3 (Operand.tmp 39)), 3, none⟩,
    ⟨some 41, (Op.indexAddr 137 (Operand.tmp 8) (Operand.tmp 40)), 0, none⟩,
    ⟨some 42, (Op.load 136 (Operand.tmp 41)), 136, none⟩,
    ⟨some 43, (Op.load 68 (Operand.tmp 3)), 68, none⟩,
    ⟨some 44, (Op.call ⟨(Callee.value (Operand.tmp 42)), #[(Operand.tmp 43)], #[68]⟩), 0, none⟩]) (.seq (.alts [[⟨some 45, (Op.move (Operand.tmp 7)), 133, none⟩,
    ⟨some 46, (Op.nilCheck (Operand.tmp 45)), 0, none⟩,
    ⟨some 47, (Op.fieldAddr 135 (Operand.tmp 46) 0), 0, none⟩,
    ⟨some 48, (Op.load 42 (Operand.tmp 47)), 42, none⟩,
    ⟨some 49, (Op.move (Operand.tmp 7)), 133, none⟩,
    ⟨some 50, (Op.nilCheck (Operand.tmp 49)), 0, none⟩,
    ⟨some 51, (Op.fieldAddr 135 (Operand.tmp 50) 1), 0, none⟩,
    ⟨some 52, (Op.load 24 (Operand.tmp 51)), 24, none⟩,
    ⟨none, (Op.store 42 (Operand.tmp 4) (Operand.tmp 48)), 0, none⟩,
    ⟨some 5, (Op.assign (Operand.tmp 52)), 24, none⟩,
    ⟨some 6, (Op.assign (Operand.const (Value.int IntKind.i64 0))), 31, none⟩],
    [⟨some 45, (Op.move (Operand.tmp 7)), 133, none⟩,
    ⟨some 46, (Op.nilCheck (Operand.tmp 45)), 0, none⟩,
    ⟨some 47, (Op.fieldAddr 135 (Operand.tmp 46) 0), 0, none⟩,
    ⟨some 48, (Op.load 42 (Operand.tmp 47)), 42, none⟩,
    ⟨some 49, (Op.move (Operand.tmp 7)), 133, none⟩,
    ⟨some 50, (Op.nilCheck (Operand.tmp 49)), 0, none⟩,
    ⟨some 51, (Op.fieldAddr 135 (Operand.tmp 50) 1), 0, none⟩,
    ⟨none, (Op.store 42 (Operand.tmp 4) (Operand.tmp 48)), 0, none⟩,
    ⟨some 52, (Op.load 24 (Operand.tmp 51)), 24, none⟩,
    ⟨some 5, (Op.assign (Operand.tmp 52)), 24, none⟩,
    ⟨some 6, (Op.assign (Operand.const (Value.int IntKind.i64 0))), 31, none⟩],
    [⟨some 45, (Op.move (Operand.tmp 7)), 133, none⟩,
    ⟨some 46, (Op.nilCheck (Operand.tmp 45)), 0, none⟩,
    ⟨some 47, (Op.fieldAddr 135 (Operand.tmp 46) 0), 0, none⟩,
    ⟨some 48, (Op.load 42 (Operand.tmp 47)), 42, none⟩,
    ⟨some 49, (Op.move (Operand.tmp 7)), 133, none⟩,
    ⟨some 50, (Op.nilCheck (Operand.tmp 49)), 0, none⟩,
    ⟨none, (Op.store 42 (Operand.tmp 4) (Operand.tmp 48)), 0, none⟩,
    ⟨some 51, (Op.fieldAddr 135 (Operand.tmp 50) 1), 0, none⟩,
    ⟨some 52, (Op.load 24 (Operand.tmp 51)), 24, none⟩,
    ⟨some 5, (Op.assign (Operand.tmp 52)), 24, none⟩,
    ⟨some 6, (Op.assign (Operand.const (Value.int IntKind.i64 0))), 31, none⟩],
    [⟨some 45, (Op.move (Operand.tmp 7)), 133, none⟩,
    ⟨some 46, (Op.nilCheck (Operand.tmp 45)), 0, none⟩,
    ⟨some 47, (Op.fieldAddr 135 (Operand.tmp 46) 0), 0, none⟩,
    ⟨some 48, (Op.load 42 (Operand.tmp 47)), 42, none⟩,
    ⟨some 49, (Op.move (Operand.tmp 7)), 133, none⟩,
    ⟨none, (Op.store 42 (Operand.tmp 4) (Operand.tmp 48)), 0, none⟩,
    ⟨some 50, (Op.nilCheck (Operand.tmp 49)), 0, none⟩,
    ⟨some 51, (Op.fieldAddr 135 (Operand.tmp 50) 1), 0, none⟩,
    ⟨some 52, (Op.load 24 (Operand.tmp 51)), 24, none⟩,
    ⟨some 5, (Op.assign (Operand.tmp 52)), 24, none⟩,
    ⟨some 6, (Op.assign (Operand.const (Value.int IntKind.i64 0))), 31, none⟩]]) .ret))))))⟩
theorem is_handle_Do (c : Cfg) (h : c.lendT = [43]) : isF PP c 28 c_handle_Do := isF_of (fn := Proofs.Tryz.f28) (by kernel_rfl) (by kernel_rfl) rfl h (by kernel_rfl) rfl rfl (by kernel_rfl)
def c_gimmallaw0_SameNode : SF := ⟨31, [(ResultVar.tmp 4)],
  (.seq (.ops [⟨some 2, (Op.box 42 (Operand.tmp 0)), 0, none⟩,
    ⟨some 3, (Op.box 42 (Operand.tmp 1)), 0, none⟩,
    ⟨some 4, (Op.assign (Operand.const (Value.bool false))), 4, none⟩]) (.seq (.ops [⟨some 5, (Op.fieldAddr 42 (Operand.tmp 2) 0), 0, none⟩,
    ⟨some 6, (Op.load 4 (Operand.tmp 5)), 4, none⟩,
    ⟨some 7, (Op.fieldAddr 42 (Operand.tmp 3) 0), 0, none⟩,
    ⟨some 8, (Op.load 4 (Operand.tmp 7)), 4, none⟩,
    ⟨some 9, (Op.binOp BinOp.eql 4 (Operand.tmp 6) (Operand.tmp 8) 4), 4, none⟩,
    ⟨some 10, (Op.move (Operand.tmp 9)), 4, none⟩,
    ⟨some 11, (Op.fieldAddr 42 (Operand.tmp 2) 1), 0, some (10, true)⟩,
    ⟨some 12, (Op.load 38 (Operand.tmp 11)), 38, some (10, true)⟩,
    ⟨some 13, (Op.fieldAddr 42 (Operand.tmp 3) 1), 0, some (10, true)⟩,
    ⟨some 14, (Op.load 38 (Operand.tmp 13)), 38, some (10, true)⟩,
    ⟨some 15, (Op.call ⟨(Callee.value (Operand.func 98)), #[(Operand.tmp 12), (Operand.tmp 14)], #[38, 38]⟩), 4, some (10, true)⟩,
    ⟨some 16, (Op.pick (Operand.tmp 10) (Operand.tmp 15) (Operand.const (Value.bool false))), 4, none⟩,
    ⟨some 17, (Op.move (Operand.tmp 16)), 4, none⟩,
    ⟨some 18, (Op.fieldAddr 42 (Operand.tmp 2) 2), 0, some (17, true)⟩,
    ⟨some 19, (Op.load 39 (Operand.tmp 18)), 39, some (17, true)⟩,
    ⟨some 20, (Op.fieldAddr 42 (Operand.tmp 3) 2), 0, some (17, true)⟩,
    ⟨some 21, (Op.load 39 (Operand.tmp 20)), 39, some (17, true)⟩,
    ⟨some 22, (Op.call ⟨(Callee.value (Operand.func 44)), #[(Operand.tmp 19), (Operand.tmp 21)], #[39, 39]⟩), 4, some (17, true)⟩,
    ⟨some 23, (Op.pick (Operand.tmp 17) (Operand.tmp 22) (Operand.const (Value.bool false))), 4, none⟩,
    ⟨some 24, (Op.move (Operand.tmp 23)), 4, none⟩,
    ⟨some 25, (Op.fieldAddr 42 (Operand.tmp 2) 3), 0, some (24, true)⟩,
    ⟨some 26, (Op.load 40 (Operand.tmp 25)), 40, some (24, true)⟩,
    ⟨some 27, (Op.fieldAddr 42 (Operand.tmp 3) 3), 0, some (24, true)⟩,
    ⟨some 28, (Op.load 40 (Operand.tmp 27)), 40, some (24, true)⟩,
    ⟨some 29, (Op.call ⟨(Callee.value (Operand.func 99)), #[(Operand.tmp 26), (Operand.tmp 28)], #[40, 40]⟩), 4, some (24, true)⟩,
    ⟨some 30, (Op.pick (Operand.tmp 24) (Operand.tmp 29) (Operand.const (Value.bool false))), 4, none⟩,
    ⟨some 4, (Op.assign (Operand.tmp 30)), 4, none⟩]) .ret))⟩
theorem is_gimmallaw0_SameNode (c : Cfg) (h : c.lendT = []) : isF PP c 30 c_gimmallaw0_SameNode := isF_of (fn := Proofs.Tryz.f30) (by kernel_rfl) (by kernel_rfl) rfl h (by kernel_rfl) rfl rfl (by kernel_rfl)
def c_gimmallaw0_SameMsgs_L0 : SC := (.seq (.seq (.ops [⟨some 11, (Op.move (Operand.tmp 5)), 3, none⟩,
    ⟨some 12, (Op.move (Operand.tmp 0)), 24, none⟩,
    ⟨some 13, (Op.call ⟨(Callee.builtin Builtin.len), #[(Operand.tmp 12)], #[24]⟩), 3, none⟩,
    ⟨some 14, (Op.binOp BinOp.lss 3 (Operand.tmp 11) (Operand.tmp 13) 3), 4, none⟩]) (.cond (Operand.tmp 14) .skip (.exit 0))) (.seq (.block 1 (.seq (.ops [⟨some 17, (Op.move (Operand.tmp 0)), 24, none⟩,
    ⟨some 18, (Op.move (Operand.tmp 5)), 3, none⟩,
    ⟨some 21, (Op.move (Operand.tmp 1)), 24, none⟩,
    ⟨some 22, (Op.move (Operand.tmp 5)), 3, none⟩,
    ⟨some 19, (Op.indexAddr 24 (Operand.tmp 17) (Operand.tmp 18)), 0, none⟩,
    ⟨some 20, (Op.load 68 (Operand.tmp 19)), 68, none⟩,
    ⟨some 23, (Op.indexAddr 24 (Operand.tmp 21) (Operand.tmp 22)), 0, none⟩,
    ⟨some 24, (Op.load 68 (Operand.tmp 23)), 68, none⟩,
    ⟨some 25, (Op.call ⟨(Callee.value (Operand.func 34)), #[(Operand.tmp 20), (Operand.tmp 24)], #[68, 68]⟩), 4, none⟩,
    ⟨some 26, (Op.unOp UnOp.not 4 (Operand.tmp 25)), 4, none⟩]) (.cond (Operand.tmp 26) (.seq (.ops [⟨some 4, (Op.assign (Operand.const (Value.bool false))), 4, none⟩]) .ret) .skip))) (.ops [⟨some 15, (Op.move (Operand.tmp 5)), 3, none⟩,
    ⟨some 16, (Op.binOp BinOp.add 3 (Operand.tmp 15) (Operand.const (Value.int IntKind.i64 1)) 3), 3, none⟩,
    ⟨some 5, (Op.assign (Operand.tmp 16)), 3, none⟩])))
def c_gimmallaw0_SameMsgs : SF := ⟨27, [(ResultVar.tmp 4)],
  (.seq (.ops [⟨some 4, (Op.assign (Operand.const (Value.bool false))), 4, none⟩]) (.seq (.seq (.ops [⟨some 6, (Op.move (Operand.tmp 0)), 24, none⟩,
    ⟨some 7, (Op.call ⟨(Callee.builtin Builtin.len), #[(Operand.tmp 6)], #[24]⟩), 3, none⟩,
    ⟨some 8, (Op.move (Operand.tmp 1)), 24, none⟩,
    ⟨some 9, (Op.call ⟨(Callee.builtin Builtin.len), #[(Operand.tmp 8)], #[24]⟩), 3, none⟩,
    ⟨some 10, (Op.binOp BinOp.neq 3 (Operand.tmp 7) (Operand.tmp 9) 3), 4, none⟩]) (.cond (Operand.tmp 10) (.seq (.ops [⟨some 4, (Op.assign (Operand.const (Value.bool false))), 4, none⟩]) .ret) .skip)) (.seq (.seq (.ops [⟨some 5, (Op.assign (Operand.const (Value.int IntKind.i64 0))), 3, none⟩]) (.block 0 (.loop c_gimmallaw0_SameMsgs_L0))) (.seq (.ops [⟨some 4, (Op.assign (Operand.const (Value.bool true))), 4, none⟩]) .ret))))⟩
theorem is_gimmallaw0_SameMsgs (c : Cfg) (h : c.lendT = []) : isF PP c 31 c_gimmallaw0_SameMsgs := isF_of (fn := Proofs.Tryz.f31) (by kernel_rfl) (by kernel_rfl) rfl h (by kernel_rfl) rfl rfl (by kernel_rfl)
def c_gimmallaw0_SameMsg : SF := ⟨52, [(ResultVar.tmp 4)],
  (.seq (.ops [⟨some 2, (Op.box 68 (Operand.tmp 0)), 0, none⟩,
    ⟨some 3, (Op.box 68 (Operand.tmp 1)), 0, none⟩,
    ⟨some 4, (Op.assign (Operand.const (Value.bool false))), 4, none⟩]) (.seq (.ops [⟨some 5, (Op.fieldAddr 68 (Operand.tmp 2) 0), 0, none⟩,
    ⟨some 6, (Op.load 3 (Operand.tmp 5)), 3, none⟩,
    ⟨some 7, (Op.fieldAddr 68 (Operand.tmp 3) 0), 0, none⟩,
    ⟨some 8, (Op.load 3 (Operand.tmp 7)), 3, none⟩,
    ⟨some 9, (Op.binOp BinOp.eql 3 (Operand.tmp 6) (Operand.tmp 8) 3), 4, none⟩,
    ⟨some 10, (Op.move (Operand.tmp 9)), 4, none⟩,
    ⟨some 11, (Op.fieldAddr 68 (Operand.tmp 2) 1), 0, some (10, true)⟩,
    ⟨some 12, (Op.load 3 (Operand.tmp 11)), 3, some (10, true)⟩,
    ⟨some 13, (Op.fieldAddr 68 (Operand.tmp 3) 1), 0, some (10, true)⟩,
    ⟨some 14, (Op.load 3 (Operand.tmp 13)), 3, some (10, true)⟩,
    ⟨some 15, (Op.binOp BinOp.eql 3 (Operand.tmp 12) (Operand.tmp 14) 3), 4, some (10, true)⟩,
    ⟨some 16, (Op.pick (Operand.tmp 10) (Operand.tmp 15) (Operand.const (Value.bool false))), 4, none⟩,
    ⟨some 17, (Op.move (Operand.tmp 16)), 4, none⟩,
    ⟨some 18, (Op.fieldAddr 68 (Operand.tmp 2) 2), 0, some (17, true)⟩,
    ⟨some 19, (Op.load 3 (Operand.tmp 18)), 3, some (17, true)⟩,
    ⟨some 20, (Op.fieldAddr 68 (Operand.tmp 3) 2), 0, some (17, true)⟩,
    ⟨some 21, (Op.load 3 (Operand.tmp 20)), 3, some (17, true)⟩,
    ⟨some 22, (Op.binOp BinOp.eql 3 (Operand.tmp 19) (Operand.tmp 21) 3), 4, some (17, true)⟩,
    ⟨some 23, (Op.pick (Operand.tmp 17) (Operand.tmp 22) (Operand.const (Value.bool false))), 4, none⟩,
    ⟨some 24, (Op.move (Operand.tmp 23)), 4, none⟩,
    ⟨some 25, (Op.fieldAddr 68 (Operand.tmp 2) 3), 0, some (24, true)⟩,
    ⟨some 26, (Op.load 36 (Operand.tmp 25)), 36, some (24, true)⟩,
    ⟨some 27, (Op.fieldAddr 68 (Operand.tmp 3) 3), 0, some (24, true)⟩,
    ⟨some 28, (Op.load 36 (Operand.tmp 27)), 36, some (24, true)⟩,
    ⟨some 29, (Op.call ⟨(Callee.value (Operand.func 104)), #[(Operand.tmp 26), (Operand.tmp 28)], #[36, 36]⟩), 4, some (24, true)⟩,
    ⟨some 30, (Op.pick (Operand.tmp 24) (Operand.tmp 29) (Operand.const (Value.bool false))), 4, none⟩,
    ⟨some 31, (Op.move (Operand.tmp 30)), 4, none⟩,
    ⟨some 32, (Op.fieldAddr 68 (Operand.tmp 2) 4), 0, some (31, true)⟩,
    ⟨some 33, (Op.load 3 (Operand.tmp 32)), 3, some (31, true)⟩,
    ⟨some 34, (Op.fieldAddr 68 (Operand.tmp 3) 4), 0, some (31, true)⟩,
    ⟨some 35, (Op.load 3 (Operand.tmp 34)), 3, some (31, true)⟩,
    ⟨some 36, (Op.binOp BinOp.eql 3 (Operand.tmp 33) (Operand.tmp 35) 3), 4, some (31, true)⟩,
    ⟨some 37, (Op.pick (Operand.tmp 31) (Operand.tmp 36) (Operand.const (Value.bool false))), 4, none⟩,
    ⟨some 38, (Op.move (Operand.tmp 37)), 4, none⟩,
    ⟨some 39, (Op.fieldAddr 68 (Operand.tmp 2) 5), 0, some (38, true)⟩,
    ⟨some 40, (Op.load 46 (Operand.tmp 39)), 46, some (38, true)⟩,
    ⟨some 41, (Op.fieldAddr 68 (Operand.tmp 3) 5), 0, some (38, true)⟩,
    ⟨some 42, (Op.load 46 (Operand.tmp 41)), 46, some (38, true)⟩,
    ⟨some 43, (Op.binOp BinOp.eql 46 (Operand.tmp 40) (Operand.tmp 42) 46), 4, some (38, true)⟩,
    ⟨some 44, (Op.pick (Operand.tmp 38) (Operand.tmp 43) (Operand.const (Value.bool false))), 4, none⟩,
    ⟨some 45, (Op.move (Operand.tmp 44)), 4, none⟩,
    ⟨some 46, (Op.fieldAddr 68 (Operand.tmp 2) 6), 0, some (45, true)⟩,
    ⟨some 47, (Op.load 4 (Operand.tmp 46)), 4, some (45, true)⟩,
    ⟨some 48, (Op.fieldAddr 68 (Operand.tmp 3) 6), 0, some (45, true)⟩,
    ⟨some 49, (Op.load 4 (Operand.tmp 48)), 4, some (45, true)⟩,
    ⟨some 50, (Op.binOp BinOp.eql 4 (Operand.tmp 47) (Operand.tmp 49) 4), 4, some (45, true)⟩,
    ⟨some 51, (Op.pick (Operand.tmp 45) (Operand.tmp 50) (Operand.const (Value.bool false))), 4, none⟩,
    ⟨some 4, (Op.assign (Operand.tmp 51)), 4, none⟩]) .ret))⟩
theorem is_gimmallaw0_SameMsg (c : Cfg) (h : c.lendT = []) : isF PP c 34 c_gimmallaw0_SameMsg := isF_of (fn := Proofs.Tryz.f34) (by kernel_rfl) (by kernel_rfl) rfl h (by kernel_rfl) rfl rfl (by kernel_rfl)
def c_node_May : SF := ⟨46, [(ResultVar.tmp 2)],
  (.seq (.ops [⟨some 1, (Op.box 42 (Operand.tmp 0)), 0, none⟩,
    ⟨some 2, (Op.assign (Operand.const (Value.bool false))), 4, none⟩]) (.seq (.seq (.ops [⟨some 3, (Op.fieldAddr 42 (Operand.tmp 1) 0), 0, none⟩,
    ⟨some 4, (Op.load 4 (Operand.tmp 3)), 4, none⟩,
    ⟨some 5, (Op.unOp UnOp.not 4 (Operand.tmp 4)), 4, none⟩,
    ⟨some 6, (Op.move (Operand.tmp 5)), 4, none⟩,
    ⟨some 7, (Op.fieldAddr 42 (Operand.tmp 1) 1), 0, some (6, true)⟩,
    ⟨some 8, (Op.fieldAddr 38 (Operand.tmp 7) 1), 0, some (6, true)⟩,
    ⟨some 9, (Op.load 35 (Operand.tmp 8)), 35, some (6, true)⟩,
    ⟨some 10, (Op.call ⟨(Callee.builtin Builtin.len), #[(Operand.tmp 9)], #[35]⟩), 3, some (6, true)⟩,
    ⟨some 11, (Op.fieldAddr 42 (Operand.tmp 1) 1), 0, some (6, true)⟩,
    ⟨some 12, (Op.fieldAddr 38 (Operand.tmp 11) 2), 0, some (6, true)⟩,
    ⟨some 13, (Op.load 36 (Operand.tmp 12)), 36, some (6, true)⟩,
    ⟨some 14, (Op.call ⟨(Callee.builtin Builtin.len), #[(Operand.tmp 13)], #[36]⟩), 3, some (6, true)⟩,
    ⟨some 15, (Op.binOp BinOp.add 3 (Operand.tmp 10) (Operand.tmp 14) 3), 3, some (6, true)⟩,
    ⟨some 16, (Op.fieldAddr 42 (Operand.tmp 1) 2), 0, some (6, true)⟩,
    ⟨some 17, (Op.load 39 (Operand.tmp 16)), 39, some (6, true)⟩,
    ⟨some 18, (Op.call ⟨(Callee.builtin Builtin.len), #[(Operand.tmp 17)], #[39]⟩), 3, some (6, true)⟩,
    ⟨some 19, (Op.binOp BinOp.add 3 (Operand.tmp 15) (Operand.tmp 18) 3), 3, some (6, true)⟩,
    ⟨some 20, (Op.fieldAddr 42 (Operand.tmp 1) 3), 0, some (6, true)⟩,
    ⟨some 21, (Op.load 40 (Operand.tmp 20)), 40, some (6, true)⟩,
    ⟨some 22, (Op.call ⟨(Callee.builtin Builtin.len), #[(Operand.tmp 21)], #[40]⟩), 3, some (6, true)⟩,
    ⟨some 23, (Op.binOp BinOp.add 3 (Operand.tmp 19) (Operand.tmp 22) 3), 3, some (6, true)⟩,
    ⟨some 24, (Op.binOp BinOp.gtr 3 (Operand.tmp 23) (Operand.const (Value.int IntKind.i64 0)) 3), 4, some (6, true)⟩,
    ⟨some 25, (Op.pick (Operand.tmp 6) (Operand.tmp 24) (Operand.const (Value.bool false))), 4, none⟩]) (.cond (Operand.tmp 25) (.seq (.ops [⟨some 2, (Op.assign (Operand.const (Value.bool false))), 4, none⟩]) .ret) .skip)) (.seq (.ops [⟨some 26, (Op.fieldAddr 42 (Operand.tmp 1) 1), 0, none⟩,
    ⟨some 27, (Op.load 38 (Operand.tmp 26)), 38, none⟩,
    ⟨some 28, (Op.call ⟨(Callee.value (Operand.func 109)), #[(Operand.tmp 27)], #[38]⟩), 4, none⟩,
    ⟨some 29, (Op.move (Operand.tmp 28)), 4, none⟩,
    ⟨some 30, (Op.fieldAddr 42 (Operand.tmp 1) 2), 0, some (29, true)⟩,
    ⟨some 31, (Op.load 39 (Operand.tmp 30)), 39, some (29, true)⟩,
    ⟨some 32, (Op.call ⟨(Callee.value (Operand.func 115)), #[(Operand.tmp 31)], #[39]⟩), 4, some (29, true)⟩,
    ⟨some 33, (Op.pick (Operand.tmp 29) (Operand.tmp 32) (Operand.const (Value.bool false))), 4, none⟩,
    ⟨some 34, (Op.move (Operand.tmp 33)), 4, none⟩,
    ⟨some 35, (Op.fieldAddr 42 (Operand.tmp 1) 3), 0, some (34, true)⟩,
    ⟨some 36, (Op.load 40 (Operand.tmp 35)), 40, some (34, true)⟩,
    ⟨some 37, (Op.call ⟨(Callee.builtin Builtin.len), #[(Operand.tmp 36)], #[40]⟩), 3, some (34, true)⟩,
    ⟨some 38, (Op.binOp BinOp.leq 3 (Operand.tmp 37) (Operand.const (Value.int IntKind.i64 64)) 3), 4, some (34, true)⟩,
    ⟨some 39, (Op.pick (Operand.tmp 34) (Operand.tmp 38) (Operand.const (Value.bool false))), 4, none⟩,
    ⟨some 40, (Op.move (Operand.tmp 39)), 4, none⟩,
    ⟨some 41, (Op.fieldAddr 42 (Operand.tmp 1) 3), 0, some (40, true)⟩,
    ⟨some 42, (Op.load 40 (Operand.tmp 41)), 40, some (40, true)⟩,
    ⟨some 43, (Op.call ⟨(Callee.value (Operand.func 116)), #[(Operand.tmp 42), (Operand.func 117)], #[40, 165]⟩), 4, some (40, true)⟩,
    ⟨some 44, (Op.unOp UnOp.not 4 (Operand.tmp 43)), 4, some (40, true)⟩,
    ⟨some 45, (Op.pick (Operand.tmp 40) (Operand.tmp 44) (Operand.const (Value.bool false))), 4, none⟩,
    ⟨some 2, (Op.assign (Operand.tmp 45)), 4, none⟩]) .ret)))⟩
theorem is_node_May (c : Cfg) (h : c.lendT = []) : isF PP c 40 c_node_May := isF_of (fn := Proofs.Tryz.f40) (by kernel_rfl) (by kernel_rfl) rfl h (by kernel_rfl) rfl rfl (by kernel_rfl)
def c_hello_Take_L0 : SC := (.seq (.ops [⟨some 43, (Op.binOp BinOp.lss 3 (Operand.tmp 42) (Operand.tmp 41) 3), 0, none⟩]) (.seq (.cond (Operand.tmp 43) .skip (.exit 0)) (.seq (.block 1 (.seq (.ops [⟨some 44, (Op.indexAddr 36 (Operand.tmp 40) (Operand.tmp 42)), 0, none⟩,
    ⟨some 45, (Op.load 3 (Operand.tmp 44)), 3, none⟩,
    ⟨some 10, (Op.assign (Operand.tmp 45)), 3, none⟩]) (.seq (.ops [⟨some 46, (Op.move (Operand.tmp 10)), 3, none⟩,
    ⟨some 47, (Op.fieldAddr 38 (Operand.tmp 8) 0), 0, none⟩,
    ⟨some 48, (Op.load 3 (Operand.tmp 47)), 3, none⟩,
    ⟨some 49, (Op.binOp BinOp.neq 3 (Operand.tmp 46) (Operand.tmp 48) 3), 4, none⟩,
    ⟨some 50, (Op.move (Operand.tmp 49)), 4, none⟩,
    ⟨some 51, (Op.move (Operand.tmp 10)), 3, some (50, true)⟩,
    ⟨some 52, (Op.call ⟨(Callee.value (Operand.func 121)), #[(Operand.tmp 8), (Operand.tmp 51)], #[157, 3]⟩), 4, some (50, true)⟩,
    ⟨some 53, (Op.unOp UnOp.not 4 (Operand.tmp 52)), 4, some (50, true)⟩,
    ⟨some 54, (Op.pick (Operand.tmp 50) (Operand.tmp 53) (Operand.const (Value.bool false))), 4, none⟩,
    ⟨some 55, (Op.move (Operand.tmp 54)), 4, none⟩,
    ⟨some 56, (Op.move (Operand.tmp 10)), 3, some (55, true)⟩,
    ⟨some 57, (Op.call ⟨(Callee.value (Operand.func 122)), #[(Operand.tmp 8), (Operand.tmp 56)], #[157, 3]⟩), 4, some (55, true)⟩,
    ⟨some 58, (Op.unOp UnOp.not 4 (Operand.tmp 57)), 4, some (55, true)⟩,
    ⟨some 59, (Op.pick (Operand.tmp 55) (Operand.tmp 58) (Operand.const (Value.bool false))), 4, none⟩]) (.cond (Operand.tmp 59) (.ops [⟨some 60, (Op.move (Operand.tmp 10)), 3, none⟩,
    ⟨some 61, (Op.call ⟨(Callee.value (Operand.func 120)), #[(Operand.tmp 8), (Operand.tmp 60)], #[157, 3]⟩), 0, none⟩]) .skip)))) (.ops [⟨some 62, (Op.binOp BinOp.add 3 (Operand.tmp 42) (Operand.const (Value.int IntKind.i64 1)) 3), 3, none⟩,
    ⟨some 42, (Op.move (Operand.tmp 62)), 3, none⟩]))))
def c_hello_Take : SF := ⟨64, [(ResultVar.cell 6 38), (ResultVar.tmp 7)],
  (.seq (.ops [⟨some 3, (Op.box 38 (Operand.tmp 0)), 0, none⟩,
    ⟨some 6, (Op.alloc 38), 0, none⟩,
    ⟨some 7, (Op.assign (Operand.const (Value.int IntKind.i64 0))), 31, none⟩]) (.seq (.seq (.ops [⟨some 11, (Op.load 38 (Operand.tmp 3)), 38, none⟩,
    ⟨some 12, (Op.call ⟨(Callee.value (Operand.func 109)), #[(Operand.tmp 11)], #[38]⟩), 4, none⟩,
    ⟨some 13, (Op.unOp UnOp.not 4 (Operand.tmp 12)), 4, none⟩,
    ⟨some 14, (Op.move (Operand.tmp 13)), 4, none⟩,
    ⟨some 15, (Op.move (Operand.tmp 1)), 3, some (14, false)⟩,
    ⟨some 16, (Op.call ⟨(Callee.value (Operand.func 118)), #[(Operand.tmp 15)], #[3]⟩), 4, some (14, false)⟩,
    ⟨some 17, (Op.unOp UnOp.not 4 (Operand.tmp 16)), 4, some (14, false)⟩,
    ⟨some 18, (Op.pick (Operand.tmp 14) (Operand.const (Value.bool true)) (Operand.tmp 17)), 4, none⟩,
    ⟨some 19, (Op.move (Operand.tmp 18)), 4, none⟩,
    ⟨some 20, (Op.move (Operand.tmp 1)), 3, some (19, false)⟩,
    ⟨some 21, (Op.fieldAddr 38 (Operand.tmp 3) 0), 0, some (19, false)⟩,
    ⟨some 22, (Op.load 3 (Operand.tmp 21)), 3, some (19, false)⟩,
    ⟨some 23, (Op.binOp BinOp.eql 3 (Operand.tmp 20) (Operand.tmp 22) 3), 4, some (19, false)⟩,
    ⟨some 24, (Op.pick (Operand.tmp 19) (Operand.const (Value.bool true)) (Operand.tmp 23)), 4, none⟩,
    ⟨some 25, (Op.move (Operand.tmp 24)), 4, none⟩,
    ⟨some 26, (Op.move (Operand.tmp 2)), 36, some (25, false)⟩,
    ⟨some 27, (Op.call ⟨(Callee.builtin Builtin.len), #[(Operand.tmp 26)], #[36]⟩), 3, some (25, false)⟩,
    ⟨some 28, (Op.binOp BinOp.gtr 3 (Operand.tmp 27) (Operand.const (Value.int IntKind.i64 16)) 3), 4, some (25, false)⟩,
    ⟨some 29, (Op.pick (Operand.tmp 25) (Operand.const (Value.bool true)) (Operand.tmp 28)), 4, none⟩,
    ⟨some 30, (Op.move (Operand.tmp 29)), 4, none⟩,
    ⟨some 31, (Op.move (Operand.tmp 2)), 36, some (30, false)⟩,
    ⟨some 32, (Op.call ⟨(Callee.value (Operand.func 119)), #[(Operand.tmp 31)], #[36]⟩), 4, some (30, false)⟩,
    ⟨some 33, (Op.unOp UnOp.not 4 (Operand.tmp 32)), 4, some (30, false)⟩,
    ⟨some 34, (Op.pick (Operand.tmp 30) (Operand.const (Value.bool true)) (Operand.tmp 33)), 4, none⟩]) (.cond (Operand.tmp 34) (.seq (.ops [⟨some 35, (Op.build 38 #[]), 38, none⟩,
    ⟨none, (Op.store 38 (Operand.tmp 6) (Operand.tmp 35)), 0, none⟩,
    ⟨some 7, (Op.assign (Operand.const (Value.int IntKind.i64 1000))), 31, none⟩]) .ret) .skip)) (.seq (.ops [⟨some 36, (Op.load 38 (Operand.tmp 3)), 38, none⟩,
    ⟨some 37, (Op.call ⟨(Callee.value (Operand.func 110)), #[(Operand.tmp 36)], #[38]⟩), 38, none⟩,
    ⟨some 8, (Op.alloc 38), 0, none⟩,
    ⟨none, (Op.store 38 (Operand.tmp 8) (Operand.tmp 37)), 0, none⟩]) (.seq (.ops [⟨some 38, (Op.move (Operand.tmp 1)), 3, none⟩,
    ⟨some 39, (Op.call ⟨(Callee.value (Operand.func 120)), #[(Operand.tmp 8), (Operand.tmp 38)], #[157, 3]⟩), 0, none⟩]) (.seq (.seq (.ops [⟨some 40, (Op.move (Operand.tmp 2)), 36, none⟩,
    ⟨some 41, (Op.call ⟨(Callee.builtin Builtin.len), #[(Operand.tmp 40)], #[36]⟩), 3, none⟩,
    ⟨some 42, (Op.move (Operand.const (Value.int IntKind.i64 0))), 3, none⟩]) (.block 0 (.loop c_hello_Take_L0))) (.seq (.ops [⟨some 63, (Op.load 38 (Operand.tmp 8)), 38, none⟩,
    ⟨none, (Op.store 38 (Operand.tmp 6) (Operand.tmp 63)), 0, none⟩,
    ⟨some 7, (Op.assign (Operand.const (Value.int IntKind.i64 0))), 31, none⟩]) .ret))))))⟩
theorem is_hello_Take (c : Cfg) (h : c.lendT = [38, 60]) : isF PP c 41 c_hello_Take := isF_of (fn := Proofs.Tryz.f41) (by kernel_rfl) (by kernel_rfl) rfl h (by kernel_rfl) rfl rfl (by kernel_rfl)
def c_take_Item : SF := ⟨32, [(ResultVar.cell 4 42), (ResultVar.tmp 5)],
  (.seq (.ops [⟨some 2, (Op.box 42 (Operand.tmp 0)), 0, none⟩,
    ⟨some 3, (Op.box 46 (Operand.tmp 1)), 0, none⟩,
    ⟨some 4, (Op.alloc 42), 0, none⟩,
    ⟨some 5, (Op.assign (Operand.const (Value.int IntKind.i64 0))), 31, none⟩]) (.seq (.seq (.ops [⟨some 9, (Op.load 42 (Operand.tmp 2)), 42, none⟩,
    ⟨some 10, (Op.call ⟨(Callee.value (Operand.func 84)), #[(Operand.tmp 9)], #[42]⟩), 4, none⟩,
    ⟨some 11, (Op.unOp UnOp.not 4 (Operand.tmp 10)), 4, none⟩,
    ⟨some 12, (Op.move (Operand.tmp 11)), 4, none⟩,
    ⟨some 13, (Op.load 46 (Operand.tmp 3)), 46, some (12, false)⟩,
    ⟨some 14, (Op.call ⟨(Callee.value (Operand.func 123)), #[(Operand.tmp 13)], #[46]⟩), 4, some (12, false)⟩,
    ⟨some 15, (Op.unOp UnOp.not 4 (Operand.tmp 14)), 4, some (12, false)⟩,
    ⟨some 16, (Op.pick (Operand.tmp 12) (Operand.const (Value.bool true)) (Operand.tmp 15)), 4, none⟩]) (.cond (Operand.tmp 16) (.seq (.ops [⟨some 17, (Op.build 42 #[]), 42, none⟩,
    ⟨none, (Op.store 42 (Operand.tmp 4) (Operand.tmp 17)), 0, none⟩,
    ⟨some 5, (Op.assign (Operand.const (Value.int IntKind.i64 2000))), 31, none⟩]) .ret) .skip)) (.seq (.ops [⟨some 18, (Op.load 42 (Operand.tmp 2)), 42, none⟩,
    ⟨some 19, (Op.call ⟨(Callee.value (Operand.func 86)), #[(Operand.tmp 18)], #[42]⟩), 42, none⟩,
    ⟨some 6, (Op.alloc 42), 0, none⟩,
    ⟨none, (Op.store 42 (Operand.tmp 6) (Operand.tmp 19)), 0, none⟩]) (.seq (.seq (.ops [⟨some 21, (Op.fieldAddr 42 (Operand.tmp 2) 2), 0, none⟩,
    ⟨some 22, (Op.load 39 (Operand.tmp 21)), 39, none⟩,
    ⟨some 23, (Op.load 46 (Operand.tmp 3)), 46, none⟩,
    ⟨some 24, (Op.call ⟨(Callee.value (Operand.func 43)), #[(Operand.tmp 22), (Operand.tmp 23)], #[39, 46]⟩), 93, none⟩,
    ⟨some 20, (Op.move (Operand.tmp 24)), 93, none⟩,
    ⟨some 25, (Op.extract (Operand.tmp 20) 0), 39, none⟩,
    ⟨some 26, (Op.extract (Operand.tmp 20) 1), 31, none⟩,
    ⟨some 7, (Op.assign (Operand.tmp 25)), 39, none⟩,
    ⟨some 8, (Op.assign (Operand.tmp 26)), 31, none⟩]) (.seq (.ops [⟨some 27, (Op.move (Operand.tmp 8)), 31, none⟩,
    ⟨some 28, (Op.binOp BinOp.eql 31 (Operand.tmp 27) (Operand.const (Value.int IntKind.i64 0)) 31), 4, none⟩]) (.cond (Operand.tmp 28) (.ops [⟨some 29, (Op.move (Operand.tmp 7)), 39, none⟩,
    ⟨some 30, (Op.fieldAddr 42 (Operand.tmp 6) 2), 0, none⟩,
    ⟨none, (Op.store 39 (Operand.tmp 30) (Operand.tmp 29)), 0, none⟩]) .skip))) (.seq (.ops [⟨some 31, (Op.load 42 (Operand.tmp 6)), 42, none⟩,
    ⟨none, (Op.store 42 (Operand.tmp 4) (Operand.tmp 31)), 0, none⟩,
    ⟨some 5, (Op.assign (Operand.const (Value.int IntKind.i64 0))), 31, none⟩]) .ret)))))⟩
theorem is_take_Item (c : Cfg) (h : c.lendT = []) : isF PP c 42 c_take_Item := isF_of (fn := Proofs.Tryz.f42) (by kernel_rfl) (by kernel_rfl) rfl h (by kernel_rfl) rfl rfl (by kernel_rfl)
def c_store_Put : SF := ⟨50, [(ResultVar.tmp 4), (ResultVar.tmp 5)],
  (.seq (.ops [⟨some 3, (Op.box 46 (Operand.tmp 1)), 0, none⟩,
    ⟨some 4, (Op.assign (Operand.const (Value.slice none 0 0))), 39, none⟩,
    ⟨some 5, (Op.assign (Operand.const (Value.int IntKind.i64 0))), 31, none⟩]) (.seq (.seq (.ops [⟨some 9, (Op.move (Operand.tmp 0)), 39, none⟩,
    ⟨some 10, (Op.call ⟨(Callee.value (Operand.func 115)), #[(Operand.tmp 9)], #[39]⟩), 4, none⟩,
    ⟨some 11, (Op.unOp UnOp.not 4 (Operand.tmp 10)), 4, none⟩,
    ⟨some 12, (Op.move (Operand.tmp 11)), 4, none⟩,
    ⟨some 13, (Op.load 46 (Operand.tmp 3)), 46, some (12, false)⟩,
    ⟨some 14, (Op.call ⟨(Callee.value (Operand.func 123)), #[(Operand.tmp 13)], #[46]⟩), 4, some (12, false)⟩,
    ⟨some 15, (Op.unOp UnOp.not 4 (Operand.tmp 14)), 4, some (12, false)⟩,
    ⟨some 16, (Op.pick (Operand.tmp 12) (Operand.const (Value.bool true)) (Operand.tmp 15)), 4, none⟩]) (.cond (Operand.tmp 16) (.seq (.ops [⟨some 4, (Op.assign (Operand.const (Value.slice none 0 0))), 39, none⟩,
    ⟨some 5, (Op.assign (Operand.const (Value.int IntKind.i64 500))), 31, none⟩]) .ret) .skip)) (.seq (.ops [⟨some 17, (Op.move (Operand.tmp 0)), 39, none⟩,
    ⟨some 18, (Op.call ⟨(Callee.value (Operand.func 124)), #[(Operand.tmp 17)], #[39]⟩), 39, none⟩,
    ⟨some 6, (Op.assign (Operand.tmp 18)), 39, none⟩]) (.seq (.ops [⟨some 20, (Op.move (Operand.tmp 6)), 39, none⟩,
    ⟨some 21, (Op.fieldAddr 46 (Operand.tmp 3) 0), 0, none⟩,
    ⟨some 22, (Op.load 3 (Operand.tmp 21)), 3, none⟩,
    ⟨some 23, (Op.call ⟨(Callee.value (Operand.func 125)), #[(Operand.tmp 20), (Operand.tmp 22), (Operand.func 126)], #[39, 3, 170]⟩), 129, none⟩,
    ⟨some 19, (Op.move (Operand.tmp 23)), 129, none⟩,
    ⟨some 24, (Op.extract (Operand.tmp 19) 0), 3, none⟩,
    ⟨some 25, (Op.extract (Operand.tmp 19) 1), 4, none⟩,
    ⟨some 7, (Op.assign (Operand.tmp 24)), 3, none⟩,
    ⟨some 8, (Op.assign (Operand.tmp 25)), 4, none⟩]) (.seq (.block 0 (.seq (.ops [⟨some 32, (Op.move (Operand.tmp 8)), 4, none⟩,
    ⟨some 31, (Op.assign (Operand.tmp 32)), 4, none⟩]) (.cond (Operand.tmp 31) (.ops [⟨some 34, (Op.move (Operand.tmp 6)), 39, none⟩,
    ⟨some 35, (Op.move (Operand.tmp 7)), 3, none⟩,
    ⟨some 36, (Op.move (Operand.tmp 6)), 39, none⟩,
    ⟨some 37, (Op.move (Operand.tmp 7)), 3, none⟩,
    ⟨some 38, (Op.indexAddr 39 (Operand.tmp 36) (Operand.tmp 37)), 0, none⟩,
    ⟨some 39, (Op.load 46 (Operand.tmp 38)), 46, none⟩,
    ⟨some 40, (Op.load 46 (Operand.tmp 3)), 46, none⟩,
    ⟨some 41, (Op.call ⟨(Callee.value (Operand.func 127)), #[(Operand.tmp 39), (Operand.tmp 40)], #[46, 46]⟩), 171, none⟩,
    ⟨some 33, (Op.move (Operand.tmp 41)), 171, none⟩,
    ⟨some 42, (Op.extract (Operand.tmp 33) 0), 46, none⟩,
    ⟨some 43, (Op.extract (Operand.tmp 33) 1), 31, none⟩,
    ⟨some 44, (Op.indexAddr 39 (Operand.tmp 34) (Operand.tmp 35)), 0, none⟩,
    ⟨none, (Op.store 46 (Operand.tmp 44) (Operand.tmp 42)), 0, none⟩]) (.seq (.ops [⟨some 46, (Op.move (Operand.tmp 6)), 39, none⟩,
    ⟨some 47, (Op.call ⟨(Callee.builtin Builtin.len), #[(Operand.tmp 46)], #[39]⟩), 3, none⟩,
    ⟨some 48, (Op.binOp BinOp.eql 3 (Operand.tmp 47) (Operand.const (Value.int IntKind.i64 16)) 3), 4, none⟩,
    ⟨some 45, (Op.assign (Operand.tmp 48)), 4, none⟩]) (.cond (Operand.tmp 45) (.seq (.ops [⟨some 4, (Op.assign (Operand.const (Value.slice none 0 0))), 39, none⟩,
    ⟨some 5, (Op.assign (Operand.const (Value.int IntKind.i64 501))), 31, none⟩]) .ret) (.ops [⟨some 26, (Op.move (Operand.tmp 6)), 39, none⟩,
    ⟨some 27, (Op.move (Operand.tmp 7)), 3, none⟩,
    ⟨some 28, (Op.load 46 (Operand.tmp 3)), 46, none⟩,
    ⟨some 29, (Op.buildSlice 39 1 #[(0, (Operand.tmp 28))]), 39, none⟩,
    ⟨some 30, (Op.call ⟨(Callee.value (Operand.func 128)), #[(Operand.tmp 26), (Operand.tmp 27), (Operand.tmp 29)], #[39, 3, 39]⟩), 39, none⟩,
    ⟨some 6, (Op.assign (Operand.tmp 30)), 39, none⟩])))))) (.seq (.ops [⟨some 49, (Op.move (Operand.tmp 6)), 39, none⟩,
    ⟨some 4, (Op.assign (Operand.tmp 49)), 39, none⟩,
    ⟨some 5, (Op.assign (Operand.const (Value.int IntKind.i64 0))), 31, none⟩]) .ret))))))⟩
theorem is_store_Put (c : Cfg) (h : c.lendT = [26]) : isF PP c 43 c_store_Put := isF_of (fn := Proofs.Tryz.f43) (by kernel_rfl) (by kernel_rfl) rfl h (by kernel_rfl) rfl rfl (by kernel_rfl)
def c_gimmallaw0_SameItems_L0 : SC := (.seq (.seq (.ops [⟨some 11, (Op.move (Operand.tmp 5)), 3, none⟩,
    ⟨some 12, (Op.move (Operand.tmp 0)), 39, none⟩,
    ⟨some 13, (Op.call ⟨(Callee.builtin Builtin.len), #[(Operand.tmp 12)], #[39]⟩), 3, none⟩,
    ⟨some 14, (Op.binOp BinOp.lss 3 (Operand.tmp 11) (Operand.tmp 13) 3), 4, none⟩]) (.cond (Operand.tmp 14) .skip (.exit 0))) (.seq (.block 1 (.seq (.ops [⟨some 17, (Op.move (Operand.tmp 0)), 39, none⟩,
    ⟨some 18, (Op.move (Operand.tmp 5)), 3, none⟩,
    ⟨some 21, (Op.move (Operand.tmp 1)), 39, none⟩,
    ⟨some 22, (Op.move (Operand.tmp 5)), 3, none⟩,
    ⟨some 19, (Op.indexAddr 39 (Operand.tmp 17) (Operand.tmp 18)), 0, none⟩,
    ⟨some 20, (Op.load 46 (Operand.tmp 19)), 46, none⟩,
    ⟨some 23, (Op.indexAddr 39 (Operand.tmp 21) (Operand.tmp 22)), 0, none⟩,
    ⟨some 24, (Op.load 46 (Operand.tmp 23)), 46, none⟩,
    ⟨some 25, (Op.binOp BinOp.neq 46 (Operand.tmp 20) (Operand.tmp 24) 46), 4, none⟩]) (.cond (Operand.tmp 25) (.seq (.ops [⟨some 4, (Op.assign (Operand.const (Value.bool false))), 4, none⟩]) .ret) .skip))) (.ops [⟨some 15, (Op.move (Operand.tmp 5)), 3, none⟩,
    ⟨some 16, (Op.binOp BinOp.add 3 (Operand.tmp 15) (Operand.const (Value.int IntKind.i64 1)) 3), 3, none⟩,
    ⟨some 5, (Op.assign (Operand.tmp 16)), 3, none⟩])))
def c_gimmallaw0_SameItems : SF := ⟨26, [(ResultVar.tmp 4)],
  (.seq (.ops [⟨some 4, (Op.assign (Operand.const (Value.bool false))), 4, none⟩]) (.seq (.seq (.ops [⟨some 6, (Op.move (Operand.tmp 0)), 39, none⟩,
    ⟨some 7, (Op.call ⟨(Callee.builtin Builtin.len), #[(Operand.tmp 6)], #[39]⟩), 3, none⟩,
    ⟨some 8, (Op.move (Operand.tmp 1)), 39, none⟩,
    ⟨some 9, (Op.call ⟨(Callee.builtin Builtin.len), #[(Operand.tmp 8)], #[39]⟩), 3, none⟩,
    ⟨some 10, (Op.binOp BinOp.neq 3 (Operand.tmp 7) (Operand.tmp 9) 3), 4, none⟩]) (.cond (Operand.tmp 10) (.seq (.ops [⟨some 4, (Op.assign (Operand.const (Value.bool false))), 4, none⟩]) .ret) .skip)) (.seq (.seq (.ops [⟨some 5, (Op.assign (Operand.const (Value.int IntKind.i64 0))), 3, none⟩]) (.block 0 (.loop c_gimmallaw0_SameItems_L0))) (.seq (.ops [⟨some 4, (Op.assign (Operand.const (Value.bool true))), 4, none⟩]) .ret))))⟩
theorem is_gimmallaw0_SameItems (c : Cfg) (h : c.lendT = []) : isF PP c 44 c_gimmallaw0_SameItems := isF_of (fn := Proofs.Tryz.f44) (by kernel_rfl) (by kernel_rfl) rfl h (by kernel_rfl) rfl rfl (by kernel_rfl)
def c_ask_Answer : SF := ⟨29, [(ResultVar.tmp 4), (ResultVar.tmp 5)],
  (.seq (.ops [⟨some 2, (Op.box 42 (Operand.tmp 0)), 0, none⟩,
    ⟨some 3, (Op.box 68 (Operand.tmp 1)), 0, none⟩,
    ⟨some 4, (Op.assign (Operand.const (Value.slice none 0 0))), 24, none⟩,
    ⟨some 5, (Op.assign (Operand.const (Value.int IntKind.i64 0))), 31, none⟩]) (.seq (.seq (.ops [⟨some 8, (Op.call ⟨(Callee.value (Operand.func 129)), #[(Operand.tmp 2), (Operand.tmp 3), (Operand.const (Value.int IntKind.i64 2))], #[175, 176, 3]⟩), 4, none⟩,
    ⟨some 9, (Op.unOp UnOp.not 4 (Operand.tmp 8)), 4, none⟩]) (.cond (Operand.tmp 9) (.seq (.ops [⟨some 4, (Op.assign (Operand.const (Value.slice none 0 0))), 24, none⟩,
    ⟨some 5, (Op.assign (Operand.const (Value.int IntKind.i64 2100))), 31, none⟩]) .ret) .skip)) (.seq (.ops [⟨some 11, (Op.fieldAddr 42 (Operand.tmp 2) 2), 0, none⟩,
    ⟨some 12, (Op.load 39 (Operand.tmp 11)), 39, none⟩,
    ⟨some 13, (Op.fieldAddr 68 (Operand.tmp 3) 4), 0, none⟩,
    ⟨some 14, (Op.load 3 (Operand.tmp 13)), 3, none⟩,
    ⟨some 15, (Op.call ⟨(Callee.value (Operand.func 130)), #[(Operand.tmp 12), (Operand.tmp 14)], #[39, 3]⟩), 52, none⟩,
    ⟨some 10, (Op.move (Operand.tmp 15)), 52, none⟩,
    ⟨some 16, (Op.extract (Operand.tmp 10) 0), 46, none⟩,
    ⟨some 17, (Op.extract (Operand.tmp 10) 1), 4, none⟩,
    ⟨some 6, (Op.alloc 46), 0, none⟩,
    ⟨none, (Op.store 46 (Operand.tmp 6) (Operand.tmp 16)), 0, none⟩,
    ⟨some 7, (Op.assign (Operand.tmp 17)), 4, none⟩]) (.seq (.ops [⟨some 18, (Op.fieldAddr 42 (Operand.tmp 2) 1), 0, none⟩,
    ⟨some 19, (Op.fieldAddr 38 (Operand.tmp 18) 0), 0, none⟩,
    ⟨some 20, (Op.load 3 (Operand.tmp 19)), 3, none⟩,
    ⟨some 21, (Op.fieldAddr 68 (Operand.tmp 3) 1), 0, none⟩,
    ⟨some 22, (Op.load 3 (Operand.tmp 21)), 3, none⟩,
    ⟨some 23, (Op.fieldAddr 68 (Operand.tmp 3) 4), 0, none⟩,
    ⟨some 24, (Op.load 3 (Operand.tmp 23)), 3, none⟩,
    ⟨some 25, (Op.load 46 (Operand.tmp 6)), 46, none⟩,
    ⟨some 26, (Op.move (Operand.tmp 7)), 4, none⟩,
    ⟨some 27, (Op.build 68 #[(0, (Operand.const (Value.int IntKind.i64 3))), (1, (Operand.tmp 20)), (2, (Operand.tmp 22)), (4, (Operand.tmp 24)), (5, (Operand.tmp 25)), (6, (Operand.tmp 26))]), 68, none⟩,
    ⟨some 28, (Op.buildSlice 24 1 #[(0, (Operand.tmp 27))]), 24, none⟩,
    ⟨some 4, (Op.assign (Operand.tmp 28)), 24, none⟩,
    ⟨some 5, (Op.assign (Operand.const (Value.int IntKind.i64 0))), 31, none⟩]) .ret))))⟩
theorem is_ask_Answer (c : Cfg) (h : c.lendT = []) : isF PP c 45 c_ask_Answer := isF_of (fn := Proofs.Tryz.f45) (by kernel_rfl) (by kernel_rfl) rfl h (by kernel_rfl) rfl rfl (by kernel_rfl)
def c_ask_Told : SF := ⟨17, [(ResultVar.cell 4 42), (ResultVar.tmp 5)],
  (.seq (.ops [⟨some 2, (Op.box 42 (Operand.tmp 0)), 0, none⟩,
    ⟨some 3, (Op.box 68 (Operand.tmp 1)), 0, none⟩,
    ⟨some 4, (Op.alloc 42), 0, none⟩,
    ⟨some 5, (Op.assign (Operand.const (Value.int IntKind.i64 0))), 31, none⟩]) (.seq (.seq (.ops [⟨some 6, (Op.call ⟨(Callee.value (Operand.func 129)), #[(Operand.tmp 2), (Operand.tmp 3), (Operand.const (Value.int IntKind.i64 3))], #[175, 176, 3]⟩), 4, none⟩,
    ⟨some 7, (Op.unOp UnOp.not 4 (Operand.tmp 6)), 4, none⟩]) (.cond (Operand.tmp 7) (.seq (.ops [⟨some 8, (Op.build 42 #[]), 42, none⟩,
    ⟨none, (Op.store 42 (Operand.tmp 4) (Operand.tmp 8)), 0, none⟩,
    ⟨some 5, (Op.assign (Operand.const (Value.int IntKind.i64 2100))), 31, none⟩]) .ret) .skip)) (.seq (.ops [⟨some 9, (Op.load 42 (Operand.tmp 2)), 42, none⟩,
    ⟨some 10, (Op.fieldAddr 68 (Operand.tmp 3) 4), 0, none⟩,
    ⟨some 11, (Op.load 3 (Operand.tmp 10)), 3, none⟩,
    ⟨some 12, (Op.fieldAddr 68 (Operand.tmp 3) 5), 0, none⟩,
    ⟨some 13, (Op.load 46 (Operand.tmp 12)), 46, none⟩,
    ⟨some 14, (Op.fieldAddr 68 (Operand.tmp 3) 6), 0, none⟩,
    ⟨some 15, (Op.load 4 (Operand.tmp 14)), 4, none⟩,
    ⟨some 16, (Op.call ⟨(Callee.value (Operand.func 131)), #[(Operand.tmp 9), (Operand.tmp 11), (Operand.tmp 13), (Operand.tmp 15)], #[42, 3, 46, 4]⟩), 42, none⟩,
    ⟨none, (Op.store 42 (Operand.tmp 4) (Operand.tmp 16)), 0, none⟩,
    ⟨some 5, (Op.assign (Operand.const (Value.int IntKind.i64 0))), 31, none⟩]) .ret)))⟩
theorem is_ask_Told (c : Cfg) (h : c.lendT = []) : isF PP c 46 c_ask_Told := isF_of (fn := Proofs.Tryz.f46) (by kernel_rfl) (by kernel_rfl) rfl h (by kernel_rfl) rfl rfl (by kernel_rfl)
end Go.AM
/- AM: this seat's functions in short. -/
namespace Go.AM
set_option linter.unusedSimpArgs false
set_option linter.unusedVariables false
def c_slices_ContainsFunc_int_int : SF := ⟨9, [(ResultVar.tmp 4)],
  (.seq (.ops [⟨some 4, (Op.assign (Operand.const (Value.bool false))), 4, none⟩]) (.seq (.ops [⟨some 5, (Op.move (Operand.tmp 0)), 36, none⟩,
    ⟨some 6, (Op.move (Operand.tmp 1)), 106, none⟩,
    ⟨some 7, (Op.call ⟨(Callee.value (Operand.func 165)), #[(Operand.tmp 5), (Operand.tmp 6)], #[36, 106]⟩), 3, none⟩,
    ⟨some 8, (Op.binOp BinOp.geq 3 (Operand.tmp 7) (Operand.const (Value.int IntKind.i64 0)) 3), 4, none⟩,
    ⟨some 4, (Op.assign (Operand.tmp 8)), 4, none⟩]) .ret))⟩
theorem is_slices_ContainsFunc_int_int (c : Cfg) (h : c.lendT = []) : isF PP c 79 c_slices_ContainsFunc_int_int := isF_of (fn := Proofs.Tryz.f79) (by kernel_rfl) (by kernel_rfl) rfl h (by kernel_rfl) rfl rfl (by kernel_rfl)
def c_gimmallaw0_CopyView : SF := ⟨14, [(ResultVar.cell 2 38)],
  (.seq (.ops [⟨some 1, (Op.box 38 (Operand.tmp 0)), 0, none⟩,
    ⟨some 2, (Op.alloc 38), 0, none⟩]) (.seq (.ops [⟨some 3, (Op.buildSlice 35 0 #[]), 35, none⟩,
    ⟨some 4, (Op.fieldAddr 38 (Operand.tmp 1) 1), 0, none⟩,
    ⟨some 5, (Op.load 35 (Operand.tmp 4)), 35, none⟩,
    ⟨some 6, (Op.call ⟨(Callee.builtin Builtin.append), #[(Operand.tmp 3), (Operand.tmp 5)], #[35, 35]⟩), 35, none⟩,
    ⟨some 7, (Op.fieldAddr 38 (Operand.tmp 1) 1), 0, none⟩,
    ⟨none, (Op.store 35 (Operand.tmp 7) (Operand.tmp 6)), 0, none⟩]) (.seq (.ops [⟨some 8, (Op.buildSlice 36 0 #[]), 36, none⟩,
    ⟨some 9, (Op.fieldAddr 38 (Operand.tmp 1) 2), 0, none⟩,
    ⟨some 10, (Op.load 36 (Operand.tmp 9)), 36, none⟩,
    ⟨some 11, (Op.call ⟨(Callee.builtin Builtin.append), #[(Operand.tmp 8), (Operand.tmp 10)], #[36, 36]⟩), 36, none⟩,
    ⟨some 12, (Op.fieldAddr 38 (Operand.tmp 1) 2), 0, none⟩,
    ⟨none, (Op.store 36 (Operand.tmp 12) (Operand.tmp 11)), 0, none⟩]) (.seq (.ops [⟨some 13, (Op.load 38 (Operand.tmp 1)), 38, none⟩,
    ⟨none, (Op.store 38 (Operand.tmp 2) (Operand.tmp 13)), 0, none⟩]) .ret))))⟩
theorem is_gimmallaw0_CopyView (c : Cfg) (h : c.lendT = []) : isF PP c 83 c_gimmallaw0_CopyView := isF_of (fn := Proofs.Tryz.f83) (by kernel_rfl) (by kernel_rfl) rfl h (by kernel_rfl) rfl rfl (by kernel_rfl)
def c_node_Up : SF := ⟨9, [(ResultVar.tmp 2)],
  (.seq (.ops [⟨some 1, (Op.box 42 (Operand.tmp 0)), 0, none⟩,
    ⟨some 2, (Op.assign (Operand.const (Value.bool false))), 4, none⟩]) (.seq (.ops [⟨some 3, (Op.fieldAddr 42 (Operand.tmp 1) 0), 0, none⟩,
    ⟨some 4, (Op.load 4 (Operand.tmp 3)), 4, none⟩,
    ⟨some 5, (Op.move (Operand.tmp 4)), 4, none⟩,
    ⟨some 6, (Op.load 42 (Operand.tmp 1)), 42, some (5, true)⟩,
    ⟨some 7, (Op.call ⟨(Callee.value (Operand.func 40)), #[(Operand.tmp 6)], #[42]⟩), 4, some (5, true)⟩,
    ⟨some 8, (Op.pick (Operand.tmp 5) (Operand.tmp 7) (Operand.const (Value.bool false))), 4, none⟩,
    ⟨some 2, (Op.assign (Operand.tmp 8)), 4, none⟩]) .ret))⟩
theorem is_node_Up (c : Cfg) (h : c.lendT = []) : isF PP c 84 c_node_Up := isF_of (fn := Proofs.Tryz.f84) (by kernel_rfl) (by kernel_rfl) rfl h (by kernel_rfl) rfl rfl (by kernel_rfl)
def c_msg_May : SF := ⟨94, [(ResultVar.tmp 2)],
  (.seq (.ops [⟨some 1, (Op.box 68 (Operand.tmp 0)), 0, none⟩,
    ⟨some 2, (Op.assign (Operand.const (Value.bool false))), 4, none⟩]) (.seq (.seq (.ops [⟨some 4, (Op.fieldAddr 68 (Operand.tmp 1) 1), 0, none⟩,
    ⟨some 5, (Op.load 3 (Operand.tmp 4)), 3, none⟩,
    ⟨some 6, (Op.call ⟨(Callee.value (Operand.func 118)), #[(Operand.tmp 5)], #[3]⟩), 4, none⟩,
    ⟨some 7, (Op.unOp UnOp.not 4 (Operand.tmp 6)), 4, none⟩,
    ⟨some 8, (Op.move (Operand.tmp 7)), 4, none⟩,
    ⟨some 9, (Op.fieldAddr 68 (Operand.tmp 1) 2), 0, some (8, false)⟩,
    ⟨some 10, (Op.load 3 (Operand.tmp 9)), 3, some (8, false)⟩,
    ⟨some 11, (Op.call ⟨(Callee.value (Operand.func 118)), #[(Operand.tmp 10)], #[3]⟩), 4, some (8, false)⟩,
    ⟨some 12, (Op.unOp UnOp.not 4 (Operand.tmp 11)), 4, some (8, false)⟩,
    ⟨some 13, (Op.pick (Operand.tmp 8) (Operand.const (Value.bool true)) (Operand.tmp 12)), 4, none⟩,
    ⟨some 14, (Op.move (Operand.tmp 13)), 4, none⟩,
    ⟨some 15, (Op.fieldAddr 68 (Operand.tmp 1) 1), 0, some (14, false)⟩,
    ⟨some 16, (Op.load 3 (Operand.tmp 15)), 3, some (14, false)⟩,
    ⟨some 17, (Op.fieldAddr 68 (Operand.tmp 1) 2), 0, some (14, false)⟩,
    ⟨some 18, (Op.load 3 (Operand.tmp 17)), 3, some (14, false)⟩,
    ⟨some 19, (Op.binOp BinOp.eql 3 (Operand.tmp 16) (Operand.tmp 18) 3), 4, some (14, false)⟩,
    ⟨some 20, (Op.pick (Operand.tmp 14) (Operand.const (Value.bool true)) (Operand.tmp 19)), 4, none⟩]) (.cond (Operand.tmp 20) (.seq (.ops [⟨some 2, (Op.assign (Operand.const (Value.bool false))), 4, none⟩]) .ret) .skip)) (.seq (.ops [⟨some 21, (Op.load 68 (Operand.tmp 1)), 68, none⟩,
    ⟨some 3, (Op.alloc 68), 0, none⟩,
    ⟨none, (Op.store 68 (Operand.tmp 3) (Operand.tmp 21)), 0, none⟩]) (.seq (.seq (.ops [⟨some 22, (Op.fieldAddr 68 (Operand.tmp 1) 0), 0, none⟩,
    ⟨some 23, (Op.load 3 (Operand.tmp 22)), 3, none⟩]) (.block 0 (.seq (.ops [⟨some 25, (Op.binOp BinOp.eql 3 (Operand.tmp 23) (Operand.const (Value.int IntKind.i64 0)) 3), 4, none⟩,
    ⟨some 24, (Op.assign (Operand.tmp 25)), 4, none⟩]) (.cond (Operand.tmp 24) (.seq (.ops [⟨some 26, (Op.fieldAddr 68 (Operand.tmp 3) 3), 0, none⟩,
    ⟨none, (Op.store 36 (Operand.tmp 26) (Operand.const (Value.slice none 0 0))), 0, none⟩]) (.seq (.ops [⟨some 27, (Op.load 68 (Operand.tmp 3)), 68, none⟩,
    ⟨some 28, (Op.call ⟨(Callee.value (Operand.func 169)), #[(Operand.tmp 27)], #[68]⟩), 4, none⟩,
    ⟨some 29, (Op.move (Operand.tmp 28)), 4, none⟩,
    ⟨some 30, (Op.fieldAddr 68 (Operand.tmp 1) 3), 0, some (29, true)⟩,
    ⟨some 31, (Op.load 36 (Operand.tmp 30)), 36, some (29, true)⟩,
    ⟨some 32, (Op.call ⟨(Callee.builtin Builtin.len), #[(Operand.tmp 31)], #[36]⟩), 3, some (29, true)⟩,
    ⟨some 33, (Op.binOp BinOp.leq 3 (Operand.tmp 32) (Operand.const (Value.int IntKind.i64 16)) 3), 4, some (29, true)⟩,
    ⟨some 34, (Op.pick (Operand.tmp 29) (Operand.tmp 33) (Operand.const (Value.bool false))), 4, none⟩,
    ⟨some 35, (Op.move (Operand.tmp 34)), 4, none⟩,
    ⟨some 36, (Op.fieldAddr 68 (Operand.tmp 1) 3), 0, some (35, true)⟩,
    ⟨some 37, (Op.load 36 (Operand.tmp 36)), 36, some (35, true)⟩,
    ⟨some 38, (Op.call ⟨(Callee.value (Operand.func 119)), #[(Operand.tmp 37)], #[36]⟩), 4, some (35, true)⟩,
    ⟨some 39, (Op.pick (Operand.tmp 35) (Operand.tmp 38) (Operand.const (Value.bool false))), 4, none⟩,
    ⟨some 2, (Op.assign (Operand.tmp 39)), 4, none⟩]) .ret)) (.seq (.ops [⟨some 41, (Op.binOp BinOp.eql 3 (Operand.tmp 23) (Operand.const (Value.int IntKind.i64 1)) 3), 4, none⟩,
    ⟨some 40, (Op.assign (Operand.tmp 41)), 4, none⟩]) (.cond (Operand.tmp 40) (.seq (.ops [⟨some 42, (Op.build 46 #[]), 46, none⟩,
    ⟨some 43, (Op.fieldAddr 68 (Operand.tmp 3) 5), 0, none⟩,
    ⟨none, (Op.store 46 (Operand.tmp 43) (Operand.tmp 42)), 0, none⟩]) (.seq (.ops [⟨some 44, (Op.load 68 (Operand.tmp 3)), 68, none⟩,
    ⟨some 45, (Op.call ⟨(Callee.value (Operand.func 169)), #[(Operand.tmp 44)], #[68]⟩), 4, none⟩,
    ⟨some 46, (Op.move (Operand.tmp 45)), 4, none⟩,
    ⟨some 47, (Op.fieldAddr 68 (Operand.tmp 1) 5), 0, some (46, true)⟩,
    ⟨some 48, (Op.load 46 (Operand.tmp 47)), 46, some (46, true)⟩,
    ⟨some 49, (Op.call ⟨(Callee.value (Operand.func 123)), #[(Operand.tmp 48)], #[46]⟩), 4, some (46, true)⟩,
    ⟨some 50, (Op.pick (Operand.tmp 46) (Operand.tmp 49) (Operand.const (Value.bool false))), 4, none⟩,
    ⟨some 2, (Op.assign (Operand.tmp 50)), 4, none⟩]) .ret)) (.seq (.ops [⟨some 52, (Op.binOp BinOp.eql 3 (Operand.tmp 23) (Operand.const (Value.int IntKind.i64 2)) 3), 4, none⟩,
    ⟨some 51, (Op.assign (Operand.tmp 52)), 4, none⟩]) (.cond (Operand.tmp 51) (.seq (.ops [⟨some 53, (Op.fieldAddr 68 (Operand.tmp 3) 4), 0, none⟩,
    ⟨none, (Op.store 3 (Operand.tmp 53) (Operand.const (Value.int IntKind.i64 0))), 0, none⟩]) (.seq (.ops [⟨some 54, (Op.load 68 (Operand.tmp 3)), 68, none⟩,
    ⟨some 55, (Op.call ⟨(Callee.value (Operand.func 169)), #[(Operand.tmp 54)], #[68]⟩), 4, none⟩,
    ⟨some 56, (Op.move (Operand.tmp 55)), 4, none⟩,
    ⟨some 57, (Op.fieldAddr 68 (Operand.tmp 1) 4), 0, some (56, true)⟩,
    ⟨some 58, (Op.load 3 (Operand.tmp 57)), 3, some (56, true)⟩,
    ⟨some 59, (Op.call ⟨(Callee.value (Operand.func 118)), #[(Operand.tmp 58)], #[3]⟩), 4, some (56, true)⟩,
    ⟨some 60, (Op.pick (Operand.tmp 56) (Operand.tmp 59) (Operand.const (Value.bool false))), 4, none⟩,
    ⟨some 2, (Op.assign (Operand.tmp 60)), 4, none⟩]) .ret)) (.seq (.ops [⟨some 62, (Op.binOp BinOp.eql 3 (Operand.tmp 23) (Operand.const (Value.int IntKind.i64 3)) 3), 4, none⟩,
    ⟨some 61, (Op.assign (Operand.tmp 62)), 4, none⟩]) (.cond (Operand.tmp 61) (.seq (.seq (.ops [⟨some 63, (Op.fieldAddr 68 (Operand.tmp 3) 4), 0, none⟩,
    ⟨none, (Op.store 3 (Operand.tmp 63) (Operand.const (Value.int IntKind.i64 0))), 0, none⟩,
    ⟨some 64, (Op.fieldAddr 68 (Operand.tmp 3) 6), 0, none⟩,
    ⟨none, (Op.store 4 (Operand.tmp 64) (Operand.const (Value.bool false))), 0, none⟩]) (.seq (.ops [⟨some 65, (Op.fieldAddr 68 (Operand.tmp 1) 6), 0, none⟩,
    ⟨some 66, (Op.load 4 (Operand.tmp 65)), 4, none⟩]) (.cond (Operand.tmp 66) (.ops [⟨some 67, (Op.build 46 #[]), 46, none⟩,
    ⟨some 68, (Op.fieldAddr 68 (Operand.tmp 3) 5), 0, none⟩,
    ⟨none, (Op.store 46 (Operand.tmp 68) (Operand.tmp 67)), 0, none⟩]) .skip))) (.seq (.ops [⟨some 69, (Op.load 68 (Operand.tmp 3)), 68, none⟩,
    ⟨some 70, (Op.call ⟨(Callee.value (Operand.func 169)), #[(Operand.tmp 69)], #[68]⟩), 4, none⟩,
    ⟨some 71, (Op.move (Operand.tmp 70)), 4, none⟩,
    ⟨some 72, (Op.fieldAddr 68 (Operand.tmp 1) 4), 0, some (71, true)⟩,
    ⟨some 73, (Op.load 3 (Operand.tmp 72)), 3, some (71, true)⟩,
    ⟨some 74, (Op.call ⟨(Callee.value (Operand.func 118)), #[(Operand.tmp 73)], #[3]⟩), 4, some (71, true)⟩,
    ⟨some 75, (Op.pick (Operand.tmp 71) (Operand.tmp 74) (Operand.const (Value.bool false))), 4, none⟩,
    ⟨some 76, (Op.move (Operand.tmp 75)), 4, none⟩,
    ⟨some 77, (Op.fieldAddr 68 (Operand.tmp 1) 6), 0, some (76, true)⟩,
    ⟨some 78, (Op.load 4 (Operand.tmp 77)), 4, some (76, true)⟩,
    ⟨some 79, (Op.unOp UnOp.not 4 (Operand.tmp 78)), 4, some (76, true)⟩,
    ⟨some 80, (Op.move (Operand.tmp 79)), 4, some (76, true)⟩,
    ⟨some 81, (Op.fieldAddr 68 (Operand.tmp 1) 5), 0, some (80, false)⟩,
    ⟨some 82, (Op.load 46 (Operand.tmp 81)), 46, some (80, false)⟩,
    ⟨some 83, (Op.call ⟨(Callee.value (Operand.func 123)), #[(Operand.tmp 82)], #[46]⟩), 4, some (80, false)⟩,
    ⟨some 84, (Op.move (Operand.tmp 83)), 4, some (80, false)⟩,
    ⟨some 85, (Op.fieldAddr 68 (Operand.tmp 1) 5), 0, some (84, true)⟩,
    ⟨some 86, (Op.fieldAddr 46 (Operand.tmp 85) 0), 0, some (84, true)⟩,
    ⟨some 87, (Op.load 3 (Operand.tmp 86)), 3, some (84, true)⟩,
    ⟨some 88, (Op.fieldAddr 68 (Operand.tmp 1) 4), 0, some (84, true)⟩,
    ⟨some 89, (Op.load 3 (Operand.tmp 88)), 3, some (84, true)⟩,
    ⟨some 90, (Op.binOp BinOp.eql 3 (Operand.tmp 87) (Operand.tmp 89) 3), 4, some (84, true)⟩,
    ⟨some 91, (Op.pick (Operand.tmp 84) (Operand.tmp 90) (Operand.const (Value.bool false))), 4, some (80, false)⟩,
    ⟨some 92, (Op.pick (Operand.tmp 80) (Operand.const (Value.bool true)) (Operand.tmp 91)), 4, some (76, true)⟩,
    ⟨some 93, (Op.pick (Operand.tmp 76) (Operand.tmp 92) (Operand.const (Value.bool false))), 4, none⟩,
    ⟨some 2, (Op.assign (Operand.tmp 93)), 4, none⟩]) .ret)) .skip)))))))))) (.seq (.ops [⟨some 2, (Op.assign (Operand.const (Value.bool false))), 4, none⟩]) .ret)))))⟩
theorem is_msg_May (c : Cfg) (h : c.lendT = []) : isF PP c 85 c_msg_May := isF_of (fn := Proofs.Tryz.f85) (by kernel_rfl) (by kernel_rfl) rfl h (by kernel_rfl) rfl rfl (by kernel_rfl)
def c_node_Copy : SF := ⟨16, [(ResultVar.cell 2 42)],
  (.seq (.ops [⟨some 1, (Op.box 42 (Operand.tmp 0)), 0, none⟩,
    ⟨some 2, (Op.alloc 42), 0, none⟩]) (.seq (.ops [⟨some 3, (Op.fieldAddr 42 (Operand.tmp 1) 1), 0, none⟩,
    ⟨some 4, (Op.load 38 (Operand.tmp 3)), 38, none⟩,
    ⟨some 5, (Op.call ⟨(Callee.value (Operand.func 110)), #[(Operand.tmp 4)], #[38]⟩), 38, none⟩,
    ⟨some 6, (Op.fieldAddr 42 (Operand.tmp 1) 2), 0, none⟩,
    ⟨some 7, (Op.load 39 (Operand.tmp 6)), 39, none⟩,
    ⟨some 8, (Op.call ⟨(Callee.value (Operand.func 124)), #[(Operand.tmp 7)], #[39]⟩), 39, none⟩,
    ⟨some 9, (Op.fieldAddr 42 (Operand.tmp 1) 3), 0, none⟩,
    ⟨some 10, (Op.load 40 (Operand.tmp 9)), 40, none⟩,
    ⟨some 11, (Op.call ⟨(Callee.value (Operand.func 170)), #[(Operand.tmp 10)], #[40]⟩), 40, none⟩,
    ⟨some 12, (Op.fieldAddr 42 (Operand.tmp 1) 1), 0, none⟩,
    ⟨none, (Op.store 38 (Operand.tmp 12) (Operand.tmp 5)), 0, none⟩,
    ⟨some 13, (Op.fieldAddr 42 (Operand.tmp 1) 2), 0, none⟩,
    ⟨none, (Op.store 39 (Operand.tmp 13) (Operand.tmp 8)), 0, none⟩,
    ⟨some 14, (Op.fieldAddr 42 (Operand.tmp 1) 3), 0, none⟩,
    ⟨none, (Op.store 40 (Operand.tmp 14) (Operand.tmp 11)), 0, none⟩]) (.seq (.ops [⟨some 15, (Op.load 42 (Operand.tmp 1)), 42, none⟩,
    ⟨none, (Op.store 42 (Operand.tmp 2) (Operand.tmp 15)), 0, none⟩]) .ret)))⟩
theorem is_node_Copy (c : Cfg) (h : c.lendT = []) : isF PP c 86 c_node_Copy := isF_of (fn := Proofs.Tryz.f86) (by kernel_rfl) (by kernel_rfl) rfl h (by kernel_rfl) rfl rfl (by kernel_rfl)
def c_handle_handler_hello : SF := ⟨21, [],
  (.seq (.ops [⟨some 3, (Op.box 68 (Operand.tmp 1)), 0, none⟩]) (.ops [⟨some 5, (Op.move (Operand.tmp 0)), 133, none⟩,
    ⟨some 6, (Op.move (Operand.tmp 0)), 133, none⟩,
    ⟨some 7, (Op.nilCheck (Operand.tmp 6)), 0, none⟩,
    ⟨some 8, (Op.fieldAddr 135 (Operand.tmp 7) 0), 0, none⟩,
    ⟨some 9, (Op.fieldAddr 42 (Operand.tmp 8) 1), 0, none⟩,
    ⟨some 10, (Op.load 38 (Operand.tmp 9)), 38, none⟩,
    ⟨some 11, (Op.fieldAddr 68 (Operand.tmp 3) 1), 0, none⟩,
    ⟨some 12, (Op.load 3 (Operand.tmp 11)), 3, none⟩,
    ⟨some 13, (Op.fieldAddr 68 (Operand.tmp 3) 3), 0, none⟩,
    ⟨some 14, (Op.load 36 (Operand.tmp 13)), 36, none⟩,
    ⟨some 15, (Op.call ⟨(Callee.value (Operand.func 41)), #[(Operand.tmp 10), (Operand.tmp 12), (Operand.tmp 14)], #[38, 3, 36]⟩), 89, none⟩,
    ⟨some 4, (Op.move (Operand.tmp 15)), 89, none⟩,
    ⟨some 16, (Op.extract (Operand.tmp 4) 0), 38, none⟩,
    ⟨some 17, (Op.extract (Operand.tmp 4) 1), 31, none⟩,
    ⟨some 18, (Op.nilCheck (Operand.tmp 5)), 0, none⟩,
    ⟨some 19, (Op.fieldAddr 135 (Operand.tmp 18) 0), 0, none⟩,
    ⟨some 20, (Op.fieldAddr 42 (Operand.tmp 19) 1), 0, none⟩,
    ⟨none, (Op.store 38 (Operand.tmp 20) (Operand.tmp 16)), 0, none⟩]))⟩
theorem is_handle_handler_hello (c : Cfg) (h : c.lendT = []) : isF PP c 87 c_handle_handler_hello := isF_of (fn := Proofs.Tryz.f87) (by kernel_rfl) (by kernel_rfl) rfl h (by kernel_rfl) rfl rfl (by kernel_rfl)
def c_handle_handler_item : SF := ⟨17, [],
  (.seq (.ops [⟨some 3, (Op.box 68 (Operand.tmp 1)), 0, none⟩]) (.ops [⟨some 5, (Op.move (Operand.tmp 0)), 133, none⟩,
    ⟨some 6, (Op.move (Operand.tmp 0)), 133, none⟩,
    ⟨some 7, (Op.nilCheck (Operand.tmp 6)), 0, none⟩,
    ⟨some 8, (Op.fieldAddr 135 (Operand.tmp 7) 0), 0, none⟩,
    ⟨some 9, (Op.load 42 (Operand.tmp 8)), 42, none⟩,
    ⟨some 10, (Op.fieldAddr 68 (Operand.tmp 3) 5), 0, none⟩,
    ⟨some 11, (Op.load 46 (Operand.tmp 10)), 46, none⟩,
    ⟨some 12, (Op.call ⟨(Callee.value (Operand.func 42)), #[(Operand.tmp 9), (Operand.tmp 11)], #[42, 46]⟩), 91, none⟩,
    ⟨some 4, (Op.move (Operand.tmp 12)), 91, none⟩,
    ⟨some 13, (Op.extract (Operand.tmp 4) 0), 42, none⟩,
    ⟨some 14, (Op.extract (Operand.tmp 4) 1), 31, none⟩,
    ⟨some 15, (Op.nilCheck (Operand.tmp 5)), 0, none⟩,
    ⟨some 16, (Op.fieldAddr 135 (Operand.tmp 15) 0), 0, none⟩,
    ⟨none, (Op.store 42 (Operand.tmp 16) (Operand.tmp 13)), 0, none⟩]))⟩
theorem is_handle_handler_item (c : Cfg) (h : c.lendT = []) : isF PP c 88 c_handle_handler_item := isF_of (fn := Proofs.Tryz.f88) (by kernel_rfl) (by kernel_rfl) rfl h (by kernel_rfl) rfl rfl (by kernel_rfl)
def c_handle_handler_ask : SF := ⟨16, [],
  (.seq (.ops [⟨some 3, (Op.box 68 (Operand.tmp 1)), 0, none⟩]) (.ops [⟨some 5, (Op.move (Operand.tmp 0)), 133, none⟩,
    ⟨some 6, (Op.move (Operand.tmp 0)), 133, none⟩,
    ⟨some 7, (Op.nilCheck (Operand.tmp 6)), 0, none⟩,
    ⟨some 8, (Op.fieldAddr 135 (Operand.tmp 7) 0), 0, none⟩,
    ⟨some 9, (Op.load 42 (Operand.tmp 8)), 42, none⟩,
    ⟨some 10, (Op.load 68 (Operand.tmp 3)), 68, none⟩,
    ⟨some 11, (Op.call ⟨(Callee.value (Operand.func 45)), #[(Operand.tmp 9), (Operand.tmp 10)], #[42, 68]⟩), 86, none⟩,
    ⟨some 4, (Op.move (Operand.tmp 11)), 86, none⟩,
    ⟨some 12, (Op.extract (Operand.tmp 4) 0), 24, none⟩,
    ⟨some 13, (Op.extract (Operand.tmp 4) 1), 31, none⟩,
    ⟨some 14, (Op.nilCheck (Operand.tmp 5)), 0, none⟩,
    ⟨some 15, (Op.fieldAddr 135 (Operand.tmp 14) 1), 0, none⟩,
    ⟨none, (Op.store 24 (Operand.tmp 15) (Operand.tmp 12)), 0, none⟩]))⟩
theorem is_handle_handler_ask (c : Cfg) (h : c.lendT = []) : isF PP c 89 c_handle_handler_ask := isF_of (fn := Proofs.Tryz.f89) (by kernel_rfl) (by kernel_rfl) rfl h (by kernel_rfl) rfl rfl (by kernel_rfl)
def c_handle_handler_tell : SF := ⟨16, [],
  (.seq (.ops [⟨some 3, (Op.box 68 (Operand.tmp 1)), 0, none⟩]) (.ops [⟨some 5, (Op.move (Operand.tmp 0)), 133, none⟩,
    ⟨some 6, (Op.move (Operand.tmp 0)), 133, none⟩,
    ⟨some 7, (Op.nilCheck (Operand.tmp 6)), 0, none⟩,
    ⟨some 8, (Op.fieldAddr 135 (Operand.tmp 7) 0), 0, none⟩,
    ⟨some 9, (Op.load 42 (Operand.tmp 8)), 42, none⟩,
    ⟨some 10, (Op.load 68 (Operand.tmp 3)), 68, none⟩,
    ⟨some 11, (Op.call ⟨(Callee.value (Operand.func 46)), #[(Operand.tmp 9), (Operand.tmp 10)], #[42, 68]⟩), 91, none⟩,
    ⟨some 4, (Op.move (Operand.tmp 11)), 91, none⟩,
    ⟨some 12, (Op.extract (Operand.tmp 4) 0), 42, none⟩,
    ⟨some 13, (Op.extract (Operand.tmp 4) 1), 31, none⟩,
    ⟨some 14, (Op.nilCheck (Operand.tmp 5)), 0, none⟩,
    ⟨some 15, (Op.fieldAddr 135 (Operand.tmp 14) 0), 0, none⟩,
    ⟨none, (Op.store 42 (Operand.tmp 15) (Operand.tmp 12)), 0, none⟩]))⟩
theorem is_handle_handler_tell (c : Cfg) (h : c.lendT = []) : isF PP c 90 c_handle_handler_tell := isF_of (fn := Proofs.Tryz.f90) (by kernel_rfl) (by kernel_rfl) rfl h (by kernel_rfl) rfl rfl (by kernel_rfl)
end Go.AM
/- AM: this seat's functions in short. -/
namespace Go.AM
set_option linter.unusedSimpArgs false
set_option linter.unusedVariables false
def c_gimmallaw0_SameView : SF := ⟨24, [(ResultVar.tmp 4)],
  (.seq (.ops [⟨some 2, (Op.box 38 (Operand.tmp 0)), 0, none⟩,
    ⟨some 3, (Op.box 38 (Operand.tmp 1)), 0, none⟩,
    ⟨some 4, (Op.assign (Operand.const (Value.bool false))), 4, none⟩]) (.seq (.ops [⟨some 5, (Op.fieldAddr 38 (Operand.tmp 2) 0), 0, none⟩,
    ⟨some 6, (Op.load 3 (Operand.tmp 5)), 3, none⟩,
    ⟨some 7, (Op.fieldAddr 38 (Operand.tmp 3) 0), 0, none⟩,
    ⟨some 8, (Op.load 3 (Operand.tmp 7)), 3, none⟩,
    ⟨some 9, (Op.binOp BinOp.eql 3 (Operand.tmp 6) (Operand.tmp 8) 3), 4, none⟩,
    ⟨some 10, (Op.move (Operand.tmp 9)), 4, none⟩,
    ⟨some 11, (Op.fieldAddr 38 (Operand.tmp 2) 1), 0, some (10, true)⟩,
    ⟨some 12, (Op.load 35 (Operand.tmp 11)), 35, some (10, true)⟩,
    ⟨some 13, (Op.fieldAddr 38 (Operand.tmp 3) 1), 0, some (10, true)⟩,
    ⟨some 14, (Op.load 35 (Operand.tmp 13)), 35, some (10, true)⟩,
    ⟨some 15, (Op.call ⟨(Callee.value (Operand.func 176)), #[(Operand.tmp 12), (Operand.tmp 14)], #[35, 35]⟩), 4, some (10, true)⟩,
    ⟨some 16, (Op.pick (Operand.tmp 10) (Operand.tmp 15) (Operand.const (Value.bool false))), 4, none⟩,
    ⟨some 17, (Op.move (Operand.tmp 16)), 4, none⟩,
    ⟨some 18, (Op.fieldAddr 38 (Operand.tmp 2) 2), 0, some (17, true)⟩,
    ⟨some 19, (Op.load 36 (Operand.tmp 18)), 36, some (17, true)⟩,
    ⟨some 20, (Op.fieldAddr 38 (Operand.tmp 3) 2), 0, some (17, true)⟩,
    ⟨some 21, (Op.load 36 (Operand.tmp 20)), 36, some (17, true)⟩,
    ⟨some 22, (Op.call ⟨(Callee.value (Operand.func 104)), #[(Operand.tmp 19), (Operand.tmp 21)], #[36, 36]⟩), 4, some (17, true)⟩,
    ⟨some 23, (Op.pick (Operand.tmp 17) (Operand.tmp 22) (Operand.const (Value.bool false))), 4, none⟩,
    ⟨some 4, (Op.assign (Operand.tmp 23)), 4, none⟩]) .ret))⟩
theorem is_gimmallaw0_SameView (c : Cfg) (h : c.lendT = []) : isF PP c 98 c_gimmallaw0_SameView := isF_of (fn := Proofs.Tryz.f98) (by kernel_rfl) (by kernel_rfl) rfl h (by kernel_rfl) rfl rfl (by kernel_rfl)
def c_gimmallaw0_SameTolds_L0 : SC := (.seq (.seq (.ops [⟨some 11, (Op.move (Operand.tmp 5)), 3, none⟩,
    ⟨some 12, (Op.move (Operand.tmp 0)), 40, none⟩,
    ⟨some 13, (Op.call ⟨(Callee.builtin Builtin.len), #[(Operand.tmp 12)], #[40]⟩), 3, none⟩,
    ⟨some 14, (Op.binOp BinOp.lss 3 (Operand.tmp 11) (Operand.tmp 13) 3), 4, none⟩]) (.cond (Operand.tmp 14) .skip (.exit 0))) (.seq (.block 1 (.seq (.ops [⟨some 17, (Op.move (Operand.tmp 0)), 40, none⟩,
    ⟨some 18, (Op.move (Operand.tmp 5)), 3, none⟩,
    ⟨some 21, (Op.move (Operand.tmp 1)), 40, none⟩,
    ⟨some 22, (Op.move (Operand.tmp 5)), 3, none⟩,
    ⟨some 19, (Op.indexAddr 40 (Operand.tmp 17) (Operand.tmp 18)), 0, none⟩,
    ⟨some 20, (Op.load 61 (Operand.tmp 19)), 61, none⟩,
    ⟨some 23, (Op.indexAddr 40 (Operand.tmp 21) (Operand.tmp 22)), 0, none⟩,
    ⟨some 24, (Op.load 61 (Operand.tmp 23)), 61, none⟩,
    ⟨some 25, (Op.binOp BinOp.neq 61 (Operand.tmp 20) (Operand.tmp 24) 61), 4, none⟩]) (.cond (Operand.tmp 25) (.seq (.ops [⟨some 4, (Op.assign (Operand.const (Value.bool false))), 4, none⟩]) .ret) .skip))) (.ops [⟨some 15, (Op.move (Operand.tmp 5)), 3, none⟩,
    ⟨some 16, (Op.binOp BinOp.add 3 (Operand.tmp 15) (Operand.const (Value.int IntKind.i64 1)) 3), 3, none⟩,
    ⟨some 5, (Op.assign (Operand.tmp 16)), 3, none⟩])))
def c_gimmallaw0_SameTolds : SF := ⟨26, [(ResultVar.tmp 4)],
  (.seq (.ops [⟨some 4, (Op.assign (Operand.const (Value.bool false))), 4, none⟩]) (.seq (.seq (.ops [⟨some 6, (Op.move (Operand.tmp 0)), 40, none⟩,
    ⟨some 7, (Op.call ⟨(Callee.builtin Builtin.len), #[(Operand.tmp 6)], #[40]⟩), 3, none⟩,
    ⟨some 8, (Op.move (Operand.tmp 1)), 40, none⟩,
    ⟨some 9, (Op.call ⟨(Callee.builtin Builtin.len), #[(Operand.tmp 8)], #[40]⟩), 3, none⟩,
    ⟨some 10, (Op.binOp BinOp.neq 3 (Operand.tmp 7) (Operand.tmp 9) 3), 4, none⟩]) (.cond (Operand.tmp 10) (.seq (.ops [⟨some 4, (Op.assign (Operand.const (Value.bool false))), 4, none⟩]) .ret) .skip)) (.seq (.seq (.ops [⟨some 5, (Op.assign (Operand.const (Value.int IntKind.i64 0))), 3, none⟩]) (.block 0 (.loop c_gimmallaw0_SameTolds_L0))) (.seq (.ops [⟨some 4, (Op.assign (Operand.const (Value.bool true))), 4, none⟩]) .ret))))⟩
theorem is_gimmallaw0_SameTolds (c : Cfg) (h : c.lendT = []) : isF PP c 99 c_gimmallaw0_SameTolds := isF_of (fn := Proofs.Tryz.f99) (by kernel_rfl) (by kernel_rfl) rfl h (by kernel_rfl) rfl rfl (by kernel_rfl)
def c_gimmallaw0_SameInts_L0 : SC := (.seq (.seq (.ops [⟨some 11, (Op.move (Operand.tmp 5)), 3, none⟩,
    ⟨some 12, (Op.move (Operand.tmp 0)), 36, none⟩,
    ⟨some 13, (Op.call ⟨(Callee.builtin Builtin.len), #[(Operand.tmp 12)], #[36]⟩), 3, none⟩,
    ⟨some 14, (Op.binOp BinOp.lss 3 (Operand.tmp 11) (Operand.tmp 13) 3), 4, none⟩]) (.cond (Operand.tmp 14) .skip (.exit 0))) (.seq (.block 1 (.seq (.ops [⟨some 17, (Op.move (Operand.tmp 0)), 36, none⟩,
    ⟨some 18, (Op.move (Operand.tmp 5)), 3, none⟩,
    ⟨some 21, (Op.move (Operand.tmp 1)), 36, none⟩,
    ⟨some 22, (Op.move (Operand.tmp 5)), 3, none⟩,
    ⟨some 19, (Op.indexAddr 36 (Operand.tmp 17) (Operand.tmp 18)), 0, none⟩,
    ⟨some 20, (Op.load 3 (Operand.tmp 19)), 3, none⟩,
    ⟨some 23, (Op.indexAddr 36 (Operand.tmp 21) (Operand.tmp 22)), 0, none⟩,
    ⟨some 24, (Op.load 3 (Operand.tmp 23)), 3, none⟩,
    ⟨some 25, (Op.binOp BinOp.neq 3 (Operand.tmp 20) (Operand.tmp 24) 3), 4, none⟩]) (.cond (Operand.tmp 25) (.seq (.ops [⟨some 4, (Op.assign (Operand.const (Value.bool false))), 4, none⟩]) .ret) .skip))) (.ops [⟨some 15, (Op.move (Operand.tmp 5)), 3, none⟩,
    ⟨some 16, (Op.binOp BinOp.add 3 (Operand.tmp 15) (Operand.const (Value.int IntKind.i64 1)) 3), 3, none⟩,
    ⟨some 5, (Op.assign (Operand.tmp 16)), 3, none⟩])))
def c_gimmallaw0_SameInts : SF := ⟨26, [(ResultVar.tmp 4)],
  (.seq (.ops [⟨some 4, (Op.assign (Operand.const (Value.bool false))), 4, none⟩]) (.seq (.seq (.ops [⟨some 6, (Op.move (Operand.tmp 0)), 36, none⟩,
    ⟨some 7, (Op.call ⟨(Callee.builtin Builtin.len), #[(Operand.tmp 6)], #[36]⟩), 3, none⟩,
    ⟨some 8, (Op.move (Operand.tmp 1)), 36, none⟩,
    ⟨some 9, (Op.call ⟨(Callee.builtin Builtin.len), #[(Operand.tmp 8)], #[36]⟩), 3, none⟩,
    ⟨some 10, (Op.binOp BinOp.neq 3 (Operand.tmp 7) (Operand.tmp 9) 3), 4, none⟩]) (.cond (Operand.tmp 10) (.seq (.ops [⟨some 4, (Op.assign (Operand.const (Value.bool false))), 4, none⟩]) .ret) .skip)) (.seq (.seq (.ops [⟨some 5, (Op.assign (Operand.const (Value.int IntKind.i64 0))), 3, none⟩]) (.block 0 (.loop c_gimmallaw0_SameInts_L0))) (.seq (.ops [⟨some 4, (Op.assign (Operand.const (Value.bool true))), 4, none⟩]) .ret))))⟩
theorem is_gimmallaw0_SameInts (c : Cfg) (h : c.lendT = []) : isF PP c 104 c_gimmallaw0_SameInts := isF_of (fn := Proofs.Tryz.f104) (by kernel_rfl) (by kernel_rfl) rfl h (by kernel_rfl) rfl rfl (by kernel_rfl)
def c_view_May : SF := ⟨32, [(ResultVar.tmp 2)],
  (.seq (.ops [⟨some 1, (Op.box 38 (Operand.tmp 0)), 0, none⟩,
    ⟨some 2, (Op.assign (Operand.const (Value.bool false))), 4, none⟩]) (.seq (.seq (.ops [⟨some 4, (Op.fieldAddr 38 (Operand.tmp 1) 0), 0, none⟩,
    ⟨some 5, (Op.load 3 (Operand.tmp 4)), 3, none⟩,
    ⟨some 6, (Op.fieldAddr 38 (Operand.tmp 1) 1), 0, none⟩,
    ⟨some 7, (Op.load 35 (Operand.tmp 6)), 35, none⟩,
    ⟨some 8, (Op.call ⟨(Callee.value (Operand.func 181)), #[(Operand.tmp 5), (Operand.tmp 7)], #[3, 35]⟩), 4, none⟩,
    ⟨some 9, (Op.unOp UnOp.not 4 (Operand.tmp 8)), 4, none⟩,
    ⟨some 10, (Op.move (Operand.tmp 9)), 4, none⟩,
    ⟨some 11, (Op.fieldAddr 38 (Operand.tmp 1) 2), 0, some (10, false)⟩,
    ⟨some 12, (Op.load 36 (Operand.tmp 11)), 36, some (10, false)⟩,
    ⟨some 13, (Op.call ⟨(Callee.value (Operand.func 132)), #[(Operand.tmp 12)], #[36]⟩), 4, some (10, false)⟩,
    ⟨some 14, (Op.unOp UnOp.not 4 (Operand.tmp 13)), 4, some (10, false)⟩,
    ⟨some 15, (Op.pick (Operand.tmp 10) (Operand.const (Value.bool true)) (Operand.tmp 14)), 4, none⟩,
    ⟨some 16, (Op.move (Operand.tmp 15)), 4, none⟩,
    ⟨some 17, (Op.fieldAddr 38 (Operand.tmp 1) 1), 0, some (16, false)⟩,
    ⟨some 18, (Op.load 35 (Operand.tmp 17)), 35, some (16, false)⟩,
    ⟨some 19, (Op.call ⟨(Callee.builtin Builtin.len), #[(Operand.tmp 18)], #[35]⟩), 3, some (16, false)⟩,
    ⟨some 20, (Op.fieldAddr 38 (Operand.tmp 1) 2), 0, some (16, false)⟩,
    ⟨some 21, (Op.load 36 (Operand.tmp 20)), 36, some (16, false)⟩,
    ⟨some 22, (Op.call ⟨(Callee.builtin Builtin.len), #[(Operand.tmp 21)], #[36]⟩), 3, some (16, false)⟩,
    ⟨some 23, (Op.binOp BinOp.add 3 (Operand.tmp 19) (Operand.tmp 22) 3), 3, some (16, false)⟩,
    ⟨some 24, (Op.binOp BinOp.gtr 3 (Operand.tmp 23) (Operand.const (Value.int IntKind.i64 16)) 3), 4, some (16, false)⟩,
    ⟨some 25, (Op.pick (Operand.tmp 16) (Operand.const (Value.bool true)) (Operand.tmp 24)), 4, none⟩]) (.cond (Operand.tmp 25) (.seq (.ops [⟨some 2, (Op.assign (Operand.const (Value.bool false))), 4, none⟩]) .ret) .skip)) (.seq (.ops [⟨some 26, (Op.makeFunc (Fn.func 182) #[] #[(Operand.tmp 1)]), 106, none⟩,
    ⟨some 3, (Op.assign (Operand.tmp 26)), 106, none⟩]) (.seq (.ops [⟨some 27, (Op.fieldAddr 38 (Operand.tmp 1) 2), 0, none⟩,
    ⟨some 28, (Op.load 36 (Operand.tmp 27)), 36, none⟩,
    ⟨some 29, (Op.move (Operand.tmp 3)), 106, none⟩,
    ⟨some 30, (Op.call ⟨(Callee.value (Operand.func 79)), #[(Operand.tmp 28), (Operand.tmp 29)], #[36, 106]⟩), 4, none⟩,
    ⟨some 31, (Op.unOp UnOp.not 4 (Operand.tmp 30)), 4, none⟩,
    ⟨some 2, (Op.assign (Operand.tmp 31)), 4, none⟩]) .ret))))⟩
theorem is_view_May (c : Cfg) (h : c.lendT = []) : isF PP c 109 c_view_May := isF_of (fn := Proofs.Tryz.f109) (by kernel_rfl) (by kernel_rfl) rfl h (by kernel_rfl) rfl rfl (by kernel_rfl)
def c_view_Copy : SF := ⟨12, [(ResultVar.cell 2 38)],
  (.seq (.ops [⟨some 1, (Op.box 38 (Operand.tmp 0)), 0, none⟩,
    ⟨some 2, (Op.alloc 38), 0, none⟩]) (.seq (.ops [⟨some 3, (Op.fieldAddr 38 (Operand.tmp 1) 1), 0, none⟩,
    ⟨some 4, (Op.load 35 (Operand.tmp 3)), 35, none⟩,
    ⟨some 5, (Op.call ⟨(Callee.value (Operand.func 183)), #[(Operand.tmp 4)], #[35]⟩), 35, none⟩,
    ⟨some 6, (Op.fieldAddr 38 (Operand.tmp 1) 2), 0, none⟩,
    ⟨some 7, (Op.load 36 (Operand.tmp 6)), 36, none⟩,
    ⟨some 8, (Op.call ⟨(Callee.value (Operand.func 184)), #[(Operand.tmp 7)], #[36]⟩), 36, none⟩,
    ⟨some 9, (Op.fieldAddr 38 (Operand.tmp 1) 1), 0, none⟩,
    ⟨none, (Op.store 35 (Operand.tmp 9) (Operand.tmp 5)), 0, none⟩,
    ⟨some 10, (Op.fieldAddr 38 (Operand.tmp 1) 2), 0, none⟩,
    ⟨none, (Op.store 36 (Operand.tmp 10) (Operand.tmp 8)), 0, none⟩]) (.seq (.ops [⟨some 11, (Op.load 38 (Operand.tmp 1)), 38, none⟩,
    ⟨none, (Op.store 38 (Operand.tmp 2) (Operand.tmp 11)), 0, none⟩]) .ret)))⟩
theorem is_view_Copy (c : Cfg) (h : c.lendT = []) : isF PP c 110 c_view_Copy := isF_of (fn := Proofs.Tryz.f110) (by kernel_rfl) (by kernel_rfl) rfl h (by kernel_rfl) rfl rfl (by kernel_rfl)
def c_store_May_L0 : SC := (.seq (.ops [⟨some 8, (Op.binOp BinOp.lss 3 (Operand.tmp 7) (Operand.tmp 6) 3), 0, none⟩]) (.seq (.cond (Operand.tmp 8) .skip (.exit 0)) (.seq (.block 1 (.seq (.ops [⟨some 9, (Op.move (Operand.tmp 7)), 3, none⟩,
    ⟨some 10, (Op.indexAddr 39 (Operand.tmp 5) (Operand.tmp 7)), 0, none⟩,
    ⟨some 11, (Op.load 46 (Operand.tmp 10)), 46, none⟩,
    ⟨some 4, (Op.alloc 46), 0, none⟩,
    ⟨some 3, (Op.assign (Operand.tmp 9)), 3, none⟩,
    ⟨none, (Op.store 46 (Operand.tmp 4) (Operand.tmp 11)), 0, none⟩]) (.seq (.ops [⟨some 12, (Op.load 46 (Operand.tmp 4)), 46, none⟩,
    ⟨some 13, (Op.call ⟨(Callee.value (Operand.func 123)), #[(Operand.tmp 12)], #[46]⟩), 4, none⟩,
    ⟨some 14, (Op.unOp UnOp.not 4 (Operand.tmp 13)), 4, none⟩,
    ⟨some 15, (Op.move (Operand.tmp 14)), 4, none⟩,
    ⟨some 16, (Op.move (Operand.tmp 3)), 3, some (15, false)⟩,
    ⟨some 17, (Op.binOp BinOp.gtr 3 (Operand.tmp 16) (Operand.const (Value.int IntKind.i64 0)) 3), 4, some (15, false)⟩,
    ⟨some 18, (Op.move (Operand.tmp 17)), 4, some (15, false)⟩,
    ⟨some 19, (Op.move (Operand.tmp 0)), 39, some (18, true)⟩,
    ⟨some 20, (Op.move (Operand.tmp 3)), 3, some (18, true)⟩,
    ⟨some 21, (Op.binOp BinOp.sub 3 (Operand.tmp 20) (Operand.const (Value.int IntKind.i64 1)) 3), 3, some (18, true)⟩,
    ⟨some 22, (Op.indexAddr 39 (Operand.tmp 19) (Operand.tmp 21)), 0, some (18, true)⟩,
    ⟨some 23, (Op.fieldAddr 46 (Operand.tmp 22) 0), 0, some (18, true)⟩,
    ⟨some 24, (Op.load 3 (Operand.tmp 23)), 3, some (18, true)⟩,
    ⟨some 25, (Op.fieldAddr 46 (Operand.tmp 4) 0), 0, some (18, true)⟩,
    ⟨some 26, (Op.load 3 (Operand.tmp 25)), 3, some (18, true)⟩,
    ⟨some 27, (Op.binOp BinOp.geq 3 (Operand.tmp 24) (Operand.tmp 26) 3), 4, some (18, true)⟩,
    ⟨some 28, (Op.pick (Operand.tmp 18) (Operand.tmp 27) (Operand.const (Value.bool false))), 4, some (15, false)⟩,
    ⟨some 29, (Op.pick (Operand.tmp 15) (Operand.const (Value.bool true)) (Operand.tmp 28)), 4, none⟩]) (.cond (Operand.tmp 29) (.seq (.ops [⟨some 2, (Op.assign (Operand.const (Value.bool false))), 4, none⟩]) .ret) .skip)))) (.ops [⟨some 30, (Op.binOp BinOp.add 3 (Operand.tmp 7) (Operand.const (Value.int IntKind.i64 1)) 3), 3, none⟩,
    ⟨some 7, (Op.move (Operand.tmp 30)), 3, none⟩]))))
def c_store_May : SF := ⟨34, [(ResultVar.tmp 2)],
  (.seq (.ops [⟨some 2, (Op.assign (Operand.const (Value.bool false))), 4, none⟩]) (.seq (.seq (.ops [⟨some 5, (Op.move (Operand.tmp 0)), 39, none⟩,
    ⟨some 6, (Op.call ⟨(Callee.builtin Builtin.len), #[(Operand.tmp 5)], #[39]⟩), 3, none⟩,
    ⟨some 7, (Op.move (Operand.const (Value.int IntKind.i64 0))), 3, none⟩]) (.block 0 (.loop c_store_May_L0))) (.seq (.ops [⟨some 31, (Op.move (Operand.tmp 0)), 39, none⟩,
    ⟨some 32, (Op.call ⟨(Callee.builtin Builtin.len), #[(Operand.tmp 31)], #[39]⟩), 3, none⟩,
    ⟨some 33, (Op.binOp BinOp.leq 3 (Operand.tmp 32) (Operand.const (Value.int IntKind.i64 16)) 3), 4, none⟩,
    ⟨some 2, (Op.assign (Operand.tmp 33)), 4, none⟩]) .ret)))⟩
theorem is_store_May (c : Cfg) (h : c.lendT = []) : isF PP c 115 c_store_May := isF_of (fn := Proofs.Tryz.f115) (by kernel_rfl) (by kernel_rfl) rfl h (by kernel_rfl) rfl rfl (by kernel_rfl)
def c_slices_ContainsFunc_api_Told_api_Told : SF := ⟨9, [(ResultVar.tmp 4)],
  (.seq (.ops [⟨some 4, (Op.assign (Operand.const (Value.bool false))), 4, none⟩]) (.seq (.ops [⟨some 5, (Op.move (Operand.tmp 0)), 40, none⟩,
    ⟨some 6, (Op.move (Operand.tmp 1)), 165, none⟩,
    ⟨some 7, (Op.call ⟨(Callee.value (Operand.func 189)), #[(Operand.tmp 5), (Operand.tmp 6)], #[40, 165]⟩), 3, none⟩,
    ⟨some 8, (Op.binOp BinOp.geq 3 (Operand.tmp 7) (Operand.const (Value.int IntKind.i64 0)) 3), 4, none⟩,
    ⟨some 4, (Op.assign (Operand.tmp 8)), 4, none⟩]) .ret))⟩
theorem is_slices_ContainsFunc_api_Told_api_Told (c : Cfg) (h : c.lendT = []) : isF PP c 116 c_slices_ContainsFunc_api_Told_api_Told := isF_of (fn := Proofs.Tryz.f116) (by kernel_rfl) (by kernel_rfl) rfl h (by kernel_rfl) rfl rfl (by kernel_rfl)
def c_node_odd : SF := ⟨23, [(ResultVar.tmp 2)],
  (.seq (.ops [⟨some 1, (Op.box 61 (Operand.tmp 0)), 0, none⟩,
    ⟨some 2, (Op.assign (Operand.const (Value.bool false))), 4, none⟩]) (.seq (.ops [⟨some 3, (Op.fieldAddr 61 (Operand.tmp 1) 0), 0, none⟩,
    ⟨some 4, (Op.load 3 (Operand.tmp 3)), 3, none⟩,
    ⟨some 5, (Op.call ⟨(Callee.value (Operand.func 149)), #[(Operand.tmp 4)], #[3]⟩), 4, none⟩,
    ⟨some 6, (Op.unOp UnOp.not 4 (Operand.tmp 5)), 4, none⟩,
    ⟨some 7, (Op.move (Operand.tmp 6)), 4, none⟩,
    ⟨some 8, (Op.fieldAddr 61 (Operand.tmp 1) 2), 0, some (7, false)⟩,
    ⟨some 9, (Op.load 3 (Operand.tmp 8)), 3, some (7, false)⟩,
    ⟨some 10, (Op.call ⟨(Callee.value (Operand.func 149)), #[(Operand.tmp 9)], #[3]⟩), 4, some (7, false)⟩,
    ⟨some 11, (Op.unOp UnOp.not 4 (Operand.tmp 10)), 4, some (7, false)⟩,
    ⟨some 12, (Op.pick (Operand.tmp 7) (Operand.const (Value.bool true)) (Operand.tmp 11)), 4, none⟩,
    ⟨some 13, (Op.move (Operand.tmp 12)), 4, none⟩,
    ⟨some 14, (Op.fieldAddr 61 (Operand.tmp 1) 1), 0, some (13, false)⟩,
    ⟨some 15, (Op.load 4 (Operand.tmp 14)), 4, some (13, false)⟩,
    ⟨some 16, (Op.unOp UnOp.not 4 (Operand.tmp 15)), 4, some (13, false)⟩,
    ⟨some 17, (Op.move (Operand.tmp 16)), 4, some (13, false)⟩,
    ⟨some 18, (Op.fieldAddr 61 (Operand.tmp 1) 2), 0, some (17, true)⟩,
    ⟨some 19, (Op.load 3 (Operand.tmp 18)), 3, some (17, true)⟩,
    ⟨some 20, (Op.binOp BinOp.neq 3 (Operand.tmp 19) (Operand.const (Value.int IntKind.i64 0)) 3), 4, some (17, true)⟩,
    ⟨some 21, (Op.pick (Operand.tmp 17) (Operand.tmp 20) (Operand.const (Value.bool false))), 4, some (13, false)⟩,
    ⟨some 22, (Op.pick (Operand.tmp 13) (Operand.const (Value.bool true)) (Operand.tmp 21)), 4, none⟩,
    ⟨some 2, (Op.assign (Operand.tmp 22)), 4, none⟩]) .ret))⟩
theorem is_node_odd (c : Cfg) (h : c.lendT = []) : isF PP c 117 c_node_odd := isF_of (fn := Proofs.Tryz.f117) (by kernel_rfl) (by kernel_rfl) rfl h (by kernel_rfl) rfl rfl (by kernel_rfl)
def c_ring_Place : SF := ⟨9, [(ResultVar.tmp 2)],
  (.seq (.ops [⟨some 2, (Op.assign (Operand.const (Value.bool false))), 4, none⟩]) (.seq (.ops [⟨some 3, (Op.move (Operand.tmp 0)), 3, none⟩,
    ⟨some 4, (Op.binOp BinOp.geq 3 (Operand.tmp 3) (Operand.const (Value.int IntKind.i64 0)) 3), 4, none⟩,
    ⟨some 5, (Op.move (Operand.tmp 4)), 4, none⟩,
    ⟨some 6, (Op.move (Operand.tmp 0)), 3, some (5, true)⟩,
    ⟨some 7, (Op.binOp BinOp.lss 3 (Operand.tmp 6) (Operand.const (Value.int IntKind.i64 256)) 3), 4, some (5, true)⟩,
    ⟨some 8, (Op.pick (Operand.tmp 5) (Operand.tmp 7) (Operand.const (Value.bool false))), 4, none⟩,
    ⟨some 2, (Op.assign (Operand.tmp 8)), 4, none⟩]) .ret))⟩
theorem is_ring_Place (c : Cfg) (h : c.lendT = []) : isF PP c 118 c_ring_Place := isF_of (fn := Proofs.Tryz.f118) (by kernel_rfl) (by kernel_rfl) rfl h (by kernel_rfl) rfl rfl (by kernel_rfl)
def c_ring_Places_L0 : SC := (.seq (.ops [⟨some 8, (Op.binOp BinOp.lss 3 (Operand.tmp 7) (Operand.tmp 6) 3), 0, none⟩]) (.seq (.cond (Operand.tmp 8) .skip (.exit 0)) (.seq (.block 1 (.seq (.ops [⟨some 9, (Op.indexAddr 36 (Operand.tmp 5) (Operand.tmp 7)), 0, none⟩,
    ⟨some 10, (Op.load 3 (Operand.tmp 9)), 3, none⟩,
    ⟨some 4, (Op.assign (Operand.tmp 10)), 3, none⟩]) (.seq (.ops [⟨some 11, (Op.move (Operand.tmp 4)), 3, none⟩,
    ⟨some 12, (Op.call ⟨(Callee.value (Operand.func 118)), #[(Operand.tmp 11)], #[3]⟩), 4, none⟩,
    ⟨some 13, (Op.unOp UnOp.not 4 (Operand.tmp 12)), 4, none⟩]) (.cond (Operand.tmp 13) (.seq (.ops [⟨some 2, (Op.assign (Operand.const (Value.bool false))), 4, none⟩]) .ret) .skip)))) (.ops [⟨some 14, (Op.binOp BinOp.add 3 (Operand.tmp 7) (Operand.const (Value.int IntKind.i64 1)) 3), 3, none⟩,
    ⟨some 7, (Op.move (Operand.tmp 14)), 3, none⟩]))))
def c_ring_Places : SF := ⟨15, [(ResultVar.tmp 2)],
  (.seq (.ops [⟨some 2, (Op.assign (Operand.const (Value.bool false))), 4, none⟩]) (.seq (.seq (.ops [⟨some 5, (Op.move (Operand.tmp 0)), 36, none⟩,
    ⟨some 6, (Op.call ⟨(Callee.builtin Builtin.len), #[(Operand.tmp 5)], #[36]⟩), 3, none⟩,
    ⟨some 7, (Op.move (Operand.const (Value.int IntKind.i64 0))), 3, none⟩]) (.block 0 (.loop c_ring_Places_L0))) (.seq (.ops [⟨some 2, (Op.assign (Operand.const (Value.bool true))), 4, none⟩]) .ret)))⟩
theorem is_ring_Places (c : Cfg) (h : c.lendT = []) : isF PP c 119 c_ring_Places := isF_of (fn := Proofs.Tryz.f119) (by kernel_rfl) (by kernel_rfl) rfl h (by kernel_rfl) rfl rfl (by kernel_rfl)
def c_hello_heard : SF := ⟨48, [],
  (.seq (.ops [⟨some 5, (Op.move (Operand.tmp 0)), 157, none⟩,
    ⟨some 6, (Op.move (Operand.tmp 1)), 3, none⟩,
    ⟨some 7, (Op.call ⟨(Callee.value (Operand.func 121)), #[(Operand.tmp 5), (Operand.tmp 6)], #[157, 3]⟩), 4, none⟩,
    ⟨some 8, (Op.move (Operand.tmp 7)), 4, none⟩,
    ⟨some 9, (Op.move (Operand.tmp 0)), 157, some (8, false)⟩,
    ⟨some 10, (Op.move (Operand.tmp 1)), 3, some (8, false)⟩,
    ⟨some 11, (Op.call ⟨(Callee.value (Operand.func 122)), #[(Operand.tmp 9), (Operand.tmp 10)], #[157, 3]⟩), 4, some (8, false)⟩,
    ⟨some 12, (Op.pick (Operand.tmp 8) (Operand.const (Value.bool true)) (Operand.tmp 11)), 4, none⟩,
    ⟨some 4, (Op.assign (Operand.tmp 12)), 4, none⟩]) (.seq (.seq (.ops [⟨some 13, (Op.move (Operand.tmp 4)), 4, none⟩,
    ⟨some 14, (Op.unOp UnOp.not 4 (Operand.tmp 13)), 4, none⟩,
    ⟨some 15, (Op.move (Operand.tmp 14)), 4, none⟩,
    ⟨some 16, (Op.move (Operand.tmp 0)), 157, some (15, true)⟩,
    ⟨some 17, (Op.call ⟨(Callee.value (Operand.func 190)), #[(Operand.tmp 16)], #[157]⟩), 4, some (15, true)⟩,
    ⟨some 18, (Op.unOp UnOp.not 4 (Operand.tmp 17)), 4, some (15, true)⟩,
    ⟨some 19, (Op.pick (Operand.tmp 15) (Operand.tmp 18) (Operand.const (Value.bool false))), 4, none⟩]) (.cond (Operand.tmp 19) .ret .skip)) (.seq (.ops [⟨some 21, (Op.move (Operand.tmp 0)), 157, none⟩,
    ⟨some 22, (Op.move (Operand.tmp 0)), 157, none⟩,
    ⟨some 23, (Op.nilCheck (Operand.tmp 22)), 0, none⟩,
    ⟨some 24, (Op.fieldAddr 38 (Operand.tmp 23) 2), 0, none⟩,
    ⟨some 25, (Op.load 36 (Operand.tmp 24)), 36, none⟩,
    ⟨some 26, (Op.move (Operand.tmp 1)), 3, none⟩,
    ⟨some 27, (Op.call ⟨(Callee.value (Operand.func 191)), #[(Operand.tmp 25), (Operand.tmp 26)], #[36, 3]⟩), 104, none⟩,
    ⟨some 20, (Op.move (Operand.tmp 27)), 104, none⟩,
    ⟨some 28, (Op.extract (Operand.tmp 20) 0), 36, none⟩,
    ⟨some 29, (Op.extract (Operand.tmp 20) 1), 31, none⟩,
    ⟨some 30, (Op.nilCheck (Operand.tmp 21)), 0, none⟩,
    ⟨some 31, (Op.fieldAddr 38 (Operand.tmp 30) 2), 0, none⟩,
    ⟨none, (Op.store 36 (Operand.tmp 31) (Operand.tmp 28)), 0, none⟩]) (.ops [⟨some 33, (Op.move (Operand.tmp 0)), 157, none⟩,
    ⟨some 34, (Op.move (Operand.tmp 0)), 157, none⟩,
    ⟨some 38, (Op.move (Operand.tmp 0)), 157, none⟩,
    ⟨some 42, (Op.move (Operand.tmp 1)), 3, none⟩,
    ⟨some 35, (Op.nilCheck (Operand.tmp 34)), 0, none⟩,
    ⟨some 36, (Op.fieldAddr 38 (Operand.tmp 35) 0), 0, none⟩,
    ⟨some 37, (Op.load 3 (Operand.tmp 36)), 3, none⟩,
    ⟨some 39, (Op.nilCheck (Operand.tmp 38)), 0, none⟩,
    ⟨some 40, (Op.fieldAddr 38 (Operand.tmp 39) 1), 0, none⟩,
    ⟨some 41, (Op.load 35 (Operand.tmp 40)), 35, none⟩,
    ⟨some 43, (Op.call ⟨(Callee.value (Operand.func 192)), #[(Operand.tmp 37), (Operand.tmp 41), (Operand.tmp 42)], #[3, 35, 3]⟩), 227, none⟩,
    ⟨some 32, (Op.move (Operand.tmp 43)), 227, none⟩,
    ⟨some 44, (Op.extract (Operand.tmp 32) 0), 35, none⟩,
    ⟨some 45, (Op.extract (Operand.tmp 32) 1), 31, none⟩,
    ⟨some 46, (Op.nilCheck (Operand.tmp 33)), 0, none⟩,
    ⟨some 47, (Op.fieldAddr 38 (Operand.tmp 46) 1), 0, none⟩,
    ⟨none, (Op.store 35 (Operand.tmp 47) (Operand.tmp 44)), 0, none⟩]))))⟩
theorem is_hello_heard (c : Cfg) (h : c.lendT = []) : isF PP c 120 c_hello_heard := isF_of (fn := Proofs.Tryz.f120) (by kernel_rfl) (by kernel_rfl) rfl h (by kernel_rfl) rfl rfl (by kernel_rfl)
def c_view_Peer : SF := ⟨21, [(ResultVar.tmp 4)],
  (.seq (.ops [⟨some 4, (Op.assign (Operand.const (Value.bool false))), 4, none⟩]) (.seq (.ops [⟨some 8, (Op.move (Operand.tmp 0)), 157, none⟩,
    ⟨some 12, (Op.move (Operand.tmp 0)), 157, none⟩,
    ⟨some 16, (Op.move (Operand.tmp 1)), 3, none⟩,
    ⟨some 9, (Op.nilCheck (Operand.tmp 8)), 0, none⟩,
    ⟨some 10, (Op.fieldAddr 38 (Operand.tmp 9) 0), 0, none⟩,
    ⟨some 11, (Op.load 3 (Operand.tmp 10)), 3, none⟩,
    ⟨some 13, (Op.nilCheck (Operand.tmp 12)), 0, none⟩,
    ⟨some 14, (Op.fieldAddr 38 (Operand.tmp 13) 1), 0, none⟩,
    ⟨some 15, (Op.load 35 (Operand.tmp 14)), 35, none⟩,
    ⟨some 17, (Op.call ⟨(Callee.value (Operand.func 193)), #[(Operand.tmp 11), (Operand.tmp 15), (Operand.tmp 16)], #[3, 35, 3]⟩), 129, none⟩,
    ⟨some 7, (Op.move (Operand.tmp 17)), 129, none⟩,
    ⟨some 18, (Op.extract (Operand.tmp 7) 0), 3, none⟩,
    ⟨some 19, (Op.extract (Operand.tmp 7) 1), 4, none⟩,
    ⟨some 5, (Op.assign (Operand.tmp 18)), 3, none⟩,
    ⟨some 6, (Op.assign (Operand.tmp 19)), 4, none⟩]) (.seq (.ops [⟨some 20, (Op.move (Operand.tmp 6)), 4, none⟩,
    ⟨some 4, (Op.assign (Operand.tmp 20)), 4, none⟩]) .ret)))⟩
theorem is_view_Peer (c : Cfg) (h : c.lendT = []) : isF PP c 121 c_view_Peer := isF_of (fn := Proofs.Tryz.f121) (by kernel_rfl) (by kernel_rfl) rfl h (by kernel_rfl) rfl rfl (by kernel_rfl)
def c_view_Passive : SF := ⟨11, [(ResultVar.tmp 4)],
  (.seq (.ops [⟨some 4, (Op.assign (Operand.const (Value.bool false))), 4, none⟩]) (.seq (.ops [⟨some 5, (Op.move (Operand.tmp 0)), 157, none⟩,
    ⟨some 6, (Op.nilCheck (Operand.tmp 5)), 0, none⟩,
    ⟨some 7, (Op.fieldAddr 38 (Operand.tmp 6) 2), 0, none⟩,
    ⟨some 8, (Op.load 36 (Operand.tmp 7)), 36, none⟩,
    ⟨some 9, (Op.move (Operand.tmp 1)), 3, none⟩,
    ⟨some 10, (Op.call ⟨(Callee.value (Operand.func 194)), #[(Operand.tmp 8), (Operand.tmp 9)], #[36, 3]⟩), 4, none⟩,
    ⟨some 4, (Op.assign (Operand.tmp 10)), 4, none⟩]) .ret))⟩
theorem is_view_Passive (c : Cfg) (h : c.lendT = []) : isF PP c 122 c_view_Passive := isF_of (fn := Proofs.Tryz.f122) (by kernel_rfl) (by kernel_rfl) rfl h (by kernel_rfl) rfl rfl (by kernel_rfl)
def c_item_May : SF := ⟨26, [(ResultVar.tmp 2)],
  (.seq (.ops [⟨some 1, (Op.box 46 (Operand.tmp 0)), 0, none⟩,
    ⟨some 2, (Op.assign (Operand.const (Value.bool false))), 4, none⟩]) (.seq (.ops [⟨some 3, (Op.fieldAddr 46 (Operand.tmp 1) 0), 0, none⟩,
    ⟨some 4, (Op.load 3 (Operand.tmp 3)), 3, none⟩,
    ⟨some 5, (Op.call ⟨(Callee.value (Operand.func 149)), #[(Operand.tmp 4)], #[3]⟩), 4, none⟩,
    ⟨some 6, (Op.move (Operand.tmp 5)), 4, none⟩,
    ⟨some 7, (Op.fieldAddr 46 (Operand.tmp 1) 2), 0, some (6, true)⟩,
    ⟨some 8, (Op.load 3 (Operand.tmp 7)), 3, some (6, true)⟩,
    ⟨some 9, (Op.call ⟨(Callee.value (Operand.func 149)), #[(Operand.tmp 8)], #[3]⟩), 4, some (6, true)⟩,
    ⟨some 10, (Op.pick (Operand.tmp 6) (Operand.tmp 9) (Operand.const (Value.bool false))), 4, none⟩,
    ⟨some 11, (Op.move (Operand.tmp 10)), 4, none⟩,
    ⟨some 12, (Op.fieldAddr 46 (Operand.tmp 1) 1), 0, some (11, true)⟩,
    ⟨some 13, (Op.load 44 (Operand.tmp 12)), 44, some (11, true)⟩,
    ⟨some 14, (Op.call ⟨(Callee.value (Operand.func 195)), #[(Operand.tmp 13)], #[44]⟩), 4, some (11, true)⟩,
    ⟨some 15, (Op.pick (Operand.tmp 11) (Operand.tmp 14) (Operand.const (Value.bool false))), 4, none⟩,
    ⟨some 16, (Op.move (Operand.tmp 15)), 4, none⟩,
    ⟨some 17, (Op.fieldAddr 46 (Operand.tmp 1) 3), 0, some (16, true)⟩,
    ⟨some 18, (Op.load 4 (Operand.tmp 17)), 4, some (16, true)⟩,
    ⟨some 19, (Op.unOp UnOp.not 4 (Operand.tmp 18)), 4, some (16, true)⟩,
    ⟨some 20, (Op.move (Operand.tmp 19)), 4, some (16, true)⟩,
    ⟨some 21, (Op.fieldAddr 46 (Operand.tmp 1) 2), 0, some (20, false)⟩,
    ⟨some 22, (Op.load 3 (Operand.tmp 21)), 3, some (20, false)⟩,
    ⟨some 23, (Op.binOp BinOp.eql 3 (Operand.tmp 22) (Operand.const (Value.int IntKind.i64 0)) 3), 4, some (20, false)⟩,
    ⟨some 24, (Op.pick (Operand.tmp 20) (Operand.const (Value.bool true)) (Operand.tmp 23)), 4, some (16, true)⟩,
    ⟨some 25, (Op.pick (Operand.tmp 16) (Operand.tmp 24) (Operand.const (Value.bool false))), 4, none⟩,
    ⟨some 2, (Op.assign (Operand.tmp 25)), 4, none⟩]) .ret))⟩
theorem is_item_May (c : Cfg) (h : c.lendT = []) : isF PP c 123 c_item_May := isF_of (fn := Proofs.Tryz.f123) (by kernel_rfl) (by kernel_rfl) rfl h (by kernel_rfl) rfl rfl (by kernel_rfl)
def c_slices_Clone_api_Item_api_Item : SF := ⟨8, [(ResultVar.tmp 2)],
  (.seq (.ops [⟨some 2, (Op.assign (Operand.const (Value.slice none 0 0))), 39, none⟩]) (.seq (.seq (.ops [⟨some 3, (Op.move (Operand.tmp 0)), 39, none⟩,
    ⟨some 4, (Op.binOp BinOp.eql 39 (Operand.tmp 3) (Operand.const (Value.slice none 0 0)) 39), 4, none⟩]) (.cond (Operand.tmp 4) (.seq (.ops [⟨some 2, (Op.assign (Operand.const (Value.slice none 0 0))), 39, none⟩]) .ret) .skip)) (.seq (.ops [⟨some 5, (Op.buildSlice 39 0 #[]), 39, none⟩,
    ⟨some 6, (Op.move (Operand.tmp 0)), 39, none⟩,
    ⟨some 7, (Op.call ⟨(Callee.builtin Builtin.append), #[(Operand.tmp 5), (Operand.tmp 6)], #[39, 39]⟩), 39, none⟩,
    ⟨some 2, (Op.assign (Operand.tmp 7)), 39, none⟩]) .ret)))⟩
theorem is_slices_Clone_api_Item_api_Item (c : Cfg) (h : c.lendT = []) : isF PP c 124 c_slices_Clone_api_Item_api_Item := isF_of (fn := Proofs.Tryz.f124) (by kernel_rfl) (by kernel_rfl) rfl h (by kernel_rfl) rfl rfl (by kernel_rfl)
def c_slices_BinarySearchFunc_api_Item_api_Item_int_L0 : SC := (.seq (.seq (.ops [⟨some 15, (Op.move (Operand.tmp 9)), 3, none⟩,
    ⟨some 16, (Op.move (Operand.tmp 10)), 3, none⟩,
    ⟨some 17, (Op.binOp BinOp.lss 3 (Operand.tmp 15) (Operand.tmp 16) 3), 4, none⟩]) (.cond (Operand.tmp 17) .skip (.exit 0))) (.block 1 (.seq (.ops [⟨some 18, (Op.move (Operand.tmp 9)), 3, none⟩,
    ⟨some 19, (Op.move (Operand.tmp 10)), 3, none⟩,
    ⟨some 20, (Op.binOp BinOp.add 3 (Operand.tmp 18) (Operand.tmp 19) 3), 3, none⟩,
    ⟨some 21, (Op.convert 3 54 (Operand.tmp 20)), 54, none⟩,
    ⟨some 22, (Op.binOp BinOp.shr 54 (Operand.tmp 21) (Operand.const (Value.int IntKind.u64 1)) 54), 54, none⟩,
    ⟨some 23, (Op.convert 54 3 (Operand.tmp 22)), 3, none⟩,
    ⟨some 11, (Op.assign (Operand.tmp 23)), 3, none⟩]) (.seq (.ops [⟨some 24, (Op.move (Operand.tmp 2)), 170, none⟩,
    ⟨some 25, (Op.move (Operand.tmp 0)), 39, none⟩,
    ⟨some 26, (Op.move (Operand.tmp 11)), 3, none⟩,
    ⟨some 27, (Op.indexAddr 39 (Operand.tmp 25) (Operand.tmp 26)), 0, none⟩,
    ⟨some 28, (Op.load 46 (Operand.tmp 27)), 46, none⟩,
    ⟨some 29, (Op.move (Operand.tmp 1)), 3, none⟩,
    ⟨some 30, (Op.call ⟨(Callee.value (Operand.tmp 24)), #[(Operand.tmp 28), (Operand.tmp 29)], #[46, 3]⟩), 3, none⟩,
    ⟨some 31, (Op.binOp BinOp.lss 3 (Operand.tmp 30) (Operand.const (Value.int IntKind.i64 0)) 3), 4, none⟩]) (.cond (Operand.tmp 31) (.ops [⟨some 32, (Op.move (Operand.tmp 11)), 3, none⟩,
    ⟨some 33, (Op.binOp BinOp.add 3 (Operand.tmp 32) (Operand.const (Value.int IntKind.i64 1)) 3), 3, none⟩,
    ⟨some 9, (Op.assign (Operand.tmp 33)), 3, none⟩]) (.ops [⟨some 34, (Op.move (Operand.tmp 11)), 3, none⟩,
    ⟨some 10, (Op.assign (Operand.tmp 34)), 3, none⟩]))))))
def c_slices_BinarySearchFunc_api_Item_api_Item_int : SF := ⟨49, [(ResultVar.tmp 6), (ResultVar.tmp 7)],
  (.seq (.ops [⟨some 6, (Op.assign (Operand.const (Value.int IntKind.i64 0))), 3, none⟩,
    ⟨some 7, (Op.assign (Operand.const (Value.bool false))), 4, none⟩]) (.seq (.ops [⟨some 12, (Op.move (Operand.tmp 0)), 39, none⟩,
    ⟨some 13, (Op.call ⟨(Callee.builtin Builtin.len), #[(Operand.tmp 12)], #[39]⟩), 3, none⟩,
    ⟨some 8, (Op.assign (Operand.tmp 13)), 3, none⟩]) (.seq (.ops [⟨some 14, (Op.move (Operand.tmp 8)), 3, none⟩,
    ⟨some 9, (Op.assign (Operand.const (Value.int IntKind.i64 0))), 3, none⟩,
    ⟨some 10, (Op.assign (Operand.tmp 14)), 3, none⟩]) (.seq (.block 0 (.loop c_slices_BinarySearchFunc_api_Item_api_Item_int_L0)) (.seq (.ops [⟨some 35, (Op.move (Operand.tmp 9)), 3, none⟩,
    ⟨some 36, (Op.move (Operand.tmp 9)), 3, none⟩,
    ⟨some 37, (Op.move (Operand.tmp 8)), 3, none⟩,
    ⟨some 38, (Op.binOp BinOp.lss 3 (Operand.tmp 36) (Operand.tmp 37) 3), 4, none⟩,
    ⟨some 39, (Op.move (Operand.tmp 38)), 4, none⟩,
    ⟨some 40, (Op.move (Operand.tmp 2)), 170, some (39, true)⟩,
    ⟨some 41, (Op.move (Operand.tmp 0)), 39, some (39, true)⟩,
    ⟨some 42, (Op.move (Operand.tmp 9)), 3, some (39, true)⟩,
    ⟨some 43, (Op.indexAddr 39 (Operand.tmp 41) (Operand.tmp 42)), 0, some (39, true)⟩,
    ⟨some 44, (Op.load 46 (Operand.tmp 43)), 46, some (39, true)⟩,
    ⟨some 45, (Op.move (Operand.tmp 1)), 3, some (39, true)⟩,
    ⟨some 46, (Op.call ⟨(Callee.value (Operand.tmp 40)), #[(Operand.tmp 44), (Operand.tmp 45)], #[46, 3]⟩), 3, some (39, true)⟩,
    ⟨some 47, (Op.binOp BinOp.eql 3 (Operand.tmp 46) (Operand.const (Value.int IntKind.i64 0)) 3), 4, some (39, true)⟩,
    ⟨some 48, (Op.pick (Operand.tmp 39) (Operand.tmp 47) (Operand.const (Value.bool false))), 4, none⟩,
    ⟨some 6, (Op.assign (Operand.tmp 35)), 3, none⟩,
    ⟨some 7, (Op.assign (Operand.tmp 48)), 4, none⟩]) .ret)))))⟩
theorem is_slices_BinarySearchFunc_api_Item_api_Item_int (c : Cfg) (h : c.lendT = []) : isF PP c 125 c_slices_BinarySearchFunc_api_Item_api_Item_int := isF_of (fn := Proofs.Tryz.f125) (by kernel_rfl) (by kernel_rfl) rfl h (by kernel_rfl) rfl rfl (by kernel_rfl)
def c_store_byKey : SF := ⟨9, [(ResultVar.tmp 4)],
  (.seq (.ops [⟨some 2, (Op.box 46 (Operand.tmp 0)), 0, none⟩,
    ⟨some 4, (Op.assign (Operand.const (Value.int IntKind.i64 0))), 3, none⟩]) (.seq (.ops [⟨some 5, (Op.fieldAddr 46 (Operand.tmp 2) 0), 0, none⟩,
    ⟨some 6, (Op.load 3 (Operand.tmp 5)), 3, none⟩,
    ⟨some 7, (Op.move (Operand.tmp 1)), 3, none⟩,
    ⟨some 8, (Op.call ⟨(Callee.value (Operand.func 168)), #[(Operand.tmp 6), (Operand.tmp 7)], #[3, 3]⟩), 3, none⟩,
    ⟨some 4, (Op.assign (Operand.tmp 8)), 3, none⟩]) .ret))⟩
theorem is_store_byKey (c : Cfg) (h : c.lendT = []) : isF PP c 126 c_store_byKey := isF_of (fn := Proofs.Tryz.f126) (by kernel_rfl) (by kernel_rfl) rfl h (by kernel_rfl) rfl rfl (by kernel_rfl)
def c_item_Best : SF := ⟨25, [(ResultVar.cell 4 46), (ResultVar.tmp 5)],
  (.seq (.ops [⟨some 2, (Op.box 46 (Operand.tmp 0)), 0, none⟩,
    ⟨some 3, (Op.box 46 (Operand.tmp 1)), 0, none⟩,
    ⟨some 4, (Op.alloc 46), 0, none⟩,
    ⟨some 5, (Op.assign (Operand.const (Value.int IntKind.i64 0))), 31, none⟩]) (.seq (.seq (.ops [⟨some 6, (Op.load 46 (Operand.tmp 2)), 46, none⟩,
    ⟨some 7, (Op.call ⟨(Callee.value (Operand.func 123)), #[(Operand.tmp 6)], #[46]⟩), 4, none⟩,
    ⟨some 8, (Op.unOp UnOp.not 4 (Operand.tmp 7)), 4, none⟩,
    ⟨some 9, (Op.move (Operand.tmp 8)), 4, none⟩,
    ⟨some 10, (Op.load 46 (Operand.tmp 3)), 46, some (9, false)⟩,
    ⟨some 11, (Op.call ⟨(Callee.value (Operand.func 123)), #[(Operand.tmp 10)], #[46]⟩), 4, some (9, false)⟩,
    ⟨some 12, (Op.unOp UnOp.not 4 (Operand.tmp 11)), 4, some (9, false)⟩,
    ⟨some 13, (Op.pick (Operand.tmp 9) (Operand.const (Value.bool true)) (Operand.tmp 12)), 4, none⟩,
    ⟨some 14, (Op.move (Operand.tmp 13)), 4, none⟩,
    ⟨some 15, (Op.fieldAddr 46 (Operand.tmp 2) 0), 0, some (14, false)⟩,
    ⟨some 16, (Op.load 3 (Operand.tmp 15)), 3, some (14, false)⟩,
    ⟨some 17, (Op.fieldAddr 46 (Operand.tmp 3) 0), 0, some (14, false)⟩,
    ⟨some 18, (Op.load 3 (Operand.tmp 17)), 3, some (14, false)⟩,
    ⟨some 19, (Op.binOp BinOp.neq 3 (Operand.tmp 16) (Operand.tmp 18) 3), 4, some (14, false)⟩,
    ⟨some 20, (Op.pick (Operand.tmp 14) (Operand.const (Value.bool true)) (Operand.tmp 19)), 4, none⟩]) (.cond (Operand.tmp 20) (.seq (.ops [⟨some 21, (Op.build 46 #[]), 46, none⟩,
    ⟨none, (Op.store 46 (Operand.tmp 4) (Operand.tmp 21)), 0, none⟩,
    ⟨some 5, (Op.assign (Operand.const (Value.int IntKind.i64 400))), 31, none⟩]) .ret) .skip)) (.seq (.seq (.ops [⟨some 22, (Op.call ⟨(Callee.value (Operand.func 196)), #[(Operand.tmp 2), (Operand.tmp 3)], #[231, 231]⟩), 4, none⟩]) (.cond (Operand.tmp 22) (.seq (.ops [⟨some 23, (Op.load 46 (Operand.tmp 2)), 46, none⟩,
    ⟨none, (Op.store 46 (Operand.tmp 4) (Operand.tmp 23)), 0, none⟩,
    ⟨some 5, (Op.assign (Operand.const (Value.int IntKind.i64 0))), 31, none⟩]) .ret) .skip)) (.seq (.ops [⟨some 24, (Op.load 46 (Operand.tmp 3)), 46, none⟩,
    ⟨none, (Op.store 46 (Operand.tmp 4) (Operand.tmp 24)), 0, none⟩,
    ⟨some 5, (Op.assign (Operand.const (Value.int IntKind.i64 0))), 31, none⟩]) .ret))))⟩
theorem is_item_Best (c : Cfg) (h : c.lendT = []) : isF PP c 127 c_item_Best := isF_of (fn := Proofs.Tryz.f127) (by kernel_rfl) (by kernel_rfl) rfl h (by kernel_rfl) rfl rfl (by kernel_rfl)
def c_slices_Insert_api_Item_api_Item : SF := ⟨95, [(ResultVar.tmp 6)],
  (.seq (.ops [⟨some 6, (Op.assign (Operand.const (Value.slice none 0 0))), 39, none⟩]) (.seq (.ops [⟨some 10, (Op.move (Operand.tmp 0)), 39, none⟩,
    ⟨some 11, (Op.move (Operand.tmp 1)), 3, none⟩,
    ⟨some 12, (Op.slice 39 (Operand.tmp 10) (some (Operand.tmp 11)) none none), 39, none⟩]) (.seq (.ops [⟨some 13, (Op.move (Operand.tmp 2)), 39, none⟩,
    ⟨some 14, (Op.call ⟨(Callee.builtin Builtin.len), #[(Operand.tmp 13)], #[39]⟩), 3, none⟩,
    ⟨some 7, (Op.assign (Operand.tmp 14)), 3, none⟩]) (.seq (.seq (.ops [⟨some 15, (Op.move (Operand.tmp 7)), 3, none⟩,
    ⟨some 16, (Op.binOp BinOp.eql 3 (Operand.tmp 15) (Operand.const (Value.int IntKind.i64 0)) 3), 4, none⟩]) (.cond (Operand.tmp 16) (.seq (.ops [⟨some 17, (Op.move (Operand.tmp 0)), 39, none⟩,
    ⟨some 6, (Op.assign (Operand.tmp 17)), 39, none⟩]) .ret) .skip)) (.seq (.ops [⟨some 18, (Op.move (Operand.tmp 0)), 39, none⟩,
    ⟨some 19, (Op.call ⟨(Callee.builtin Builtin.len), #[(Operand.tmp 18)], #[39]⟩), 3, none⟩,
    ⟨some 8, (Op.assign (Operand.tmp 19)), 3, none⟩]) (.seq (.seq (.ops [⟨some 20, (Op.move (Operand.tmp 1)), 3, none⟩,
    ⟨some 21, (Op.move (Operand.tmp 8)), 3, none⟩,
    ⟨some 22, (Op.binOp BinOp.eql 3 (Operand.tmp 20) (Operand.tmp 21) 3), 4, none⟩]) (.cond (Operand.tmp 22) (.seq (.ops [⟨some 23, (Op.move (Operand.tmp 0)), 39, none⟩,
    ⟨some 24, (Op.move (Operand.tmp 2)), 39, none⟩,
    ⟨some 25, (Op.call ⟨(Callee.builtin Builtin.append), #[(Operand.tmp 23), (Operand.tmp 24)], #[39, 39]⟩), 39, none⟩,
    ⟨some 6, (Op.assign (Operand.tmp 25)), 39, none⟩]) .ret) .skip)) (.seq (.seq (.ops [⟨some 26, (Op.move (Operand.tmp 8)), 3, none⟩,
    ⟨some 27, (Op.move (Operand.tmp 7)), 3, none⟩,
    ⟨some 28, (Op.binOp BinOp.add 3 (Operand.tmp 26) (Operand.tmp 27) 3), 3, none⟩,
    ⟨some 29, (Op.move (Operand.tmp 0)), 39, none⟩,
    ⟨some 30, (Op.call ⟨(Callee.builtin Builtin.cap), #[(Operand.tmp 29)], #[39]⟩), 3, none⟩,
    ⟨some 31, (Op.binOp BinOp.gtr 3 (Operand.tmp 28) (Operand.tmp 30) 3), 4, none⟩]) (.cond (Operand.tmp 31) (.seq (.ops [⟨some 32, (Op.move (Operand.tmp 0)), 39, none⟩,
    ⟨some 33, (Op.move (Operand.tmp 1)), 3, none⟩,
    ⟨some 34, (Op.slice 39 (Operand.tmp 32) none (some (Operand.tmp 33)) none), 39, none⟩,
    ⟨some 35, (Op.move (Operand.tmp 8)), 3, none⟩,
    ⟨some 36, (Op.move (Operand.tmp 7)), 3, none⟩,
    ⟨some 37, (Op.binOp BinOp.add 3 (Operand.tmp 35) (Operand.tmp 36) 3), 3, none⟩,
    ⟨some 38, (Op.move (Operand.tmp 1)), 3, none⟩,
    ⟨some 39, (Op.binOp BinOp.sub 3 (Operand.tmp 37) (Operand.tmp 38) 3), 3, none⟩,
    ⟨some 40, (Op.call ⟨(Callee.builtin Builtin.append), #[(Operand.tmp 34), (Operand.tmp 39)], #[39, 3]⟩), 39, none⟩,
    ⟨some 9, (Op.assign (Operand.tmp 40)), 39, none⟩]) (.seq (.ops [⟨some 41, (Op.move (Operand.tmp 9)), 39, none⟩,
    ⟨some 42, (Op.move (Operand.tmp 1)), 3, none⟩,
    ⟨some 43, (Op.slice 39 (Operand.tmp 41) (some (Operand.tmp 42)) none none), 39, none⟩,
    ⟨some 44, (Op.move (Operand.tmp 2)), 39, none⟩,
    ⟨some 45, (Op.call ⟨(Callee.builtin Builtin.copy), #[(Operand.tmp 43), (Operand.tmp 44)], #[39, 39]⟩), 3, none⟩]) (.seq (.ops [⟨some 46, (Op.move (Operand.tmp 9)), 39, none⟩,
    ⟨some 47, (Op.move (Operand.tmp 1)), 3, none⟩,
    ⟨some 48, (Op.move (Operand.tmp 7)), 3, none⟩,
    ⟨some 51, (Op.move (Operand.tmp 0)), 39, none⟩,
    ⟨some 52, (Op.move (Operand.tmp 1)), 3, none⟩,
    ⟨some 49, (Op.binOp BinOp.add 3 (Operand.tmp 47) (Operand.tmp 48) 3), 3, none⟩,
    ⟨some 50, (Op.slice 39 (Operand.tmp 46) (some (Operand.tmp 49)) none none), 39, none⟩,
    ⟨some 53, (Op.slice 39 (Operand.tmp 51) (some (Operand.tmp 52)) none none), 39, none⟩,
    ⟨some 54, (Op.call ⟨(Callee.builtin Builtin.copy), #[(Operand.tmp 50), (Operand.tmp 53)], #[39, 39]⟩), 3, none⟩]) (.seq (.ops [⟨some 55, (Op.move (Operand.tmp 9)), 39, none⟩,
    ⟨some 6, (Op.assign (Operand.tmp 55)), 39, none⟩]) .ret)))) .skip)) (.seq (.ops [⟨some 56, (Op.move (Operand.tmp 0)), 39, none⟩,
    ⟨some 57, (Op.move (Operand.tmp 8)), 3, none⟩,
    ⟨some 58, (Op.move (Operand.tmp 7)), 3, none⟩,
    ⟨some 59, (Op.binOp BinOp.add 3 (Operand.tmp 57) (Operand.tmp 58) 3), 3, none⟩,
    ⟨some 60, (Op.slice 39 (Operand.tmp 56) none (some (Operand.tmp 59)) none), 39, none⟩,
    ⟨some 0, (Op.assign (Operand.tmp 60)), 39, none⟩]) (.seq (.seq (.ops [⟨some 61, (Op.move (Operand.tmp 2)), 39, none⟩,
    ⟨some 62, (Op.move (Operand.tmp 0)), 39, none⟩,
    ⟨some 63, (Op.move (Operand.tmp 1)), 3, none⟩,
    ⟨some 64, (Op.move (Operand.tmp 7)), 3, none⟩,
    ⟨some 65, (Op.binOp BinOp.add 3 (Operand.tmp 63) (Operand.tmp 64) 3), 3, none⟩,
    ⟨some 66, (Op.slice 39 (Operand.tmp 62) (some (Operand.tmp 65)) none none), 39, none⟩,
    ⟨some 67, (Op.call ⟨(Callee.value (Operand.func 197)), #[(Operand.tmp 61), (Operand.tmp 66)], #[39, 39]⟩), 4, none⟩,
    ⟨some 68, (Op.unOp UnOp.not 4 (Operand.tmp 67)), 4, none⟩]) (.cond (Operand.tmp 68) (.seq (.ops [⟨some 69, (Op.move (Operand.tmp 0)), 39, none⟩,
    ⟨some 70, (Op.move (Operand.tmp 1)), 3, none⟩,
    ⟨some 71, (Op.move (Operand.tmp 7)), 3, none⟩,
    ⟨some 74, (Op.move (Operand.tmp 0)), 39, none⟩,
    ⟨some 75, (Op.move (Operand.tmp 1)), 3, none⟩,
    ⟨some 72, (Op.binOp BinOp.add 3 (Operand.tmp 70) (Operand.tmp 71) 3), 3, none⟩,
    ⟨some 73, (Op.slice 39 (Operand.tmp 69) (some (Operand.tmp 72)) none none), 39, none⟩,
    ⟨some 76, (Op.slice 39 (Operand.tmp 74) (some (Operand.tmp 75)) none none), 39, none⟩,
    ⟨some 77, (Op.call ⟨(Callee.builtin Builtin.copy), #[(Operand.tmp 73), (Operand.tmp 76)], #[39, 39]⟩), 3, none⟩]) (.seq (.ops [⟨some 78, (Op.move (Operand.tmp 0)), 39, none⟩,
    ⟨some 79, (Op.move (Operand.tmp 1)), 3, none⟩,
    ⟨some 80, (Op.slice 39 (Operand.tmp 78) (some (Operand.tmp 79)) none none), 39, none⟩,
    ⟨some 81, (Op.move (Operand.tmp 2)), 39, none⟩,
    ⟨some 82, (Op.call ⟨(Callee.builtin Builtin.copy), #[(Operand.tmp 80), (Operand.tmp 81)], #[39, 39]⟩), 3, none⟩]) (.seq (.ops [⟨some 83, (Op.move (Operand.tmp 0)), 39, none⟩,
    ⟨some 6, (Op.assign (Operand.tmp 83)), 39, none⟩]) .ret))) .skip)) (.seq (.ops [⟨some 84, (Op.move (Operand.tmp 0)), 39, none⟩,
    ⟨some 85, (Op.move (Operand.tmp 8)), 3, none⟩,
    ⟨some 86, (Op.slice 39 (Operand.tmp 84) (some (Operand.tmp 85)) none none), 39, none⟩,
    ⟨some 87, (Op.move (Operand.tmp 2)), 39, none⟩,
    ⟨some 88, (Op.call ⟨(Callee.builtin Builtin.copy), #[(Operand.tmp 86), (Operand.tmp 87)], #[39, 39]⟩), 3, none⟩]) (.seq (.ops [⟨some 89, (Op.move (Operand.tmp 0)), 39, none⟩,
    ⟨some 90, (Op.move (Operand.tmp 1)), 3, none⟩,
    ⟨some 91, (Op.slice 39 (Operand.tmp 89) (some (Operand.tmp 90)) none none), 39, none⟩,
    ⟨some 92, (Op.move (Operand.tmp 7)), 3, none⟩,
    ⟨some 93, (Op.call ⟨(Callee.value (Operand.func 198)), #[(Operand.tmp 91), (Operand.tmp 92)], #[39, 3]⟩), 0, none⟩]) (.seq (.ops [⟨some 94, (Op.move (Operand.tmp 0)), 39, none⟩,
    ⟨some 6, (Op.assign (Operand.tmp 94)), 39, none⟩]) .ret))))))))))))⟩
theorem is_slices_Insert_api_Item_api_Item (c : Cfg) (h : c.lendT = [66]) : isF PP c 128 c_slices_Insert_api_Item_api_Item := isF_of (fn := Proofs.Tryz.f128) (by kernel_rfl) (by kernel_rfl) rfl h (by kernel_rfl) rfl rfl (by kernel_rfl)
def c_ask_to : SF := ⟨37, [(ResultVar.tmp 6)],
  (.seq (.ops [⟨some 6, (Op.assign (Operand.const (Value.bool false))), 4, none⟩]) (.seq (.ops [⟨some 7, (Op.move (Operand.tmp 0)), 175, none⟩,
    ⟨some 8, (Op.nilCheck (Operand.tmp 7)), 0, none⟩,
    ⟨some 9, (Op.load 42 (Operand.tmp 8)), 42, none⟩,
    ⟨some 10, (Op.call ⟨(Callee.value (Operand.func 84)), #[(Operand.tmp 9)], #[42]⟩), 4, none⟩,
    ⟨some 11, (Op.move (Operand.tmp 10)), 4, none⟩,
    ⟨some 12, (Op.move (Operand.tmp 1)), 176, some (11, true)⟩,
    ⟨some 13, (Op.nilCheck (Operand.tmp 12)), 0, some (11, true)⟩,
    ⟨some 14, (Op.load 68 (Operand.tmp 13)), 68, some (11, true)⟩,
    ⟨some 15, (Op.call ⟨(Callee.value (Operand.func 85)), #[(Operand.tmp 14)], #[68]⟩), 4, some (11, true)⟩,
    ⟨some 16, (Op.pick (Operand.tmp 11) (Operand.tmp 15) (Operand.const (Value.bool false))), 4, none⟩,
    ⟨some 17, (Op.move (Operand.tmp 16)), 4, none⟩,
    ⟨some 18, (Op.move (Operand.tmp 1)), 176, some (17, true)⟩,
    ⟨some 19, (Op.nilCheck (Operand.tmp 18)), 0, some (17, true)⟩,
    ⟨some 20, (Op.fieldAddr 68 (Operand.tmp 19) 0), 0, some (17, true)⟩,
    ⟨some 21, (Op.load 3 (Operand.tmp 20)), 3, some (17, true)⟩,
    ⟨some 22, (Op.move (Operand.tmp 2)), 3, some (17, true)⟩,
    ⟨some 23, (Op.binOp BinOp.eql 3 (Operand.tmp 21) (Operand.tmp 22) 3), 4, some (17, true)⟩,
    ⟨some 24, (Op.pick (Operand.tmp 17) (Operand.tmp 23) (Operand.const (Value.bool false))), 4, none⟩,
    ⟨some 25, (Op.move (Operand.tmp 24)), 4, none⟩,
    ⟨some 26, (Op.move (Operand.tmp 1)), 176, some (25, true)⟩,
    ⟨some 27, (Op.nilCheck (Operand.tmp 26)), 0, some (25, true)⟩,
    ⟨some 28, (Op.fieldAddr 68 (Operand.tmp 27) 2), 0, some (25, true)⟩,
    ⟨some 29, (Op.load 3 (Operand.tmp 28)), 3, some (25, true)⟩,
    ⟨some 30, (Op.move (Operand.tmp 0)), 175, some (25, true)⟩,
    ⟨some 31, (Op.nilCheck (Operand.tmp 30)), 0, some (25, true)⟩,
    ⟨some 32, (Op.fieldAddr 42 (Operand.tmp 31) 1), 0, some (25, true)⟩,
    ⟨some 33, (Op.fieldAddr 38 (Operand.tmp 32) 0), 0, some (25, true)⟩,
    ⟨some 34, (Op.load 3 (Operand.tmp 33)), 3, some (25, true)⟩,
    ⟨some 35, (Op.binOp BinOp.eql 3 (Operand.tmp 29) (Operand.tmp 34) 3), 4, some (25, true)⟩,
    ⟨some 36, (Op.pick (Operand.tmp 25) (Operand.tmp 35) (Operand.const (Value.bool false))), 4, none⟩,
    ⟨some 6, (Op.assign (Operand.tmp 36)), 4, none⟩]) .ret))⟩
theorem is_ask_to (c : Cfg) (h : c.lendT = []) : isF PP c 129 c_ask_to := isF_of (fn := Proofs.Tryz.f129) (by kernel_rfl) (by kernel_rfl) rfl h (by kernel_rfl) rfl rfl (by kernel_rfl)
def c_store_Get : SF := ⟨25, [(ResultVar.cell 4 46), (ResultVar.tmp 5)],
  (.seq (.ops [⟨some 4, (Op.alloc 46), 0, none⟩,
    ⟨some 5, (Op.assign (Operand.const (Value.bool false))), 4, none⟩]) (.seq (.seq (.ops [⟨some 8, (Op.move (Operand.tmp 0)), 39, none⟩,
    ⟨some 9, (Op.call ⟨(Callee.value (Operand.func 115)), #[(Operand.tmp 8)], #[39]⟩), 4, none⟩,
    ⟨some 10, (Op.unOp UnOp.not 4 (Operand.tmp 9)), 4, none⟩]) (.cond (Operand.tmp 10) (.seq (.ops [⟨some 11, (Op.build 46 #[]), 46, none⟩,
    ⟨none, (Op.store 46 (Operand.tmp 4) (Operand.tmp 11)), 0, none⟩,
    ⟨some 5, (Op.assign (Operand.const (Value.bool false))), 4, none⟩]) .ret) .skip)) (.seq (.ops [⟨some 13, (Op.move (Operand.tmp 0)), 39, none⟩,
    ⟨some 14, (Op.move (Operand.tmp 1)), 3, none⟩,
    ⟨some 15, (Op.call ⟨(Callee.value (Operand.func 125)), #[(Operand.tmp 13), (Operand.tmp 14), (Operand.func 126)], #[39, 3, 170]⟩), 129, none⟩,
    ⟨some 12, (Op.move (Operand.tmp 15)), 129, none⟩,
    ⟨some 16, (Op.extract (Operand.tmp 12) 0), 3, none⟩,
    ⟨some 17, (Op.extract (Operand.tmp 12) 1), 4, none⟩,
    ⟨some 6, (Op.assign (Operand.tmp 16)), 3, none⟩,
    ⟨some 7, (Op.assign (Operand.tmp 17)), 4, none⟩]) (.seq (.seq (.ops [⟨some 18, (Op.move (Operand.tmp 7)), 4, none⟩,
    ⟨some 19, (Op.unOp UnOp.not 4 (Operand.tmp 18)), 4, none⟩]) (.cond (Operand.tmp 19) (.seq (.ops [⟨some 20, (Op.build 46 #[]), 46, none⟩,
    ⟨none, (Op.store 46 (Operand.tmp 4) (Operand.tmp 20)), 0, none⟩,
    ⟨some 5, (Op.assign (Operand.const (Value.bool false))), 4, none⟩]) .ret) .skip)) (.seq (.ops [⟨some 21, (Op.move (Operand.tmp 0)), 39, none⟩,
    ⟨some 22, (Op.move (Operand.tmp 6)), 3, none⟩,
    ⟨some 23, (Op.indexAddr 39 (Operand.tmp 21) (Operand.tmp 22)), 0, none⟩,
    ⟨some 24, (Op.load 46 (Operand.tmp 23)), 46, none⟩,
    ⟨none, (Op.store 46 (Operand.tmp 4) (Operand.tmp 24)), 0, none⟩,
    ⟨some 5, (Op.assign (Operand.const (Value.bool true))), 4, none⟩]) .ret)))))⟩
theorem is_store_Get (c : Cfg) (h : c.lendT = []) : isF PP c 130 c_store_Get := isF_of (fn := Proofs.Tryz.f130) (by kernel_rfl) (by kernel_rfl) rfl h (by kernel_rfl) rfl rfl (by kernel_rfl)
def c_ask_note : SF := ⟨41, [(ResultVar.cell 8 42)],
  (.seq (.ops [⟨some 4, (Op.box 42 (Operand.tmp 0)), 0, none⟩,
    ⟨some 6, (Op.box 46 (Operand.tmp 2)), 0, none⟩,
    ⟨some 8, (Op.alloc 42), 0, none⟩]) (.seq (.ops [⟨some 11, (Op.load 42 (Operand.tmp 4)), 42, none⟩,
    ⟨some 12, (Op.call ⟨(Callee.value (Operand.func 86)), #[(Operand.tmp 11)], #[42]⟩), 42, none⟩,
    ⟨some 9, (Op.alloc 42), 0, none⟩,
    ⟨none, (Op.store 42 (Operand.tmp 9) (Operand.tmp 12)), 0, none⟩]) (.seq (.ops [⟨some 13, (Op.move (Operand.tmp 1)), 3, none⟩,
    ⟨some 14, (Op.build 61 #[(0, (Operand.tmp 13))]), 61, none⟩,
    ⟨some 10, (Op.alloc 61), 0, none⟩,
    ⟨none, (Op.store 61 (Operand.tmp 10) (Operand.tmp 14)), 0, none⟩]) (.seq (.seq (.ops [⟨some 15, (Op.move (Operand.tmp 3)), 4, none⟩,
    ⟨some 16, (Op.move (Operand.tmp 15)), 4, none⟩,
    ⟨some 17, (Op.fieldAddr 46 (Operand.tmp 6) 3), 0, some (16, true)⟩,
    ⟨some 18, (Op.load 4 (Operand.tmp 17)), 4, some (16, true)⟩,
    ⟨some 19, (Op.unOp UnOp.not 4 (Operand.tmp 18)), 4, some (16, true)⟩,
    ⟨some 20, (Op.pick (Operand.tmp 16) (Operand.tmp 19) (Operand.const (Value.bool false))), 4, none⟩]) (.cond (Operand.tmp 20) (.alts [[⟨some 21, (Op.fieldAddr 46 (Operand.tmp 6) 2), 0, none⟩,
    ⟨some 22, (Op.load 3 (Operand.tmp 21)), 3, none⟩,
    ⟨some 23, (Op.fieldAddr 61 (Operand.tmp 10) 1), 0, none⟩,
    ⟨none, (Op.store 4 (Operand.tmp 23) (Operand.const (Value.bool true))), 0, none⟩,
    ⟨some 24, (Op.fieldAddr 61 (Operand.tmp 10) 2), 0, none⟩,
    ⟨none, (Op.store 3 (Operand.tmp 24) (Operand.tmp 22)), 0, none⟩],
    [⟨some 21, (Op.fieldAddr 46 (Operand.tmp 6) 2), 0, none⟩,
    ⟨some 23, (Op.fieldAddr 61 (Operand.tmp 10) 1), 0, none⟩,
    ⟨none, (Op.store 4 (Operand.tmp 23) (Operand.const (Value.bool true))), 0, none⟩,
    ⟨some 22, (Op.load 3 (Operand.tmp 21)), 3, none⟩,
    ⟨some 24, (Op.fieldAddr 61 (Operand.tmp 10) 2), 0, none⟩,
    ⟨none, (Op.store 3 (Operand.tmp 24) (Operand.tmp 22)), 0, none⟩],
    [⟨some 23, (Op.fieldAddr 61 (Operand.tmp 10) 1), 0, none⟩,
    ⟨none, (Op.store 4 (Operand.tmp 23) (Operand.const (Value.bool true))), 0, none⟩,
    ⟨some 21, (Op.fieldAddr 46 (Operand.tmp 6) 2), 0, none⟩,
    ⟨some 22, (Op.load 3 (Operand.tmp 21)), 3, none⟩,
    ⟨some 24, (Op.fieldAddr 61 (Operand.tmp 10) 2), 0, none⟩,
    ⟨none, (Op.store 3 (Operand.tmp 24) (Operand.tmp 22)), 0, none⟩]]) .skip)) (.seq (.ops [⟨some 25, (Op.fieldAddr 42 (Operand.tmp 9) 3), 0, none⟩,
    ⟨some 26, (Op.load 40 (Operand.tmp 25)), 40, none⟩,
    ⟨some 27, (Op.load 61 (Operand.tmp 10)), 61, none⟩,
    ⟨some 28, (Op.buildSlice 40 1 #[(0, (Operand.tmp 27))]), 40, none⟩,
    ⟨some 29, (Op.call ⟨(Callee.builtin Builtin.append), #[(Operand.tmp 26), (Operand.tmp 28)], #[40, 40]⟩), 40, none⟩,
    ⟨some 30, (Op.fieldAddr 42 (Operand.tmp 9) 3), 0, none⟩,
    ⟨none, (Op.store 40 (Operand.tmp 30) (Operand.tmp 29)), 0, none⟩]) (.seq (.ops [⟨some 31, (Op.fieldAddr 42 (Operand.tmp 9) 3), 0, none⟩,
    ⟨some 32, (Op.load 40 (Operand.tmp 31)), 40, none⟩,
    ⟨some 33, (Op.fieldAddr 42 (Operand.tmp 9) 3), 0, none⟩,
    ⟨some 34, (Op.load 40 (Operand.tmp 33)), 40, none⟩,
    ⟨some 35, (Op.call ⟨(Callee.builtin Builtin.len), #[(Operand.tmp 34)], #[40]⟩), 3, none⟩,
    ⟨some 36, (Op.binOp BinOp.sub 3 (Operand.tmp 35) (Operand.const (Value.int IntKind.i64 64)) 3), 3, none⟩,
    ⟨some 37, (Op.call ⟨(Callee.builtin Builtin.max), #[(Operand.tmp 36), (Operand.const (Value.int IntKind.i64 0))], #[3, 3]⟩), 3, none⟩,
    ⟨some 38, (Op.slice 40 (Operand.tmp 32) (some (Operand.tmp 37)) none none), 40, none⟩,
    ⟨some 39, (Op.fieldAddr 42 (Operand.tmp 9) 3), 0, none⟩,
    ⟨none, (Op.store 40 (Operand.tmp 39) (Operand.tmp 38)), 0, none⟩]) (.seq (.ops [⟨some 40, (Op.load 42 (Operand.tmp 9)), 42, none⟩,
    ⟨none, (Op.store 42 (Operand.tmp 8) (Operand.tmp 40)), 0, none⟩]) .ret)))))))⟩
theorem is_ask_note (c : Cfg) (h : c.lendT = []) : isF PP c 131 c_ask_note := isF_of (fn := Proofs.Tryz.f131) (by kernel_rfl) (by kernel_rfl) rfl h (by kernel_rfl) rfl rfl (by kernel_rfl)
def c_passive_May_L0 : SC := (.seq (.ops [⟨some 8, (Op.binOp BinOp.lss 3 (Operand.tmp 7) (Operand.tmp 6) 3), 0, none⟩]) (.seq (.cond (Operand.tmp 8) .skip (.exit 0)) (.seq (.block 1 (.seq (.ops [⟨some 9, (Op.move (Operand.tmp 7)), 3, none⟩,
    ⟨some 10, (Op.indexAddr 36 (Operand.tmp 5) (Operand.tmp 7)), 0, none⟩,
    ⟨some 11, (Op.load 3 (Operand.tmp 10)), 3, none⟩,
    ⟨some 3, (Op.assign (Operand.tmp 9)), 3, none⟩,
    ⟨some 4, (Op.assign (Operand.tmp 11)), 3, none⟩]) (.seq (.ops [⟨some 12, (Op.move (Operand.tmp 4)), 3, none⟩,
    ⟨some 13, (Op.call ⟨(Callee.value (Operand.func 118)), #[(Operand.tmp 12)], #[3]⟩), 4, none⟩,
    ⟨some 14, (Op.unOp UnOp.not 4 (Operand.tmp 13)), 4, none⟩,
    ⟨some 15, (Op.move (Operand.tmp 14)), 4, none⟩,
    ⟨some 16, (Op.move (Operand.tmp 3)), 3, some (15, false)⟩,
    ⟨some 17, (Op.binOp BinOp.gtr 3 (Operand.tmp 16) (Operand.const (Value.int IntKind.i64 0)) 3), 4, some (15, false)⟩,
    ⟨some 18, (Op.move (Operand.tmp 17)), 4, some (15, false)⟩,
    ⟨some 19, (Op.move (Operand.tmp 0)), 36, some (18, true)⟩,
    ⟨some 20, (Op.move (Operand.tmp 3)), 3, some (18, true)⟩,
    ⟨some 21, (Op.binOp BinOp.sub 3 (Operand.tmp 20) (Operand.const (Value.int IntKind.i64 1)) 3), 3, some (18, true)⟩,
    ⟨some 22, (Op.indexAddr 36 (Operand.tmp 19) (Operand.tmp 21)), 0, some (18, true)⟩,
    ⟨some 23, (Op.load 3 (Operand.tmp 22)), 3, some (18, true)⟩,
    ⟨some 24, (Op.move (Operand.tmp 4)), 3, some (18, true)⟩,
    ⟨some 25, (Op.binOp BinOp.geq 3 (Operand.tmp 23) (Operand.tmp 24) 3), 4, some (18, true)⟩,
    ⟨some 26, (Op.pick (Operand.tmp 18) (Operand.tmp 25) (Operand.const (Value.bool false))), 4, some (15, false)⟩,
    ⟨some 27, (Op.pick (Operand.tmp 15) (Operand.const (Value.bool true)) (Operand.tmp 26)), 4, none⟩]) (.cond (Operand.tmp 27) (.seq (.ops [⟨some 2, (Op.assign (Operand.const (Value.bool false))), 4, none⟩]) .ret) .skip)))) (.ops [⟨some 28, (Op.binOp BinOp.add 3 (Operand.tmp 7) (Operand.const (Value.int IntKind.i64 1)) 3), 3, none⟩,
    ⟨some 7, (Op.move (Operand.tmp 28)), 3, none⟩]))))
def c_passive_May : SF := ⟨32, [(ResultVar.tmp 2)],
  (.seq (.ops [⟨some 2, (Op.assign (Operand.const (Value.bool false))), 4, none⟩]) (.seq (.seq (.ops [⟨some 5, (Op.move (Operand.tmp 0)), 36, none⟩,
    ⟨some 6, (Op.call ⟨(Callee.builtin Builtin.len), #[(Operand.tmp 5)], #[36]⟩), 3, none⟩,
    ⟨some 7, (Op.move (Operand.const (Value.int IntKind.i64 0))), 3, none⟩]) (.block 0 (.loop c_passive_May_L0))) (.seq (.ops [⟨some 29, (Op.move (Operand.tmp 0)), 36, none⟩,
    ⟨some 30, (Op.call ⟨(Callee.builtin Builtin.len), #[(Operand.tmp 29)], #[36]⟩), 3, none⟩,
    ⟨some 31, (Op.binOp BinOp.leq 3 (Operand.tmp 30) (Operand.const (Value.int IntKind.i64 16)) 3), 4, none⟩,
    ⟨some 2, (Op.assign (Operand.tmp 31)), 4, none⟩]) .ret)))⟩
theorem is_passive_May (c : Cfg) (h : c.lendT = []) : isF PP c 132 c_passive_May := isF_of (fn := Proofs.Tryz.f132) (by kernel_rfl) (by kernel_rfl) rfl h (by kernel_rfl) rfl rfl (by kernel_rfl)
end Go.AM
/- AM: this seat's functions in short. -/
namespace Go.AM
set_option linter.unusedSimpArgs false
set_option linter.unusedVariables false
def c_item_Byte : SF := ⟨9, [(ResultVar.tmp 2)],
  (.seq (.ops [⟨some 2, (Op.assign (Operand.const (Value.bool false))), 4, none⟩]) (.seq (.ops [⟨some 3, (Op.move (Operand.tmp 0)), 3, none⟩,
    ⟨some 4, (Op.binOp BinOp.geq 3 (Operand.tmp 3) (Operand.const (Value.int IntKind.i64 0)) 3), 4, none⟩,
    ⟨some 5, (Op.move (Operand.tmp 4)), 4, none⟩,
    ⟨some 6, (Op.move (Operand.tmp 0)), 3, some (5, true)⟩,
    ⟨some 7, (Op.binOp BinOp.lss 3 (Operand.tmp 6) (Operand.const (Value.int IntKind.i64 256)) 3), 4, some (5, true)⟩,
    ⟨some 8, (Op.pick (Operand.tmp 5) (Operand.tmp 7) (Operand.const (Value.bool false))), 4, none⟩,
    ⟨some 2, (Op.assign (Operand.tmp 8)), 4, none⟩]) .ret))⟩
theorem is_item_Byte (c : Cfg) (h : c.lendT = []) : isF PP c 149 c_item_Byte := isF_of (fn := Proofs.Tryz.f149) (by kernel_rfl) (by kernel_rfl) rfl h (by kernel_rfl) rfl rfl (by kernel_rfl)
def c_slices_IndexFunc_int_int_L0 : SC := (.seq (.ops [⟨some 9, (Op.binOp BinOp.lss 3 (Operand.tmp 8) (Operand.tmp 7) 3), 0, none⟩]) (.seq (.cond (Operand.tmp 9) .skip (.exit 0)) (.seq (.block 1 (.seq (.ops [⟨some 10, (Op.move (Operand.tmp 8)), 3, none⟩,
    ⟨some 5, (Op.assign (Operand.tmp 10)), 3, none⟩]) (.seq (.ops [⟨some 11, (Op.move (Operand.tmp 1)), 106, none⟩,
    ⟨some 12, (Op.move (Operand.tmp 0)), 36, none⟩,
    ⟨some 13, (Op.move (Operand.tmp 5)), 3, none⟩,
    ⟨some 14, (Op.indexAddr 36 (Operand.tmp 12) (Operand.tmp 13)), 0, none⟩,
    ⟨some 15, (Op.load 3 (Operand.tmp 14)), 3, none⟩,
    ⟨some 16, (Op.call ⟨(Callee.value (Operand.tmp 11)), #[(Operand.tmp 15)], #[3]⟩), 4, none⟩]) (.cond (Operand.tmp 16) (.seq (.ops [⟨some 17, (Op.move (Operand.tmp 5)), 3, none⟩,
    ⟨some 4, (Op.assign (Operand.tmp 17)), 3, none⟩]) .ret) .skip)))) (.ops [⟨some 18, (Op.binOp BinOp.add 3 (Operand.tmp 8) (Operand.const (Value.int IntKind.i64 1)) 3), 3, none⟩,
    ⟨some 8, (Op.move (Operand.tmp 18)), 3, none⟩]))))
def c_slices_IndexFunc_int_int : SF := ⟨19, [(ResultVar.tmp 4)],
  (.seq (.ops [⟨some 4, (Op.assign (Operand.const (Value.int IntKind.i64 0))), 3, none⟩]) (.seq (.seq (.ops [⟨some 6, (Op.move (Operand.tmp 0)), 36, none⟩,
    ⟨some 7, (Op.call ⟨(Callee.builtin Builtin.len), #[(Operand.tmp 6)], #[36]⟩), 3, none⟩,
    ⟨some 8, (Op.move (Operand.const (Value.int IntKind.i64 0))), 3, none⟩]) (.block 0 (.loop c_slices_IndexFunc_int_int_L0))) (.seq (.ops [⟨some 4, (Op.assign (Operand.const (Value.int IntKind.i64 (-1)))), 3, none⟩]) .ret)))⟩
theorem is_slices_IndexFunc_int_int (c : Cfg) (h : c.lendT = []) : isF PP c 165 c_slices_IndexFunc_int_int := isF_of (fn := Proofs.Tryz.f165) (by kernel_rfl) (by kernel_rfl) rfl h (by kernel_rfl) rfl rfl (by kernel_rfl)
def c_cmp_Compare_int : SF := ⟨20, [(ResultVar.tmp 4)],
  (.seq (.ops [⟨some 4, (Op.assign (Operand.const (Value.int IntKind.i64 0))), 3, none⟩]) (.seq (.ops [⟨some 7, (Op.move (Operand.tmp 0)), 3, none⟩,
    ⟨some 8, (Op.call ⟨(Callee.value (Operand.func 216)), #[(Operand.tmp 7)], #[3]⟩), 4, none⟩,
    ⟨some 5, (Op.assign (Operand.tmp 8)), 4, none⟩]) (.seq (.ops [⟨some 9, (Op.move (Operand.tmp 1)), 3, none⟩,
    ⟨some 10, (Op.call ⟨(Callee.value (Operand.func 216)), #[(Operand.tmp 9)], #[3]⟩), 4, none⟩,
    ⟨some 6, (Op.assign (Operand.tmp 10)), 4, none⟩]) (.seq (.seq (.ops [⟨some 11, (Op.move (Operand.tmp 5)), 4, none⟩]) (.cond (Operand.tmp 11) (.seq (.seq (.ops [⟨some 12, (Op.move (Operand.tmp 6)), 4, none⟩]) (.cond (Operand.tmp 12) (.seq (.ops [⟨some 4, (Op.assign (Operand.const (Value.int IntKind.i64 0))), 3, none⟩]) .ret) .skip)) (.seq (.ops [⟨some 4, (Op.assign (Operand.const (Value.int IntKind.i64 (-1)))), 3, none⟩]) .ret)) .skip)) (.seq (.seq (.ops [⟨some 13, (Op.move (Operand.tmp 6)), 4, none⟩]) (.cond (Operand.tmp 13) (.seq (.ops [⟨some 4, (Op.assign (Operand.const (Value.int IntKind.i64 1))), 3, none⟩]) .ret) .skip)) (.seq (.seq (.ops [⟨some 14, (Op.move (Operand.tmp 0)), 3, none⟩,
    ⟨some 15, (Op.move (Operand.tmp 1)), 3, none⟩,
    ⟨some 16, (Op.binOp BinOp.lss 3 (Operand.tmp 14) (Operand.tmp 15) 3), 4, none⟩]) (.cond (Operand.tmp 16) (.seq (.ops [⟨some 4, (Op.assign (Operand.const (Value.int IntKind.i64 (-1)))), 3, none⟩]) .ret) .skip)) (.seq (.seq (.ops [⟨some 17, (Op.move (Operand.tmp 0)), 3, none⟩,
    ⟨some 18, (Op.move (Operand.tmp 1)), 3, none⟩,
    ⟨some 19, (Op.binOp BinOp.gtr 3 (Operand.tmp 17) (Operand.tmp 18) 3), 4, none⟩]) (.cond (Operand.tmp 19) (.seq (.ops [⟨some 4, (Op.assign (Operand.const (Value.int IntKind.i64 1))), 3, none⟩]) .ret) .skip)) (.seq (.ops [⟨some 4, (Op.assign (Operand.const (Value.int IntKind.i64 0))), 3, none⟩]) .ret))))))))⟩
theorem is_cmp_Compare_int (c : Cfg) (h : c.lendT = []) : isF PP c 168 c_cmp_Compare_int := isF_of (fn := Proofs.Tryz.f168) (by kernel_rfl) (by kernel_rfl) rfl h (by kernel_rfl) rfl rfl (by kernel_rfl)
def c_msg_none : SF := ⟨23, [(ResultVar.tmp 2)],
  (.seq (.ops [⟨some 1, (Op.box 68 (Operand.tmp 0)), 0, none⟩,
    ⟨some 2, (Op.assign (Operand.const (Value.bool false))), 4, none⟩]) (.seq (.ops [⟨some 3, (Op.fieldAddr 68 (Operand.tmp 1) 3), 0, none⟩,
    ⟨some 4, (Op.load 36 (Operand.tmp 3)), 36, none⟩,
    ⟨some 5, (Op.call ⟨(Callee.builtin Builtin.len), #[(Operand.tmp 4)], #[36]⟩), 3, none⟩,
    ⟨some 6, (Op.binOp BinOp.eql 3 (Operand.tmp 5) (Operand.const (Value.int IntKind.i64 0)) 3), 4, none⟩,
    ⟨some 7, (Op.move (Operand.tmp 6)), 4, none⟩,
    ⟨some 8, (Op.fieldAddr 68 (Operand.tmp 1) 4), 0, some (7, true)⟩,
    ⟨some 9, (Op.load 3 (Operand.tmp 8)), 3, some (7, true)⟩,
    ⟨some 10, (Op.binOp BinOp.eql 3 (Operand.tmp 9) (Operand.const (Value.int IntKind.i64 0)) 3), 4, some (7, true)⟩,
    ⟨some 11, (Op.pick (Operand.tmp 7) (Operand.tmp 10) (Operand.const (Value.bool false))), 4, none⟩,
    ⟨some 12, (Op.move (Operand.tmp 11)), 4, none⟩,
    ⟨some 13, (Op.fieldAddr 68 (Operand.tmp 1) 5), 0, some (12, true)⟩,
    ⟨some 14, (Op.load 46 (Operand.tmp 13)), 46, some (12, true)⟩,
    ⟨some 15, (Op.build 46 #[]), 46, some (12, true)⟩,
    ⟨some 16, (Op.binOp BinOp.eql 46 (Operand.tmp 14) (Operand.tmp 15) 46), 4, some (12, true)⟩,
    ⟨some 17, (Op.pick (Operand.tmp 12) (Operand.tmp 16) (Operand.const (Value.bool false))), 4, none⟩,
    ⟨some 18, (Op.move (Operand.tmp 17)), 4, none⟩,
    ⟨some 19, (Op.fieldAddr 68 (Operand.tmp 1) 6), 0, some (18, true)⟩,
    ⟨some 20, (Op.load 4 (Operand.tmp 19)), 4, some (18, true)⟩,
    ⟨some 21, (Op.unOp UnOp.not 4 (Operand.tmp 20)), 4, some (18, true)⟩,
    ⟨some 22, (Op.pick (Operand.tmp 18) (Operand.tmp 21) (Operand.const (Value.bool false))), 4, none⟩,
    ⟨some 2, (Op.assign (Operand.tmp 22)), 4, none⟩]) .ret))⟩
theorem is_msg_none (c : Cfg) (h : c.lendT = []) : isF PP c 169 c_msg_none := isF_of (fn := Proofs.Tryz.f169) (by kernel_rfl) (by kernel_rfl) rfl h (by kernel_rfl) rfl rfl (by kernel_rfl)
def c_slices_Clone_api_Told_api_Told : SF := ⟨8, [(ResultVar.tmp 2)],
  (.seq (.ops [⟨some 2, (Op.assign (Operand.const (Value.slice none 0 0))), 40, none⟩]) (.seq (.seq (.ops [⟨some 3, (Op.move (Operand.tmp 0)), 40, none⟩,
    ⟨some 4, (Op.binOp BinOp.eql 40 (Operand.tmp 3) (Operand.const (Value.slice none 0 0)) 40), 4, none⟩]) (.cond (Operand.tmp 4) (.seq (.ops [⟨some 2, (Op.assign (Operand.const (Value.slice none 0 0))), 40, none⟩]) .ret) .skip)) (.seq (.ops [⟨some 5, (Op.buildSlice 40 0 #[]), 40, none⟩,
    ⟨some 6, (Op.move (Operand.tmp 0)), 40, none⟩,
    ⟨some 7, (Op.call ⟨(Callee.builtin Builtin.append), #[(Operand.tmp 5), (Operand.tmp 6)], #[40, 40]⟩), 40, none⟩,
    ⟨some 2, (Op.assign (Operand.tmp 7)), 40, none⟩]) .ret)))⟩
theorem is_slices_Clone_api_Told_api_Told (c : Cfg) (h : c.lendT = []) : isF PP c 170 c_slices_Clone_api_Told_api_Told := isF_of (fn := Proofs.Tryz.f170) (by kernel_rfl) (by kernel_rfl) rfl h (by kernel_rfl) rfl rfl (by kernel_rfl)
def c_gimmallaw0_SamePeers_L0 : SC := (.seq (.seq (.ops [⟨some 11, (Op.move (Operand.tmp 5)), 3, none⟩,
    ⟨some 12, (Op.move (Operand.tmp 0)), 35, none⟩,
    ⟨some 13, (Op.call ⟨(Callee.builtin Builtin.len), #[(Operand.tmp 12)], #[35]⟩), 3, none⟩,
    ⟨some 14, (Op.binOp BinOp.lss 3 (Operand.tmp 11) (Operand.tmp 13) 3), 4, none⟩]) (.cond (Operand.tmp 14) .skip (.exit 0))) (.seq (.block 1 (.seq (.ops [⟨some 17, (Op.move (Operand.tmp 0)), 35, none⟩,
    ⟨some 18, (Op.move (Operand.tmp 5)), 3, none⟩,
    ⟨some 21, (Op.move (Operand.tmp 1)), 35, none⟩,
    ⟨some 22, (Op.move (Operand.tmp 5)), 3, none⟩,
    ⟨some 19, (Op.indexAddr 35 (Operand.tmp 17) (Operand.tmp 18)), 0, none⟩,
    ⟨some 20, (Op.load 204 (Operand.tmp 19)), 204, none⟩,
    ⟨some 23, (Op.indexAddr 35 (Operand.tmp 21) (Operand.tmp 22)), 0, none⟩,
    ⟨some 24, (Op.load 204 (Operand.tmp 23)), 204, none⟩,
    ⟨some 25, (Op.binOp BinOp.neq 204 (Operand.tmp 20) (Operand.tmp 24) 204), 4, none⟩]) (.cond (Operand.tmp 25) (.seq (.ops [⟨some 4, (Op.assign (Operand.const (Value.bool false))), 4, none⟩]) .ret) .skip))) (.ops [⟨some 15, (Op.move (Operand.tmp 5)), 3, none⟩,
    ⟨some 16, (Op.binOp BinOp.add 3 (Operand.tmp 15) (Operand.const (Value.int IntKind.i64 1)) 3), 3, none⟩,
    ⟨some 5, (Op.assign (Operand.tmp 16)), 3, none⟩])))
def c_gimmallaw0_SamePeers : SF := ⟨26, [(ResultVar.tmp 4)],
  (.seq (.ops [⟨some 4, (Op.assign (Operand.const (Value.bool false))), 4, none⟩]) (.seq (.seq (.ops [⟨some 6, (Op.move (Operand.tmp 0)), 35, none⟩,
    ⟨some 7, (Op.call ⟨(Callee.builtin Builtin.len), #[(Operand.tmp 6)], #[35]⟩), 3, none⟩,
    ⟨some 8, (Op.move (Operand.tmp 1)), 35, none⟩,
    ⟨some 9, (Op.call ⟨(Callee.builtin Builtin.len), #[(Operand.tmp 8)], #[35]⟩), 3, none⟩,
    ⟨some 10, (Op.binOp BinOp.neq 3 (Operand.tmp 7) (Operand.tmp 9) 3), 4, none⟩]) (.cond (Operand.tmp 10) (.seq (.ops [⟨some 4, (Op.assign (Operand.const (Value.bool false))), 4, none⟩]) .ret) .skip)) (.seq (.seq (.ops [⟨some 5, (Op.assign (Operand.const (Value.int IntKind.i64 0))), 3, none⟩]) (.block 0 (.loop c_gimmallaw0_SamePeers_L0))) (.seq (.ops [⟨some 4, (Op.assign (Operand.const (Value.bool true))), 4, none⟩]) .ret))))⟩
theorem is_gimmallaw0_SamePeers (c : Cfg) (h : c.lendT = []) : isF PP c 176 c_gimmallaw0_SamePeers := isF_of (fn := Proofs.Tryz.f176) (by kernel_rfl) (by kernel_rfl) rfl h (by kernel_rfl) rfl rfl (by kernel_rfl)
def c_peers_May_L0 : SC := (.seq (.ops [⟨some 19, (Op.binOp BinOp.lss 3 (Operand.tmp 18) (Operand.tmp 17) 3), 0, none⟩]) (.seq (.cond (Operand.tmp 19) .skip (.exit 0)) (.seq (.block 1 (.seq (.ops [⟨some 20, (Op.indexAddr 35 (Operand.tmp 16) (Operand.tmp 18)), 0, none⟩,
    ⟨some 21, (Op.load 204 (Operand.tmp 20)), 204, none⟩,
    ⟨some 7, (Op.alloc 204), 0, none⟩,
    ⟨none, (Op.store 204 (Operand.tmp 7) (Operand.tmp 21)), 0, none⟩]) (.seq (.seq (.ops [⟨some 22, (Op.fieldAddr 204 (Operand.tmp 7) 0), 0, none⟩,
    ⟨some 23, (Op.load 3 (Operand.tmp 22)), 3, none⟩,
    ⟨some 24, (Op.call ⟨(Callee.value (Operand.func 118)), #[(Operand.tmp 23)], #[3]⟩), 4, none⟩,
    ⟨some 25, (Op.unOp UnOp.not 4 (Operand.tmp 24)), 4, none⟩,
    ⟨some 26, (Op.move (Operand.tmp 25)), 4, none⟩,
    ⟨some 27, (Op.fieldAddr 204 (Operand.tmp 7) 1), 0, some (26, false)⟩,
    ⟨some 28, (Op.load 3 (Operand.tmp 27)), 3, some (26, false)⟩,
    ⟨some 29, (Op.binOp BinOp.lss 3 (Operand.tmp 28) (Operand.const (Value.int IntKind.i64 0)) 3), 4, some (26, false)⟩,
    ⟨some 30, (Op.pick (Operand.tmp 26) (Operand.const (Value.bool true)) (Operand.tmp 29)), 4, none⟩,
    ⟨some 31, (Op.move (Operand.tmp 30)), 4, none⟩,
    ⟨some 32, (Op.fieldAddr 204 (Operand.tmp 7) 1), 0, some (31, false)⟩,
    ⟨some 33, (Op.load 3 (Operand.tmp 32)), 3, some (31, false)⟩,
    ⟨some 34, (Op.binOp BinOp.geq 3 (Operand.tmp 33) (Operand.const (Value.int IntKind.i64 3)) 3), 4, some (31, false)⟩,
    ⟨some 35, (Op.pick (Operand.tmp 31) (Operand.const (Value.bool true)) (Operand.tmp 34)), 4, none⟩,
    ⟨some 36, (Op.move (Operand.tmp 35)), 4, none⟩,
    ⟨some 37, (Op.move (Operand.tmp 0)), 3, some (36, false)⟩,
    ⟨some 38, (Op.fieldAddr 204 (Operand.tmp 7) 0), 0, some (36, false)⟩,
    ⟨some 39, (Op.load 3 (Operand.tmp 38)), 3, some (36, false)⟩,
    ⟨some 40, (Op.call ⟨(Callee.value (Operand.func 204)), #[(Operand.tmp 37), (Operand.tmp 39)], #[3, 3]⟩), 3, some (36, false)⟩,
    ⟨some 41, (Op.move (Operand.tmp 5)), 3, some (36, false)⟩,
    ⟨some 42, (Op.binOp BinOp.leq 3 (Operand.tmp 40) (Operand.tmp 41) 3), 4, some (36, false)⟩,
    ⟨some 43, (Op.pick (Operand.tmp 36) (Operand.const (Value.bool true)) (Operand.tmp 42)), 4, none⟩]) (.cond (Operand.tmp 43) (.seq (.ops [⟨some 4, (Op.assign (Operand.const (Value.bool false))), 4, none⟩]) .ret) .skip)) (.ops [⟨some 44, (Op.move (Operand.tmp 0)), 3, none⟩,
    ⟨some 45, (Op.fieldAddr 204 (Operand.tmp 7) 0), 0, none⟩,
    ⟨some 46, (Op.load 3 (Operand.tmp 45)), 3, none⟩,
    ⟨some 47, (Op.call ⟨(Callee.value (Operand.func 204)), #[(Operand.tmp 44), (Operand.tmp 46)], #[3, 3]⟩), 3, none⟩,
    ⟨some 5, (Op.assign (Operand.tmp 47)), 3, none⟩])))) (.ops [⟨some 48, (Op.binOp BinOp.add 3 (Operand.tmp 18) (Operand.const (Value.int IntKind.i64 1)) 3), 3, none⟩,
    ⟨some 18, (Op.move (Operand.tmp 48)), 3, none⟩]))))
def c_peers_May : SF := ⟨49, [(ResultVar.tmp 4)],
  (.seq (.ops [⟨some 4, (Op.assign (Operand.const (Value.bool false))), 4, none⟩]) (.seq (.seq (.ops [⟨some 8, (Op.move (Operand.tmp 0)), 3, none⟩,
    ⟨some 9, (Op.call ⟨(Callee.value (Operand.func 118)), #[(Operand.tmp 8)], #[3]⟩), 4, none⟩,
    ⟨some 10, (Op.unOp UnOp.not 4 (Operand.tmp 9)), 4, none⟩,
    ⟨some 11, (Op.move (Operand.tmp 10)), 4, none⟩,
    ⟨some 12, (Op.move (Operand.tmp 1)), 35, some (11, false)⟩,
    ⟨some 13, (Op.call ⟨(Callee.builtin Builtin.len), #[(Operand.tmp 12)], #[35]⟩), 3, some (11, false)⟩,
    ⟨some 14, (Op.binOp BinOp.gtr 3 (Operand.tmp 13) (Operand.const (Value.int IntKind.i64 16)) 3), 4, some (11, false)⟩,
    ⟨some 15, (Op.pick (Operand.tmp 11) (Operand.const (Value.bool true)) (Operand.tmp 14)), 4, none⟩]) (.cond (Operand.tmp 15) (.seq (.ops [⟨some 4, (Op.assign (Operand.const (Value.bool false))), 4, none⟩]) .ret) .skip)) (.seq (.ops [⟨some 5, (Op.assign (Operand.const (Value.int IntKind.i64 0))), 3, none⟩]) (.seq (.seq (.ops [⟨some 16, (Op.move (Operand.tmp 1)), 35, none⟩,
    ⟨some 17, (Op.call ⟨(Callee.builtin Builtin.len), #[(Operand.tmp 16)], #[35]⟩), 3, none⟩,
    ⟨some 18, (Op.move (Operand.const (Value.int IntKind.i64 0))), 3, none⟩]) (.block 0 (.loop c_peers_May_L0))) (.seq (.ops [⟨some 4, (Op.assign (Operand.const (Value.bool true))), 4, none⟩]) .ret)))))⟩
theorem is_peers_May (c : Cfg) (h : c.lendT = []) : isF PP c 181 c_peers_May := isF_of (fn := Proofs.Tryz.f181) (by kernel_rfl) (by kernel_rfl) rfl h (by kernel_rfl) rfl rfl (by kernel_rfl)
def c_view_May_1 : SF := ⟨12, [(ResultVar.tmp 3)],
  (.seq (.ops [⟨some 3, (Op.assign (Operand.const (Value.bool false))), 4, none⟩]) (.seq (.ops [⟨some 4, (Op.move (Operand.tmp 0)), 3, none⟩,
    ⟨some 5, (Op.fieldAddr 38 (Operand.tmp 1) 0), 0, none⟩,
    ⟨some 6, (Op.load 3 (Operand.tmp 5)), 3, none⟩,
    ⟨some 7, (Op.binOp BinOp.eql 3 (Operand.tmp 4) (Operand.tmp 6) 3), 4, none⟩,
    ⟨some 8, (Op.move (Operand.tmp 7)), 4, none⟩,
    ⟨some 9, (Op.move (Operand.tmp 0)), 3, some (8, false)⟩,
    ⟨some 10, (Op.call ⟨(Callee.value (Operand.func 121)), #[(Operand.tmp 1), (Operand.tmp 9)], #[157, 3]⟩), 4, some (8, false)⟩,
    ⟨some 11, (Op.pick (Operand.tmp 8) (Operand.const (Value.bool true)) (Operand.tmp 10)), 4, none⟩,
    ⟨some 3, (Op.assign (Operand.tmp 11)), 4, none⟩]) .ret))⟩
theorem is_view_May_1 (c : Cfg) (h : c.lendT = []) : isF PP c 182 c_view_May_1 := isF_of (fn := Proofs.Tryz.f182) (by kernel_rfl) (by kernel_rfl) rfl h (by kernel_rfl) rfl rfl (by kernel_rfl)
def c_slices_Clone_api_Peer_api_Peer : SF := ⟨8, [(ResultVar.tmp 2)],
  (.seq (.ops [⟨some 2, (Op.assign (Operand.const (Value.slice none 0 0))), 35, none⟩]) (.seq (.seq (.ops [⟨some 3, (Op.move (Operand.tmp 0)), 35, none⟩,
    ⟨some 4, (Op.binOp BinOp.eql 35 (Operand.tmp 3) (Operand.const (Value.slice none 0 0)) 35), 4, none⟩]) (.cond (Operand.tmp 4) (.seq (.ops [⟨some 2, (Op.assign (Operand.const (Value.slice none 0 0))), 35, none⟩]) .ret) .skip)) (.seq (.ops [⟨some 5, (Op.buildSlice 35 0 #[]), 35, none⟩,
    ⟨some 6, (Op.move (Operand.tmp 0)), 35, none⟩,
    ⟨some 7, (Op.call ⟨(Callee.builtin Builtin.append), #[(Operand.tmp 5), (Operand.tmp 6)], #[35, 35]⟩), 35, none⟩,
    ⟨some 2, (Op.assign (Operand.tmp 7)), 35, none⟩]) .ret)))⟩
theorem is_slices_Clone_api_Peer_api_Peer (c : Cfg) (h : c.lendT = []) : isF PP c 183 c_slices_Clone_api_Peer_api_Peer := isF_of (fn := Proofs.Tryz.f183) (by kernel_rfl) (by kernel_rfl) rfl h (by kernel_rfl) rfl rfl (by kernel_rfl)
def c_slices_Clone_int_int : SF := ⟨8, [(ResultVar.tmp 2)],
  (.seq (.ops [⟨some 2, (Op.assign (Operand.const (Value.slice none 0 0))), 36, none⟩]) (.seq (.seq (.ops [⟨some 3, (Op.move (Operand.tmp 0)), 36, none⟩,
    ⟨some 4, (Op.binOp BinOp.eql 36 (Operand.tmp 3) (Operand.const (Value.slice none 0 0)) 36), 4, none⟩]) (.cond (Operand.tmp 4) (.seq (.ops [⟨some 2, (Op.assign (Operand.const (Value.slice none 0 0))), 36, none⟩]) .ret) .skip)) (.seq (.ops [⟨some 5, (Op.buildSlice 36 0 #[]), 36, none⟩,
    ⟨some 6, (Op.move (Operand.tmp 0)), 36, none⟩,
    ⟨some 7, (Op.call ⟨(Callee.builtin Builtin.append), #[(Operand.tmp 5), (Operand.tmp 6)], #[36, 36]⟩), 36, none⟩,
    ⟨some 2, (Op.assign (Operand.tmp 7)), 36, none⟩]) .ret)))⟩
theorem is_slices_Clone_int_int (c : Cfg) (h : c.lendT = []) : isF PP c 184 c_slices_Clone_int_int := isF_of (fn := Proofs.Tryz.f184) (by kernel_rfl) (by kernel_rfl) rfl h (by kernel_rfl) rfl rfl (by kernel_rfl)
def c_slices_IndexFunc_api_Told_api_Told_L0 : SC := (.seq (.ops [⟨some 9, (Op.binOp BinOp.lss 3 (Operand.tmp 8) (Operand.tmp 7) 3), 0, none⟩]) (.seq (.cond (Operand.tmp 9) .skip (.exit 0)) (.seq (.block 1 (.seq (.ops [⟨some 10, (Op.move (Operand.tmp 8)), 3, none⟩,
    ⟨some 5, (Op.assign (Operand.tmp 10)), 3, none⟩]) (.seq (.ops [⟨some 11, (Op.move (Operand.tmp 1)), 165, none⟩,
    ⟨some 12, (Op.move (Operand.tmp 0)), 40, none⟩,
    ⟨some 13, (Op.move (Operand.tmp 5)), 3, none⟩,
    ⟨some 14, (Op.indexAddr 40 (Operand.tmp 12) (Operand.tmp 13)), 0, none⟩,
    ⟨some 15, (Op.load 61 (Operand.tmp 14)), 61, none⟩,
    ⟨some 16, (Op.call ⟨(Callee.value (Operand.tmp 11)), #[(Operand.tmp 15)], #[61]⟩), 4, none⟩]) (.cond (Operand.tmp 16) (.seq (.ops [⟨some 17, (Op.move (Operand.tmp 5)), 3, none⟩,
    ⟨some 4, (Op.assign (Operand.tmp 17)), 3, none⟩]) .ret) .skip)))) (.ops [⟨some 18, (Op.binOp BinOp.add 3 (Operand.tmp 8) (Operand.const (Value.int IntKind.i64 1)) 3), 3, none⟩,
    ⟨some 8, (Op.move (Operand.tmp 18)), 3, none⟩]))))
def c_slices_IndexFunc_api_Told_api_Told : SF := ⟨19, [(ResultVar.tmp 4)],
  (.seq (.ops [⟨some 4, (Op.assign (Operand.const (Value.int IntKind.i64 0))), 3, none⟩]) (.seq (.seq (.ops [⟨some 6, (Op.move (Operand.tmp 0)), 40, none⟩,
    ⟨some 7, (Op.call ⟨(Callee.builtin Builtin.len), #[(Operand.tmp 6)], #[40]⟩), 3, none⟩,
    ⟨some 8, (Op.move (Operand.const (Value.int IntKind.i64 0))), 3, none⟩]) (.block 0 (.loop c_slices_IndexFunc_api_Told_api_Told_L0))) (.seq (.ops [⟨some 4, (Op.assign (Operand.const (Value.int IntKind.i64 (-1)))), 3, none⟩]) .ret)))⟩
theorem is_slices_IndexFunc_api_Told_api_Told (c : Cfg) (h : c.lendT = []) : isF PP c 189 c_slices_IndexFunc_api_Told_api_Told := isF_of (fn := Proofs.Tryz.f189) (by kernel_rfl) (by kernel_rfl) rfl h (by kernel_rfl) rfl rfl (by kernel_rfl)
def c_hello_room : SF := ⟨15, [(ResultVar.tmp 2)],
  (.seq (.ops [⟨some 2, (Op.assign (Operand.const (Value.bool false))), 4, none⟩]) (.seq (.ops [⟨some 3, (Op.move (Operand.tmp 0)), 157, none⟩,
    ⟨some 8, (Op.move (Operand.tmp 0)), 157, none⟩,
    ⟨some 4, (Op.nilCheck (Operand.tmp 3)), 0, none⟩,
    ⟨some 5, (Op.fieldAddr 38 (Operand.tmp 4) 1), 0, none⟩,
    ⟨some 6, (Op.load 35 (Operand.tmp 5)), 35, none⟩,
    ⟨some 7, (Op.call ⟨(Callee.builtin Builtin.len), #[(Operand.tmp 6)], #[35]⟩), 3, none⟩,
    ⟨some 9, (Op.nilCheck (Operand.tmp 8)), 0, none⟩,
    ⟨some 10, (Op.fieldAddr 38 (Operand.tmp 9) 2), 0, none⟩,
    ⟨some 11, (Op.load 36 (Operand.tmp 10)), 36, none⟩,
    ⟨some 12, (Op.call ⟨(Callee.builtin Builtin.len), #[(Operand.tmp 11)], #[36]⟩), 3, none⟩,
    ⟨some 13, (Op.binOp BinOp.add 3 (Operand.tmp 7) (Operand.tmp 12) 3), 3, none⟩,
    ⟨some 14, (Op.binOp BinOp.lss 3 (Operand.tmp 13) (Operand.const (Value.int IntKind.i64 16)) 3), 4, none⟩,
    ⟨some 2, (Op.assign (Operand.tmp 14)), 4, none⟩]) .ret))⟩
theorem is_hello_room (c : Cfg) (h : c.lendT = []) : isF PP c 190 c_hello_room := isF_of (fn := Proofs.Tryz.f190) (by kernel_rfl) (by kernel_rfl) rfl h (by kernel_rfl) rfl rfl (by kernel_rfl)
def c_passive_Without : SF := ⟨20, [(ResultVar.tmp 4), (ResultVar.tmp 5)],
  (.seq (.ops [⟨some 3, (Op.box 3 (Operand.tmp 1)), 0, none⟩,
    ⟨some 4, (Op.assign (Operand.const (Value.slice none 0 0))), 36, none⟩,
    ⟨some 5, (Op.assign (Operand.const (Value.int IntKind.i64 0))), 31, none⟩]) (.seq (.seq (.ops [⟨some 7, (Op.move (Operand.tmp 0)), 36, none⟩,
    ⟨some 8, (Op.call ⟨(Callee.value (Operand.func 132)), #[(Operand.tmp 7)], #[36]⟩), 4, none⟩,
    ⟨some 9, (Op.unOp UnOp.not 4 (Operand.tmp 8)), 4, none⟩,
    ⟨some 10, (Op.move (Operand.tmp 9)), 4, none⟩,
    ⟨some 11, (Op.load 3 (Operand.tmp 3)), 3, some (10, false)⟩,
    ⟨some 12, (Op.call ⟨(Callee.value (Operand.func 118)), #[(Operand.tmp 11)], #[3]⟩), 4, some (10, false)⟩,
    ⟨some 13, (Op.unOp UnOp.not 4 (Operand.tmp 12)), 4, some (10, false)⟩,
    ⟨some 14, (Op.pick (Operand.tmp 10) (Operand.const (Value.bool true)) (Operand.tmp 13)), 4, none⟩]) (.cond (Operand.tmp 14) (.seq (.ops [⟨some 4, (Op.assign (Operand.const (Value.slice none 0 0))), 36, none⟩,
    ⟨some 5, (Op.assign (Operand.const (Value.int IntKind.i64 800))), 31, none⟩]) .ret) .skip)) (.seq (.ops [⟨some 15, (Op.makeFunc (Fn.func 224) #[] #[(Operand.tmp 3)]), 106, none⟩,
    ⟨some 6, (Op.assign (Operand.tmp 15)), 106, none⟩]) (.seq (.ops [⟨some 16, (Op.move (Operand.tmp 0)), 36, none⟩,
    ⟨some 17, (Op.call ⟨(Callee.value (Operand.func 184)), #[(Operand.tmp 16)], #[36]⟩), 36, none⟩,
    ⟨some 18, (Op.move (Operand.tmp 6)), 106, none⟩,
    ⟨some 19, (Op.call ⟨(Callee.value (Operand.func 225)), #[(Operand.tmp 17), (Operand.tmp 18)], #[36, 106]⟩), 36, none⟩,
    ⟨some 4, (Op.assign (Operand.tmp 19)), 36, none⟩,
    ⟨some 5, (Op.assign (Operand.const (Value.int IntKind.i64 0))), 31, none⟩]) .ret))))⟩
theorem is_passive_Without (c : Cfg) (h : c.lendT = [17]) : isF PP c 191 c_passive_Without := isF_of (fn := Proofs.Tryz.f191) (by kernel_rfl) (by kernel_rfl) rfl h (by kernel_rfl) rfl rfl (by kernel_rfl)
def c_peers_Heard : SF := ⟨51, [(ResultVar.tmp 6), (ResultVar.tmp 7)],
  (.seq (.ops [⟨some 6, (Op.assign (Operand.const (Value.slice none 0 0))), 35, none⟩,
    ⟨some 7, (Op.assign (Operand.const (Value.int IntKind.i64 0))), 31, none⟩]) (.seq (.seq (.ops [⟨some 11, (Op.move (Operand.tmp 0)), 3, none⟩,
    ⟨some 12, (Op.move (Operand.tmp 1)), 35, none⟩,
    ⟨some 13, (Op.call ⟨(Callee.value (Operand.func 181)), #[(Operand.tmp 11), (Operand.tmp 12)], #[3, 35]⟩), 4, none⟩,
    ⟨some 14, (Op.unOp UnOp.not 4 (Operand.tmp 13)), 4, none⟩,
    ⟨some 15, (Op.move (Operand.tmp 14)), 4, none⟩,
    ⟨some 16, (Op.move (Operand.tmp 2)), 3, some (15, false)⟩,
    ⟨some 17, (Op.call ⟨(Callee.value (Operand.func 118)), #[(Operand.tmp 16)], #[3]⟩), 4, some (15, false)⟩,
    ⟨some 18, (Op.unOp UnOp.not 4 (Operand.tmp 17)), 4, some (15, false)⟩,
    ⟨some 19, (Op.pick (Operand.tmp 15) (Operand.const (Value.bool true)) (Operand.tmp 18)), 4, none⟩,
    ⟨some 20, (Op.move (Operand.tmp 19)), 4, none⟩,
    ⟨some 21, (Op.move (Operand.tmp 2)), 3, some (20, false)⟩,
    ⟨some 22, (Op.move (Operand.tmp 0)), 3, some (20, false)⟩,
    ⟨some 23, (Op.binOp BinOp.eql 3 (Operand.tmp 21) (Operand.tmp 22) 3), 4, some (20, false)⟩,
    ⟨some 24, (Op.pick (Operand.tmp 20) (Operand.const (Value.bool true)) (Operand.tmp 23)), 4, none⟩]) (.cond (Operand.tmp 24) (.seq (.ops [⟨some 6, (Op.assign (Operand.const (Value.slice none 0 0))), 35, none⟩,
    ⟨some 7, (Op.assign (Operand.const (Value.int IntKind.i64 700))), 31, none⟩]) .ret) .skip)) (.seq (.ops [⟨some 25, (Op.move (Operand.tmp 1)), 35, none⟩,
    ⟨some 26, (Op.call ⟨(Callee.value (Operand.func 183)), #[(Operand.tmp 25)], #[35]⟩), 35, none⟩,
    ⟨some 8, (Op.assign (Operand.tmp 26)), 35, none⟩]) (.seq (.ops [⟨some 28, (Op.move (Operand.tmp 0)), 3, none⟩,
    ⟨some 29, (Op.move (Operand.tmp 8)), 35, none⟩,
    ⟨some 30, (Op.move (Operand.tmp 2)), 3, none⟩,
    ⟨some 31, (Op.call ⟨(Callee.value (Operand.func 193)), #[(Operand.tmp 28), (Operand.tmp 29), (Operand.tmp 30)], #[3, 35, 3]⟩), 129, none⟩,
    ⟨some 27, (Op.move (Operand.tmp 31)), 129, none⟩,
    ⟨some 32, (Op.extract (Operand.tmp 27) 0), 3, none⟩,
    ⟨some 33, (Op.extract (Operand.tmp 27) 1), 4, none⟩,
    ⟨some 9, (Op.assign (Operand.tmp 32)), 3, none⟩,
    ⟨some 10, (Op.assign (Operand.tmp 33)), 4, none⟩]) (.seq (.block 0 (.seq (.ops [⟨some 41, (Op.move (Operand.tmp 10)), 4, none⟩,
    ⟨some 40, (Op.assign (Operand.tmp 41)), 4, none⟩]) (.cond (Operand.tmp 40) (.ops [⟨some 42, (Op.move (Operand.tmp 8)), 35, none⟩,
    ⟨some 43, (Op.move (Operand.tmp 9)), 3, none⟩,
    ⟨some 44, (Op.indexAddr 35 (Operand.tmp 42) (Operand.tmp 43)), 0, none⟩,
    ⟨some 45, (Op.fieldAddr 204 (Operand.tmp 44) 1), 0, none⟩,
    ⟨none, (Op.store 3 (Operand.tmp 45) (Operand.const (Value.int IntKind.i64 0))), 0, none⟩]) (.seq (.ops [⟨some 47, (Op.move (Operand.tmp 8)), 35, none⟩,
    ⟨some 48, (Op.call ⟨(Callee.builtin Builtin.len), #[(Operand.tmp 47)], #[35]⟩), 3, none⟩,
    ⟨some 49, (Op.binOp BinOp.eql 3 (Operand.tmp 48) (Operand.const (Value.int IntKind.i64 16)) 3), 4, none⟩,
    ⟨some 46, (Op.assign (Operand.tmp 49)), 4, none⟩]) (.cond (Operand.tmp 46) (.seq (.ops [⟨some 6, (Op.assign (Operand.const (Value.slice none 0 0))), 35, none⟩,
    ⟨some 7, (Op.assign (Operand.const (Value.int IntKind.i64 701))), 31, none⟩]) .ret) (.ops [⟨some 34, (Op.move (Operand.tmp 8)), 35, none⟩,
    ⟨some 35, (Op.move (Operand.tmp 9)), 3, none⟩,
    ⟨some 36, (Op.move (Operand.tmp 2)), 3, none⟩,
    ⟨some 37, (Op.build 204 #[(0, (Operand.tmp 36))]), 204, none⟩,
    ⟨some 38, (Op.buildSlice 35 1 #[(0, (Operand.tmp 37))]), 35, none⟩,
    ⟨some 39, (Op.call ⟨(Callee.value (Operand.func 226)), #[(Operand.tmp 34), (Operand.tmp 35), (Operand.tmp 38)], #[35, 3, 35]⟩), 35, none⟩,
    ⟨some 8, (Op.assign (Operand.tmp 39)), 35, none⟩])))))) (.seq (.ops [⟨some 50, (Op.move (Operand.tmp 8)), 35, none⟩,
    ⟨some 6, (Op.assign (Operand.tmp 50)), 35, none⟩,
    ⟨some 7, (Op.assign (Operand.const (Value.int IntKind.i64 0))), 31, none⟩]) .ret))))))⟩
theorem is_peers_Heard (c : Cfg) (h : c.lendT = [34]) : isF PP c 192 c_peers_Heard := isF_of (fn := Proofs.Tryz.f192) (by kernel_rfl) (by kernel_rfl) rfl h (by kernel_rfl) rfl rfl (by kernel_rfl)
def c_peers_Find : SF := ⟨18, [(ResultVar.tmp 6), (ResultVar.tmp 7)],
  (.seq (.ops [⟨some 6, (Op.assign (Operand.const (Value.int IntKind.i64 0))), 3, none⟩,
    ⟨some 7, (Op.assign (Operand.const (Value.bool false))), 4, none⟩]) (.seq (.ops [⟨some 9, (Op.move (Operand.tmp 0)), 3, none⟩,
    ⟨some 10, (Op.build 258 #[(0, (Operand.tmp 9))]), 258, none⟩,
    ⟨some 11, (Op.makeFunc (Fn.func 227) #[(Operand.tmp 10)] #[]), 256, none⟩,
    ⟨some 8, (Op.assign (Operand.tmp 11)), 256, none⟩]) (.seq (.ops [⟨some 12, (Op.move (Operand.tmp 1)), 35, none⟩,
    ⟨some 13, (Op.move (Operand.tmp 2)), 3, none⟩,
    ⟨some 14, (Op.move (Operand.tmp 8)), 256, none⟩,
    ⟨some 15, (Op.call ⟨(Callee.value (Operand.func 228)), #[(Operand.tmp 12), (Operand.tmp 13), (Operand.tmp 14)], #[35, 3, 256]⟩), 129, none⟩,
    ⟨some 16, (Op.extract (Operand.tmp 15) 0), 3, none⟩,
    ⟨some 17, (Op.extract (Operand.tmp 15) 1), 4, none⟩,
    ⟨some 6, (Op.assign (Operand.tmp 16)), 3, none⟩,
    ⟨some 7, (Op.assign (Operand.tmp 17)), 4, none⟩]) .ret)))⟩
theorem is_peers_Find (c : Cfg) (h : c.lendT = []) : isF PP c 193 c_peers_Find := isF_of (fn := Proofs.Tryz.f193) (by kernel_rfl) (by kernel_rfl) rfl h (by kernel_rfl) rfl rfl (by kernel_rfl)
def c_slices_Contains_int_int : SF := ⟨9, [(ResultVar.tmp 4)],
  (.seq (.ops [⟨some 4, (Op.assign (Operand.const (Value.bool false))), 4, none⟩]) (.seq (.ops [⟨some 5, (Op.move (Operand.tmp 0)), 36, none⟩,
    ⟨some 6, (Op.move (Operand.tmp 1)), 3, none⟩,
    ⟨some 7, (Op.call ⟨(Callee.value (Operand.func 229)), #[(Operand.tmp 5), (Operand.tmp 6)], #[36, 3]⟩), 3, none⟩,
    ⟨some 8, (Op.binOp BinOp.geq 3 (Operand.tmp 7) (Operand.const (Value.int IntKind.i64 0)) 3), 4, none⟩,
    ⟨some 4, (Op.assign (Operand.tmp 8)), 4, none⟩]) .ret))⟩
theorem is_slices_Contains_int_int (c : Cfg) (h : c.lendT = []) : isF PP c 194 c_slices_Contains_int_int := isF_of (fn := Proofs.Tryz.f194) (by kernel_rfl) (by kernel_rfl) rfl h (by kernel_rfl) rfl rfl (by kernel_rfl)
def c_version_May : SF := ⟨16, [(ResultVar.tmp 2)],
  (.seq (.ops [⟨some 1, (Op.box 44 (Operand.tmp 0)), 0, none⟩,
    ⟨some 2, (Op.assign (Operand.const (Value.bool false))), 4, none⟩]) (.seq (.ops [⟨some 3, (Op.fieldAddr 44 (Operand.tmp 1) 0), 0, none⟩,
    ⟨some 4, (Op.load 3 (Operand.tmp 3)), 3, none⟩,
    ⟨some 5, (Op.binOp BinOp.geq 3 (Operand.tmp 4) (Operand.const (Value.int IntKind.i64 1)) 3), 4, none⟩,
    ⟨some 6, (Op.move (Operand.tmp 5)), 4, none⟩,
    ⟨some 7, (Op.fieldAddr 44 (Operand.tmp 1) 0), 0, some (6, true)⟩,
    ⟨some 8, (Op.load 3 (Operand.tmp 7)), 3, some (6, true)⟩,
    ⟨some 9, (Op.binOp BinOp.leq 3 (Operand.tmp 8) (Operand.const (Value.int IntKind.i64 65535)) 3), 4, some (6, true)⟩,
    ⟨some 10, (Op.pick (Operand.tmp 6) (Operand.tmp 9) (Operand.const (Value.bool false))), 4, none⟩,
    ⟨some 11, (Op.move (Operand.tmp 10)), 4, none⟩,
    ⟨some 12, (Op.fieldAddr 44 (Operand.tmp 1) 1), 0, some (11, true)⟩,
    ⟨some 13, (Op.load 3 (Operand.tmp 12)), 3, some (11, true)⟩,
    ⟨some 14, (Op.call ⟨(Callee.value (Operand.func 118)), #[(Operand.tmp 13)], #[3]⟩), 4, some (11, true)⟩,
    ⟨some 15, (Op.pick (Operand.tmp 11) (Operand.tmp 14) (Operand.const (Value.bool false))), 4, none⟩,
    ⟨some 2, (Op.assign (Operand.tmp 15)), 4, none⟩]) .ret))⟩
theorem is_version_May (c : Cfg) (h : c.lendT = []) : isF PP c 195 c_version_May := isF_of (fn := Proofs.Tryz.f195) (by kernel_rfl) (by kernel_rfl) rfl h (by kernel_rfl) rfl rfl (by kernel_rfl)
def c_item_better : SF := ⟨51, [(ResultVar.tmp 4)],
  (.seq (.ops [⟨some 4, (Op.assign (Operand.const (Value.bool false))), 4, none⟩]) (.seq (.seq (.ops [⟨some 7, (Op.move (Operand.tmp 0)), 231, none⟩,
    ⟨some 11, (Op.move (Operand.tmp 1)), 231, none⟩,
    ⟨some 8, (Op.nilCheck (Operand.tmp 7)), 0, none⟩,
    ⟨some 9, (Op.fieldAddr 46 (Operand.tmp 8) 1), 0, none⟩,
    ⟨some 10, (Op.load 44 (Operand.tmp 9)), 44, none⟩,
    ⟨some 12, (Op.nilCheck (Operand.tmp 11)), 0, none⟩,
    ⟨some 13, (Op.fieldAddr 46 (Operand.tmp 12) 1), 0, none⟩,
    ⟨some 14, (Op.load 44 (Operand.tmp 13)), 44, none⟩,
    ⟨some 15, (Op.binOp BinOp.neq 44 (Operand.tmp 10) (Operand.tmp 14) 44), 4, none⟩]) (.cond (Operand.tmp 15) (.seq (.ops [⟨some 17, (Op.move (Operand.tmp 0)), 231, none⟩,
    ⟨some 21, (Op.move (Operand.tmp 1)), 231, none⟩,
    ⟨some 18, (Op.nilCheck (Operand.tmp 17)), 0, none⟩,
    ⟨some 19, (Op.fieldAddr 46 (Operand.tmp 18) 1), 0, none⟩,
    ⟨some 20, (Op.load 44 (Operand.tmp 19)), 44, none⟩,
    ⟨some 22, (Op.nilCheck (Operand.tmp 21)), 0, none⟩,
    ⟨some 23, (Op.fieldAddr 46 (Operand.tmp 22) 1), 0, none⟩,
    ⟨some 24, (Op.load 44 (Operand.tmp 23)), 44, none⟩,
    ⟨some 25, (Op.call ⟨(Callee.value (Operand.func 230)), #[(Operand.tmp 20), (Operand.tmp 24)], #[44, 44]⟩), 32, none⟩,
    ⟨some 16, (Op.move (Operand.tmp 25)), 32, none⟩,
    ⟨some 26, (Op.extract (Operand.tmp 16) 0), 4, none⟩,
    ⟨some 27, (Op.extract (Operand.tmp 16) 1), 31, none⟩,
    ⟨some 5, (Op.assign (Operand.tmp 26)), 4, none⟩,
    ⟨some 6, (Op.assign (Operand.tmp 27)), 31, none⟩]) (.seq (.ops [⟨some 28, (Op.move (Operand.tmp 5)), 4, none⟩,
    ⟨some 4, (Op.assign (Operand.tmp 28)), 4, none⟩]) .ret)) .skip)) (.seq (.seq (.ops [⟨some 29, (Op.move (Operand.tmp 0)), 231, none⟩,
    ⟨some 33, (Op.move (Operand.tmp 1)), 231, none⟩,
    ⟨some 30, (Op.nilCheck (Operand.tmp 29)), 0, none⟩,
    ⟨some 31, (Op.fieldAddr 46 (Operand.tmp 30) 3), 0, none⟩,
    ⟨some 32, (Op.load 4 (Operand.tmp 31)), 4, none⟩,
    ⟨some 34, (Op.nilCheck (Operand.tmp 33)), 0, none⟩,
    ⟨some 35, (Op.fieldAddr 46 (Operand.tmp 34) 3), 0, none⟩,
    ⟨some 36, (Op.load 4 (Operand.tmp 35)), 4, none⟩,
    ⟨some 37, (Op.binOp BinOp.neq 4 (Operand.tmp 32) (Operand.tmp 36) 4), 4, none⟩]) (.cond (Operand.tmp 37) (.seq (.ops [⟨some 38, (Op.move (Operand.tmp 0)), 231, none⟩,
    ⟨some 39, (Op.nilCheck (Operand.tmp 38)), 0, none⟩,
    ⟨some 40, (Op.fieldAddr 46 (Operand.tmp 39) 3), 0, none⟩,
    ⟨some 41, (Op.load 4 (Operand.tmp 40)), 4, none⟩,
    ⟨some 4, (Op.assign (Operand.tmp 41)), 4, none⟩]) .ret) .skip)) (.seq (.ops [⟨some 42, (Op.move (Operand.tmp 0)), 231, none⟩,
    ⟨some 46, (Op.move (Operand.tmp 1)), 231, none⟩,
    ⟨some 43, (Op.nilCheck (Operand.tmp 42)), 0, none⟩,
    ⟨some 44, (Op.fieldAddr 46 (Operand.tmp 43) 2), 0, none⟩,
    ⟨some 45, (Op.load 3 (Operand.tmp 44)), 3, none⟩,
    ⟨some 47, (Op.nilCheck (Operand.tmp 46)), 0, none⟩,
    ⟨some 48, (Op.fieldAddr 46 (Operand.tmp 47) 2), 0, none⟩,
    ⟨some 49, (Op.load 3 (Operand.tmp 48)), 3, none⟩,
    ⟨some 50, (Op.binOp BinOp.gtr 3 (Operand.tmp 45) (Operand.tmp 49) 3), 4, none⟩,
    ⟨some 4, (Op.assign (Operand.tmp 50)), 4, none⟩]) .ret))))⟩
theorem is_item_better (c : Cfg) (h : c.lendT = []) : isF PP c 196 c_item_better := isF_of (fn := Proofs.Tryz.f196) (by kernel_rfl) (by kernel_rfl) rfl h (by kernel_rfl) rfl rfl (by kernel_rfl)
end Go.AM
/- AM: this seat's functions in short. -/
namespace Go.AM
set_option linter.unusedSimpArgs false
set_option linter.unusedVariables false
def c_ring_Far : SF := ⟨10, [(ResultVar.tmp 4)],
  (.seq (.ops [⟨some 4, (Op.assign (Operand.const (Value.int IntKind.i64 0))), 3, none⟩]) (.seq (.ops [⟨some 5, (Op.move (Operand.tmp 1)), 3, none⟩,
    ⟨some 6, (Op.move (Operand.tmp 0)), 3, none⟩,
    ⟨some 7, (Op.binOp BinOp.sub 3 (Operand.tmp 5) (Operand.tmp 6) 3), 3, none⟩,
    ⟨some 8, (Op.binOp BinOp.add 3 (Operand.tmp 7) (Operand.const (Value.int IntKind.i64 256)) 3), 3, none⟩,
    ⟨some 9, (Op.binOp BinOp.rem 3 (Operand.tmp 8) (Operand.const (Value.int IntKind.i64 256)) 3), 3, none⟩,
    ⟨some 4, (Op.assign (Operand.tmp 9)), 3, none⟩]) .ret))⟩
theorem is_ring_Far (c : Cfg) (h : c.lendT = []) : isF PP c 204 c_ring_Far := isF_of (fn := Proofs.Tryz.f204) (by kernel_rfl) (by kernel_rfl) rfl h (by kernel_rfl) rfl rfl (by kernel_rfl)
def c_cmp_isNaN_int : SF := ⟨6, [(ResultVar.tmp 2)],
  (.seq (.ops [⟨some 2, (Op.assign (Operand.const (Value.bool false))), 4, none⟩]) (.seq (.ops [⟨some 3, (Op.move (Operand.tmp 0)), 3, none⟩,
    ⟨some 4, (Op.move (Operand.tmp 0)), 3, none⟩,
    ⟨some 5, (Op.binOp BinOp.neq 3 (Operand.tmp 3) (Operand.tmp 4) 3), 4, none⟩,
    ⟨some 2, (Op.assign (Operand.tmp 5)), 4, none⟩]) .ret))⟩
theorem is_cmp_isNaN_int (c : Cfg) (h : c.lendT = []) : isF PP c 216 c_cmp_isNaN_int := isF_of (fn := Proofs.Tryz.f216) (by kernel_rfl) (by kernel_rfl) rfl h (by kernel_rfl) rfl rfl (by kernel_rfl)
def c_passive_Without_1 : SF := ⟨7, [(ResultVar.tmp 3)],
  (.seq (.ops [⟨some 3, (Op.assign (Operand.const (Value.bool false))), 4, none⟩]) (.seq (.ops [⟨some 4, (Op.move (Operand.tmp 0)), 3, none⟩,
    ⟨some 5, (Op.load 3 (Operand.tmp 1)), 3, none⟩,
    ⟨some 6, (Op.binOp BinOp.eql 3 (Operand.tmp 4) (Operand.tmp 5) 3), 4, none⟩,
    ⟨some 3, (Op.assign (Operand.tmp 6)), 4, none⟩]) .ret))⟩
theorem is_passive_Without_1 (c : Cfg) (h : c.lendT = []) : isF PP c 224 c_passive_Without_1 := isF_of (fn := Proofs.Tryz.f224) (by kernel_rfl) (by kernel_rfl) rfl h (by kernel_rfl) rfl rfl (by kernel_rfl)
def c_slices_DeleteFunc_int_int_L0 : SC := (.seq (.seq (.ops [⟨some 16, (Op.move (Operand.tmp 6)), 3, none⟩,
    ⟨some 17, (Op.move (Operand.tmp 0)), 36, none⟩,
    ⟨some 18, (Op.call ⟨(Callee.builtin Builtin.len), #[(Operand.tmp 17)], #[36]⟩), 3, none⟩,
    ⟨some 19, (Op.binOp BinOp.lss 3 (Operand.tmp 16) (Operand.tmp 18) 3), 4, none⟩]) (.cond (Operand.tmp 19) .skip (.exit 0))) (.seq (.block 1 (.seq (.ops [⟨some 22, (Op.move (Operand.tmp 0)), 36, none⟩,
    ⟨some 23, (Op.move (Operand.tmp 6)), 3, none⟩,
    ⟨some 24, (Op.indexAddr 36 (Operand.tmp 22) (Operand.tmp 23)), 0, none⟩,
    ⟨some 25, (Op.load 3 (Operand.tmp 24)), 3, none⟩,
    ⟨some 7, (Op.assign (Operand.tmp 25)), 3, none⟩]) (.seq (.ops [⟨some 26, (Op.move (Operand.tmp 1)), 106, none⟩,
    ⟨some 27, (Op.move (Operand.tmp 7)), 3, none⟩,
    ⟨some 28, (Op.call ⟨(Callee.value (Operand.tmp 26)), #[(Operand.tmp 27)], #[3]⟩), 4, none⟩,
    ⟨some 29, (Op.unOp UnOp.not 4 (Operand.tmp 28)), 4, none⟩]) (.cond (Operand.tmp 29) (.seq (.ops [⟨some 30, (Op.move (Operand.tmp 0)), 36, none⟩,
    ⟨some 31, (Op.move (Operand.tmp 5)), 3, none⟩,
    ⟨some 32, (Op.move (Operand.tmp 7)), 3, none⟩,
    ⟨some 33, (Op.indexAddr 36 (Operand.tmp 30) (Operand.tmp 31)), 0, none⟩,
    ⟨none, (Op.store 3 (Operand.tmp 33) (Operand.tmp 32)), 0, none⟩]) (.ops [⟨some 34, (Op.move (Operand.tmp 5)), 3, none⟩,
    ⟨some 35, (Op.binOp BinOp.add 3 (Operand.tmp 34) (Operand.const (Value.int IntKind.i64 1)) 3), 3, none⟩,
    ⟨some 5, (Op.assign (Operand.tmp 35)), 3, none⟩])) .skip)))) (.ops [⟨some 20, (Op.move (Operand.tmp 6)), 3, none⟩,
    ⟨some 21, (Op.binOp BinOp.add 3 (Operand.tmp 20) (Operand.const (Value.int IntKind.i64 1)) 3), 3, none⟩,
    ⟨some 6, (Op.assign (Operand.tmp 21)), 3, none⟩])))
def c_slices_DeleteFunc_int_int : SF := ⟨42, [(ResultVar.tmp 4)],
  (.seq (.ops [⟨some 4, (Op.assign (Operand.const (Value.slice none 0 0))), 36, none⟩]) (.seq (.ops [⟨some 8, (Op.move (Operand.tmp 0)), 36, none⟩,
    ⟨some 9, (Op.move (Operand.tmp 1)), 106, none⟩,
    ⟨some 10, (Op.call ⟨(Callee.value (Operand.func 165)), #[(Operand.tmp 8), (Operand.tmp 9)], #[36, 106]⟩), 3, none⟩,
    ⟨some 5, (Op.assign (Operand.tmp 10)), 3, none⟩]) (.seq (.seq (.ops [⟨some 11, (Op.move (Operand.tmp 5)), 3, none⟩,
    ⟨some 12, (Op.binOp BinOp.eql 3 (Operand.tmp 11) (Operand.const (Value.int IntKind.i64 (-1))) 3), 4, none⟩]) (.cond (Operand.tmp 12) (.seq (.ops [⟨some 13, (Op.move (Operand.tmp 0)), 36, none⟩,
    ⟨some 4, (Op.assign (Operand.tmp 13)), 36, none⟩]) .ret) .skip)) (.seq (.seq (.ops [⟨some 14, (Op.move (Operand.tmp 5)), 3, none⟩,
    ⟨some 15, (Op.binOp BinOp.add 3 (Operand.tmp 14) (Operand.const (Value.int IntKind.i64 1)) 3), 3, none⟩,
    ⟨some 6, (Op.assign (Operand.tmp 15)), 3, none⟩]) (.block 0 (.loop c_slices_DeleteFunc_int_int_L0))) (.seq (.ops [⟨some 36, (Op.move (Operand.tmp 0)), 36, none⟩,
    ⟨some 37, (Op.move (Operand.tmp 5)), 3, none⟩,
    ⟨some 38, (Op.slice 36 (Operand.tmp 36) (some (Operand.tmp 37)) none none), 36, none⟩,
    ⟨none, (Op.call ⟨(Callee.builtin Builtin.clear), #[(Operand.tmp 38)], #[36]⟩), 0, none⟩]) (.seq (.ops [⟨some 39, (Op.move (Operand.tmp 0)), 36, none⟩,
    ⟨some 40, (Op.move (Operand.tmp 5)), 3, none⟩,
    ⟨some 41, (Op.slice 36 (Operand.tmp 39) none (some (Operand.tmp 40)) none), 36, none⟩,
    ⟨some 4, (Op.assign (Operand.tmp 41)), 36, none⟩]) .ret))))))⟩
theorem is_slices_DeleteFunc_int_int (c : Cfg) (h : c.lendT = []) : isF PP c 225 c_slices_DeleteFunc_int_int := isF_of (fn := Proofs.Tryz.f225) (by kernel_rfl) (by kernel_rfl) rfl h (by kernel_rfl) rfl rfl (by kernel_rfl)
def c_slices_Insert_api_Peer_api_Peer : SF := ⟨95, [(ResultVar.tmp 6)],
  (.seq (.ops [⟨some 6, (Op.assign (Operand.const (Value.slice none 0 0))), 35, none⟩]) (.seq (.ops [⟨some 10, (Op.move (Operand.tmp 0)), 35, none⟩,
    ⟨some 11, (Op.move (Operand.tmp 1)), 3, none⟩,
    ⟨some 12, (Op.slice 35 (Operand.tmp 10) (some (Operand.tmp 11)) none none), 35, none⟩]) (.seq (.ops [⟨some 13, (Op.move (Operand.tmp 2)), 35, none⟩,
    ⟨some 14, (Op.call ⟨(Callee.builtin Builtin.len), #[(Operand.tmp 13)], #[35]⟩), 3, none⟩,
    ⟨some 7, (Op.assign (Operand.tmp 14)), 3, none⟩]) (.seq (.seq (.ops [⟨some 15, (Op.move (Operand.tmp 7)), 3, none⟩,
    ⟨some 16, (Op.binOp BinOp.eql 3 (Operand.tmp 15) (Operand.const (Value.int IntKind.i64 0)) 3), 4, none⟩]) (.cond (Operand.tmp 16) (.seq (.ops [⟨some 17, (Op.move (Operand.tmp 0)), 35, none⟩,
    ⟨some 6, (Op.assign (Operand.tmp 17)), 35, none⟩]) .ret) .skip)) (.seq (.ops [⟨some 18, (Op.move (Operand.tmp 0)), 35, none⟩,
    ⟨some 19, (Op.call ⟨(Callee.builtin Builtin.len), #[(Operand.tmp 18)], #[35]⟩), 3, none⟩,
    ⟨some 8, (Op.assign (Operand.tmp 19)), 3, none⟩]) (.seq (.seq (.ops [⟨some 20, (Op.move (Operand.tmp 1)), 3, none⟩,
    ⟨some 21, (Op.move (Operand.tmp 8)), 3, none⟩,
    ⟨some 22, (Op.binOp BinOp.eql 3 (Operand.tmp 20) (Operand.tmp 21) 3), 4, none⟩]) (.cond (Operand.tmp 22) (.seq (.ops [⟨some 23, (Op.move (Operand.tmp 0)), 35, none⟩,
    ⟨some 24, (Op.move (Operand.tmp 2)), 35, none⟩,
    ⟨some 25, (Op.call ⟨(Callee.builtin Builtin.append), #[(Operand.tmp 23), (Operand.tmp 24)], #[35, 35]⟩), 35, none⟩,
    ⟨some 6, (Op.assign (Operand.tmp 25)), 35, none⟩]) .ret) .skip)) (.seq (.seq (.ops [⟨some 26, (Op.move (Operand.tmp 8)), 3, none⟩,
    ⟨some 27, (Op.move (Operand.tmp 7)), 3, none⟩,
    ⟨some 28, (Op.binOp BinOp.add 3 (Operand.tmp 26) (Operand.tmp 27) 3), 3, none⟩,
    ⟨some 29, (Op.move (Operand.tmp 0)), 35, none⟩,
    ⟨some 30, (Op.call ⟨(Callee.builtin Builtin.cap), #[(Operand.tmp 29)], #[35]⟩), 3, none⟩,
    ⟨some 31, (Op.binOp BinOp.gtr 3 (Operand.tmp 28) (Operand.tmp 30) 3), 4, none⟩]) (.cond (Operand.tmp 31) (.seq (.ops [⟨some 32, (Op.move (Operand.tmp 0)), 35, none⟩,
    ⟨some 33, (Op.move (Operand.tmp 1)), 3, none⟩,
    ⟨some 34, (Op.slice 35 (Operand.tmp 32) none (some (Operand.tmp 33)) none), 35, none⟩,
    ⟨some 35, (Op.move (Operand.tmp 8)), 3, none⟩,
    ⟨some 36, (Op.move (Operand.tmp 7)), 3, none⟩,
    ⟨some 37, (Op.binOp BinOp.add 3 (Operand.tmp 35) (Operand.tmp 36) 3), 3, none⟩,
    ⟨some 38, (Op.move (Operand.tmp 1)), 3, none⟩,
    ⟨some 39, (Op.binOp BinOp.sub 3 (Operand.tmp 37) (Operand.tmp 38) 3), 3, none⟩,
    ⟨some 40, (Op.call ⟨(Callee.builtin Builtin.append), #[(Operand.tmp 34), (Operand.tmp 39)], #[35, 3]⟩), 35, none⟩,
    ⟨some 9, (Op.assign (Operand.tmp 40)), 35, none⟩]) (.seq (.ops [⟨some 41, (Op.move (Operand.tmp 9)), 35, none⟩,
    ⟨some 42, (Op.move (Operand.tmp 1)), 3, none⟩,
    ⟨some 43, (Op.slice 35 (Operand.tmp 41) (some (Operand.tmp 42)) none none), 35, none⟩,
    ⟨some 44, (Op.move (Operand.tmp 2)), 35, none⟩,
    ⟨some 45, (Op.call ⟨(Callee.builtin Builtin.copy), #[(Operand.tmp 43), (Operand.tmp 44)], #[35, 35]⟩), 3, none⟩]) (.seq (.ops [⟨some 46, (Op.move (Operand.tmp 9)), 35, none⟩,
    ⟨some 47, (Op.move (Operand.tmp 1)), 3, none⟩,
    ⟨some 48, (Op.move (Operand.tmp 7)), 3, none⟩,
    ⟨some 51, (Op.move (Operand.tmp 0)), 35, none⟩,
    ⟨some 52, (Op.move (Operand.tmp 1)), 3, none⟩,
    ⟨some 49, (Op.binOp BinOp.add 3 (Operand.tmp 47) (Operand.tmp 48) 3), 3, none⟩,
    ⟨some 50, (Op.slice 35 (Operand.tmp 46) (some (Operand.tmp 49)) none none), 35, none⟩,
    ⟨some 53, (Op.slice 35 (Operand.tmp 51) (some (Operand.tmp 52)) none none), 35, none⟩,
    ⟨some 54, (Op.call ⟨(Callee.builtin Builtin.copy), #[(Operand.tmp 50), (Operand.tmp 53)], #[35, 35]⟩), 3, none⟩]) (.seq (.ops [⟨some 55, (Op.move (Operand.tmp 9)), 35, none⟩,
    ⟨some 6, (Op.assign (Operand.tmp 55)), 35, none⟩]) .ret)))) .skip)) (.seq (.ops [⟨some 56, (Op.move (Operand.tmp 0)), 35, none⟩,
    ⟨some 57, (Op.move (Operand.tmp 8)), 3, none⟩,
    ⟨some 58, (Op.move (Operand.tmp 7)), 3, none⟩,
    ⟨some 59, (Op.binOp BinOp.add 3 (Operand.tmp 57) (Operand.tmp 58) 3), 3, none⟩,
    ⟨some 60, (Op.slice 35 (Operand.tmp 56) none (some (Operand.tmp 59)) none), 35, none⟩,
    ⟨some 0, (Op.assign (Operand.tmp 60)), 35, none⟩]) (.seq (.seq (.ops [⟨some 61, (Op.move (Operand.tmp 2)), 35, none⟩,
    ⟨some 62, (Op.move (Operand.tmp 0)), 35, none⟩,
    ⟨some 63, (Op.move (Operand.tmp 1)), 3, none⟩,
    ⟨some 64, (Op.move (Operand.tmp 7)), 3, none⟩,
    ⟨some 65, (Op.binOp BinOp.add 3 (Operand.tmp 63) (Operand.tmp 64) 3), 3, none⟩,
    ⟨some 66, (Op.slice 35 (Operand.tmp 62) (some (Operand.tmp 65)) none none), 35, none⟩,
    ⟨some 67, (Op.call ⟨(Callee.value (Operand.func 241)), #[(Operand.tmp 61), (Operand.tmp 66)], #[35, 35]⟩), 4, none⟩,
    ⟨some 68, (Op.unOp UnOp.not 4 (Operand.tmp 67)), 4, none⟩]) (.cond (Operand.tmp 68) (.seq (.ops [⟨some 69, (Op.move (Operand.tmp 0)), 35, none⟩,
    ⟨some 70, (Op.move (Operand.tmp 1)), 3, none⟩,
    ⟨some 71, (Op.move (Operand.tmp 7)), 3, none⟩,
    ⟨some 74, (Op.move (Operand.tmp 0)), 35, none⟩,
    ⟨some 75, (Op.move (Operand.tmp 1)), 3, none⟩,
    ⟨some 72, (Op.binOp BinOp.add 3 (Operand.tmp 70) (Operand.tmp 71) 3), 3, none⟩,
    ⟨some 73, (Op.slice 35 (Operand.tmp 69) (some (Operand.tmp 72)) none none), 35, none⟩,
    ⟨some 76, (Op.slice 35 (Operand.tmp 74) (some (Operand.tmp 75)) none none), 35, none⟩,
    ⟨some 77, (Op.call ⟨(Callee.builtin Builtin.copy), #[(Operand.tmp 73), (Operand.tmp 76)], #[35, 35]⟩), 3, none⟩]) (.seq (.ops [⟨some 78, (Op.move (Operand.tmp 0)), 35, none⟩,
    ⟨some 79, (Op.move (Operand.tmp 1)), 3, none⟩,
    ⟨some 80, (Op.slice 35 (Operand.tmp 78) (some (Operand.tmp 79)) none none), 35, none⟩,
    ⟨some 81, (Op.move (Operand.tmp 2)), 35, none⟩,
    ⟨some 82, (Op.call ⟨(Callee.builtin Builtin.copy), #[(Operand.tmp 80), (Operand.tmp 81)], #[35, 35]⟩), 3, none⟩]) (.seq (.ops [⟨some 83, (Op.move (Operand.tmp 0)), 35, none⟩,
    ⟨some 6, (Op.assign (Operand.tmp 83)), 35, none⟩]) .ret))) .skip)) (.seq (.ops [⟨some 84, (Op.move (Operand.tmp 0)), 35, none⟩,
    ⟨some 85, (Op.move (Operand.tmp 8)), 3, none⟩,
    ⟨some 86, (Op.slice 35 (Operand.tmp 84) (some (Operand.tmp 85)) none none), 35, none⟩,
    ⟨some 87, (Op.move (Operand.tmp 2)), 35, none⟩,
    ⟨some 88, (Op.call ⟨(Callee.builtin Builtin.copy), #[(Operand.tmp 86), (Operand.tmp 87)], #[35, 35]⟩), 3, none⟩]) (.seq (.ops [⟨some 89, (Op.move (Operand.tmp 0)), 35, none⟩,
    ⟨some 90, (Op.move (Operand.tmp 1)), 3, none⟩,
    ⟨some 91, (Op.slice 35 (Operand.tmp 89) (some (Operand.tmp 90)) none none), 35, none⟩,
    ⟨some 92, (Op.move (Operand.tmp 7)), 3, none⟩,
    ⟨some 93, (Op.call ⟨(Callee.value (Operand.func 242)), #[(Operand.tmp 91), (Operand.tmp 92)], #[35, 3]⟩), 0, none⟩]) (.seq (.ops [⟨some 94, (Op.move (Operand.tmp 0)), 35, none⟩,
    ⟨some 6, (Op.assign (Operand.tmp 94)), 35, none⟩]) .ret))))))))))))⟩
theorem is_slices_Insert_api_Peer_api_Peer (c : Cfg) (h : c.lendT = [66]) : isF PP c 226 c_slices_Insert_api_Peer_api_Peer := isF_of (fn := Proofs.Tryz.f226) (by kernel_rfl) (by kernel_rfl) rfl h (by kernel_rfl) rfl rfl (by kernel_rfl)
def c_peers_order_find : SF := ⟨17, [(ResultVar.tmp 6)],
  (.seq (.ops [⟨some 3, (Op.box 258 (Operand.tmp 0)), 0, none⟩,
    ⟨some 4, (Op.box 204 (Operand.tmp 1)), 0, none⟩,
    ⟨some 6, (Op.assign (Operand.const (Value.int IntKind.i64 0))), 3, none⟩]) (.seq (.ops [⟨some 14, (Op.move (Operand.tmp 2)), 3, none⟩,
    ⟨some 7, (Op.fieldAddr 258 (Operand.tmp 3) 0), 0, none⟩,
    ⟨some 8, (Op.load 3 (Operand.tmp 7)), 3, none⟩,
    ⟨some 9, (Op.fieldAddr 204 (Operand.tmp 4) 0), 0, none⟩,
    ⟨some 10, (Op.load 3 (Operand.tmp 9)), 3, none⟩,
    ⟨some 11, (Op.call ⟨(Callee.value (Operand.func 204)), #[(Operand.tmp 8), (Operand.tmp 10)], #[3, 3]⟩), 3, none⟩,
    ⟨some 12, (Op.fieldAddr 258 (Operand.tmp 3) 0), 0, none⟩,
    ⟨some 13, (Op.load 3 (Operand.tmp 12)), 3, none⟩,
    ⟨some 15, (Op.call ⟨(Callee.value (Operand.func 204)), #[(Operand.tmp 13), (Operand.tmp 14)], #[3, 3]⟩), 3, none⟩,
    ⟨some 16, (Op.call ⟨(Callee.value (Operand.func 168)), #[(Operand.tmp 11), (Operand.tmp 15)], #[3, 3]⟩), 3, none⟩,
    ⟨some 6, (Op.assign (Operand.tmp 16)), 3, none⟩]) .ret))⟩
theorem is_peers_order_find (c : Cfg) (h : c.lendT = []) : isF PP c 227 c_peers_order_find := isF_of (fn := Proofs.Tryz.f227) (by kernel_rfl) (by kernel_rfl) rfl h (by kernel_rfl) rfl rfl (by kernel_rfl)
def c_slices_BinarySearchFunc_api_Peer_api_Peer_int_L0 : SC := (.seq (.seq (.ops [⟨some 15, (Op.move (Operand.tmp 9)), 3, none⟩,
    ⟨some 16, (Op.move (Operand.tmp 10)), 3, none⟩,
    ⟨some 17, (Op.binOp BinOp.lss 3 (Operand.tmp 15) (Operand.tmp 16) 3), 4, none⟩]) (.cond (Operand.tmp 17) .skip (.exit 0))) (.block 1 (.seq (.ops [⟨some 18, (Op.move (Operand.tmp 9)), 3, none⟩,
    ⟨some 19, (Op.move (Operand.tmp 10)), 3, none⟩,
    ⟨some 20, (Op.binOp BinOp.add 3 (Operand.tmp 18) (Operand.tmp 19) 3), 3, none⟩,
    ⟨some 21, (Op.convert 3 54 (Operand.tmp 20)), 54, none⟩,
    ⟨some 22, (Op.binOp BinOp.shr 54 (Operand.tmp 21) (Operand.const (Value.int IntKind.u64 1)) 54), 54, none⟩,
    ⟨some 23, (Op.convert 54 3 (Operand.tmp 22)), 3, none⟩,
    ⟨some 11, (Op.assign (Operand.tmp 23)), 3, none⟩]) (.seq (.ops [⟨some 24, (Op.move (Operand.tmp 2)), 256, none⟩,
    ⟨some 25, (Op.move (Operand.tmp 0)), 35, none⟩,
    ⟨some 26, (Op.move (Operand.tmp 11)), 3, none⟩,
    ⟨some 27, (Op.indexAddr 35 (Operand.tmp 25) (Operand.tmp 26)), 0, none⟩,
    ⟨some 28, (Op.load 204 (Operand.tmp 27)), 204, none⟩,
    ⟨some 29, (Op.move (Operand.tmp 1)), 3, none⟩,
    ⟨some 30, (Op.call ⟨(Callee.value (Operand.tmp 24)), #[(Operand.tmp 28), (Operand.tmp 29)], #[204, 3]⟩), 3, none⟩,
    ⟨some 31, (Op.binOp BinOp.lss 3 (Operand.tmp 30) (Operand.const (Value.int IntKind.i64 0)) 3), 4, none⟩]) (.cond (Operand.tmp 31) (.ops [⟨some 32, (Op.move (Operand.tmp 11)), 3, none⟩,
    ⟨some 33, (Op.binOp BinOp.add 3 (Operand.tmp 32) (Operand.const (Value.int IntKind.i64 1)) 3), 3, none⟩,
    ⟨some 9, (Op.assign (Operand.tmp 33)), 3, none⟩]) (.ops [⟨some 34, (Op.move (Operand.tmp 11)), 3, none⟩,
    ⟨some 10, (Op.assign (Operand.tmp 34)), 3, none⟩]))))))
def c_slices_BinarySearchFunc_api_Peer_api_Peer_int : SF := ⟨49, [(ResultVar.tmp 6), (ResultVar.tmp 7)],
  (.seq (.ops [⟨some 6, (Op.assign (Operand.const (Value.int IntKind.i64 0))), 3, none⟩,
    ⟨some 7, (Op.assign (Operand.const (Value.bool false))), 4, none⟩]) (.seq (.ops [⟨some 12, (Op.move (Operand.tmp 0)), 35, none⟩,
    ⟨some 13, (Op.call ⟨(Callee.builtin Builtin.len), #[(Operand.tmp 12)], #[35]⟩), 3, none⟩,
    ⟨some 8, (Op.assign (Operand.tmp 13)), 3, none⟩]) (.seq (.ops [⟨some 14, (Op.move (Operand.tmp 8)), 3, none⟩,
    ⟨some 9, (Op.assign (Operand.const (Value.int IntKind.i64 0))), 3, none⟩,
    ⟨some 10, (Op.assign (Operand.tmp 14)), 3, none⟩]) (.seq (.block 0 (.loop c_slices_BinarySearchFunc_api_Peer_api_Peer_int_L0)) (.seq (.ops [⟨some 35, (Op.move (Operand.tmp 9)), 3, none⟩,
    ⟨some 36, (Op.move (Operand.tmp 9)), 3, none⟩,
    ⟨some 37, (Op.move (Operand.tmp 8)), 3, none⟩,
    ⟨some 38, (Op.binOp BinOp.lss 3 (Operand.tmp 36) (Operand.tmp 37) 3), 4, none⟩,
    ⟨some 39, (Op.move (Operand.tmp 38)), 4, none⟩,
    ⟨some 40, (Op.move (Operand.tmp 2)), 256, some (39, true)⟩,
    ⟨some 41, (Op.move (Operand.tmp 0)), 35, some (39, true)⟩,
    ⟨some 42, (Op.move (Operand.tmp 9)), 3, some (39, true)⟩,
    ⟨some 43, (Op.indexAddr 35 (Operand.tmp 41) (Operand.tmp 42)), 0, some (39, true)⟩,
    ⟨some 44, (Op.load 204 (Operand.tmp 43)), 204, some (39, true)⟩,
    ⟨some 45, (Op.move (Operand.tmp 1)), 3, some (39, true)⟩,
    ⟨some 46, (Op.call ⟨(Callee.value (Operand.tmp 40)), #[(Operand.tmp 44), (Operand.tmp 45)], #[204, 3]⟩), 3, some (39, true)⟩,
    ⟨some 47, (Op.binOp BinOp.eql 3 (Operand.tmp 46) (Operand.const (Value.int IntKind.i64 0)) 3), 4, some (39, true)⟩,
    ⟨some 48, (Op.pick (Operand.tmp 39) (Operand.tmp 47) (Operand.const (Value.bool false))), 4, none⟩,
    ⟨some 6, (Op.assign (Operand.tmp 35)), 3, none⟩,
    ⟨some 7, (Op.assign (Operand.tmp 48)), 4, none⟩]) .ret)))))⟩
theorem is_slices_BinarySearchFunc_api_Peer_api_Peer_int (c : Cfg) (h : c.lendT = []) : isF PP c 228 c_slices_BinarySearchFunc_api_Peer_api_Peer_int := isF_of (fn := Proofs.Tryz.f228) (by kernel_rfl) (by kernel_rfl) rfl h (by kernel_rfl) rfl rfl (by kernel_rfl)
def c_slices_Index_int_int_L0 : SC := (.seq (.ops [⟨some 9, (Op.binOp BinOp.lss 3 (Operand.tmp 8) (Operand.tmp 7) 3), 0, none⟩]) (.seq (.cond (Operand.tmp 9) .skip (.exit 0)) (.seq (.block 1 (.seq (.ops [⟨some 10, (Op.move (Operand.tmp 8)), 3, none⟩,
    ⟨some 5, (Op.assign (Operand.tmp 10)), 3, none⟩]) (.seq (.ops [⟨some 11, (Op.move (Operand.tmp 1)), 3, none⟩,
    ⟨some 12, (Op.move (Operand.tmp 0)), 36, none⟩,
    ⟨some 13, (Op.move (Operand.tmp 5)), 3, none⟩,
    ⟨some 14, (Op.indexAddr 36 (Operand.tmp 12) (Operand.tmp 13)), 0, none⟩,
    ⟨some 15, (Op.load 3 (Operand.tmp 14)), 3, none⟩,
    ⟨some 16, (Op.binOp BinOp.eql 3 (Operand.tmp 11) (Operand.tmp 15) 3), 4, none⟩]) (.cond (Operand.tmp 16) (.seq (.ops [⟨some 17, (Op.move (Operand.tmp 5)), 3, none⟩,
    ⟨some 4, (Op.assign (Operand.tmp 17)), 3, none⟩]) .ret) .skip)))) (.ops [⟨some 18, (Op.binOp BinOp.add 3 (Operand.tmp 8) (Operand.const (Value.int IntKind.i64 1)) 3), 3, none⟩,
    ⟨some 8, (Op.move (Operand.tmp 18)), 3, none⟩]))))
def c_slices_Index_int_int : SF := ⟨19, [(ResultVar.tmp 4)],
  (.seq (.ops [⟨some 4, (Op.assign (Operand.const (Value.int IntKind.i64 0))), 3, none⟩]) (.seq (.seq (.ops [⟨some 6, (Op.move (Operand.tmp 0)), 36, none⟩,
    ⟨some 7, (Op.call ⟨(Callee.builtin Builtin.len), #[(Operand.tmp 6)], #[36]⟩), 3, none⟩,
    ⟨some 8, (Op.move (Operand.const (Value.int IntKind.i64 0))), 3, none⟩]) (.block 0 (.loop c_slices_Index_int_int_L0))) (.seq (.ops [⟨some 4, (Op.assign (Operand.const (Value.int IntKind.i64 (-1)))), 3, none⟩]) .ret)))⟩
theorem is_slices_Index_int_int (c : Cfg) (h : c.lendT = []) : isF PP c 229 c_slices_Index_int_int := isF_of (fn := Proofs.Tryz.f229) (by kernel_rfl) (by kernel_rfl) rfl h (by kernel_rfl) rfl rfl (by kernel_rfl)
def c_version_Newer : SF := ⟨33, [(ResultVar.tmp 4), (ResultVar.tmp 5)],
  (.seq (.ops [⟨some 2, (Op.box 44 (Operand.tmp 0)), 0, none⟩,
    ⟨some 3, (Op.box 44 (Operand.tmp 1)), 0, none⟩,
    ⟨some 4, (Op.assign (Operand.const (Value.bool false))), 4, none⟩,
    ⟨some 5, (Op.assign (Operand.const (Value.int IntKind.i64 0))), 31, none⟩]) (.seq (.seq (.ops [⟨some 6, (Op.load 44 (Operand.tmp 2)), 44, none⟩,
    ⟨some 7, (Op.call ⟨(Callee.value (Operand.func 195)), #[(Operand.tmp 6)], #[44]⟩), 4, none⟩,
    ⟨some 8, (Op.unOp UnOp.not 4 (Operand.tmp 7)), 4, none⟩,
    ⟨some 9, (Op.move (Operand.tmp 8)), 4, none⟩,
    ⟨some 10, (Op.load 44 (Operand.tmp 3)), 44, some (9, false)⟩,
    ⟨some 11, (Op.call ⟨(Callee.value (Operand.func 195)), #[(Operand.tmp 10)], #[44]⟩), 4, some (9, false)⟩,
    ⟨some 12, (Op.unOp UnOp.not 4 (Operand.tmp 11)), 4, some (9, false)⟩,
    ⟨some 13, (Op.pick (Operand.tmp 9) (Operand.const (Value.bool true)) (Operand.tmp 12)), 4, none⟩]) (.cond (Operand.tmp 13) (.seq (.ops [⟨some 4, (Op.assign (Operand.const (Value.bool false))), 4, none⟩,
    ⟨some 5, (Op.assign (Operand.const (Value.int IntKind.i64 300))), 31, none⟩]) .ret) .skip)) (.seq (.ops [⟨some 14, (Op.fieldAddr 44 (Operand.tmp 2) 0), 0, none⟩,
    ⟨some 15, (Op.load 3 (Operand.tmp 14)), 3, none⟩,
    ⟨some 16, (Op.fieldAddr 44 (Operand.tmp 3) 0), 0, none⟩,
    ⟨some 17, (Op.load 3 (Operand.tmp 16)), 3, none⟩,
    ⟨some 18, (Op.binOp BinOp.gtr 3 (Operand.tmp 15) (Operand.tmp 17) 3), 4, none⟩,
    ⟨some 19, (Op.move (Operand.tmp 18)), 4, none⟩,
    ⟨some 20, (Op.fieldAddr 44 (Operand.tmp 2) 0), 0, some (19, false)⟩,
    ⟨some 21, (Op.load 3 (Operand.tmp 20)), 3, some (19, false)⟩,
    ⟨some 22, (Op.fieldAddr 44 (Operand.tmp 3) 0), 0, some (19, false)⟩,
    ⟨some 23, (Op.load 3 (Operand.tmp 22)), 3, some (19, false)⟩,
    ⟨some 24, (Op.binOp BinOp.eql 3 (Operand.tmp 21) (Operand.tmp 23) 3), 4, some (19, false)⟩,
    ⟨some 25, (Op.move (Operand.tmp 24)), 4, some (19, false)⟩,
    ⟨some 26, (Op.fieldAddr 44 (Operand.tmp 2) 1), 0, some (25, true)⟩,
    ⟨some 27, (Op.load 3 (Operand.tmp 26)), 3, some (25, true)⟩,
    ⟨some 28, (Op.fieldAddr 44 (Operand.tmp 3) 1), 0, some (25, true)⟩,
    ⟨some 29, (Op.load 3 (Operand.tmp 28)), 3, some (25, true)⟩,
    ⟨some 30, (Op.binOp BinOp.gtr 3 (Operand.tmp 27) (Operand.tmp 29) 3), 4, some (25, true)⟩,
    ⟨some 31, (Op.pick (Operand.tmp 25) (Operand.tmp 30) (Operand.const (Value.bool false))), 4, some (19, false)⟩,
    ⟨some 32, (Op.pick (Operand.tmp 19) (Operand.const (Value.bool true)) (Operand.tmp 31)), 4, none⟩,
    ⟨some 4, (Op.assign (Operand.tmp 32)), 4, none⟩,
    ⟨some 5, (Op.assign (Operand.const (Value.int IntKind.i64 0))), 31, none⟩]) .ret)))⟩
theorem is_version_Newer (c : Cfg) (h : c.lendT = []) : isF PP c 230 c_version_Newer := isF_of (fn := Proofs.Tryz.f230) (by kernel_rfl) (by kernel_rfl) rfl h (by kernel_rfl) rfl rfl (by kernel_rfl)
def c_slices_Delete_api_Msg_api_Msg : SF := ⟨33, [(ResultVar.tmp 6)],
  (.seq (.ops [⟨some 6, (Op.assign (Operand.const (Value.slice none 0 0))), 24, none⟩]) (.seq (.ops [⟨some 8, (Op.move (Operand.tmp 0)), 24, none⟩,
    ⟨some 9, (Op.move (Operand.tmp 1)), 3, none⟩,
    ⟨some 10, (Op.move (Operand.tmp 2)), 3, none⟩,
    ⟨some 11, (Op.move (Operand.tmp 0)), 24, none⟩,
    ⟨some 12, (Op.call ⟨(Callee.builtin Builtin.len), #[(Operand.tmp 11)], #[24]⟩), 3, none⟩,
    ⟨some 13, (Op.slice 24 (Operand.tmp 8) (some (Operand.tmp 9)) (some (Operand.tmp 10)) (some (Operand.tmp 12))), 24, none⟩]) (.seq (.seq (.ops [⟨some 14, (Op.move (Operand.tmp 1)), 3, none⟩,
    ⟨some 15, (Op.move (Operand.tmp 2)), 3, none⟩,
    ⟨some 16, (Op.binOp BinOp.eql 3 (Operand.tmp 14) (Operand.tmp 15) 3), 4, none⟩]) (.cond (Operand.tmp 16) (.seq (.ops [⟨some 17, (Op.move (Operand.tmp 0)), 24, none⟩,
    ⟨some 6, (Op.assign (Operand.tmp 17)), 24, none⟩]) .ret) .skip)) (.seq (.ops [⟨some 18, (Op.move (Operand.tmp 0)), 24, none⟩,
    ⟨some 19, (Op.call ⟨(Callee.builtin Builtin.len), #[(Operand.tmp 18)], #[24]⟩), 3, none⟩,
    ⟨some 7, (Op.assign (Operand.tmp 19)), 3, none⟩]) (.seq (.ops [⟨some 20, (Op.move (Operand.tmp 0)), 24, none⟩,
    ⟨some 21, (Op.move (Operand.tmp 1)), 3, none⟩,
    ⟨some 23, (Op.move (Operand.tmp 0)), 24, none⟩,
    ⟨some 24, (Op.move (Operand.tmp 2)), 3, none⟩,
    ⟨some 22, (Op.slice 24 (Operand.tmp 20) none (some (Operand.tmp 21)) none), 24, none⟩,
    ⟨some 25, (Op.slice 24 (Operand.tmp 23) (some (Operand.tmp 24)) none none), 24, none⟩,
    ⟨some 26, (Op.call ⟨(Callee.builtin Builtin.append), #[(Operand.tmp 22), (Operand.tmp 25)], #[24, 24]⟩), 24, none⟩,
    ⟨some 0, (Op.assign (Operand.tmp 26)), 24, none⟩]) (.seq (.ops [⟨some 27, (Op.move (Operand.tmp 0)), 24, none⟩,
    ⟨some 28, (Op.move (Operand.tmp 0)), 24, none⟩,
    ⟨some 29, (Op.call ⟨(Callee.builtin Builtin.len), #[(Operand.tmp 28)], #[24]⟩), 3, none⟩,
    ⟨some 30, (Op.move (Operand.tmp 7)), 3, none⟩,
    ⟨some 31, (Op.slice 24 (Operand.tmp 27) (some (Operand.tmp 29)) (some (Operand.tmp 30)) none), 24, none⟩,
    ⟨none, (Op.call ⟨(Callee.builtin Builtin.clear), #[(Operand.tmp 31)], #[24]⟩), 0, none⟩]) (.seq (.ops [⟨some 32, (Op.move (Operand.tmp 0)), 24, none⟩,
    ⟨some 6, (Op.assign (Operand.tmp 32)), 24, none⟩]) .ret)))))))⟩
theorem is_slices_Delete_api_Msg_api_Msg (c : Cfg) (h : c.lendT = []) : isF PP c 236 c_slices_Delete_api_Msg_api_Msg := isF_of (fn := Proofs.Tryz.f236) (by kernel_rfl) (by kernel_rfl) rfl h (by kernel_rfl) rfl rfl (by kernel_rfl)
end Go.AM
/- AM: this seat's functions in short. -/
namespace Go.AM
set_option linter.unusedSimpArgs false
set_option linter.unusedVariables false
end Go.AM
/- AM: this seat's functions in short, all of them. -/
/- AM: contracts: places, peers. -/
namespace Go.AM
set_option linter.unusedSimpArgs false
set_option linter.unusedVariables false
set_option maxRecDepth 8000
set_option maxHeartbeats 0
theorem ring_Far (a b : Int) : Den PP 204 [.int .i64 a, .int .i64 b] [] (.int .i64 (far a b)) [] := by
  refine den_of [] [] is_ring_Far ?_
  simp -implicitDefEqProofs [c_ring_Far, far]

theorem ring_Place (a : Int) : Den PP 118 [.int .i64 a] [] (.bool (place a)) [] := by
  refine den_of [] [] is_ring_Place ?_
  simp -implicitDefEqProofs [c_ring_Place]
  refine gOps_dec (fun h => ?_) (fun h => ?_) <;> simp -implicitDefEqProofs [h, place]

theorem peers_May_loop (base : Int) (ps : List Peer) (hl : ps.length ≤ cap) (Q : Ex → St → Prop) (r : Bool) (hQ1 : ∀ fr, r = true → Q .normal ⟨fr, []⟩) (hQ2 : ∀ fr bs, r = false → fr 4 = .bool false → Q .ret ⟨fr, bs⟩) :
    ∀ (rest : List Peer) (i : Nat) (fr : Nat → D) (last : Int), ps.drop i = rest → i ≤ ps.length → fr 0 = .int .i64 base → fr 5 = .int .i64 last → fr 16 = .sl (ps.map Peer.row) ps.length → fr 17 = .int .i64 ps.length → fr 18 = .int .i64 i →
      peersOk base last rest = r → sLoop (cf 0 [] []) 0 c_peers_May_L0 (blockQ 0 Q) (rest.length + 1) ⟨fr, []⟩ := by
  intro rest
  induction rest with
  | nil =>
    intro i fr last e hi h0 h5 h16 h17 h18 hm
    refine sLoop_body c_peers_May_L0.eq_1 ?_
    have hi' := drop_nil e hi
    simp -implicitDefEqProofs [h0, h5, h16, h17, h18, hi']
    exact hQ1 _ hm.symm
  | cons p rest ih =>
    intro i fr last e hi h0 h5 h16 h17 h18 hm
    refine sLoop_body c_peers_May_L0.eq_1 ?_
    obtain ⟨hlt, hget, hd, hlen⟩ := drop_cons e
    have hlt' : (i : Int) < ps.length := by omega
    simp -implicitDefEqProofs [h0, h5, h16, h17, h18, hlt', hget, Peer.row]
    refine callThen_of (ring_Place p.id) ?_
    simp -implicitDefEqProofs [h0, h5, h16, h17, h18]
    simp only [peersOk] at hm
    refine gOps_split (fun h1 => ?_) (fun h1 => ?_)
    all_goals simp -implicitDefEqProofs [h1, h0, h5, h16, h17, h18]
    rotate_left
    · exact hQ2 _ _ (by rw [← hm, h1]; rfl) (by rfl)
    refine gOps_ndec (fun h2 => ?_) (fun h2 => ?_)
    all_goals simp -implicitDefEqProofs [h2, h0, h5, h16, h17, h18]
    · exact hQ2 _ _ (by rw [← hm]; simp; intros; omega) (by rfl)
    refine gOps_ndec (fun h3 => ?_) (fun h3 => ?_)
    all_goals simp -implicitDefEqProofs [h3, h0, h5, h16, h17, h18]
    · exact hQ2 _ _ (by rw [← hm]; simp; intros; omega) (by rfl)
    refine callThen_of (ring_Far base p.id) ?_
    simp -implicitDefEqProofs [h0, h5, h16, h17, h18]
    refine condC_dec (fun h4 => ?_) (fun h4 => ?_)
    all_goals simp -implicitDefEqProofs [h4, h0, h5, h16, h17, h18]
    · exact hQ2 _ _ (by rw [← hm]; simp; intros; omega) (by rfl)
    refine callThen_of (ring_Far base p.id) ?_
    simp -implicitDefEqProofs [h0, h5, h16, h17, h18, wrap_next (show i ≤ 140737488355328 by unfold cap at hl; omega)]
    exact ih (i + 1) _ (far base p.id) hd (by omega) (by simp [h0, h5, h16, h17, h18]) (by simp) (by simp [h0, h5, h16, h17, h18]) (by simp [h0, h5, h16, h17, h18]) (by simp) (by rw [← hm, h1, decide_eq_true (show 0 ≤ p.missed by omega), decide_eq_true (show p.missed < 3 by omega), decide_eq_true (show last < far base p.id by omega)]; rfl)

theorem peers_May (base : Int) (ps : List Peer) (hl : ps.length ≤ cap) : Den PP 181 [.int .i64 base, .sl (ps.map Peer.row) ps.length] [] (.bool (peersMay base ps)) [] := by
  refine den_of [] [] is_peers_May ?_
  simp -implicitDefEqProofs [c_peers_May]
  refine callThen_of (ring_Place base) ?_
  simp -implicitDefEqProofs
  cases hp : place base
  · simp -implicitDefEqProofs [peersMay, hp]
  simp -implicitDefEqProofs
  refine condC_dec (fun h16 => ?_) (fun h16 => ?_)
  · simp -implicitDefEqProofs [peersMay, hp, h16]
    omega
  simp -implicitDefEqProofs
  refine anyLoop_of (ps.length + 1) ?_
  have hm : peersMay base ps = peersOk base 0 ps := by simp [peersMay, hp]; intro _; omega
  rw [hm]
  refine peers_May_loop base ps hl _ (peersOk base 0 ps) (fun fr h => ?_) (fun fr bs h h4 => ?_) ps 0 _ 0 rfl (Nat.zero_le _) rfl rfl rfl rfl rfl rfl
  all_goals simp -implicitDefEqProofs [h]
  simp -implicitDefEqProofs [h4]
end Go.AM
/- AM: contracts: small parts. -/
namespace Go.AM
set_option linter.unusedSimpArgs false
set_option linter.unusedVariables false
set_option maxRecDepth 8000
set_option maxHeartbeats 0
theorem law_Num (a : Int) : Den PP 15 [.int .i64 a] [] (.int .i64 a) [] := by
  refine den_of [] [] is_gimmallaw0_Num ?_
  simp -implicitDefEqProofs [c_gimmallaw0_Num]

theorem cmp_isNaN (a : Int) : Den PP 216 [.int .i64 a] [] (.bool false) [] := by
  refine den_of [] [] is_cmp_isNaN_int ?_
  simp -implicitDefEqProofs [c_cmp_isNaN_int]

theorem cmp_Compare (a b : Int) : Den PP 168 [.int .i64 a, .int .i64 b] [] (.int .i64 (cmpI a b)) [] := by
  refine den_of [] [] is_cmp_Compare_int ?_
  simp -implicitDefEqProofs [c_cmp_Compare_int]
  refine callThen_of (cmp_isNaN a) ?_
  simp -implicitDefEqProofs
  refine callThen_of (cmp_isNaN b) ?_
  simp -implicitDefEqProofs
  refine condC_dec (fun h => ?_) (fun h => ?_) <;> simp -implicitDefEqProofs [h, cmpI]
  refine condC_dec (fun h2 => ?_) (fun h2 => ?_) <;> simp -implicitDefEqProofs [h2]

theorem peers_order_find (base : Int) (p : Peer) (id : Int) : Den PP 227 [.agg [.int .i64 base], .agg p.row, .int .i64 id] [] (.int .i64 (cmpI (far base p.id) (far base id))) [] := by
  refine den_of [] [] is_peers_order_find ?_
  simp -implicitDefEqProofs [c_peers_order_find, Peer.row]
  refine callThen_of (ring_Far base p.id) ?_
  simp -implicitDefEqProofs
  refine callThen_of (ring_Far base id) ?_
  simp -implicitDefEqProofs
  refine callThen_of (cmp_Compare _ _) ?_
  simp -implicitDefEqProofs

end Go.AM
/- AM: contracts: loops over places. -/
namespace Go.AM
set_option linter.unusedSimpArgs false
set_option linter.unusedVariables false
set_option maxRecDepth 8000
set_option maxHeartbeats 0
theorem ring_Places (xs : List Int) (hl : xs.length ≤ cap) : Den PP 119 [intsD xs] [] (.bool (xs.all place)) [] := by
  refine den_of [] [] is_ring_Places ?_
  simp -implicitDefEqProofs [c_ring_Places, intsD]
  refine anyLoop_of (xs.length + 1) ?_
  have key : ∀ (Q : Ex → St → Prop) (r : Bool) (hQ1 : ∀ fr, r = true → Q .normal ⟨fr, []⟩) (hQ2 : ∀ fr bs, r = false → fr 2 = .bool false → Q .ret ⟨fr, bs⟩) (rest : List Int) (i : Nat) (fr : Nat → D), xs.drop i = rest → i ≤ xs.length →
      fr 0 = intsD xs → fr 5 = intsD xs → fr 6 = .int .i64 xs.length → fr 7 = .int .i64 i → rest.all place = r → sLoop (cf 0 [] []) 0 c_ring_Places_L0 (blockQ 0 Q) (rest.length + 1) ⟨fr, []⟩ := by
    intro Q r hQ1 hQ2 rest
    induction rest with
    | nil =>
      intro i fr e hi h0 h5 h6 h7 hm
      refine sLoop_body c_ring_Places_L0.eq_1 ?_
      have hi' := drop_nil e hi
      simp -implicitDefEqProofs [h0, h5, h6, h7, hi']
      exact hQ1 _ hm.symm
    | cons x rest ih =>
      intro i fr e hi h0 h5 h6 h7 hm
      refine sLoop_body c_ring_Places_L0.eq_1 ?_
      obtain ⟨hlt, hget, hd, hlen⟩ := drop_cons e
      have hlt' : (i : Int) < xs.length := by omega
      simp -implicitDefEqProofs [h0, h5, h6, h7, hlt', hget, intsD, irow]
      refine callThen_of (ring_Place x) ?_
      simp -implicitDefEqProofs
      refine condC_not (fun h1 => ?_) (fun h1 => ?_)
      all_goals simp -implicitDefEqProofs [h1, h0, h5, h6, h7, wrap_next (show i ≤ 140737488355328 by unfold cap at hl; omega)]
      · exact ih (i + 1) _ hd (by omega) (by simp [h0, h5, h6, h7, intsD]) (by simp [h0, h5, h6, h7, intsD]) (by simp [h0, h5, h6, h7]) (by simp) (by rw [← hm]; simp [h1])
      · exact hQ2 _ _ (by rw [← hm]; simp [h1]) (by rfl)
  refine key _ (xs.all place) (fun fr h => ?_) (fun fr bs h h2 => ?_) xs 0 _ rfl (Nat.zero_le _) rfl rfl rfl rfl rfl
  · simp -implicitDefEqProofs [h]
  · simp -implicitDefEqProofs [h, h2]

theorem passive_May (xs : List Int) (hl : xs.length ≤ cap) : Den PP 132 [intsD xs] [] (.bool (passiveMay xs)) [] := by
  refine den_of [] [] is_passive_May ?_
  simp -implicitDefEqProofs [c_passive_May, intsD]
  refine anyLoop_of (xs.length + 1) ?_
  have key : ∀ (Q : Ex → St → Prop) (r : Bool) (hQ1 : ∀ fr, r = true → fr 0 = .sl (xs.map irow) xs.length → Q .normal ⟨fr, []⟩) (hQ2 : ∀ fr bs, r = false → fr 2 = .bool false → Q .ret ⟨fr, bs⟩) (rest : List Int) (i : Nat) (fr : Nat → D), xs.drop i = rest → i ≤ xs.length →
      fr 0 = .sl (xs.map irow) xs.length → fr 5 = .sl (xs.map irow) xs.length → fr 6 = .int .i64 xs.length → fr 7 = .int .i64 i → ups (if i = 0 then none else xs[i - 1]?) rest = r → sLoop (cf 0 [] []) 0 c_passive_May_L0 (blockQ 0 Q) (rest.length + 1) ⟨fr, []⟩ := by
    intro Q r hQ1 hQ2 rest
    induction rest with
    | nil =>
      intro i fr e hi h0 h5 h6 h7 hm
      refine sLoop_body c_passive_May_L0.eq_1 ?_
      have hi' := drop_nil e hi
      simp -implicitDefEqProofs [h0, h5, h6, h7, hi']
      exact hQ1 _ hm.symm (by simp [h0, h5, h6, h7])
    | cons x rest ih =>
      intro i fr e hi h0 h5 h6 h7 hm
      refine sLoop_body c_passive_May_L0.eq_1 ?_
      obtain ⟨hlt, hget, hd, hlen⟩ := drop_cons e
      have hlt' : (i : Int) < xs.length := by omega
      have hw := wrap_next (show i ≤ 140737488355328 by unfold cap at hl; omega)
      have hprev : (if i + 1 = 0 then none else xs[i + 1 - 1]?) = some x := by simp [hget]
      simp only [ups] at hm
      simp -implicitDefEqProofs [h0, h5, h6, h7, hlt', hget, irow]
      refine callThen_of (ring_Place x) ?_
      simp -implicitDefEqProofs [h0, h5, h6, h7]
      refine gOps_split (fun h1 => ?_) (fun h1 => ?_)
      rotate_left
      · simp -implicitDefEqProofs [h1, h0, h5, h6, h7]
        exact hQ2 _ _ (by rw [← hm]; simp [h1]) (by rfl)
      simp -implicitDefEqProofs [h1, h0, h5, h6, h7]
      by_cases hi0 : i = 0
      · simp -implicitDefEqProofs [hi0, h0, h5, h6, h7]
        simp -implicitDefEqProofs [hi0] at hw
        simp -implicitDefEqProofs [hw]
        refine ih 1 _ (by rw [← hd, hi0]) (by omega) (by simp [h0, h5, h6, h7]) (by simp [h0, h5, h6, h7]) (by simp [h0, h5, h6, h7]) (by simp) ?_
        rw [hi0] at hprev hm
        rw [← hm]
        simp [h1] at hprev ⊢
        rw [hprev]
      · have hpos : 0 < i := by omega
        have hwp : IntKind.wrap .i64 ((i : Int) - 1) = ((i - 1 : Nat) : Int) := by unfold cap at hl; rw [wrap_in (by omega) (by omega)]; omega
        have hlt2 : ((i - 1 : Nat) : Int) < xs.length := by omega
        obtain ⟨y, hy⟩ : ∃ y, xs[i - 1]? = some y := ⟨xs[i - 1], by simp⟩
        rw [if_neg hi0, hy] at hm
        simp -implicitDefEqProofs [hpos, h0, h5, h6, h7, hwp, hlt2, hy, irow]
        refine condC_dec (fun h2 => ?_) (fun h2 => ?_)
        all_goals simp -implicitDefEqProofs [h2, h0, h5, h6, h7, hw]
        · exact hQ2 _ _ (by rw [← hm]; simp; intros; omega) (by rfl)
        · refine ih (i + 1) _ hd (by omega) (by simp [h0, h5, h6, h7]) (by simp [h0, h5, h6, h7]) (by simp [h0, h5, h6, h7]) (by simp) ?_
          rw [hprev, ← hm, h1]
          simp [show y < x by omega]
  refine key _ (ups none xs) (fun fr h h0 => ?_) (fun fr bs h h2 => ?_) xs 0 _ rfl (Nat.zero_le _) rfl rfl rfl rfl rfl
  · simp -implicitDefEqProofs [h, h0, passiveMay]
    omega
  · simp -implicitDefEqProofs [h, h2, passiveMay]

def TellsI (f : Nat) (caps : List D) (p : Int → Bool) (xs : List Int) : Prop := (∀ bs, caps.map (D.freeze bs) = caps) ∧ (∀ fr fp, mapRL fr fp caps = caps) ∧ ∀ x ∈ xs, Den PP f (.int .i64 x :: caps) [] (.bool (p x)) []
theorem slices_IndexFunc_int (xs : List Int) (hl : xs.length ≤ cap) (f : Nat) (caps : List D) (p : Int → Bool) (hp : TellsI f caps p xs) : Den PP 165 [intsD xs, .fn f [] caps] [] (.int .i64 (fIdx p 0 xs)) [] := by
  refine den_of [] [] is_slices_IndexFunc_int_int ?_
  simp -implicitDefEqProofs [c_slices_IndexFunc_int_int, intsD]
  refine anyLoop_of (xs.length + 1) ?_
  have key : ∀ (Q : Ex → St → Prop) (r : Int) (hQ1 : ∀ fr, r = -1 → Q .normal ⟨fr, []⟩) (hQ2 : ∀ fr bs, fr 4 = .int .i64 r → Q .ret ⟨fr, bs⟩) (rest : List Int) (i : Nat) (fr : Nat → D), xs.drop i = rest → i ≤ xs.length →
      fr 0 = .sl (xs.map irow) xs.length → fr 1 = .fn f [] caps → fr 7 = .int .i64 xs.length → fr 8 = .int .i64 i → fIdx p i rest = r → sLoop (cf 0 [] []) 0 c_slices_IndexFunc_int_int_L0 (blockQ 0 Q) (rest.length + 1) ⟨fr, []⟩ := by
    intro Q r hQ1 hQ2 rest
    induction rest with
    | nil =>
      intro i fr e hi h0 h1 h7 h8 hm
      refine sLoop_body c_slices_IndexFunc_int_int_L0.eq_1 ?_
      have hi' := drop_nil e hi
      simp -implicitDefEqProofs [h0, h1, h7, h8, hi']
      exact hQ1 _ hm.symm
    | cons x rest ih =>
      intro i fr e hi h0 h1 h7 h8 hm
      refine sLoop_body c_slices_IndexFunc_int_int_L0.eq_1 ?_
      obtain ⟨hlt, hget, hd, hlen⟩ := drop_cons e
      have hlt' : (i : Int) < xs.length := by omega
      have hw := wrap_next (show i ≤ 140737488355328 by unfold cap at hl; omega)
      simp -implicitDefEqProofs [h0, h1, h7, h8, hlt', hget, irow, hp.1]
      refine callThen_of (hp.2.2 x (List.mem_of_getElem? hget)) ?_
      simp only [fIdx] at hm
      simp -implicitDefEqProofs
      refine condC_split (fun h2 => ?_) (fun h2 => ?_)
      all_goals simp -implicitDefEqProofs [h2, h0, h1, h7, h8, hw]
      · exact hQ2 _ _ (by rw [← hm, h2]; simp)
      · exact ih (i + 1) _ hd (by omega) (by simp [h0, h1, h7, h8]) (by simp [h0, h1, h7, h8, hp.2.1]) (by simp [h0, h1, h7, h8]) (by simp) (by rw [← hm, h2]; simp)
  refine key _ (fIdx p 0 xs) (fun fr h => ?_) (fun fr bs h => ?_) xs 0 _ rfl (Nat.zero_le _) rfl rfl rfl rfl rfl
  · simp -implicitDefEqProofs [h]
  · simp -implicitDefEqProofs [h]

theorem slices_ContainsFunc_int (xs : List Int) (hl : xs.length ≤ cap) (f : Nat) (caps : List D) (p : Int → Bool) (hp : TellsI f caps p xs) : Den PP 79 [intsD xs, .fn f [] caps] [] (.bool (xs.any p)) [] := by
  refine den_of [] [] is_slices_ContainsFunc_int_int ?_
  simp -implicitDefEqProofs [c_slices_ContainsFunc_int_int, intsD, hp.2.1]
  refine callThen_of (slices_IndexFunc_int xs hl f caps p hp) ?_
  have := fIdx_any p xs 0
  simp -implicitDefEqProofs [← this]

theorem bsearch_Peer (base : Int) (ps : List Peer) (id : Int) (hl : ps.length ≤ cap) (at_ : Nat) (hat : at_ ≤ ps.length)
    (hlo : ∀ i p, i < at_ → ps[i]? = some p → far base p.id < far base id) (hhi : ∀ i p, at_ ≤ i → ps[i]? = some p → far base id ≤ far base p.id) :
    Den PP 228 [peersD ps, .int .i64 id, .fn 227 [.agg [.int .i64 base]] []] [] (.tup [.int .i64 at_, .bool (isFar base id ps[at_]?)]) [] := by
  refine den_of [] [] is_slices_BinarySearchFunc_api_Peer_api_Peer_int ?_
  simp -implicitDefEqProofs [c_slices_BinarySearchFunc_api_Peer_api_Peer_int, peersD]
  refine anyLoop_of (ps.length + 1) ?_
  have key : ∀ (Q : Ex → St → Prop) (hQ1 : ∀ fr, fr 0 = .sl (ps.map Peer.row) ps.length → fr 1 = .int .i64 id → fr 2 = .fn 227 [.agg [.int .i64 base]] [] → fr 8 = .int .i64 ps.length → fr 9 = .int .i64 at_ → Q .normal ⟨fr, []⟩) (d lo hi : Nat) (fr : Nat → D), hi - lo ≤ d → lo ≤ at_ → at_ ≤ hi → hi ≤ ps.length →
      fr 0 = .sl (ps.map Peer.row) ps.length → fr 1 = .int .i64 id → fr 2 = .fn 227 [.agg [.int .i64 base]] [] → fr 8 = .int .i64 ps.length → fr 9 = .int .i64 lo → fr 10 = .int .i64 hi → sLoop (cf 0 [] []) 0 c_slices_BinarySearchFunc_api_Peer_api_Peer_int_L0 (blockQ 0 Q) (d + 1) ⟨fr, []⟩ := by
    intro Q hQ1 d
    induction d with
    | zero =>
      intro lo hi fr hd h3 h4 h5 h0 h1 h2 h8 h9 h10
      refine sLoop_body c_slices_BinarySearchFunc_api_Peer_api_Peer_int_L0.eq_1 ?_
      have e1 : lo = at_ := by omega
      have e2 : hi = at_ := by omega
      simp -implicitDefEqProofs [h0, h1, h2, h8, h9, h10, e1, e2]
      exact hQ1 _ (by simp [h0, h1, h2, h8, h9, h10]) (by simp [h0, h1, h2, h8, h9, h10]) (by simp [h0, h1, h2, h8, h9, h10]) (by simp [h0, h1, h2, h8, h9, h10]) (by simp [h0, h1, h2, h8, h9, h10, e1])
    | succ d ih =>
      intro lo hi fr hd h3 h4 h5 h0 h1 h2 h8 h9 h10
      refine sLoop_body c_slices_BinarySearchFunc_api_Peer_api_Peer_int_L0.eq_1 ?_
      by_cases hlt : lo < hi
      · have hlt' : (lo : Int) < hi := by omega
        have hm := mid_eq (lo := lo) (hi := hi) (by omega) (by omega)
        have hml : (lo + hi) / 2 < ps.length := by omega
        have hml' : (((lo + hi) / 2 : Nat) : Int) < ps.length := by omega
        have hw := wrap_next (n := (lo + hi) / 2) (by unfold cap at hl; omega)
        have hb1 : lo ≤ (lo + hi) / 2 := by omega
        have hb2 : (lo + hi) / 2 < hi := by omega
        generalize (lo + hi) / 2 = mid at *
        simp -implicitDefEqProofs [h0, h1, h2, h8, h9, h10, hlt', hlt, hm, hml, hml', Peer.row]
        refine callThen_of (peers_order_find base ps[mid] id) ?_
        simp -implicitDefEqProofs [cmpI_neg]
        refine condC_dec (fun hc => ?_) (fun hc => ?_)
        all_goals simp -implicitDefEqProofs [h0, h1, h2, h8, h9, h10, hc, hw]
        · have : mid < at_ := by
            apply Classical.byContradiction
            intro hx
            have := hhi mid ps[mid] (by omega) (by simp)
            omega
          refine ih (mid + 1) hi _ (by omega) (by omega) (by omega) (by omega) (by simp [h0, h1, h2, h8, h9, h10]) (by simp [h0, h1, h2, h8, h9, h10]) (by simp [h0, h1, h2, h8, h9, h10]) (by simp [h0, h1, h2, h8, h9, h10]) (by simp) (by simp [h0, h1, h2, h8, h9, h10])
        · have : at_ ≤ mid := by
            apply Classical.byContradiction
            intro hx
            have := hlo mid ps[mid] (by omega) (by simp)
            omega
          refine ih lo mid _ (by omega) (by omega) (by omega) (by omega) (by simp [h0, h1, h2, h8, h9, h10]) (by simp [h0, h1, h2, h8, h9, h10]) (by simp [h0, h1, h2, h8, h9, h10]) (by simp [h0, h1, h2, h8, h9, h10]) (by simp [h0, h1, h2, h8, h9, h10]) (by simp)
      · have e1 : lo = at_ := by omega
        have e2 : hi = at_ := by omega
        simp -implicitDefEqProofs [h0, h1, h2, h8, h9, h10, e1, e2]
        exact hQ1 _ (by simp [h0, h1, h2, h8, h9, h10]) (by simp [h0, h1, h2, h8, h9, h10]) (by simp [h0, h1, h2, h8, h9, h10]) (by simp [h0, h1, h2, h8, h9, h10]) (by simp [h0, h1, h2, h8, h9, h10, e1])
  refine key _ (fun fr h0 h1 h2 h8 h9 => ?_) ps.length 0 ps.length _ (by omega) (by omega) hat (Nat.le_refl _) rfl rfl rfl rfl rfl rfl
  simp -implicitDefEqProofs [h0, h1, h2, h8, h9]
  refine gOps_dec (fun hc => ?_) (fun hc => ?_)
  · simp -implicitDefEqProofs [h0, h1, h2, h8, h9, hc, Peer.row]
    refine callThen_of (peers_order_find base ps[at_] id) ?_
    simp -implicitDefEqProofs [cmpI_beq, cmpI_zero, hc, isFar]
  · have hp : ps[at_]? = none := by rw [List.getElem?_eq_none]; omega
    simp -implicitDefEqProofs [h0, h1, h2, h8, h9, hc, hp, isFar]

theorem peers_Find (base : Int) (ps : List Peer) (id : Int) (hl : ps.length ≤ cap) (hr : Rowed base ps) :
    Den PP 193 [.int .i64 base, peersD ps, .int .i64 id] [] (.tup [.int .i64 (findAt base ps id), .bool (peerIs base ps id)]) [] := by
  refine den_of [] [] is_peers_Find ?_
  simp -implicitDefEqProofs [c_peers_Find, peersD]
  refine callThen_of (bsearch_Peer base ps id hl (findAt base ps id) (findAt_le _ _ _) findAt_lo (findAt_hi hr)) ?_
  simp -implicitDefEqProofs [peerIs]

theorem view_Peer (v : View) (id : Int) (hl : v.peers.length ≤ cap) (hr : Rowed v.id v.peers) : Den PP 121 [.mem v.cells, .int .i64 id] [] (.bool (peerIs v.id v.peers id)) [] := by
  refine den_of [] [] is_view_Peer ?_
  simp -implicitDefEqProofs [c_view_Peer, View.cells, peersD]
  refine callThen_of (peers_Find v.id v.peers id hl hr) ?_
  simp -implicitDefEqProofs

theorem view_May_1 (v : View) (id : Int) (hl : v.peers.length ≤ cap) (hr : Rowed v.id v.peers) : Den PP 182 [.int .i64 id, .mem v.cells] [] (.bool (oddIn v id)) [] := by
  refine den_of [] [] is_view_May_1 ?_
  simp -implicitDefEqProofs [c_view_May_1, View.cells, peersD]
  refine gOps_not (fun h => ?_) (fun h => ?_) <;> simp -implicitDefEqProofs [h, oddIn]
  refine callThen_of (view_Peer v id hl hr) ?_
  simp -implicitDefEqProofs

theorem view_May (v : View) (hs : v.small) : Den PP 109 [viewD v] [] (.bool (viewMay v)) [] := by
  refine den_of [] [] is_view_May ?_
  simp -implicitDefEqProofs [c_view_May, viewD, View.cells, peersD, intsD]
  refine callThen_of (peers_May v.id v.peers (cap_of hs.1)) ?_
  simp -implicitDefEqProofs
  refine gOps_split (fun h1 => ?_) (fun h1 => ?_)
  rotate_left
  · simp -implicitDefEqProofs [h1, viewMay]
  simp -implicitDefEqProofs [h1]
  refine callThen_of (passive_May v.passive hs.2) ?_
  simp -implicitDefEqProofs
  refine gOps_split (fun h2 => ?_) (fun h2 => ?_)
  rotate_left
  · simp -implicitDefEqProofs [h2, h1, viewMay]
  have hw : IntKind.wrap .i64 ((v.peers.length : Int) + v.passive.length) = v.peers.length + v.passive.length := by
    obtain ⟨a, b⟩ := hs
    unfold cap16 at a
    unfold cap at b
    exact wrap_in (by omega) (by omega)
  simp -implicitDefEqProofs [h2, hw]
  refine condC_dec (fun h3 => ?_) (fun h3 => ?_)
  · simp -implicitDefEqProofs [h3, viewMay]
    intros
    omega
  simp -implicitDefEqProofs [h3]
  refine callThen_of (slices_ContainsFunc_int v.passive hs.2 _ _ (oddIn v) ⟨fun bs => rfl, fun fr fp => rfl, fun x _ => view_May_1 v x (cap_of hs.1) (peersMay_rowed h1)⟩) ?_
  simp -implicitDefEqProofs [viewMay, h1, h2]
  intros
  omega
end Go.AM
/- AM: contracts: a view's ends. -/
namespace Go.AM
set_option linter.unusedSimpArgs false
set_option linter.unusedVariables false
set_option maxRecDepth 8000
set_option maxHeartbeats 0
end Go.AM
/- AM: what the library's functions over slices step through: slices of own blocks, rows written over others. -/
namespace Go.AM
set_option linter.unusedSimpArgs false
set_option linter.unusedVariables false

section
variable {c : Cfg} {K : St → Prop} {st : St} {dst : Option Nat} {p : Prop} [Decidable p]
theorem overK_if {d : D} {a b : Option St} (hp : p) (h : overK dst d a K) : overK dst d (if p then a else b) K := by rw [if_pos hp]; exact h
theorem appK2_else {a b : Option (D × St)} (hp : ¬ p) (h : appK2 dst b K) : appK2 dst (if p then a else b) K := by rw [if_neg hp]; exact h
theorem appK_if {e : Nat} {base : D} {a b : Option (List (List D))} (hp : p) (h : appK c dst e base a st K) : appK c dst e base (if p then a else b) st K := by rw [if_pos hp]; exact h
theorem outK_slice {T : Tab} {t b off len e : Nat} {lo hi : Option D} {k : Blk} (l h : Nat) (hT : (T t).d = .slice e) (hb : st.bs[b]? = some k) (hlo : boundD 0 lo = some (l : Int)) (hhi : boundD len hi = some (h : Int))
    (h1 : l ≤ h) (h2 : off + h ≤ k.rows.length) (h3 : k.esz = (T e).size) (hne : l = 0 ∨ off + l < k.rows.length) (hK : K (st.put dst (.ref b (off + l) (h - l)))) : outK st dst (sliceD T st.bs t (.ref b off len) lo hi none) K := by
  have : sliceD T st.bs t (.ref b off len) lo hi none = some { d := .ref b (off + l) (h - l) } := by
    unfold sliceD
    rw [hT]
    simp only [hlo, hhi, hb]
    rw [if_pos (by refine ⟨by omega, by omega, by omega, h3⟩)]
    by_cases hl : l = 0
    · subst hl
      simp
    · rw [if_neg (by omega), if_pos (by simp; omega)]
      have : ((h : Int) - l).toNat = h - l := by omega
      simp [this]
  rw [this]
  refine ⟨by simp, ?_⟩
  rw [out_quiet]
  exact hK
theorem outK_sliceE {T : Tab} {t b off len e : Nat} {lo hi : Option D} {k : Blk} (l : Nat) (hT : (T t).d = .slice e) (hb : st.bs[b]? = some k) (hlo : boundD 0 lo = some (l : Int)) (hhi : boundD len hi = some (l : Int))
    (h2 : off + l = k.rows.length) (h3 : k.esz = (T e).size) (hl : l ≠ 0) (hK : K (st.put dst (.sl [] 0))) : outK st dst (sliceD T st.bs t (.ref b off len) lo hi none) K := by
  have : sliceD T st.bs t (.ref b off len) lo hi none = some { d := .sl [] 0 } := by
    unfold sliceD
    rw [hT]
    simp only [hlo, hhi, hb]
    rw [if_pos (by refine ⟨by omega, by omega, by omega, h3⟩), if_neg (by omega), if_neg (by simp; omega)]
  rw [this]
  refine ⟨by simp, ?_⟩
  rw [out_quiet]
  exact hK
end

theorem outRows_of {esz j o l : Nat} {k' : Blk} {bs' : List Blk} {R : List (List D)} (hj : bs'[j]? = some k') (hm : k'.kind = .mut) (he : k'.esz = esz) (hl : o + l ≤ k'.rows.length) (hR : R = (k'.rows.drop o).take l) (h0 : j = 0 ∨ 0 < l) : outRows esz (.ref j o l) bs' R :=
  ⟨j, o, l, k', rfl, hj, hm, he, hl, hR, h0⟩

def D.still : D → Bool
  | .int _ _ => true
  | .bool _ => true
  | .nil => true
  | .zs _ => true
  | .sl _ _ => true
  | .mem _ => true
  | .undef => true
  | _ => false
def StillR (rows : List (List D)) : Prop := ∀ r ∈ rows, ∀ d ∈ r, d.still = true
theorem still_rids {d : D} (h : d.still = true) : d.rids = [] := by cases d <;> first | rfl | cases h
theorem still_mapR {d : D} (h : d.still = true) (fr fp : Nat → Nat → Nat → D) : d.mapR fr fp = d := by cases d <;> first | rfl | cases h
theorem still_ridsL : ∀ {r : List D}, (∀ d ∈ r, d.still = true) → ridsL r = [] := by
  intro r
  induction r with
  | nil => intro _; rfl
  | cons d ds ih =>
    intro h
    simp only [ridsL, still_rids (h d (by simp)), ih fun d hd => h d (by simp [hd])]
    rfl
theorem StillR.mapR {rows : List (List D)} (h : StillR rows) (fr fp : Nat → Nat → Nat → D) : rows.map (fun r => r.map (D.mapR fr fp)) = rows := by
  rw [List.map_congr_left (g := id), List.map_id]
  intro r hr
  rw [List.map_congr_left (g := id), List.map_id]
  · rfl
  · intro d hd
    exact still_mapR (h r hr d hd) fr fp
theorem gives_of {G : Con} {f esz : Nat} {rows : List (List D)} {rest : List D} {R : List (List D)} (hf : ∀ r ∈ rows, r.length = esz) (hst : StillR rows)
    (h : ∀ fl : List (List D), rows.length ≤ fl.length → (∀ r ∈ fl, r.length = esz) → StillR fl → fl.take rows.length = rows → (∀ i, i < rows.length → fl[i]? = rows[i]?) →
      ∃ r bs', G f (.ref 0 0 rows.length :: rest) [⟨fl, esz, .mut⟩] r bs' ∧ outRows esz r bs' R) : GivesC G f rows esz rest R := by
  intro cp hcp
  refine h _ (by simp) ?_ ?_ (by simp) ?_
  · intro r hr
    rcases List.mem_append.1 hr with h | h
    · exact hf r h
    · rw [(List.mem_replicate.1 h).2]; simp
  · intro r hr d hd
    rcases List.mem_append.1 hr with h | h
    · exact hst r h d hd
    · rw [(List.mem_replicate.1 h).2] at hd
      rw [(List.mem_replicate.1 hd).2]
      rfl
  · intro i hi
    rw [List.getElem?_append_left hi]
theorem StillR.append {a b : List (List D)} (h1 : StillR a) (h2 : StillR b) : StillR (a ++ b) := by
  intro r hr
  rcases List.mem_append.1 hr with h | h
  · exact h1 r h
  · exact h2 r h
theorem StillR.take {a : List (List D)} (h1 : StillR a) (n : Nat) : StillR (a.take n) := fun r hr => h1 r (List.mem_of_mem_take hr)
theorem StillR.drop {a : List (List D)} (h1 : StillR a) (n : Nat) : StillR (a.drop n) := fun r hr => h1 r (List.mem_of_mem_drop hr)
theorem StillR.ovr {a b : List (List D)} (h1 : StillR a) (h2 : StillR b) (p : Nat) : StillR (ovr a p b) := ((h1.take _).append h2).append (h1.drop _)
theorem StillR.set {a : List (List D)} {r : List D} (h1 : StillR a) (h2 : ∀ d ∈ r, d.still = true) (i : Nat) : StillR (a.set i r) := by
  intro x hx
  rcases List.mem_or_eq_of_mem_set hx with h | h
  · exact h1 x h
  · rw [h]; exact h2
theorem StillR.map {α : Type} (f : α → List D) (l : List α) (h : ∀ a ∈ l, ∀ d ∈ f a, d.still = true) : StillR (l.map f) := by
  intro r hr
  obtain ⟨a, ha, rfl⟩ := List.mem_map.1 hr
  exact h a ha
def insL {α : Type} (xs : List α) (i : Nat) (x : α) : List α := xs.take i ++ x :: xs.drop i
theorem insL_map {α β : Type} (f : α → β) (xs : List α) (i : Nat) (x : α) : (insL xs i x).map f = insL (xs.map f) i (f x) := by simp [insL, List.map_take, List.map_drop]
theorem insL_get {α : Type} {xs : List α} {i : Nat} {x : α} (hi : i ≤ xs.length) (j : Nat) : (insL xs i x)[j]? = if j < i then xs[j]? else if j = i then some x else xs[j - 1]? := by
  unfold insL
  have hl : (xs.take i).length = i := by simp; omega
  by_cases h1 : j < i
  · rw [if_pos h1, List.getElem?_append_left (by omega), List.getElem?_take_of_lt h1]
  · rw [if_neg h1, List.getElem?_append_right (by omega), hl]
    by_cases h2 : j = i
    · subst h2; simp
    · rw [if_neg h2]
      obtain ⟨m, hm⟩ : ∃ m, j - i = m + 1 := ⟨j - i - 1, by omega⟩
      rw [hm, List.getElem?_cons_succ, List.getElem?_drop]
      congr 1
      omega
@[simp] theorem insL_length {α : Type} (xs : List α) (i : Nat) (x : α) : (insL xs i x).length = xs.length + 1 := by simp [insL]; omega
@[simp] theorem fits_rep {esz m : Nat} {z : List D} : Fits esz (List.replicate m z) = (m = 0 ∨ (z.length = esz ∧ z.all D.isCell = true)) := by
  apply propext
  constructor
  · intro h
    by_cases hm : m = 0
    · exact .inl hm
    · exact .inr (h z (by simp [hm]))
  · rintro (rfl | h) r hr
    · simp at hr
    · rw [(List.mem_replicate.1 hr).2]; exact h
theorem StillR.sweep {rows : List (List D)} (h : StillR rows) (S : Nat → Bool) : rows.map (fun r => r.map (D.sweep S)) = rows := h.mapR _ _
theorem lent_still {bs : List Blk} (h : ∀ k ∈ bs, StillR k.rows) : lentRids bs = [] ∧ ∀ fr fp, bs.map (Blk.mapR fr fp) = bs := by
  constructor
  · unfold lentRids
    rw [List.flatMap_eq_nil_iff]
    intro k hk
    rw [List.flatMap_eq_nil_iff]
    intro r hr
    exact still_ridsL fun d hd => h k hk r hr d hd
  · intro fr fp
    rw [List.map_congr_left (g := id), List.map_id]
    intro k hk
    show { k with rows := _ } = k
    have := (h k hk).mapR fr fp
    rw [this]
theorem leave_lent {n0 b o l : Nat} {st : St} (hb : b < n0) (h : ∀ k ∈ st.bs.take n0, StillR k.rows) : leave n0 st (.ref b o l) = some (.ref b o l, st.bs.take n0) := by
  obtain ⟨h1, h2⟩ := lent_still h
  unfold leave
  simp only [D.rids, h1, List.append_nil]
  have : [b].filter (fun b => decide (n0 ≤ b)) = [] := by simp; omega
  rw [this]
  simp [expRef, hb, h2]
theorem leave_new {n0 b o l : Nat} {st : St} {k : Blk} (hb : n0 ≤ b) (hk : st.bs[b]? = some k) (hbox : k.kind.isBox = false) (h : ∀ k ∈ st.bs.take n0, StillR k.rows) : leave n0 st (.ref b o l) = some (.ref n0 o l, st.bs.take n0 ++ [k]) := by
  obtain ⟨h1, h2⟩ := lent_still h
  unfold leave
  simp only [D.rids, h1, List.append_nil]
  have : [b].filter (fun b => decide (n0 ≤ b)) = [b] := by simp; omega
  rw [this]
  have hnb : ¬ b < n0 := by omega
  have hnk : k.kind ≠ .box ∧ k.kind ≠ .ibox := by
    constructor <;> (intro h; rw [h] at hbox; cases hbox)
  simp [expRef, hnb, h2, hk]
  cases hkk : k.kind <;> simp [hkk] at hnk ⊢
section
variable {rows fl : List (List D)} {v : List D} {at_ n : Nat}
theorem ins_get (hn : rows.length = n) (hat : at_ ≤ n) (hfl : n ≤ fl.length) (htake : fl.take n = rows) (i : Nat) : (insL rows at_ v)[i]? = if i < at_ then fl[i]? else if i = at_ then some v else if i ≤ n then fl[i - 1]? else none := by
  rw [insL_get (by omega)]
  have hr : ∀ j, rows[j]? = if j < n then fl[j]? else none := by
    intro j
    rw [← htake, List.getElem?_take]
  rw [hr, hr]
  by_cases h1 : i < at_
  · rw [if_pos h1, if_pos h1, if_pos (by omega)]
  · rw [if_neg h1, if_neg h1]
    by_cases h2 : i = at_
    · rw [if_pos h2, if_pos h2]
    · rw [if_neg h2, if_neg h2]
      by_cases h3 : i ≤ n
      · rw [if_pos h3, if_pos (by omega)]
      · rw [if_neg h3, if_neg (by omega)]
theorem ins_rows1 (hn : rows.length = n) (hfl : n + 1 ≤ fl.length) (htake : fl.take n = rows) : insL rows n v = ((ovr fl n [v]).drop 0).take (n + 1) := by
  apply List.ext_getElem?
  intro i
  rw [ins_get hn (Nat.le_refl _) (by omega) htake, List.drop_zero, List.getElem?_take, ovr_get (by simpa using hfl)]
  simp only [List.length_singleton]
  by_cases h1 : i < n
  · rw [if_pos h1, if_pos (by omega), if_pos h1]
  · rw [if_neg h1]
    by_cases h2 : i = n
    · subst h2; simp
    · rw [if_neg h2, if_neg (by omega), if_neg (by omega)]
theorem ins_rows2 (hn : rows.length = n) (htake : fl.take n = rows) : insL rows n v = ((fl.take n ++ [v]).drop 0).take (n + 1) := by
  rw [htake, List.drop_zero, List.take_of_length_le (by simp; omega)]
  simp [insL, ← hn]
theorem ins_rowsC (hn : rows.length = n) (hat : at_ < n) (hfl : n + 1 ≤ fl.length) (htake : fl.take n = rows) :
    insL rows at_ v = ((ovr (ovr fl (at_ + 1) ((fl.drop at_).take (n - at_))) at_ [v]).drop 0).take (n + 1) := by
  have hl : ((fl.drop at_).take (n - at_)).length = n - at_ := by simp; omega
  have hl2 := ovr_length (rows := fl) (p := at_ + 1) (ys := (fl.drop at_).take (n - at_)) (by omega)
  apply List.ext_getElem?
  intro i
  rw [ins_get hn (by omega) (by omega) htake, List.drop_zero, List.getElem?_take, ovr_get (by simp; omega), ovr_get (by omega)]
  simp only [List.length_singleton, hl]
  by_cases h1 : i < at_
  · rw [if_pos h1, if_pos (by omega), if_pos h1, if_pos (by omega)]
  · rw [if_neg h1]
    by_cases h2 : i = at_
    · subst h2; simp; omega
    · rw [if_neg h2]
      by_cases h3 : i ≤ n
      · rw [if_pos h3, if_pos (by omega), if_neg h1, if_neg (by omega), if_neg (by omega), if_pos (by omega), List.getElem?_take_of_lt (by omega), List.getElem?_drop]
        congr 1
        omega
      · rw [if_neg h3, if_neg (by omega)]
theorem ins_rowsB {z : List D} (hn : rows.length = n) (hat : at_ < n) (hfl : fl.length = n) (htake : fl.take n = rows) :
    insL rows at_ v = ((ovr (ovr (fl.take at_ ++ List.replicate (n + 1 - at_) z) at_ [v]) (at_ + 1) ((fl.drop at_).take (n - at_))).drop 0).take (n + 1) := by
  have hl : ((fl.drop at_).take (n - at_)).length = n - at_ := by simp; omega
  have hl0 : (fl.take at_ ++ List.replicate (n + 1 - at_) z).length = n + 1 := by simp; omega
  have hl2 := ovr_length (rows := fl.take at_ ++ List.replicate (n + 1 - at_) z) (p := at_) (ys := [v]) (by rw [hl0]; simp; omega)
  apply List.ext_getElem?
  intro i
  rw [ins_get hn (by omega) (by omega) htake, List.drop_zero, List.getElem?_take, ovr_get (by rw [hl2, hl0]; omega), ovr_get (by rw [hl0]; simp; omega)]
  simp only [List.length_singleton, hl]
  by_cases h1 : i < at_
  · rw [if_pos h1, if_pos (by omega), if_pos (by omega), if_pos h1, List.getElem?_append_left (by simp; omega), List.getElem?_take_of_lt h1]
  · rw [if_neg h1]
    by_cases h2 : i = at_
    · subst h2; simp; omega
    · rw [if_neg h2]
      by_cases h3 : i ≤ n
      · rw [if_pos h3, if_pos (by omega), if_neg (by omega), if_pos (by omega), List.getElem?_take_of_lt (by omega), List.getElem?_drop]
        congr 1
        omega
      · rw [if_neg h3, if_neg (by omega)]
end
def D.cut : D → D
  | .sl rows len => .sl (rows.take len) len
  | d => d
theorem RepI.cutLen {w : World} {M : Foot} {v : Value} {rows : List (List D)} {len : Nat} (h : RepI w M v (.sl rows len)) : RepI w M v (.sl (rows.take len) len) := by
  cases h with
  | sl a _ cap _ esz g off vals h1 h2 hr ha hc hv =>
    refine .sl a len cap _ esz g off vals (by simp; omega) (by simp; omega) (fun r hx => hr r (List.mem_of_mem_take hx)) (fun hne => ha (by rintro rfl; exact hne (by simp))) (fun i j hi hj => hc i j (by simp at hi; omega) hj) ?_
    intro i j r d hi hj
    rw [List.getElem?_take] at hi
    split at hi
    · exact hv i j r d hi hj
    · cases hi
theorem Rep.cut {w : World} {M : Foot} {ρ : Nat → Loc} {v : Value} {d : D} (h : Rep w M ρ v d) : Rep w M ρ v d.cut := by
  cases d <;> try exact h
  exact .imm _ _ h.sl_inv.cutLen
theorem den_cut {P : Program} {f : Nat} {args : List D} {bs : List Blk} {r : D} {bs' : List Blk} (h : Den P f (args.map D.cut) bs r bs') : Den P f args bs r bs' := by
  refine ⟨h.1, fun w M0 ρ vals hM hS hs ha => h.2 w M0 ρ vals hM hS (by simpa using hs) ?_⟩
  intro i v d hv hd
  rw [List.getElem?_map] at hd
  cases hc : args[i]? with
  | none => simp [hc] at hd
  | some d0 => simp [hc] at hd; subst hd; exact (ha i v d0 hv hc).cut
attribute [simp] D.cut
@[simp] theorem take_map_app {α β : Type} (f : α → β) (l : List α) (r : List β) : (l.map f ++ r).take l.length = l.map f := List.take_left' (by simp)
@[simp] theorem wrap_zero : IntKind.wrap .i64 0 = 0 := wrap_in (by omega) (by omega)
end Go.AM
