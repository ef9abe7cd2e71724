/- What the proof of this claim stands on, part 14. -/
import Derived.Test.YtehagcggdepajaaGreatAmZ13
/- AM: plain: sorting by insertion, by distance. -/
namespace Go.AM
set_option linter.unusedSimpArgs false
set_option linter.unusedVariables false
structure Outer (b : Int) (xs : List Int) (i : Nat) (cur : List Int) : Prop where
 len : cur.length = xs.length
 mem : ∀ x, x ∈ cur ↔ x ∈ xs
 dis : ∀ (p q : Nat) (x y : Int), cur[p]? = some x → cur[q]? = some y → p ≠ q → far b x ≠ far b y
 ord : ∀ (p q : Nat) (x y : Int), p < q → q < i → cur[p]? = some x → cur[q]? = some y → far b x < far b y
structure Inner (b : Int) (xs : List Int) (i j : Nat) (cur : List Int) : Prop where
 len : cur.length = xs.length
 mem : ∀ x, x ∈ cur ↔ x ∈ xs
 dis : ∀ (p q : Nat) (x y : Int), cur[p]? = some x → cur[q]? = some y → p ≠ q → far b x ≠ far b y
 ord : ∀ (p q : Nat) (x y : Int), p < q → q ≤ i → p ≠ j → q ≠ j → cur[p]? = some x → cur[q]? = some y → far b x < far b y
 low : ∀ (q : Nat) (x y : Int), j < q → q ≤ i → cur[j]? = some x → cur[q]? = some y → far b x < far b y
theorem zyz {b : Int} {xs cur : List Int} {i : Nat} (h : Outer b xs i cur) : Inner b xs i i cur :=
 ⟨h.len, h.mem, h.dis, fun p q x y h1 h2 h3 h4 hx hy => h.ord p q x y h1 (by omega) hx hy, fun q x y h1 h2 _ _ => by omega⟩
theorem zt6 {b : Int} {xs cur : List Int} {i j : Nat} (h : Inner b xs i j cur) (hj : j ≤ i) (hs : ∀ x y, 0 < j → cur[j]? = some x → cur[j - 1]? = some y → far b y ≤ far b x) : Outer b xs (i + 1) cur := by
 refine ⟨h.len, h.mem, h.dis, fun p q x y h1 h2 hx hy => ?_⟩
 by_cases hp : p = j
 ·subst hp; exact h.low q x y h1 (by omega) hx hy
 by_cases hq : q = j
 ·subst hq
  by_cases hpq : p = q - 1
  ·subst hpq
   have := hs y x (by omega) hy hx
   have := h.dis (q - 1) q x y hx hy (by omega)
   omega
  ·have hlt := (List.getElem?_eq_some_iff.1 hy).1
   obtain ⟨z, hz⟩ : ∃ z, cur[q - 1]? = some z := ⟨_, List.getElem?_eq_getElem (by omega)⟩
   have := h.ord p (q - 1) x z (by omega) (by omega) hp (by omega) hx hz
   have := hs y z (by omega) hy hz
   omega
 ·exact h.ord p q x y h1 (by omega) hp hq hx hy
theorem z7u {cur : List Int} {k : Nat} {x y : Int} (hx : cur[k + 1]? = some x) (hy : cur[k]? = some y) (p : Nat) : ((cur.set (k + 1) y).set k x)[p]? = if p = k then some x else if p = k + 1 then some y else cur[p]? := by
 have h1 := (List.getElem?_eq_some_iff.1 hx).1
 by_cases hp : p = k
 ·subst hp; rw [if_pos rfl, List.getElem?_set_self (by simp; omega)]
 ·rw [if_neg hp, List.getElem?_set_ne (fun e => hp e.symm)]
  by_cases hq : p = k + 1
  ·subst hq; rw [if_pos rfl, List.getElem?_set_self (by omega)]
  ·rw [if_neg hq, List.getElem?_set_ne (fun e => hq e.symm)]
theorem z1w {b : Int} {xs cur : List Int} {i k : Nat} {x y : Int} (h : Inner b xs i (k + 1) cur) (hk : k + 1 ≤ i) (hx : cur[k + 1]? = some x) (hy : cur[k]? = some y) (hs : far b x < far b y) : Inner b xs i k ((cur.set (k + 1) y).set k x) := by
 have hg := z7u hx hy
 have hmem : ∀ z, z ∈ (cur.set (k + 1) y).set k x ↔ z ∈ cur := by
  intro z
  rw [List.mem_iff_getElem?, List.mem_iff_getElem?]
  constructor
  ·rintro ⟨p, hp⟩
   rw [hg p] at hp
   split at hp
   ·exact ⟨k + 1, by rw [hx, hp]⟩
   ·split at hp
    ·exact ⟨k, by rw [hy, hp]⟩
    ·exact ⟨p, hp⟩
  ·rintro ⟨p, hp⟩
   by_cases h1 : p = k
   ·subst h1; exact ⟨p + 1, by rw [hg]; simp; rw [hy] at hp; exact Option.some.inj hp⟩
   ·by_cases h2 : p = k + 1
    ·subst h2; exact ⟨k, by rw [hg]; simp; rw [hx] at hp; exact Option.some.inj hp⟩
    ·exact ⟨p, by rw [hg]; simp [h1, h2, hp]⟩
 have hdis : ∀ (p q : Nat) (u v : Int), ((cur.set (k + 1) y).set k x)[p]? = some u → ((cur.set (k + 1) y).set k x)[q]? = some v → p ≠ q → far b u ≠ far b v := by
  intro p q u v hu hv hne
  have key : ∀ p u, ((cur.set (k + 1) y).set k x)[p]? = some u → cur[if p = k then k + 1 else if p = k + 1 then k else p]? = some u := by
   intro p u hu
   rw [hg p] at hu
   by_cases h1 : p = k
   ·rw [if_pos h1] at hu ⊢; rw [hx, hu]
   ·rw [if_neg h1] at hu ⊢
    by_cases h2 : p = k + 1
    ·rw [if_pos h2] at hu ⊢; rw [hy, hu]
    ·rw [if_neg h2] at hu ⊢; exact hu
  refine h.dis _ _ u v (key p u hu) (key q v hv) ?_
  split <;> split <;> (try split) <;> (try split) <;> omega
 refine ⟨by simp [h.len], fun z => (hmem z).trans (h.mem z), hdis, fun p q u v h1 h2 h3 h4 hu hv => ?_, fun q u v h1 h2 hu hv => ?_⟩
 ·rw [hg] at hu hv
  rw [if_neg h3] at hu
  rw [if_neg h4] at hv
  by_cases h5 : p = k + 1
  ·rw [if_pos h5] at hu
   rw [if_neg (by omega)] at hv
   cases hu
   exact h.ord k q _ v (by omega) h2 (by omega) (by omega) hy hv
  ·rw [if_neg h5] at hu
   by_cases h6 : q = k + 1
   ·rw [if_pos h6] at hv
    cases hv
    exact h.ord p k u _ (by omega) (by omega) h5 (by omega) hu hy
   ·rw [if_neg h6] at hv
    exact h.ord p q u v h1 h2 h5 h6 hu hv
 ·rw [hg, if_pos rfl] at hu
  rw [hg, if_neg (by omega)] at hv
  cases hu
  by_cases h6 : q = k + 1
  ·rw [if_pos h6] at hv
   cases hv
   exact hs
  ·rw [if_neg h6] at hv
   exact h.low q _ v (by omega) h2 hx hv
theorem qab {b : Int} : ∀ {ps qs : List Int}, ps.Pairwise (fun p q => far b p < far b q) → qs.Pairwise (fun p q => far b p < far b q) → (∀ a, a ∈ ps ↔ a ∈ qs) → ps = qs := by
 intro ps
 induction ps with
 | nil =>
   intro qs _ _ h
   cases qs with
   | nil => rfl
   | cons q qs => exact absurd ((h q).2 (by simp)) (by simp)
 | cons p ps ih =>
   intro qs h1 h2 h
   cases qs with
   | nil => exact absurd ((h p).1 (by simp)) (by simp)
   | cons q qs =>
     obtain ⟨a1, a2⟩ := List.pairwise_cons.1 h1
     obtain ⟨b1, b2⟩ := List.pairwise_cons.1 h2
     have hpq : p = q := by
      rcases List.mem_cons.1 ((h p).1 (by simp)) with e | e
      ·exact e
      ·rcases List.mem_cons.1 ((h q).2 (by simp)) with e' | e'
       ·exact e'.symm
       ·have := b1 p e; have := a1 q e'; omega
     subst hpq
     congr 1
     refine ih a2 b2 fun r => ?_
     have hr := h r
     simp only [List.mem_cons] at hr
     constructor
     ·intro hm
      rcases hr.1 (.inr hm) with e | e
      ·subst e; have := a1 r hm; omega
      ·exact e
     ·intro hm
      rcases hr.2 (.inr hm) with e | e
      ·subst e; have := b1 r hm; omega
      ·exact e
theorem z2r {b : Int} {xs cur ts : List Int} {i : Nat} (h : Outer b xs i cur) (hi : xs.length ≤ i) (ht : ts.Pairwise (fun p q => far b p < far b q)) (hm : ∀ x, x ∈ ts ↔ x ∈ xs) : cur = ts := by
 refine qab ?_ ht fun a => (h.mem a).trans (hm a).symm
 rw [List.pairwise_iff_getElem]
 intro p q hp hq hlt
 exact h.ord p q _ _ hlt (by have := h.len; omega) (List.getElem?_eq_getElem hp) (List.getElem?_eq_getElem hq)
theorem zxm {b : Int} {xs : List Int} (h : xs.Pairwise (fun p q => far b p ≠ far b q)) : Outer b xs 1 xs := by
 refine ⟨rfl, fun _ => Iff.rfl, fun p q x y hx hy hne => ?_, fun p q x y h1 h2 _ _ => by omega⟩
 obtain ⟨hp, rfl⟩ := List.getElem?_eq_some_iff.1 hx
 obtain ⟨hq, rfl⟩ := List.getElem?_eq_some_iff.1 hy
 rw [List.pairwise_iff_getElem] at h
 rcases Nat.lt_or_gt_of_ne hne with hl | hl
 ·exact h p q hp hq hl
 ·exact fun e => h q p hq hp hl e.symm
end Go.AM
/- AM: contracts: sorting few numbers. -/
namespace Go.AM
set_option linter.unusedSimpArgs false
set_option linter.unusedVariables false
set_option maxRecDepth 8000
set_option maxHeartbeats 0
theorem got {α : Type} {us : List α} {i : Nat} {a : α} (h : us[i]? = some a) : ∀ hl : i < us.length, us[i] = a := fun hl => by
 rw [List.getElem?_eq_getElem hl] at h
 exact Option.some.inj h
theorem zqu (base : Int) (xs ts : List Int) (hn : 1 ≤ xs.length) (hl : xs.length ≤ 12) (hd : xs.Pairwise (fun p q => far base p ≠ far base q)) (ht : ts.Pairwise (fun p q => far base p < far base q)) (hm : ∀ x, x ∈ ts ↔ x ∈ xs) :
 Den PP 244 [.ref 0 0 xs.length, .int .i64 0, .int .i64 xs.length, .fn 203 [] [.mem [.int .i64 base]]] [⟨xs.map irow, 1, .mut⟩] (.tup []) [⟨ts.map irow, 1, .mut⟩] := by
 refine zaj [] [] zel ?_
 simp -implicitDefEqProofs [zcs]
 refine zde (xs.length - 1) (fun m ⟨fr, bs⟩ => ∃ (i : Nat) (cur : List Int), i + m = xs.length ∧ 1 ≤ i ∧ Outer base xs i cur ∧ bs = [⟨cur.map irow, 1, .mut⟩] ∧ fr 0 = .ref 0 0 xs.length ∧ fr 1 = .int .i64 0 ∧ fr 2 = .int .i64 xs.length ∧ fr 3 = .fn 203 [] [.mem [.int .i64 base]] ∧ fr 8 = .int .i64 i)
  (fun ⟨fr, bs⟩ => bs = [⟨ts.map irow, 1, .mut⟩]) (fun _ => False) zce.eq_1 ?_ ?_ ?_ ?_ ?_
 ·exact ⟨1, xs, by omega, by omega, zxm hd, rfl, rfl, rfl, rfl, rfl, rfl⟩
 ·rintro ⟨fr, bs⟩ ⟨i, cur, hi, h1i, ho, rfl, g0, g1, g2, g3, g8⟩
  obtain rfl : i = xs.length := by omega
  have := z2r ho (Nat.le_refl _) ht hm
  subst this
  simp -implicitDefEqProofs [g0, g1, g2, g3, g8]
 ·rintro m ⟨fr, bs⟩ ⟨i, cur, hi, h1i, ho, rfl, g0, g1, g2, g3, g8⟩
  have hlt : (i : Int) < xs.length := by omega
  have hwi : IntKind.wrap .i64 ((i : Int) + 1) = (i : Int) + 1 := zaq (by omega) (by omega)
  simp -implicitDefEqProofs [g0, g1, g2, g3, g8, hlt]
  refine zde i (fun j ⟨fr, bs⟩ => ∃ cur : List Int, j ≤ i ∧ Inner base xs i j cur ∧ bs = [⟨cur.map irow, 1, .mut⟩] ∧ fr 0 = .ref 0 0 xs.length ∧ fr 1 = .int .i64 0 ∧ fr 2 = .int .i64 xs.length ∧ fr 3 = .fn 203 [] [.mem [.int .i64 base]] ∧ fr 8 = .int .i64 i ∧ fr 9 = .int .i64 j)
   (fun ⟨fr, bs⟩ => ∃ cur : List Int, Outer base xs (i + 1) cur ∧ bs = [⟨cur.map irow, 1, .mut⟩] ∧ fr 0 = .ref 0 0 xs.length ∧ fr 1 = .int .i64 0 ∧ fr 2 = .int .i64 xs.length ∧ fr 3 = .fn 203 [] [.mem [.int .i64 base]] ∧ fr 8 = .int .i64 i) (fun _ => False) zcd.eq_1 ?_ ?_ ?_ ?_ ?_
  ·exact ⟨cur, Nat.le_refl _, zyz ho, by simp, by simp [g0], by simp [g1], by simp [g2], by simp [g3], by simp [g8], by simp⟩
  ·rintro ⟨fr, bs⟩ ⟨cur, hj, hI, rfl, g0, g1, g2, g3, g8, g9⟩
   simp -implicitDefEqProofs [g0, g1, g2, g3, g8, g9]
   exact ⟨cur, zt6 hI hj (fun x y h => by omega), rfl⟩
  ·rintro j ⟨fr, bs⟩ ⟨cur, hj, hI, rfl, g0, g1, g2, g3, g8, g9⟩
   have hlen := hI.len
   have b1 : j + 1 < cur.length := by omega
   have b2 : j < cur.length := by omega
   have b3 : (j : Int) + 1 < xs.length := by omega
   have b4 : (j : Int) < xs.length := by omega
   have b5 : (0 : Int) < (j : Int) + 1 := by omega
   have b6 : (0 : Int) ≤ (j : Int) + 1 := by omega
   have b7 : j + 1 < xs.length := by omega
   have b8 : j < xs.length := by omega
   obtain ⟨x, hx⟩ : ∃ x, cur[j + 1]? = some x := ⟨_, List.getElem?_eq_getElem b1⟩
   obtain ⟨y, hy⟩ : ∃ y, cur[j]? = some y := ⟨_, List.getElem?_eq_getElem b2⟩
   have gx := got hx
   have gy := got hy
   have k1 := z0g base x y
   have hwj : IntKind.wrap .i64 (j : Int) = (j : Int) := zaq (by omega) (by omega)
   simp -implicitDefEqProofs [g0, g1, g2, g3, g8, g9, b1, b2, b3, b4, b5, b6, b7, b8, hlen, hx, hy, gx, gy, hwj, irow]
   have hms : ∀ (pt : List Int) (k : Nat) (z : Int), (pt.map irow).set k [.int .i64 z] = (pt.set k z).map irow := fun pt k z => by rw [List.map_set]; rfl
   by_cases hs : far base x < far base y
   ·have hz : cmpI (far base x) (far base y) < 0 := (zj3 _ _).2 hs
    have hsw := z1w hI hj hx hy hs
    generalize cmpI (far base x) (far base y) = z at *
    refine zaa k1 ?_
    simp -implicitDefEqProofs [g0, g1, g2, g3, g8, g9, hz]
    refine ⟨?_, ?_⟩
    ·simp -implicitDefEqProofs [g0, g1, g2, g3, g8, g9, b1, b2, b3, b4, b5, b6, b7, b8, hlen, hx, hy, gx, gy, hwj, irow, hms, -List.map_set]
     exact ⟨by omega, _, hsw, rfl⟩
    ·simp -implicitDefEqProofs [g0, g1, g2, g3, g8, g9, b1, b2, b3, b4, b5, b6, b7, b8, hlen, hx, hy, gx, gy, hwj, irow, hms, -List.map_set]
     exact ⟨by omega, _, hsw, rfl⟩
   ·have hz : ¬ cmpI (far base x) (far base y) < 0 := fun h => hs ((zj3 _ _).1 h)
    have hen := zt6 hI hj (fun x' y' _ hx' hy' => by
     rw [hx] at hx'
     rw [show j + 1 - 1 = j from rfl, hy] at hy'
     cases hx'
     cases hy'
     omega)
    generalize cmpI (far base x) (far base y) = z at *
    refine zaa k1 ?_
    simp -implicitDefEqProofs [g0, g1, g2, g3, g8, g9, hz]
    exact ⟨cur, hen, rfl⟩
  ·rintro ⟨fr, bs⟩ ⟨cur, ho, rfl, g0, g1, g2, g3, g8⟩
   simp -implicitDefEqProofs [g0, g1, g2, g3, g8, hwi]
   refine ⟨i + 1, by omega, by omega, cur, ho, rfl, by simp⟩
  ·rintro ⟨fr, bs⟩ h
   exact h.elim
 ·rintro ⟨fr, bs⟩ rfl
  simp -implicitDefEqProofs
 ·rintro ⟨fr, bs⟩ h
  exact h.elim
end Go.AM
/- AM: contracts: how many bits small numbers take. -/
namespace Go.AM
set_option linter.unusedSimpArgs false
set_option linter.unusedVariables false
open Go.RowKit Go.Shelf Go.Proofs
attribute [local go_sem] Oper.semAt_some
def LenOk (n : Int) : Prop := ∃ r : Int, Den PP 235 [.int .u64 n] [] (.int .i64 r) []
theorem zp1 {n r : Int} (h : ∀ w : World, Calls PP 235 #[.int .u64 n] w fun e w' => e = .returned (.int .i64 r) ∧ w' = w) : LenOk n := by
 refine ⟨r, ⟨_, Tryz.func235, by kernel_rfl, rfl⟩, fun w M0 ρ vals hM hS hs ha => ?_⟩
 obtain ⟨v0, rfl⟩ := ztn hs
 obtain rfl := (ha 0 v0 _ (by simp) rfl).int_inv
 refine (h w).mono ?_
 rintro e w' ⟨rfl, rfl⟩
 exact ⟨_, ρ, rfl, .imm _ _ (.int _ _), hS, Nat.le_refl _, fun _ _ => rfl, Pres.refl _ _, ⟨Nat.le_refl _, rfl, rfl, rfl, fun _ _ _ => rfl, fun i g base n rl esz hi hat => by rw [hS.out i hi] at hat; cases hat⟩⟩
set_option maxRecDepth 100000 in
set_option maxHeartbeats 2000000 in
theorem z95 (w : World) : Calls PP 253 #[.int .u64 1] w fun e w' => e = .returned (.int .i64 1) ∧ w' = w := by
 go_enter Tryz.func253, Tryz.ntmps253
 go_wp2
 all_goals go_ret
 all_goals refine ⟨congrArg Ending.returned (congrArg (Value.int IntKind.i64) ?_), rfl⟩
 all_goals first | decide | kernel_rfl | rfl
set_option maxRecDepth 100000 in
set_option maxHeartbeats 2000000 in
theorem len_1 (w : World) : Calls PP 235 #[.int .u64 1] w fun e w' => e = .returned (.int .i64 1) ∧ w' = w := by
 go_enter Tryz.func235, Tryz.ntmps235
 go_wp2_with (go_at_call 253; refine (z95 _).mono ?_; rintro e w' ⟨rfl, rfl⟩)
 all_goals go_ret
 all_goals exact ⟨rfl, rfl⟩
set_option maxRecDepth 100000 in
set_option maxHeartbeats 2000000 in
theorem qag (w : World) : Calls PP 253 #[.int .u64 3] w fun e w' => e = .returned (.int .i64 2) ∧ w' = w := by
 go_enter Tryz.func253, Tryz.ntmps253
 go_wp2
 all_goals go_ret
 all_goals refine ⟨congrArg Ending.returned (congrArg (Value.int IntKind.i64) ?_), rfl⟩
 all_goals first | decide | kernel_rfl | rfl
set_option maxRecDepth 100000 in
set_option maxHeartbeats 2000000 in
theorem len_3 (w : World) : Calls PP 235 #[.int .u64 3] w fun e w' => e = .returned (.int .i64 2) ∧ w' = w := by
 go_enter Tryz.func235, Tryz.ntmps235
 go_wp2_with (go_at_call 253; refine (qag _).mono ?_; rintro e w' ⟨rfl, rfl⟩)
 all_goals go_ret
 all_goals exact ⟨rfl, rfl⟩
set_option maxRecDepth 100000 in
set_option maxHeartbeats 2000000 in
theorem qac (w : World) : Calls PP 253 #[.int .u64 4] w fun e w' => e = .returned (.int .i64 3) ∧ w' = w := by
 go_enter Tryz.func253, Tryz.ntmps253
 go_wp2
 all_goals go_ret
 all_goals refine ⟨congrArg Ending.returned (congrArg (Value.int IntKind.i64) ?_), rfl⟩
 all_goals first | decide | kernel_rfl | rfl
set_option maxRecDepth 100000 in
set_option maxHeartbeats 2000000 in
theorem len_4 (w : World) : Calls PP 235 #[.int .u64 4] w fun e w' => e = .returned (.int .i64 3) ∧ w' = w := by
 go_enter Tryz.func235, Tryz.ntmps235
 go_wp2_with (go_at_call 253; refine (qac _).mono ?_; rintro e w' ⟨rfl, rfl⟩)
 all_goals go_ret
 all_goals exact ⟨rfl, rfl⟩
set_option maxRecDepth 100000 in
set_option maxHeartbeats 2000000 in
theorem z83 (w : World) : Calls PP 253 #[.int .u64 5] w fun e w' => e = .returned (.int .i64 3) ∧ w' = w := by
 go_enter Tryz.func253, Tryz.ntmps253
 go_wp2
 all_goals go_ret
 all_goals refine ⟨congrArg Ending.returned (congrArg (Value.int IntKind.i64) ?_), rfl⟩
 all_goals first | decide | kernel_rfl | rfl
set_option maxRecDepth 100000 in
set_option maxHeartbeats 2000000 in
theorem len_5 (w : World) : Calls PP 235 #[.int .u64 5] w fun e w' => e = .returned (.int .i64 3) ∧ w' = w := by
 go_enter Tryz.func235, Tryz.ntmps235
 go_wp2_with (go_at_call 253; refine (z83 _).mono ?_; rintro e w' ⟨rfl, rfl⟩)
 all_goals go_ret
 all_goals exact ⟨rfl, rfl⟩
set_option maxRecDepth 100000 in
set_option maxHeartbeats 2000000 in
theorem z9m (w : World) : Calls PP 253 #[.int .u64 6] w fun e w' => e = .returned (.int .i64 3) ∧ w' = w := by
 go_enter Tryz.func253, Tryz.ntmps253
 go_wp2
 all_goals go_ret
 all_goals refine ⟨congrArg Ending.returned (congrArg (Value.int IntKind.i64) ?_), rfl⟩
 all_goals first | decide | kernel_rfl | rfl
set_option maxRecDepth 100000 in
set_option maxHeartbeats 2000000 in
theorem len_6 (w : World) : Calls PP 235 #[.int .u64 6] w fun e w' => e = .returned (.int .i64 3) ∧ w' = w := by
 go_enter Tryz.func235, Tryz.ntmps235
 go_wp2_with (go_at_call 253; refine (z9m _).mono ?_; rintro e w' ⟨rfl, rfl⟩)
 all_goals go_ret
 all_goals exact ⟨rfl, rfl⟩
set_option maxRecDepth 100000 in
set_option maxHeartbeats 2000000 in
theorem z87 (w : World) : Calls PP 253 #[.int .u64 7] w fun e w' => e = .returned (.int .i64 3) ∧ w' = w := by
 go_enter Tryz.func253, Tryz.ntmps253
 go_wp2
 all_goals go_ret
 all_goals refine ⟨congrArg Ending.returned (congrArg (Value.int IntKind.i64) ?_), rfl⟩
 all_goals first | decide | kernel_rfl | rfl
set_option maxRecDepth 100000 in
set_option maxHeartbeats 2000000 in
theorem len_7 (w : World) : Calls PP 235 #[.int .u64 7] w fun e w' => e = .returned (.int .i64 3) ∧ w' = w := by
 go_enter Tryz.func235, Tryz.ntmps235
 go_wp2_with (go_at_call 253; refine (z87 _).mono ?_; rintro e w' ⟨rfl, rfl⟩)
 all_goals go_ret
 all_goals exact ⟨rfl, rfl⟩
set_option maxRecDepth 100000 in
set_option maxHeartbeats 2000000 in
theorem z9o (w : World) : Calls PP 253 #[.int .u64 8] w fun e w' => e = .returned (.int .i64 4) ∧ w' = w := by
 go_enter Tryz.func253, Tryz.ntmps253
 go_wp2
 all_goals go_ret
 all_goals refine ⟨congrArg Ending.returned (congrArg (Value.int IntKind.i64) ?_), rfl⟩
 all_goals first | decide | kernel_rfl | rfl
set_option maxRecDepth 100000 in
set_option maxHeartbeats 2000000 in
theorem len_8 (w : World) : Calls PP 235 #[.int .u64 8] w fun e w' => e = .returned (.int .i64 4) ∧ w' = w := by
 go_enter Tryz.func235, Tryz.ntmps235
 go_wp2_with (go_at_call 253; refine (z9o _).mono ?_; rintro e w' ⟨rfl, rfl⟩)
 all_goals go_ret
 all_goals exact ⟨rfl, rfl⟩
theorem qbx (n : Nat) (h1 : 1 ≤ n) (h8 : n ≤ 8) : LenOk n := by
 have : n = 1 ∨ n = 2 ∨ n = 3 ∨ n = 4 ∨ n = 5 ∨ n = 6 ∨ n = 7 ∨ n = 8 := by omega
 rcases this with rfl | rfl | rfl | rfl | rfl | rfl | rfl | rfl
 ·exact zp1 len_1
 ·exact ⟨_, z4z⟩
 ·exact zp1 len_3
 ·exact zp1 len_4
 ·exact zp1 len_5
 ·exact zp1 len_6
 ·exact zp1 len_7
 ·exact zp1 len_8
end Go.AM
/- AM: contracts: places by distance. -/
namespace Go.AM
set_option linter.unusedSimpArgs false
set_option linter.unusedVariables false
set_option maxRecDepth 8000
set_option maxHeartbeats 0
structure SortOk (base : Int) (xs ts : List Int) : Prop where
 some : 1 ≤ xs.length
 few : xs.length ≤ 8
 apart : xs.Pairwise (fun p q => far base p ≠ far base q)
 row : ts.Pairwise (fun p q => far base p < far base q)
 same : ∀ x, x ∈ ts ↔ x ∈ xs
theorem z9j : IsL 234 [26] zdp := isL (by kernel_rfl)
theorem pdqsort (base r : Int) (xs ts : List Int) (h : SortOk base xs ts) :
 Den PP 234 [.ref 0 0 xs.length, .int .i64 0, .int .i64 xs.length, .int .i64 r, .fn 203 [] [.mem [.int .i64 base]]] [⟨xs.map irow, 1, .mut⟩] (.tup []) [⟨ts.map irow, 1, .mut⟩] := by
 have hf := h.few
 have c1 := zqu base xs ts h.some (by omega) h.apart h.row h.same
 have e1 : (xs.length : Int) ≤ 12 := by omega
 have e2 : IntKind.wrap .i64 (xs.length : Int) = xs.length := zaq (by omega) (by omega)
 refine zaj [] [26] z9j ?_
 simp -implicitDefEqProofs [zdp]
 refine zb6 1 (zaz zc3.eq_1 ?_)
 simp -implicitDefEqProofs [e1, e2]
 refine zar [0] rfl (by decide) (by simp) c1 (by simp) (by simp [lentBs]) ?_
 simp -implicitDefEqProofs [framed]
theorem zwr : IsL 201 [7] zd2 := isL (by kernel_rfl)
theorem sortFunc (base : Int) (xs ts : List Int) (h : SortOk base xs ts) :
 Den PP 201 [.ref 0 0 xs.length, .fn 203 [] [.mem [.int .i64 base]]] [⟨xs.map irow, 1, .mut⟩] (.tup []) [⟨ts.map irow, 1, .mut⟩] := by
 have hf := h.few
 obtain ⟨r, k1⟩ := qbx xs.length h.some hf
 have c1 := pdqsort base r xs ts h
 have e2 : IntKind.wrap .u64 (xs.length : Int) = xs.length := by
  have h1 := h.some
  have : xs.length = 1 ∨ xs.length = 2 ∨ xs.length = 3 ∨ xs.length = 4 ∨ xs.length = 5 ∨ xs.length = 6 ∨ xs.length = 7 ∨ xs.length = 8 := by omega
  rcases this with e | e | e | e | e | e | e | e <;> rw [e] <;> rfl
 refine zaj [] [7] zwr ?_
 simp -implicitDefEqProofs [zd2, e2]
 refine zaa k1 ?_
 simp -implicitDefEqProofs
 refine zar [0] rfl (by decide) (by simp) c1 (by simp) (by simp [lentBs]) ?_
 simp -implicitDefEqProofs [framed]
theorem zqp : IsL 139 [8] zet := isL (by kernel_rfl)
theorem sortedFunc (base : Int) (xs ts : List Int) (h : SortOk base xs ts) (hlen : ts.length = xs.length) :
 Den PP 139 [.fn 202 [] [.mem [.sl (xs.map irow) xs.length]], .fn 203 [] [.mem [.int .i64 base]]] [] (.ref 0 0 ts.length) [⟨ts.map irow, 1, .mut⟩] := by
 have hf := h.few
 have k1 := zpl xs (fun e => by have := h.some; rw [e] at this; simp at this) (by omega)
 change Den PP _ [.fn _ [] [.mem [.sl (xs.map irow) xs.length]]] [] _ [⟨xs.map irow, 1, .mut⟩] at k1
 have c1 := sortFunc base xs ts h
 rw [hlen]
 refine zaj [7] [8] zqp ?_
 simp -implicitDefEqProofs [zet]
 refine zaa k1 ?_
 simp -implicitDefEqProofs
 refine zar [1] rfl (by decide) (by simp) c1 (by simp) (by simp [lentBs]) ?_
 simp -implicitDefEqProofs [framed]
theorem compact (base : Int) (ts : List Int) (hl : ts.length ≤ 8) (hp : ts.Pairwise (fun p q => far base p < far base q)) : Den PP 142 [.sl (ts.map irow) ts.length] [] (.sl (ts.map irow) ts.length) [] := by
 refine zaj [] [] zg8 ?_
 by_cases h2 : ts.length < 2
 ·have e1 : (ts.length : Int) < 2 := by omega
  simp -implicitDefEqProofs [zc2, e1, h2]
 ·have e1 : ¬ (ts.length : Int) < 2 := by omega
  simp -implicitDefEqProofs [zc2, e1, h2]
  refine zde (ts.length - 1) (fun m ⟨fr, bs⟩ => ∃ k : Nat, k + m = ts.length ∧ 1 ≤ k ∧ bs = [⟨[], 1, .mut⟩] ∧ fr 0 = .sl (ts.map irow) ts.length ∧ fr 3 = .int .i64 k)
   (fun ⟨fr, bs⟩ => bs = [⟨[], 1, .mut⟩] ∧ fr 0 = .sl (ts.map irow) ts.length) (fun _ => False) zdl.eq_1 ?_ ?_ ?_ ?_ ?_
  ·exact ⟨1, by omega, by omega, rfl, rfl, rfl⟩
  ·rintro ⟨fr, bs⟩ ⟨k, hk, h1, rfl, g0, g3⟩
   obtain rfl : k = ts.length := by omega
   simp -implicitDefEqProofs [g0, g3]
  ·rintro m ⟨fr, bs⟩ ⟨k, hk, h1, rfl, g0, g3⟩
   obtain ⟨j, rfl⟩ : ∃ j, k = j + 1 := ⟨k - 1, by omega⟩
   have b1 : j + 1 < ts.length := by omega
   have b2 : j < ts.length := by omega
   have b3 : (j : Int) + 1 < ts.length := by omega
   have b4 : (j : Int) < ts.length := by omega
   have b6 : (0 : Int) ≤ (j : Int) + 1 := by omega
   obtain ⟨x, hx⟩ : ∃ x, ts[j + 1]? = some x := ⟨_, List.getElem?_eq_getElem b1⟩
   obtain ⟨y, hy⟩ : ∃ y, ts[j]? = some y := ⟨_, List.getElem?_eq_getElem b2⟩
   have gx := got hx
   have gy := got hy
   have hne : ¬ x = y := by
    rintro rfl
    have := List.pairwise_iff_getElem.1 hp j (j + 1) b2 b1 (by omega)
    rw [gx b1, gy b2] at this
    omega
   have hwj : IntKind.wrap .i64 (j : Int) = (j : Int) := zaq (by omega) (by omega)
   have hwk : IntKind.wrap .i64 ((j : Int) + 1 + 1) = (j : Int) + 1 + 1 := zaq (by omega) (by omega)
   simp -implicitDefEqProofs [g0, g3, b1, b2, b3, b4, b6, hx, hy, gx, gy, hwj, hwk, hne, irow]
   exact ⟨j + 1 + 1, by omega, by omega, by simp⟩
  ·rintro ⟨fr, bs⟩ ⟨rfl, g0⟩
   simp -implicitDefEqProofs [g0]
  ·rintro ⟨fr, bs⟩ h
   exact h.elim
theorem zsy (xs : List Int) : Den PP 140 [.sl (xs.map irow) xs.length] [] (.fn 202 [] [.mem [.sl (xs.map irow) xs.length]]) [] := by
 refine zaj [] [] zhi ?_
 simp -implicitDefEqProofs [zeq, expPtr]
theorem z8m (base : Int) (xs os : List Int) (h : SortOk base xs (base :: os)) (hlen : os.length + 1 = xs.length) (hb : place base = true) (hp : xs.all place = true) : Den PP 51 [.int .i64 base, .sl (xs.map irow) xs.length] [] (.tup [.sl (os.map irow) os.length, .int .i64 0]) [] := by
 have hf := h.few
 have c1 := z5w base xs (by unfold cap; omega)
 rw [hb, hp, decide_eq_true (show xs.length ≤ 64 by omega)] at c1
 have c2 := zsy xs
 have c3 := sortedFunc base xs (base :: os) h (by simpa using hlen)
 have c4 := compact base (base :: os) (by simp; omega) h.row
 simp only [intsD, List.map_cons, List.length_cons] at c1 c3 c4
 refine zaj [] [] zyn ?_
 simp -implicitDefEqProofs [zr0]
 refine zaa c1 ?_
 simp -implicitDefEqProofs
 refine zaa c2 ?_
 simp -implicitDefEqProofs
 refine zaa (z8u base) ?_
 simp -implicitDefEqProofs
 refine zaa c3 ?_
 simp -implicitDefEqProofs
 refine zaa c4 ?_
 have e1 : (1 : Int) ≤ (os.length : Int) + 1 := by omega
 have e2 : ((os.length : Int) + 1 - 1).toNat = os.length := by omega
 have e3 : ∀ r ∈ ([D.int .i64 base] :: os.map irow), r.length = 1 := by
  intro r hr
  rcases List.mem_cons.1 hr with rfl | hr
  ·rfl
  ·obtain ⟨z, _, rfl⟩ := List.mem_map.1 hr
   rfl
 simp -implicitDefEqProofs [irow, sliceD, boundD, e1, e2]
end Go.AM
/- AM: contracts: is it in one ring? -/
namespace Go.AM
set_option linter.unusedSimpArgs false
set_option linter.unusedVariables false
set_option maxRecDepth 8000
set_option maxHeartbeats 0
structure Knit (S : List Int) (x : Node) : Prop where
 sort : SortOk x.view.id S (x.view.id :: x.view.peers.map Peer.id)
 len : (x.view.peers.map Peer.id).length + 1 = S.length
 may : viewMay x.view = true
 none : x.view.passive = []
theorem zub {S : List Int} {w : Wld} (hF : Fine S w) (hf : FullW S w) {x : Node} (hx : x ∈ w.nodes) : Knit S x := by
 have hv := (za5 (hF.node hx)).2.1
 obtain ⟨h1, h2, h3, h4⟩ := zas hv
 have hidS : x.view.id ∈ S := by rw [← hF.ids]; exact ze7.2 ⟨x, hx, rfl⟩
 have hin : ∀ n ∈ namesV x.view, n ∈ S := fun n hn => by rw [← hF.ids]; exact hF.may.inN x hx n hn
 have hpl : ∀ n ∈ S, place n = true := fun n hn => hF.may.place (by rw [hF.ids]; exact hn)
 have hSp : S.Pairwise (fun a b => a < b) := by
  rw [← hF.ids]
  unfold idsN
  rw [List.pairwise_map]
  exact hF.pair
 have hpeer : ∀ j ∈ S, j ≠ x.view.id → ∃ q ∈ x.view.peers, q.id = j := by
  intro j hj hne
  obtain ⟨y, hy, he, q, hq, hqj, _⟩ := hf _ hidS j hj (Ne.symm hne)
  obtain rfl := zwo hF.pair hx hy he.symm
  exact ⟨q, hq, hqj⟩
 have hpw := (zbi.1 h1).2.2
 have hne : 1 ≤ S.length := List.length_pos_of_mem hidS
 have hmem : ∀ j, j ∈ x.view.id :: x.view.peers.map Peer.id ↔ j ∈ S := by
  intro j
  constructor
  ·intro h
   rcases List.mem_cons.1 h with rfl | h
   ·exact hidS
   ·exact hin j (List.mem_append.2 (.inl h))
  ·intro h
   by_cases hj : j = x.view.id
   ·simp [hj]
   ·obtain ⟨q, hq, hqj⟩ := hpeer j h hj
    exact List.mem_cons.2 (.inr (List.mem_map.2 ⟨q, hq, hqj⟩))
 have hrow : (x.view.id :: x.view.peers.map Peer.id).Pairwise (fun p q => far x.view.id p < far x.view.id q) := by
  rw [List.pairwise_cons]
  constructor
  ·intro a ha
   obtain ⟨q, hq, rfl⟩ := List.mem_map.1 ha
   have e : far x.view.id x.view.id = 0 := (zn2 (zcc hv) (zcc hv)).2 rfl
   rw [e]
   exact (hpw.1 q hq).2.2.2
  ·rw [List.pairwise_map]
   exact hpw.2
 have hnd : (x.view.id :: x.view.peers.map Peer.id).Nodup := hrow.imp fun hab e => by rw [e] at hab; omega
 have hnS : S.Nodup := hSp.imp fun hab e => by omega
 have l1 := zpd _ _ hnd fun j hj => (hmem j).1 hj
 have l2 := zpd _ _ hnS fun j hj => (hmem j).2 hj
 refine ⟨⟨hne, hF.few, ?_, hrow, hmem⟩, ?_, hv, ?_⟩
 ·refine List.Pairwise.imp_of_mem ?_ hSp
  intro a b ha hb hab e
  have := (zo7 (zcc hv) (hpl a ha) (hpl b hb)).1 e
  omega
 ·simp only [List.length_cons] at l1 l2
  omega
 ·apply List.eq_nil_iff_forall_not_mem.2
  intro n hn
  have hnS := hin n (List.mem_append.2 (.inr hn))
  obtain ⟨q, hq, hqn⟩ := hpeer n hnS (h4 n hn).1
  exact (h4 n hn).2 (List.mem_map.2 ⟨q, hq, hqn⟩)
theorem z4b {S : List Int} {x : Node} (h : Knit S x) : (x.view.peers.map Peer.id = [] ∧ succV x.view = (x.view.id, 0) ∧ predV x.view = (x.view.id, 0)) ∨ ∃ (a z : Int), x.view.peers.map Peer.id ≠ [] ∧ (x.view.peers.map Peer.id)[0]? = some a ∧ (x.view.peers.map Peer.id)[(x.view.peers.map Peer.id).length - 1]? = some z ∧ succV x.view = (a, 0) ∧ predV x.view = (z, 0) := by
 unfold succV predV
 rw [if_pos h.may, if_pos h.may]
 cases hp : x.view.peers with
 | nil => left; simp
 | cons p ps =>
   right
   refine ⟨p.id, ((p :: ps).getLast (by simp)).id, by simp, by simp, ?_, rfl, ?_⟩
   ·rw [List.length_map, List.getElem?_map, ← List.getLast?_eq_getElem?, List.getLast?_eq_some_getLast (by simp)]
    rfl
   ·rw [List.getLast?_eq_some_getLast (by simp)]
    rfl
theorem zkt {S : List Int} (w : Wld) (hF : Fine S w) (hf : FullW S w) : Den PP 14 [.agg (wldL w)] [] (.tup [.bool true, .int .i64 0]) [] := by
 have hw := zfo.2 hF.may
 have c1 := zhu w (zbr hw).small
 rw [hw] at c1
 have hk : ∀ x ∈ w.nodes, Knit S x := fun x hx => zub hF hf hx
 have hup := hF.up
 have hsm : ∀ x ∈ w.nodes, x.small := fun x hx => zcv (hF.may.node hx)
 have hpl : S.all place = true := List.all_eq_true.2 fun n hn => hF.may.place (by rw [hF.ids]; exact hn)
 have hids : ∀ i x, w.nodes[i]? = some x → S.take (i + 1) = S.take i ++ [x.view.id] := by
  intro i x hx
  have : S[i]? = some x.view.id := by rw [← hF.ids]; simp [idsN, hx]
  rw [List.take_add_one, this]
  rfl
 have hlen := hF.len
 have h8 := hF.few
 clear hF hf hw
 obtain ⟨ns, cs, ps⟩ := w
 simp only at hk hup hsm hids hlen
 simp only [wldD, Wld.cells, nodesD, cutsD, msgsD, wldL] at c1 ⊢
 refine zaj [] [] zm3 ?_
 simp -implicitDefEqProofs [zij]
 refine zaa c1 ?_
 simp -implicitDefEqProofs
 refine zax ns (fun i rest => fun ⟨fr, bs⟩ => bs = [⟨[[.sl (ns.map Node.cells) ns.length, .sl (cs.map Cut.row) cs.length, .sl (ps.map Msg.row) ps.length]], 3, .box⟩, ⟨(S.take i).map irow, 1, .mut⟩] ∧ fr 1 = .ptr 0 0 0 ∧ fr 4 = .ref 1 0 i ∧ fr 19 = .sl (ns.map Node.cells) ns.length ∧ fr 20 = .int .i64 ns.length ∧ fr 21 = .int .i64 i)
  (fun ⟨fr, bs⟩ => bs = [⟨[[.sl (ns.map Node.cells) ns.length, .sl (cs.map Cut.row) cs.length, .sl (ps.map Msg.row) ps.length]], 3, .box⟩, ⟨S.map irow, 1, .mut⟩] ∧ fr 1 = .ptr 0 0 0 ∧ fr 4 = .ref 1 0 S.length) (fun _ => False) zgf.eq_1 ?_ ?_ ?_ ?_ ?_
 ·exact ⟨rfl, rfl, rfl, rfl, rfl, rfl⟩
 ·rintro i ⟨fr, bs⟩ hi ⟨rfl, g1, g4, g19, g20, g21⟩
  subst hi
  rw [hlen] at *
  rw [List.take_length] at *
  simp -implicitDefEqProofs [g1, g4, g19, g20, g21]
 ·rintro i a rest ⟨fr, bs⟩ hlt hget hgg hd hd2 ⟨rfl, g1, g4, g19, g20, g21⟩
  have hlt' : (i : Int) < ns.length := by omega
  have hwi : IntKind.wrap .i64 ((i : Int) + 1) = (i : Int) + 1 := zaq (by omega) (by omega)
  have hua := hup a (List.mem_of_getElem? hget)
  have e1 := hids i a hget
  have e2 : (S.take i).length = i := by rw [List.length_take]; omega
  have hb1 : (i + 1) * 8 ≤ 140737488355328 := by omega
  have hb2 : i ≤ 9223372036854775806 := by omega
  rw [e1]
  clear e1 hd hd2 hids hk hsm hup
  generalize S.take i = L at *
  subst e2
  simp -implicitDefEqProofs [g1, g4, g19, g20, g21, hlt, hlt', hget, hgg, Node.cells, peersD, intsD, itemsD, toldsD, hua, hb1, hb2, Fits, hwi]
  rfl
 ·rintro ⟨fr, bs⟩ ⟨rfl, g1, g4⟩
  simp -implicitDefEqProofs [g1, g4]
  refine zax ns (fun i rest => fun ⟨fr, bs⟩ => (∃ kd : Kind, (kd = .mut ∨ kd = .app) ∧ bs = [⟨[[.sl (ns.map Node.cells) ns.length, .sl (cs.map Cut.row) cs.length, .sl (ps.map Msg.row) ps.length]], 3, .box⟩, ⟨S.map irow, 1, kd⟩]) ∧ fr 1 = .ptr 0 0 0 ∧ fr 4 = .ref 1 0 S.length ∧ fr 35 = .sl (ns.map Node.cells) ns.length ∧ fr 36 = .int .i64 ns.length ∧ fr 37 = .int .i64 i)
   (fun ⟨fr, bs⟩ => True) (fun _ => False) zgk.eq_1 ?_ ?_ ?_ ?_ ?_
  ·exact ⟨⟨.mut, .inl rfl, by simp⟩, by simp [g1], by simp [g4], by simp, by simp, by simp⟩
  ·rintro i ⟨fr, bs⟩ hi ⟨⟨kd, hkd, rfl⟩, g1, g4, g35, g36, g37⟩
   subst hi
   simp -implicitDefEqProofs [g1, g4, g35, g36, g37]
  ·rintro i a rest ⟨fr, bs⟩ hlt hget hgg hd hd2 ⟨⟨kd, hkd, rfl⟩, g1, g4, g35, g36, g37⟩
   have hlt' : (i : Int) < ns.length := by omega
   have hwi : IntKind.wrap .i64 ((i : Int) + 1) = (i : Int) + 1 := zaq (by omega) (by omega)
   have ham := List.mem_of_getElem? hget
   have hua := hup a ham
   have hka := hk a ham
   have hsa := hsm a ham
   have k1 := z8m a.view.id S (a.view.peers.map Peer.id) hka.sort hka.len (zcc hka.may) hpl
   have k2 := zt2 a.view hsa.1
   have k3 := z36 a.view hsa.1
   have hends := z4b hka
   have hl1 := hka.len
   clear hk hsm hup hids hd hd2 hka hsa c1
   simp only [viewD, View.cells, peersD, intsD, pairD] at k2 k3
   generalize a.view.peers.map Peer.id = os at *
   rcases hends with ⟨rfl, e2, e3⟩ | ⟨x, z, hne, hx, hz, e2, e3⟩
   ·rw [e2] at k2
    rw [e3] at k3
    rcases hkd with rfl | rfl
    all_goals
     simp -implicitDefEqProofs [g1, g4, g35, g36, g37, hlt, hlt', hget, hgg, Node.cells, peersD, intsD, itemsD, toldsD]
     refine zaa k1 ?_
     simp -implicitDefEqProofs [downTo, Node.cells, peersD, intsD, itemsD, toldsD, Kind.down]
     refine zaa k2 ?_
     simp -implicitDefEqProofs [Node.cells, peersD, intsD, itemsD, toldsD]
     refine zaa k3 ?_
     simp -implicitDefEqProofs [Node.cells, peersD, intsD, itemsD, toldsD, hua, g1, g4, g35, g36, g37, hwi, irow]
   ·rw [e2] at k2
    rw [e3] at k3
    have l0 : os.length ≠ 0 := fun e => hne (List.eq_nil_of_length_eq_zero e)
    have l1 : 0 < os.length := by omega
    have l2 : (0 : Int) < os.length := by omega
    have l3 : ¬ (os.length : Int) = 0 := by omega
    have l4 : os.length - 1 < os.length := by omega
    have l9 : (1 : Int) ≤ os.length := by omega
    have l5 : (0 : Int) ≤ (os.length : Int) - 1 := by omega
    have l6 : (os.length : Int) - 1 < os.length := by omega
    have l7 : IntKind.wrap .i64 ((os.length : Int) - 1) = (os.length : Int) - 1 := zaq (by omega) (by omega)
    have l8 : ((os.length : Int) - 1).toNat = os.length - 1 := by omega
    have gx := got hx
    have gz := got hz
    rcases hkd with rfl | rfl
    all_goals
     simp -implicitDefEqProofs [g1, g4, g35, g36, g37, hlt, hlt', hget, hgg, Node.cells, peersD, intsD, itemsD, toldsD]
     refine zaa k1 ?_
     simp -implicitDefEqProofs [downTo, Node.cells, peersD, intsD, itemsD, toldsD, Kind.down, l0, l1, l2, l3]
     refine zaa k2 ?_
     simp -implicitDefEqProofs [Node.cells, peersD, intsD, itemsD, toldsD]
     refine zaa k3 ?_
     simp -implicitDefEqProofs [Node.cells, peersD, intsD, itemsD, toldsD, hua, g1, g4, g35, g36, g37, hwi, irow, l0, l1, l2, l3, l4, l5, l6, l7, l8, l9, hx, hz, gx, gz]
  ·rintro ⟨fr, bs⟩ _
   simp -implicitDefEqProofs
  ·rintro ⟨fr, bs⟩ h
   exact h.elim
 ·rintro ⟨fr, bs⟩ h
  exact h.elim
end Go.AM
/- AM: the statement TopHealed. -/
namespace Go.AM
set_option linter.unusedSimpArgs false
set_option linter.unusedVariables false
set_option maxRecDepth 8000
set_option maxHeartbeats 0
theorem z74 {S : List Int} {w v : Wld} (h : Rnds S 1 w v) : Rnd S w v := by
 cases h with
 | succ h1 h2 =>
   cases h1 with
   | zero _ => exact h2
theorem topHealed (w : Wld) (hs : w.small) : Den PP 3 [wldD w] [] (.bool true) [] := by
 have c1 := z5o w hs
 cases hb : wholeB w with
 | false =>
   rw [hb] at c1
   simp only [wldD, Wld.cells, nodesD, cutsD, msgsD, wldL] at c1 ⊢
   refine zaj [] [] zez ?_
   simp -implicitDefEqProofs [zdr]
   refine zaa awake ?_
   simp -implicitDefEqProofs
   refine zaa c1 ?_
   simp -implicitDefEqProofs
 | true =>
   rw [hb] at c1
   obtain ⟨hF, -, hD⟩ := zxa hb
   obtain ⟨a, c2, ha⟩ := zru w hF 6 (by omega)
   obtain ⟨b, c3, hb1⟩ := zru a ha.fine 1 (by omega)
   have hfa := z3y ha hD
   have hfb := z5t (zsa (z74 hb1)) hfa
   have c4 := zkt a ha.fine hfa
   have c5 := zkt b hb1.fine hfb
   have hk : ∀ x ∈ a.nodes, x.view.peers.length + 1 = a.nodes.length ∧ x.view.passive.length = 0 := fun x hx => by
    have k := zub ha.fine hfa hx
    have := k.len
    rw [List.length_map] at this
    exact ⟨by rw [this, ha.fine.len], by rw [k.none]; rfl⟩
   have h8 : a.nodes.length ≤ 8 := by rw [ha.fine.len]; exact ha.fine.few
   have h1 := (zbm ha.fine.may.nodes).2.2.1
   clear hs hb hF hD ha hb1 hfa hfb
   simp only [wldD, Wld.cells, nodesD, cutsD, msgsD, wldL] at c1 c2 c3 c4 c5 ⊢
   refine zaj [] [] zez ?_
   simp -implicitDefEqProofs [zdr]
   refine zaa awake ?_
   simp -implicitDefEqProofs
   refine zaa c1 ?_
   simp -implicitDefEqProofs
   refine zaa c2 ?_
   simp -implicitDefEqProofs
   refine zaa c3 ?_
   simp -implicitDefEqProofs
   refine zaa c4 ?_
   simp -implicitDefEqProofs
   refine zaa c5 ?_
   simp -implicitDefEqProofs
   refine zaa (zze _) ?_
   simp -implicitDefEqProofs
   refine zaa (zze _) ?_
   simp -implicitDefEqProofs
   refine zax a.nodes (fun i rest => fun ⟨fr, bs⟩ => bs = [⟨[wldL w], 3, .box⟩, ⟨[wldL a], 3, .box⟩, ⟨[wldL b], 3, .box⟩] ∧ fr 3 = .ptr 1 0 0 ∧ fr 7 = .bool true ∧ fr 9 = .bool true ∧ fr 11 = .int .i64 i)
    (fun ⟨fr, bs⟩ => fr 7 = .bool true ∧ fr 9 = .bool true) (fun _ => False) zej.eq_1 ?_ ?_ ?_ ?_ ?_
   ·exact ⟨rfl, rfl, rfl, rfl, rfl⟩
   ·rintro i ⟨fr, bs⟩ hi ⟨rfl, g3, g7, g9, g11⟩
    subst hi
    simp -implicitDefEqProofs [g3, g7, g9, g11, wldL]
   ·rintro i x rest ⟨fr, bs⟩ hlt hget hgg hd hd2 ⟨rfl, g3, g7, g9, g11⟩
    have hlt' : (i : Int) < a.nodes.length := by omega
    have hwi : IntKind.wrap .i64 ((i : Int) + 1) = (i : Int) + 1 := zaq (by omega) (by omega)
    obtain ⟨k1, k2⟩ := hk x (List.mem_of_getElem? hget)
    have k3 : (x.view.peers.length : Int) = (a.nodes.length : Int) - 1 := by omega
    have k4 : IntKind.wrap .i64 ((a.nodes.length : Int) - 1) = (a.nodes.length : Int) - 1 := zaq (by omega) (by omega)
    clear hd hd2 c1 c2 c3 c4 c5
    simp -implicitDefEqProofs [g3, g7, g9, g11, hlt, hlt', hget, hgg, k2, k3, k4, hwi, wldL, Node.cells, peersD, intsD, itemsD, toldsD]
   ·rintro ⟨fr, bs⟩ ⟨g7, g9⟩
    simp -implicitDefEqProofs [g7, g9]
   ·rintro ⟨fr, bs⟩ h
    exact h.elim
end Go.AM
