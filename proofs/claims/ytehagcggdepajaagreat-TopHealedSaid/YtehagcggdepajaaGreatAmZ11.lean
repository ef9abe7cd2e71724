/- What the proof of this claim stands on, part 11. -/
import Derived.Test.YtehagcggdepajaaGreatAmZ10
/- AM: contracts: the library's functions over slices. -/
namespace Go.AM
set_option linter.unusedSimpArgs false
set_option linter.unusedVariables false
set_option maxRecDepth 8000
set_option maxHeartbeats 0
theorem zld (rows : List (List D)) (hf : Fits 1 rows) (hl : rows.length * 8 ≤ 140737488355328) : Den PP 184 [.sl rows rows.length] [] (.ref 0 0 rows.length) [⟨rows, 1, .mut⟩] := by
 cases hr : rows with
 | nil =>
   refine zno (pre := []) (post := []) ?_ ?_
   ·refine zaj [] [] zc7 ?_
    simp -implicitDefEqProofs [zcj]
   ·refine zaj [] [] zc7 ?_
    simp -implicitDefEqProofs [zcj, Fits]
 | cons r rs =>
   rw [hr] at hf hl
   have h63 : (r :: rs).length ≤ 9223372036854775807 := by omega
   have hlen : 0 < (r :: rs).length := by simp
   generalize hn : (r :: rs).length = n at *
   generalize r :: rs = rows at *
   refine zaj [] [] zc7 ?_
   simp -implicitDefEqProofs [zcj, hlen, List.take_of_length_le (Nat.le_of_eq hn), hf, hn, hl, h63]
theorem z0u (rows : List (List D)) (v : List D) (at_ : Nat) (hf : Fits 1 rows) (hst : StillR rows) (hv : Fits 1 [v]) (hvs : ∀ d ∈ v, d.still = true) (hat : at_ ≤ rows.length) (hl : rows.length ≤ 1000000) :
 GivesC (DenF PP [0]) 186 rows 1 [.int .i64 at_, .sl [v] 1] (insL rows at_ v) := by
 refine zlo (fun r hr => (hf r hr).1) hst fun fl hfl hrow hfs htake hget => ?_
 have hv1 : v.length = 1 := (hv v (by simp)).1
 obtain ⟨c0, cs0, hvv⟩ : ∃ c0 cs0, v = c0 :: cs0 := by
  cases v with
  | nil => simp at hv1
  | cons a b => exact ⟨a, b, rfl⟩
 have hvS : StillR [v] := by intro r hr; rw [List.mem_singleton.1 hr]; exact hvs
 generalize hn : rows.length = n at *
 have w1 : IntKind.wrap .i64 ((n : Int) + 1) = n + 1 := zaq (by omega) (by omega)
 have w2 : IntKind.wrap .i64 ((at_ : Int) + 1) = at_ + 1 := zaq (by omega) (by omega)
 have w3 : IntKind.wrap .i64 ((n : Int) + 1 - at_) = ((n + 1 - at_ : Nat) : Int) := by rw [zaq (by omega) (by omega)]; omega
 by_cases h1 : at_ = n
 ·subst h1
  by_cases h2 : at_ + 1 ≤ fl.length
  ·refine ⟨.ref 0 0 (at_ + 1), [⟨ovr fl at_ [v], 1, .mut⟩], ?_, ?_⟩
   ·refine zeb [] [66] [] [221] (by simp) ovls221 zb8 ?_
    simp -implicitDefEqProofs [-leave, zbs]
    refine za2 (at_) (at_) ?_
    simp -implicitDefEqProofs [-leave, hv]
    repeat' (first | (refine zag (by omega) ?_) | (refine zbw (by omega) ?_))
    simp -implicitDefEqProofs [-leave, hv, h2]
    rw [zdg (by omega) (by simpa using ((hfs.take _).append hvS).append (hfs.drop _))]
    simp [ovr]
   ·exact zbz rfl rfl rfl (by rw [zaw (by simpa using h2)]; omega) (zp2 hn h2 htake) (.inl rfl)
  ·have h3 : fl.length = at_ := by omega
   refine ⟨.ref 1 0 (at_ + 1), [⟨fl, 1, .mut⟩, ⟨fl.take at_ ++ [v], 1, .mut⟩], ?_, ?_⟩
   ·refine zeb [] [66] [] [221] (by simp) ovls221 zb8 ?_
    simp -implicitDefEqProofs [-leave, zbs]
    by_cases h0 : at_ = 0
    ·refine za2 (at_) (at_) ?_
     simp -implicitDefEqProofs [-leave, hv, h3]
     repeat' (first | (refine zag (by omega) ?_) | (refine zbw (by omega) ?_))
     simp -implicitDefEqProofs [-leave, hv, h3]
     rw [zew (by omega) rfl rfl (by simpa using hfs)]
     rfl
    ·refine zn5 (at_) ?_
     simp -implicitDefEqProofs [-leave, hv, h3]
     repeat' (first | (refine zag (by omega) ?_) | (refine zbw (by omega) ?_))
     simp -implicitDefEqProofs [-leave, hv, h3]
     rw [zew (by omega) rfl rfl (by simpa using hfs)]
     rfl
   ·exact zbz rfl rfl rfl (by simp; omega) (zpa hn htake) (.inr (by omega))
 ·have hlt : at_ < n := by omega
  have hT1 : ∀ X : List (List D), List.take (n - at_) (List.take (n + 1 - at_) X) = List.take (n - at_) X := by
   intro X
   rw [List.take_take]
   congr 1
   omega
  have hfit : Fits 1 (List.take (n - at_) (List.drop at_ fl)) := by
   intro r hr
   rw [← List.drop_take, htake] at hr
   exact hf r (List.mem_of_mem_drop hr)
  have hrr : ∀ m, ∀ r ∈ List.take m (List.drop at_ fl), r.length = 1 := fun m r hr => hrow r (List.mem_of_mem_drop (List.mem_of_mem_take hr))
  have hT3 : ∀ X : List (List D), List.take (n - at_) (List.take (n - at_) X) = List.take (n - at_) X := by intro X; rw [List.take_take]; congr 1; omega
  have hT2 : List.take (n + 1 - at_) [v] = [v] := List.take_of_length_le (by simp; omega)
  have hap : ∀ (fl' : List (List D)) (bs : List Blk) (o l : Nat), apartD (⟨fl', 1, .mut⟩ :: bs) [.sl [v] 1, .ref 0 o l] = true := by
   intro _ _ _ _
   rw [hvv]
   rfl
  have hyl : (List.take (n - at_) (List.drop at_ fl)).length = n - at_ := by simp; omega
  have hne : ¬ (at_ : Int) = n := by omega
  by_cases h2 : n + 1 ≤ fl.length
  ·have h2' : ¬ ((fl.length : Int) < (n : Int) + 1) := by omega
   refine ⟨.ref 0 0 (n + 1), [⟨ovr (ovr fl (at_ + 1) ((fl.drop at_).take (n - at_))) at_ [v], 1, .mut⟩], ?_, ?_⟩
   ·refine zeb [] [66] [] [221] (by simp) ovls221 zb8 ?_
    simp -implicitDefEqProofs [-leave, zbs]
    refine za2 (at_) (n) ?_
    simp -implicitDefEqProofs [-leave, hv, h1, hne, w1, w2, h2']
    refine za2 (0) (n + 1) ?_
    simp -implicitDefEqProofs [-leave, hv, h1, hne, w1, w2, h2']
    refine za2 (at_ + 1) (n + 1) ?_
    simp -implicitDefEqProofs [-leave, hv, h1, hne, w1, w2, h2', hap]
    refine za2 (at_ + 1) (n + 1) ?_
    simp -implicitDefEqProofs [-leave, hv, h1, hne, w1, w2, h2']
    refine za2 (at_) (n + 1) ?_
    simp -implicitDefEqProofs [-leave, hv, h1, hne, w1, w2, h2', hT1, hfit]
    refine ⟨hrr _, ?_⟩
    try refine zc8 (by first | omega | (simp; done) | (simp; omega)) ?_
    have hB1 := zaw (rows := fl) (p := at_ + 1) (ys := List.take (n - at_) (List.drop at_ fl)) (by omega)
    have hBS := hfs.ovr ((hfs.drop at_).take (n - at_)) (at_ + 1)
    generalize hB : ovr fl (at_ + 1) (List.take (n - at_) (List.drop at_ fl)) = B at *
    simp -implicitDefEqProofs [-leave, hv, h1, hne, w1, w2, h2']
    refine za2 (at_) (n + 1) ?_
    simp -implicitDefEqProofs [-leave, hv, h1, hne, w1, w2, h2', hv1, hT2]
    try refine zc8 (by first | omega | (simp; done) | (simp; omega)) ?_
    simp -implicitDefEqProofs [-leave, hv, h1, hne, w1, w2, h2']
    rw [zdg (by omega) (by simpa using hBS.ovr hvS at_)]
    rfl
   ·exact zbz rfl rfl rfl (by show 0 + (n + 1) ≤ (ovr (ovr fl (at_ + 1) _) at_ [v]).length; rw [zaw (by rw [zaw (by omega)]; simp; omega), zaw (by omega)]; omega) (zpg hn hlt h2 htake) (.inl rfl)
  ·have h3 : fl.length = n := by omega
   have h3' : (n : Int) < (n : Int) + 1 := by omega
   refine ⟨.ref 1 0 (n + 1), [⟨fl, 1, .mut⟩, ⟨ovr (ovr (fl.take at_ ++ List.replicate (n + 1 - at_) (TT 3).zero) at_ [v]) (at_ + 1) ((fl.drop at_).take (n - at_)), 1, .mut⟩], ?_, ?_⟩
   ·refine zeb [] [66] [] [221] (by simp) ovls221 zb8 ?_
    simp -implicitDefEqProofs [-leave, zbs]
    refine za2 (at_) (n) ?_
    simp -implicitDefEqProofs [-leave, hv, h1, hne, w1, w2, h3, h3']
    refine za2 (0) (at_) ?_
    simp -implicitDefEqProofs [-leave, hv, h1, hne, w1, w2, w3, h3, h3']
    refine ztx (by omega) ?_
    have e1 : at_ + (n + 1 - at_) = n + 1 := by omega
    simp -implicitDefEqProofs [-leave, hv, h1, hne, w1, w2, w3, h3, h3', e1]
    repeat' (first | (refine zag (by omega) ?_) | (refine zbw (by omega) ?_))
    simp -implicitDefEqProofs [-leave, hv, h1, hne, w1, w2, w3, h3, h3', e1]
    have hA1 : (List.take at_ fl ++ List.replicate (n + 1 - at_) [D.int IntKind.i64 0]).length = n + 1 := by simp; omega
    generalize hA : List.take at_ fl ++ List.replicate (n + 1 - at_) [D.int IntKind.i64 0] = A at *
    refine za2 (at_) (n + 1) ?_
    simp -implicitDefEqProofs [-leave, hv, h1, hne, w1, w2, h3, hv1, hT2]
    try refine zc8 (by first | omega | (simp; done) | (simp; omega)) ?_
    have hB1 := zaw (rows := A) (p := at_) (ys := [v]) (by simp; omega)
    generalize hB : ovr A at_ [v] = B at *
    simp -implicitDefEqProofs [-leave, hv, h1, hne, w1, w2, h3]
    refine za2 (at_ + 1) (n + 1) ?_
    simp -implicitDefEqProofs [-leave, hv, h1, hne, w1, w2, h3]
    refine za2 (at_) (n) ?_
    simp -implicitDefEqProofs [-leave, hv, h1, hne, w1, w2, h3, hfit, hT3]
    refine ⟨hrr _, ?_⟩
    try refine zc8 (by first | omega | (simp; done) | (simp; omega)) ?_
    try simp -implicitDefEqProofs [-leave, hv, h1, hne, w1, w2, h3]
    rw [zew (by omega) rfl rfl (by simpa using hfs)]
    simp [hA, hB]
   ·exact zbz rfl rfl rfl (by
     have hA1 : (List.take at_ fl ++ List.replicate (n + 1 - at_) (TT 3).zero).length = n + 1 := by simp; omega
     show 0 + (n + 1) ≤ (ovr (ovr _ at_ [v]) (at_ + 1) _).length
     rw [zaw (by rw [zaw (by rw [hA1]; simp; omega), hA1]; omega), zaw (by rw [hA1]; simp; omega), hA1]; omega) (zpo hn hlt h3 htake) (.inr (by omega))
theorem zrl (rows : List (List D)) (hf : Fits 2 rows) (hl : rows.length * 16 ≤ 140737488355328) : Den PP 183 [.sl rows rows.length] [] (.ref 0 0 rows.length) [⟨rows, 2, .mut⟩] := by
 cases hr : rows with
 | nil =>
   refine zno (pre := []) (post := []) ?_ ?_
   ·refine zaj [] [] zbu ?_
    simp -implicitDefEqProofs [zba]
   ·refine zaj [] [] zbu ?_
    simp -implicitDefEqProofs [zba, Fits]
 | cons r rs =>
   rw [hr] at hf hl
   have h63 : (r :: rs).length ≤ 9223372036854775807 := by omega
   have hlen : 0 < (r :: rs).length := by simp
   generalize hn : (r :: rs).length = n at *
   generalize r :: rs = rows at *
   refine zaj [] [] zbu ?_
   simp -implicitDefEqProofs [zba, hlen, List.take_of_length_le (Nat.le_of_eq hn), hf, hn, hl, h63]
theorem zkv (rows : List (List D)) (v : List D) (at_ : Nat) (hf : Fits 2 rows) (hst : StillR rows) (hv : Fits 2 [v]) (hvs : ∀ d ∈ v, d.still = true) (hat : at_ ≤ rows.length) (hl : rows.length ≤ 1000000) :
 GivesC (DenF PP [0]) 226 rows 2 [.int .i64 at_, .sl [v] 1] (insL rows at_ v) := by
 refine zlo (fun r hr => (hf r hr).1) hst fun fl hfl hrow hfs htake hget => ?_
 have hv1 : v.length = 2 := (hv v (by simp)).1
 obtain ⟨c0, cs0, hvv⟩ : ∃ c0 cs0, v = c0 :: cs0 := by
  cases v with
  | nil => simp at hv1
  | cons a b => exact ⟨a, b, rfl⟩
 have hvS : StillR [v] := by intro r hr; rw [List.mem_singleton.1 hr]; exact hvs
 generalize hn : rows.length = n at *
 have w1 : IntKind.wrap .i64 ((n : Int) + 1) = n + 1 := zaq (by omega) (by omega)
 have w2 : IntKind.wrap .i64 ((at_ : Int) + 1) = at_ + 1 := zaq (by omega) (by omega)
 have w3 : IntKind.wrap .i64 ((n : Int) + 1 - at_) = ((n + 1 - at_ : Nat) : Int) := by rw [zaq (by omega) (by omega)]; omega
 by_cases h1 : at_ = n
 ·subst h1
  by_cases h2 : at_ + 1 ≤ fl.length
  ·refine ⟨.ref 0 0 (at_ + 1), [⟨ovr fl at_ [v], 2, .mut⟩], ?_, ?_⟩
   ·refine zeb [] [66] [] [241] (by simp) ovls241 za4 ?_
    simp -implicitDefEqProofs [-leave, za0]
    refine za2 (at_) (at_) ?_
    simp -implicitDefEqProofs [-leave, hv]
    repeat' (first | (refine zag (by omega) ?_) | (refine zbw (by omega) ?_))
    simp -implicitDefEqProofs [-leave, hv, h2]
    rw [zdg (by omega) (by simpa using ((hfs.take _).append hvS).append (hfs.drop _))]
    simp [ovr]
   ·exact zbz rfl rfl rfl (by rw [zaw (by simpa using h2)]; omega) (zp2 hn h2 htake) (.inl rfl)
  ·have h3 : fl.length = at_ := by omega
   refine ⟨.ref 1 0 (at_ + 1), [⟨fl, 2, .mut⟩, ⟨fl.take at_ ++ [v], 2, .mut⟩], ?_, ?_⟩
   ·refine zeb [] [66] [] [241] (by simp) ovls241 za4 ?_
    simp -implicitDefEqProofs [-leave, za0]
    by_cases h0 : at_ = 0
    ·refine za2 (at_) (at_) ?_
     simp -implicitDefEqProofs [-leave, hv, h3]
     repeat' (first | (refine zag (by omega) ?_) | (refine zbw (by omega) ?_))
     simp -implicitDefEqProofs [-leave, hv, h3]
     rw [zew (by omega) rfl rfl (by simpa using hfs)]
     rfl
    ·refine zn5 (at_) ?_
     simp -implicitDefEqProofs [-leave, hv, h3]
     repeat' (first | (refine zag (by omega) ?_) | (refine zbw (by omega) ?_))
     simp -implicitDefEqProofs [-leave, hv, h3]
     rw [zew (by omega) rfl rfl (by simpa using hfs)]
     rfl
   ·exact zbz rfl rfl rfl (by simp; omega) (zpa hn htake) (.inr (by omega))
 ·have hlt : at_ < n := by omega
  have hT1 : ∀ X : List (List D), List.take (n - at_) (List.take (n + 1 - at_) X) = List.take (n - at_) X := by
   intro X
   rw [List.take_take]
   congr 1
   omega
  have hfit : Fits 2 (List.take (n - at_) (List.drop at_ fl)) := by
   intro r hr
   rw [← List.drop_take, htake] at hr
   exact hf r (List.mem_of_mem_drop hr)
  have hrr : ∀ m, ∀ r ∈ List.take m (List.drop at_ fl), r.length = 2 := fun m r hr => hrow r (List.mem_of_mem_drop (List.mem_of_mem_take hr))
  have hT3 : ∀ X : List (List D), List.take (n - at_) (List.take (n - at_) X) = List.take (n - at_) X := by intro X; rw [List.take_take]; congr 1; omega
  have hT2 : List.take (n + 1 - at_) [v] = [v] := List.take_of_length_le (by simp; omega)
  have hap : ∀ (fl' : List (List D)) (bs : List Blk) (o l : Nat), apartD (⟨fl', 2, .mut⟩ :: bs) [.sl [v] 1, .ref 0 o l] = true := by
   intro _ _ _ _
   rw [hvv]
   rfl
  have hyl : (List.take (n - at_) (List.drop at_ fl)).length = n - at_ := by simp; omega
  have hne : ¬ (at_ : Int) = n := by omega
  by_cases h2 : n + 1 ≤ fl.length
  ·have h2' : ¬ ((fl.length : Int) < (n : Int) + 1) := by omega
   refine ⟨.ref 0 0 (n + 1), [⟨ovr (ovr fl (at_ + 1) ((fl.drop at_).take (n - at_))) at_ [v], 2, .mut⟩], ?_, ?_⟩
   ·refine zeb [] [66] [] [241] (by simp) ovls241 za4 ?_
    simp -implicitDefEqProofs [-leave, za0]
    refine za2 (at_) (n) ?_
    simp -implicitDefEqProofs [-leave, hv, h1, hne, w1, w2, h2']
    refine za2 (0) (n + 1) ?_
    simp -implicitDefEqProofs [-leave, hv, h1, hne, w1, w2, h2']
    refine za2 (at_ + 1) (n + 1) ?_
    simp -implicitDefEqProofs [-leave, hv, h1, hne, w1, w2, h2', hap]
    refine za2 (at_ + 1) (n + 1) ?_
    simp -implicitDefEqProofs [-leave, hv, h1, hne, w1, w2, h2']
    refine za2 (at_) (n + 1) ?_
    simp -implicitDefEqProofs [-leave, hv, h1, hne, w1, w2, h2', hT1, hfit]
    refine ⟨hrr _, ?_⟩
    try refine zc8 (by first | omega | (simp; done) | (simp; omega)) ?_
    have hB1 := zaw (rows := fl) (p := at_ + 1) (ys := List.take (n - at_) (List.drop at_ fl)) (by omega)
    have hBS := hfs.ovr ((hfs.drop at_).take (n - at_)) (at_ + 1)
    generalize hB : ovr fl (at_ + 1) (List.take (n - at_) (List.drop at_ fl)) = B at *
    simp -implicitDefEqProofs [-leave, hv, h1, hne, w1, w2, h2']
    refine za2 (at_) (n + 1) ?_
    simp -implicitDefEqProofs [-leave, hv, h1, hne, w1, w2, h2', hv1, hT2]
    try refine zc8 (by first | omega | (simp; done) | (simp; omega)) ?_
    simp -implicitDefEqProofs [-leave, hv, h1, hne, w1, w2, h2']
    rw [zdg (by omega) (by simpa using hBS.ovr hvS at_)]
    rfl
   ·exact zbz rfl rfl rfl (by show 0 + (n + 1) ≤ (ovr (ovr fl (at_ + 1) _) at_ [v]).length; rw [zaw (by rw [zaw (by omega)]; simp; omega), zaw (by omega)]; omega) (zpg hn hlt h2 htake) (.inl rfl)
  ·have h3 : fl.length = n := by omega
   have h3' : (n : Int) < (n : Int) + 1 := by omega
   refine ⟨.ref 1 0 (n + 1), [⟨fl, 2, .mut⟩, ⟨ovr (ovr (fl.take at_ ++ List.replicate (n + 1 - at_) (TT 204).zero) at_ [v]) (at_ + 1) ((fl.drop at_).take (n - at_)), 2, .mut⟩], ?_, ?_⟩
   ·refine zeb [] [66] [] [241] (by simp) ovls241 za4 ?_
    simp -implicitDefEqProofs [-leave, za0]
    refine za2 (at_) (n) ?_
    simp -implicitDefEqProofs [-leave, hv, h1, hne, w1, w2, h3, h3']
    refine za2 (0) (at_) ?_
    simp -implicitDefEqProofs [-leave, hv, h1, hne, w1, w2, w3, h3, h3']
    refine ztx (by omega) ?_
    have e1 : at_ + (n + 1 - at_) = n + 1 := by omega
    simp -implicitDefEqProofs [-leave, hv, h1, hne, w1, w2, w3, h3, h3', e1]
    repeat' (first | (refine zag (by omega) ?_) | (refine zbw (by omega) ?_))
    simp -implicitDefEqProofs [-leave, hv, h1, hne, w1, w2, w3, h3, h3', e1]
    have hA1 : (List.take at_ fl ++ List.replicate (n + 1 - at_) [D.int IntKind.i64 0, D.int IntKind.i64 0]).length = n + 1 := by simp; omega
    generalize hA : List.take at_ fl ++ List.replicate (n + 1 - at_) [D.int IntKind.i64 0, D.int IntKind.i64 0] = A at *
    refine za2 (at_) (n + 1) ?_
    simp -implicitDefEqProofs [-leave, hv, h1, hne, w1, w2, h3, hv1, hT2]
    try refine zc8 (by first | omega | (simp; done) | (simp; omega)) ?_
    have hB1 := zaw (rows := A) (p := at_) (ys := [v]) (by simp; omega)
    generalize hB : ovr A at_ [v] = B at *
    simp -implicitDefEqProofs [-leave, hv, h1, hne, w1, w2, h3]
    refine za2 (at_ + 1) (n + 1) ?_
    simp -implicitDefEqProofs [-leave, hv, h1, hne, w1, w2, h3]
    refine za2 (at_) (n) ?_
    simp -implicitDefEqProofs [-leave, hv, h1, hne, w1, w2, h3, hfit, hT3]
    refine ⟨hrr _, ?_⟩
    try refine zc8 (by first | omega | (simp; done) | (simp; omega)) ?_
    try simp -implicitDefEqProofs [-leave, hv, h1, hne, w1, w2, h3]
    rw [zew (by omega) rfl rfl (by simpa using hfs)]
    simp [hA, hB]
   ·exact zbz rfl rfl rfl (by
     have hA1 : (List.take at_ fl ++ List.replicate (n + 1 - at_) (TT 204).zero).length = n + 1 := by simp; omega
     show 0 + (n + 1) ≤ (ovr (ovr _ at_ [v]) (at_ + 1) _).length
     rw [zaw (by rw [zaw (by rw [hA1]; simp; omega), hA1]; omega), zaw (by rw [hA1]; simp; omega), hA1]; omega) (zpo hn hlt h3 htake) (.inr (by omega))
theorem zrb (rows : List (List D)) (hf : Fits 5 rows) (hl : rows.length * 40 ≤ 140737488355328) : Den PP 124 [.sl rows rows.length] [] (.ref 0 0 rows.length) [⟨rows, 5, .mut⟩] := by
 cases hr : rows with
 | nil =>
   refine zno (pre := []) (post := []) ?_ ?_
   ·refine zaj [] [] zbq ?_
    simp -implicitDefEqProofs [za8]
   ·refine zaj [] [] zbq ?_
    simp -implicitDefEqProofs [za8, Fits]
 | cons r rs =>
   rw [hr] at hf hl
   have h63 : (r :: rs).length ≤ 9223372036854775807 := by omega
   have hlen : 0 < (r :: rs).length := by simp
   generalize hn : (r :: rs).length = n at *
   generalize r :: rs = rows at *
   refine zaj [] [] zbq ?_
   simp -implicitDefEqProofs [za8, hlen, List.take_of_length_le (Nat.le_of_eq hn), hf, hn, hl, h63]
theorem zxg (rows : List (List D)) (v : List D) (at_ : Nat) (hf : Fits 5 rows) (hst : StillR rows) (hv : Fits 5 [v]) (hvs : ∀ d ∈ v, d.still = true) (hat : at_ ≤ rows.length) (hl : rows.length ≤ 1000000) :
 GivesC (DenF PP [0]) 128 rows 5 [.int .i64 at_, .sl [v] 1] (insL rows at_ v) := by
 refine zlo (fun r hr => (hf r hr).1) hst fun fl hfl hrow hfs htake hget => ?_
 have hv1 : v.length = 5 := (hv v (by simp)).1
 obtain ⟨c0, cs0, hvv⟩ : ∃ c0 cs0, v = c0 :: cs0 := by
  cases v with
  | nil => simp at hv1
  | cons a b => exact ⟨a, b, rfl⟩
 have hvS : StillR [v] := by intro r hr; rw [List.mem_singleton.1 hr]; exact hvs
 generalize hn : rows.length = n at *
 have w1 : IntKind.wrap .i64 ((n : Int) + 1) = n + 1 := zaq (by omega) (by omega)
 have w2 : IntKind.wrap .i64 ((at_ : Int) + 1) = at_ + 1 := zaq (by omega) (by omega)
 have w3 : IntKind.wrap .i64 ((n : Int) + 1 - at_) = ((n + 1 - at_ : Nat) : Int) := by rw [zaq (by omega) (by omega)]; omega
 by_cases h1 : at_ = n
 ·subst h1
  by_cases h2 : at_ + 1 ≤ fl.length
  ·refine ⟨.ref 0 0 (at_ + 1), [⟨ovr fl at_ [v], 5, .mut⟩], ?_, ?_⟩
   ·refine zeb [] [66] [] [197] (by simp) ovls197 za3 ?_
    simp -implicitDefEqProofs [-leave, za1]
    refine za2 (at_) (at_) ?_
    simp -implicitDefEqProofs [-leave, hv]
    repeat' (first | (refine zag (by omega) ?_) | (refine zbw (by omega) ?_))
    simp -implicitDefEqProofs [-leave, hv, h2]
    rw [zdg (by omega) (by simpa using ((hfs.take _).append hvS).append (hfs.drop _))]
    simp [ovr]
   ·exact zbz rfl rfl rfl (by rw [zaw (by simpa using h2)]; omega) (zp2 hn h2 htake) (.inl rfl)
  ·have h3 : fl.length = at_ := by omega
   refine ⟨.ref 1 0 (at_ + 1), [⟨fl, 5, .mut⟩, ⟨fl.take at_ ++ [v], 5, .mut⟩], ?_, ?_⟩
   ·refine zeb [] [66] [] [197] (by simp) ovls197 za3 ?_
    simp -implicitDefEqProofs [-leave, za1]
    by_cases h0 : at_ = 0
    ·refine za2 (at_) (at_) ?_
     simp -implicitDefEqProofs [-leave, hv, h3]
     repeat' (first | (refine zag (by omega) ?_) | (refine zbw (by omega) ?_))
     simp -implicitDefEqProofs [-leave, hv, h3]
     rw [zew (by omega) rfl rfl (by simpa using hfs)]
     rfl
    ·refine zn5 (at_) ?_
     simp -implicitDefEqProofs [-leave, hv, h3]
     repeat' (first | (refine zag (by omega) ?_) | (refine zbw (by omega) ?_))
     simp -implicitDefEqProofs [-leave, hv, h3]
     rw [zew (by omega) rfl rfl (by simpa using hfs)]
     rfl
   ·exact zbz rfl rfl rfl (by simp; omega) (zpa hn htake) (.inr (by omega))
 ·have hlt : at_ < n := by omega
  have hT1 : ∀ X : List (List D), List.take (n - at_) (List.take (n + 1 - at_) X) = List.take (n - at_) X := by
   intro X
   rw [List.take_take]
   congr 1
   omega
  have hfit : Fits 5 (List.take (n - at_) (List.drop at_ fl)) := by
   intro r hr
   rw [← List.drop_take, htake] at hr
   exact hf r (List.mem_of_mem_drop hr)
  have hrr : ∀ m, ∀ r ∈ List.take m (List.drop at_ fl), r.length = 5 := fun m r hr => hrow r (List.mem_of_mem_drop (List.mem_of_mem_take hr))
  have hT3 : ∀ X : List (List D), List.take (n - at_) (List.take (n - at_) X) = List.take (n - at_) X := by intro X; rw [List.take_take]; congr 1; omega
  have hT2 : List.take (n + 1 - at_) [v] = [v] := List.take_of_length_le (by simp; omega)
  have hap : ∀ (fl' : List (List D)) (bs : List Blk) (o l : Nat), apartD (⟨fl', 5, .mut⟩ :: bs) [.sl [v] 1, .ref 0 o l] = true := by
   intro _ _ _ _
   rw [hvv]
   rfl
  have hyl : (List.take (n - at_) (List.drop at_ fl)).length = n - at_ := by simp; omega
  have hne : ¬ (at_ : Int) = n := by omega
  by_cases h2 : n + 1 ≤ fl.length
  ·have h2' : ¬ ((fl.length : Int) < (n : Int) + 1) := by omega
   refine ⟨.ref 0 0 (n + 1), [⟨ovr (ovr fl (at_ + 1) ((fl.drop at_).take (n - at_))) at_ [v], 5, .mut⟩], ?_, ?_⟩
   ·refine zeb [] [66] [] [197] (by simp) ovls197 za3 ?_
    simp -implicitDefEqProofs [-leave, za1]
    refine za2 (at_) (n) ?_
    simp -implicitDefEqProofs [-leave, hv, h1, hne, w1, w2, h2']
    refine za2 (0) (n + 1) ?_
    simp -implicitDefEqProofs [-leave, hv, h1, hne, w1, w2, h2']
    refine za2 (at_ + 1) (n + 1) ?_
    simp -implicitDefEqProofs [-leave, hv, h1, hne, w1, w2, h2', hap]
    refine za2 (at_ + 1) (n + 1) ?_
    simp -implicitDefEqProofs [-leave, hv, h1, hne, w1, w2, h2']
    refine za2 (at_) (n + 1) ?_
    simp -implicitDefEqProofs [-leave, hv, h1, hne, w1, w2, h2', hT1, hfit]
    refine ⟨hrr _, ?_⟩
    try refine zc8 (by first | omega | (simp; done) | (simp; omega)) ?_
    have hB1 := zaw (rows := fl) (p := at_ + 1) (ys := List.take (n - at_) (List.drop at_ fl)) (by omega)
    have hBS := hfs.ovr ((hfs.drop at_).take (n - at_)) (at_ + 1)
    generalize hB : ovr fl (at_ + 1) (List.take (n - at_) (List.drop at_ fl)) = B at *
    simp -implicitDefEqProofs [-leave, hv, h1, hne, w1, w2, h2']
    refine za2 (at_) (n + 1) ?_
    simp -implicitDefEqProofs [-leave, hv, h1, hne, w1, w2, h2', hv1, hT2]
    try refine zc8 (by first | omega | (simp; done) | (simp; omega)) ?_
    simp -implicitDefEqProofs [-leave, hv, h1, hne, w1, w2, h2']
    rw [zdg (by omega) (by simpa using hBS.ovr hvS at_)]
    rfl
   ·exact zbz rfl rfl rfl (by show 0 + (n + 1) ≤ (ovr (ovr fl (at_ + 1) _) at_ [v]).length; rw [zaw (by rw [zaw (by omega)]; simp; omega), zaw (by omega)]; omega) (zpg hn hlt h2 htake) (.inl rfl)
  ·have h3 : fl.length = n := by omega
   have h3' : (n : Int) < (n : Int) + 1 := by omega
   refine ⟨.ref 1 0 (n + 1), [⟨fl, 5, .mut⟩, ⟨ovr (ovr (fl.take at_ ++ List.replicate (n + 1 - at_) (TT 46).zero) at_ [v]) (at_ + 1) ((fl.drop at_).take (n - at_)), 5, .mut⟩], ?_, ?_⟩
   ·refine zeb [] [66] [] [197] (by simp) ovls197 za3 ?_
    simp -implicitDefEqProofs [-leave, za1]
    refine za2 (at_) (n) ?_
    simp -implicitDefEqProofs [-leave, hv, h1, hne, w1, w2, h3, h3']
    refine za2 (0) (at_) ?_
    simp -implicitDefEqProofs [-leave, hv, h1, hne, w1, w2, w3, h3, h3']
    refine ztx (by omega) ?_
    have e1 : at_ + (n + 1 - at_) = n + 1 := by omega
    simp -implicitDefEqProofs [-leave, hv, h1, hne, w1, w2, w3, h3, h3', e1]
    repeat' (first | (refine zag (by omega) ?_) | (refine zbw (by omega) ?_))
    simp -implicitDefEqProofs [-leave, hv, h1, hne, w1, w2, w3, h3, h3', e1]
    have hA1 : (List.take at_ fl ++ List.replicate (n + 1 - at_) [D.int IntKind.i64 0, D.int IntKind.i64 0, D.int IntKind.i64 0, D.int IntKind.i64 0, D.bool false]).length = n + 1 := by simp; omega
    generalize hA : List.take at_ fl ++ List.replicate (n + 1 - at_) [D.int IntKind.i64 0, D.int IntKind.i64 0, D.int IntKind.i64 0, D.int IntKind.i64 0, D.bool false] = A at *
    refine za2 (at_) (n + 1) ?_
    simp -implicitDefEqProofs [-leave, hv, h1, hne, w1, w2, h3, hv1, hT2]
    try refine zc8 (by first | omega | (simp; done) | (simp; omega)) ?_
    have hB1 := zaw (rows := A) (p := at_) (ys := [v]) (by simp; omega)
    generalize hB : ovr A at_ [v] = B at *
    simp -implicitDefEqProofs [-leave, hv, h1, hne, w1, w2, h3]
    refine za2 (at_ + 1) (n + 1) ?_
    simp -implicitDefEqProofs [-leave, hv, h1, hne, w1, w2, h3]
    refine za2 (at_) (n) ?_
    simp -implicitDefEqProofs [-leave, hv, h1, hne, w1, w2, h3, hfit, hT3]
    refine ⟨hrr _, ?_⟩
    try refine zc8 (by first | omega | (simp; done) | (simp; omega)) ?_
    try simp -implicitDefEqProofs [-leave, hv, h1, hne, w1, w2, h3]
    rw [zew (by omega) rfl rfl (by simpa using hfs)]
    simp [hA, hB]
   ·exact zbz rfl rfl rfl (by
     have hA1 : (List.take at_ fl ++ List.replicate (n + 1 - at_) (TT 46).zero).length = n + 1 := by simp; omega
     show 0 + (n + 1) ≤ (ovr (ovr _ at_ [v]) (at_ + 1) _).length
     rw [zaw (by rw [zaw (by rw [hA1]; simp; omega), hA1]; omega), zaw (by rw [hA1]; simp; omega), hA1]; omega) (zpo hn hlt h3 htake) (.inr (by omega))
theorem z28 (rows : List (List D)) (hf : Fits 3 rows) (hl : rows.length * 24 ≤ 140737488355328) : Den PP 170 [.sl rows rows.length] [] (.ref 0 0 rows.length) [⟨rows, 3, .mut⟩] := by
 cases hr : rows with
 | nil =>
   refine zno (pre := []) (post := []) ?_ ?_
   ·refine zaj [] [] zbp ?_
    simp -implicitDefEqProofs [za9]
   ·refine zaj [] [] zbp ?_
    simp -implicitDefEqProofs [za9, Fits]
 | cons r rs =>
   rw [hr] at hf hl
   have h63 : (r :: rs).length ≤ 9223372036854775807 := by omega
   have hlen : 0 < (r :: rs).length := by simp
   generalize hn : (r :: rs).length = n at *
   generalize r :: rs = rows at *
   refine zaj [] [] zbp ?_
   simp -implicitDefEqProofs [za9, hlen, List.take_of_length_le (Nat.le_of_eq hn), hf, hn, hl, h63]
theorem zuc (rows : List (List D)) (hf : Fits 2 rows) (hl : rows.length * 16 ≤ 140737488355328) : Den PP 145 [.sl rows rows.length] [] (.ref 0 0 rows.length) [⟨rows, 2, .mut⟩] := by
 cases hr : rows with
 | nil =>
   refine zno (pre := []) (post := []) ?_ ?_
   ·refine zaj [] [] zbx ?_
    simp -implicitDefEqProofs [zbg]
   ·refine zaj [] [] zbx ?_
    simp -implicitDefEqProofs [zbg, Fits]
 | cons r rs =>
   rw [hr] at hf hl
   have h63 : (r :: rs).length ≤ 9223372036854775807 := by omega
   have hlen : 0 < (r :: rs).length := by simp
   generalize hn : (r :: rs).length = n at *
   generalize r :: rs = rows at *
   refine zaj [] [] zbx ?_
   simp -implicitDefEqProofs [zbg, hlen, List.take_of_length_le (Nat.le_of_eq hn), hf, hn, hl, h63]
theorem z37 (rows : List (List D)) (hf : Fits 11 rows) (hl : rows.length * 104 ≤ 140737488355328) : Den PP 205 [.sl rows rows.length] [] (.ref 0 0 rows.length) [⟨rows, 11, .mut⟩] := by
 cases hr : rows with
 | nil =>
   refine zno (pre := []) (post := []) ?_ ?_
   ·refine zaj [] [] zby ?_
    simp -implicitDefEqProofs [zbh]
   ·refine zaj [] [] zby ?_
    simp -implicitDefEqProofs [zbh, Fits]
 | cons r rs =>
   rw [hr] at hf hl
   have h63 : (r :: rs).length ≤ 9223372036854775807 := by omega
   have hlen : 0 < (r :: rs).length := by simp
   generalize hn : (r :: rs).length = n at *
   generalize r :: rs = rows at *
   refine zaj [] [] zby ?_
   simp -implicitDefEqProofs [zbh, hlen, List.take_of_length_le (Nat.le_of_eq hn), hf, hn, hl, h63]
end Go.AM
/- AM: contracts: a view's ends, a key's owner. -/
namespace Go.AM
set_option linter.unusedSimpArgs false
set_option linter.unusedVariables false
set_option maxRecDepth 8000
set_option maxHeartbeats 0
theorem zs7 (v : View) (hs : v.small) : Den PP 136 [viewD v, .fn 137 [] []] [] (pairD (succV v)) [] := by
 refine zaj [] [] zpq ?_
 simp -implicitDefEqProofs [zmm, viewD, View.cells, peersD, intsD]
 refine zaa (zh7 v hs) ?_
 simp -implicitDefEqProofs
 refine zaf (fun h => ?_) (fun h => ?_)
 rotate_left
 ·simp -implicitDefEqProofs [h, succV, pairD]
 simp -implicitDefEqProofs [h]
 refine zab (fun h2 => ?_) (fun h2 => ?_)
 ·have h3 : v.peers = [] := by simpa using h2
  simp -implicitDefEqProofs [h, h2, h3, succV, pairD]
 simp -implicitDefEqProofs [h2]
 refine zaa (zj4 v hs.1) ?_
 cases hp : v.peers with
 | nil => rw [hp] at h2; simp at h2
 | cons p ps =>
   have hc := zyq p.id (ps.map Peer.id)
   simp [intsD] at hc
   simp -implicitDefEqProofs [downTo]
   refine zaa hc ?_
   simp -implicitDefEqProofs [h, hp, succV, pairD]

theorem zth (v : View) (hs : v.small) : Den PP 136 [viewD v, .fn 143 [] []] [] (pairD (predV v)) [] := by
 refine zaj [] [] zpq ?_
 simp -implicitDefEqProofs [zmm, viewD, View.cells, peersD, intsD]
 refine zaa (zh7 v hs) ?_
 simp -implicitDefEqProofs
 refine zaf (fun h => ?_) (fun h => ?_)
 rotate_left
 ·simp -implicitDefEqProofs [h, predV, pairD]
 simp -implicitDefEqProofs [h]
 refine zab (fun h2 => ?_) (fun h2 => ?_)
 ·have h3 : v.peers = [] := by simpa using h2
  simp -implicitDefEqProofs [h, h2, h3, predV, pairD]
 simp -implicitDefEqProofs [h2]
 refine zaa (zj4 v hs.1) ?_
 rcases List.eq_nil_or_concat v.peers with hp | ⟨ps, p, hp⟩
 ·rw [hp] at h2; simp at h2
 ·have hl : ps.length < cap := by
   have := hs.1
   rw [hp] at this
   unfold cap16 at this
   unfold cap
   simp at this
   omega
  have hc := zzm p.id (ps.map Peer.id) (by simpa using hl)
  simp [intsD] at hc
  rw [hp]
  simp -implicitDefEqProofs [downTo]
  refine zaa hc ?_
  simp -implicitDefEqProofs [h, hp, predV, pairD]
theorem zt2 (v : View) (hs : v.small) : Den PP 50 [viewD v] [] (pairD (succV v)) [] := by
 have hc := zs7 v hs
 simp [viewD, View.cells, peersD, intsD, pairD] at hc
 refine zaj [] [] zvz ?_
 simp -implicitDefEqProofs [zof, viewD, View.cells, peersD, intsD, pairD]
 refine zaa hc ?_
 simp -implicitDefEqProofs
theorem z36 (v : View) (hs : v.small) : Den PP 52 [viewD v] [] (pairD (predV v)) [] := by
 have hc := zth v hs
 simp [viewD, View.cells, peersD, intsD, pairD] at hc
 refine zaj [] [] zu1 ?_
 simp -implicitDefEqProofs [zo4, viewD, View.cells, peersD, intsD, pairD]
 refine zaa hc ?_
 simp -implicitDefEqProofs
end Go.AM
/- AM: contracts: a key's owner. -/
namespace Go.AM
set_option linter.unusedSimpArgs false
set_option linter.unusedVariables false
set_option maxRecDepth 8000
set_option maxHeartbeats 0
theorem z5w (one : Int) (ids : List Int) (hl : ids.length ≤ cap) : Den PP 138 [.int .i64 one, intsD ids] [] (.bool (place one && decide (ids.length ≤ 64) && ids.all place)) [] := by
 have hc := zih ids hl
 simp [intsD] at hc
 refine zaj [] [] z1u ?_
 simp -implicitDefEqProofs [zu7, intsD]
 refine zaa (zat one) ?_
 simp -implicitDefEqProofs
 refine zac (fun h => ?_) (fun h => ?_)
 rotate_left
 ·simp -implicitDefEqProofs [h]
 simp -implicitDefEqProofs [h]
 refine zak (fun h2 => ?_) (fun h2 => ?_)
 rotate_left
 ·simp -implicitDefEqProofs [h, h2]
  omega
 simp -implicitDefEqProofs [h2]
 refine zaa hc ?_
 simp -implicitDefEqProofs
 intros
 omega
theorem zq1 (key_ x : Int) (xs : List Int) (hl : xs.length < cap) : Den PP 223 [intsD (x :: xs), .fn 203 [] [.mem [.int .i64 key_]]] [] (.int .i64 (nearest key_ x xs)) [] := by
 refine zaj [] [] zg3 ?_
 have h0 : ¬ ((xs.length : Int) + 1 < 1) := by omega
 simp -implicitDefEqProofs [zeg, intsD, h0, irow]
 refine zb6 (xs.length + 1) ?_
 have key : ∀ (Q : Ex → St → Prop) (r : Int) (hQ1 : ∀ fr, fr 5 = .int .i64 r → Q .normal ⟨fr, []⟩) (ys : List Int) (hys : ys.length ≤ cap) (rest : List Int) (i : Nat) (m : Int) (fr : Nat → D), ys.drop i = rest → i ≤ ys.length →
  fr 0 = .sl (ys.map irow) ys.length → fr 1 = .fn 203 [] [.mem [.int .i64 key_]] → fr 5 = .int .i64 m → fr 6 = .int .i64 i → nearest key_ m rest = r → sLoop (cf 0 [] []) 0 zbo (blockQ 0 Q) (rest.length + 1) ⟨fr, []⟩ := by
  intro Q r hQ1 ys hys rest
  induction rest with
  | nil =>
    intro i m fr e hi h0 h1 h5 h6 hm
    refine zaz zbo.eq_1 ?_
    have hi' := zem e hi
    simp -implicitDefEqProofs [h0, h1, h5, h6, hi']
    exact hQ1 _ (by rw [← hm]; simp [h0, h1, h5, h6, nearest])
  | cons y rest ih =>
    intro i m fr e hi h0 h1 h5 h6 hm
    refine zaz zbo.eq_1 ?_
    obtain ⟨hlt, hget, hd, hlen⟩ := zdq e
    have hlt' : (i : Int) < ys.length := by omega
    have hw := zav (n := i) (by unfold cap at hys; omega)
    simp only [nearest] at hm
    simp -implicitDefEqProofs [h0, h1, h5, h6, hlt', hget, irow]
    refine zaa (z0g key_ y m) ?_
    simp -implicitDefEqProofs [zj3]
    refine zad (fun h2 => ?_) (fun h2 => ?_)
    all_goals simp -implicitDefEqProofs [h2, h0, h1, h5, h6, hw, hlt', hget, irow]
    ·exact ih (i + 1) y _ hd (by omega) (by simp [h0, h1, h5, h6]) (by simp [h0, h1, h5, h6]) (by simp) (by simp) (by rw [← hm, if_pos h2])
    ·exact ih (i + 1) m _ hd (by omega) (by simp [h0, h1, h5, h6]) (by simp [h0, h1, h5, h6]) (by simp [h0, h1, h5, h6]) (by simp) (by rw [← hm, if_neg h2])
 refine key _ (nearest key_ x xs) (fun fr h => ?_) (x :: xs) (by simp; omega) xs 1 x _ rfl (by simp) rfl rfl rfl rfl rfl
 simp -implicitDefEqProofs [h]
theorem z4t (ids : List Int) (key : Int) (hl : ids.length ≤ cap) : Den PP 188 [intsD ids, .int .i64 key] [] (pairD (rowOwner ids key)) [] := by
 have hc := z5w key ids hl
 simp only [rowOwner, pairD]
 generalize (place key && decide (ids.length ≤ 64) && ids.all place) = b at *
 simp [intsD] at hc
 refine zaj [] [] zuv ?_
 simp -implicitDefEqProofs [zox, intsD]
 refine zaa hc ?_
 simp -implicitDefEqProofs
 cases b
 ·simp -implicitDefEqProofs
 simp -implicitDefEqProofs
 cases ids with
 | nil => simp -implicitDefEqProofs
 | cons x xs =>
   have hm := zq1 key x xs (by simpa [Nat.lt_iff_add_one_le] using hl)
   simp [intsD] at hm
   simp -implicitDefEqProofs
   refine zaa (z8u key) ?_
   simp -implicitDefEqProofs
   refine zaa hm ?_
   simp -implicitDefEqProofs
theorem z23 (v : View) (key : Int) (hs : v.small) : Den PP 114 [viewD v, .int .i64 key] [] (pairD (ownerV v key)) [] := by
 have hc := zh7 v hs
 have hi := zj4 v hs.1
 simp only [ownerV, pairD]
 simp [viewD, View.cells, peersD, intsD] at hc hi
 refine zaj [17] [] zs6 ?_
 simp -implicitDefEqProofs [znj, viewD, View.cells, peersD, intsD]
 refine zaa hc ?_
 simp -implicitDefEqProofs
 refine zac (fun h => ?_) (fun h => ?_)
 rotate_left
 ·simp -implicitDefEqProofs [h]
 simp -implicitDefEqProofs [h]
 refine zaa (zat key) ?_
 simp -implicitDefEqProofs
 refine zaf (fun h2 => ?_) (fun h2 => ?_)
 rotate_left
 ·simp -implicitDefEqProofs [h, h2]
 simp -implicitDefEqProofs [h, h2]
 refine zaa hi ?_
 have hb1 : (v.peers.length + 1) * 8 ≤ 140737488355328 := by
  have := hs.1
  unfold cap16 at this
  omega
 have hb2 : v.peers.length ≤ 9223372036854775806 := by omega
 have ho := z4t (v.peers.map Peer.id ++ [v.id]) key (by unfold cap; simp; omega)
 simp [intsD, pairD, irow] at ho
 simp -implicitDefEqProofs [downTo, hb1, hb2, Fits]
 refine zaa ho ?_
 simp -implicitDefEqProofs
end Go.AM
/- AM: contracts: the document's answers about views. -/
namespace Go.AM
set_option linter.unusedSimpArgs false
set_option linter.unusedVariables false
set_option maxRecDepth 8000
set_option maxHeartbeats 0
theorem zqt (xs : List Int) (hl : xs.length ≤ cap) : Den PP 213 [intsD xs] [] (.bool (refPassiveMay xs)) [] := by
 have hc := zl4 xs hl
 simp [intsD] at hc
 refine zaj [] [] zhy ?_
 simp -implicitDefEqProofs [zeo, intsD]
 refine zb6 (xs.length + 1) ?_
 have key : ∀ (Q : Ex → St → Prop) (r : Bool) (hQ1 : ∀ fr, r = true → fr 0 = .sl (xs.map irow) xs.length → Q .normal ⟨fr, []⟩) (hQ2 : ∀ fr bs, r = false → fr 2 = .bool false → Q .ret ⟨fr, bs⟩) (n j : Nat) (fr : Nat → D), xs.length - j ≤ n → 1 ≤ j →
  fr 0 = .sl (xs.map irow) xs.length → fr 3 = .int .i64 j → incrAt xs j = r → sLoop (cf 0 [] []) 0 zbv (blockQ 0 Q) (n + 1) ⟨fr, []⟩ := by
  intro Q r hQ1 hQ2 n
  induction n with
  | zero =>
    intro j fr hn hj h0 h3 hm
    refine zaz zbv.eq_1 ?_
    have hx : ¬ (j < xs.length) := by omega
    simp -implicitDefEqProofs [h0, h3, hx]
    exact hQ1 _ (by rw [← hm]; exact zsb (List.drop_of_length_le (by omega))) (by simp [h0, h3])
  | succ n ih =>
    intro j fr hn hj h0 h3 hm
    refine zaz zbv.eq_1 ?_
    by_cases hx : j < xs.length
    ·have hlt' : (j : Int) < xs.length := by omega
     have hw := zav (n := j) (by unfold cap at hl; omega)
     have hwp : IntKind.wrap .i64 ((j : Int) - 1) = ((j - 1 : Nat) : Int) := by unfold cap at hl; rw [zaq (by omega) (by omega)]; omega
     have hlt2 : ((j - 1 : Nat) : Int) < xs.length := by omega
     obtain ⟨x, hxv⟩ : ∃ x, xs[j]? = some x := ⟨xs[j], by simp⟩
     obtain ⟨y, hyv⟩ : ∃ y, xs[j - 1]? = some y := ⟨xs[j - 1], by simp⟩
     rw [zyg hj hyv hxv] at hm
     simp -implicitDefEqProofs [h0, h3, hlt', hwp, hlt2, hxv, hyv, irow]
     refine zad (fun h2 => ?_) (fun h2 => ?_)
     all_goals simp -implicitDefEqProofs [h2, h0, h3, hw]
     ·exact hQ2 _ _ (by rw [← hm]; simp; intros; omega) (by rfl)
     ·exact ih (j + 1) _ (by omega) (by omega) (by simp [h0, h3]) (by simp) (by rw [← hm]; simp [show y < x by omega])
    ·simp -implicitDefEqProofs [h0, h3, hx]
     exact hQ1 _ (by rw [← hm]; exact zsb (List.drop_of_length_le (by omega))) (by simp [h0, h3])
 refine key _ (incr xs) (fun fr h h0 => ?_) (fun fr bs h h2 => ?_) xs.length 1 _ (by omega) (by omega) rfl rfl (zv3 xs)
 ·simp -implicitDefEqProofs [h, h0]
  refine zaa hc ?_
  simp -implicitDefEqProofs
  refine zac (fun h2 => ?_) (fun h2 => ?_)
  all_goals simp -implicitDefEqProofs [h2, h, h0, refPassiveMay]
  omega
 ·simp -implicitDefEqProofs [h, h2, refPassiveMay]
end Go.AM
/- AM: contracts: the document's peers. -/
namespace Go.AM
set_option linter.unusedSimpArgs false
set_option linter.unusedVariables false
set_option maxRecDepth 8000
set_option maxHeartbeats 0
theorem zvs (base : Int) (ps : List Peer) (hl : ps.length ≤ cap) : Den PP 212 [.int .i64 base, peersD ps] [] (.bool (refPeersMay base ps)) [] := by
 refine zaj [] [] zi0 ?_
 simp -implicitDefEqProofs [zfn, peersD]
 refine zb6 (ps.length + 1) ?_
 have key : ∀ (Q : Ex → St → Prop) (r : Bool) (hQ1 : ∀ fr, r = true → fr 0 = .int .i64 base → fr 1 = .sl (ps.map Peer.row) ps.length → Q .normal ⟨fr, []⟩) (hQ2 : ∀ fr bs, r = false → fr 4 = .bool false → Q .ret ⟨fr, bs⟩) (rest : List Peer) (i : Nat) (fr : Nat → D), ps.drop i = rest → i ≤ ps.length →
  fr 0 = .int .i64 base → fr 1 = .sl (ps.map Peer.row) ps.length → fr 5 = .int .i64 i → refPeersOk base (if i = 0 then none else ps[i - 1]?) rest = r → sLoop (cf 0 [] []) 0 zb7 (blockQ 0 Q) (rest.length + 1) ⟨fr, []⟩ := by
  intro Q r hQ1 hQ2 rest
  induction rest with
  | nil =>
    intro i fr e hi h0 h1 h5 hm
    refine zaz zb7.eq_1 ?_
    have hi' := zem e hi
    simp -implicitDefEqProofs [h0, h1, h5, hi']
    exact hQ1 _ hm.symm (by simp [h0, h1, h5]) (by simp [h0, h1, h5])
  | cons p rest ih =>
    intro i fr e hi h0 h1 h5 hm
    refine zaz zb7.eq_1 ?_
    obtain ⟨hlt, hget, hd, hlen⟩ := zdq e
    have hlt' : (i : Int) < ps.length := by omega
    have hw := zav (n := i) (by unfold cap at hl; omega)
    have hprev : (if i + 1 = 0 then none else ps[i + 1 - 1]?) = some p := by simp [hget]
    simp only [refPeersOk] at hm
    simp -implicitDefEqProofs [h0, h1, h5, hlt', hget, Peer.row]
    refine zaa (zc5 p.id) ?_
    simp -implicitDefEqProofs [h0, h1, h5]
    refine zac (fun g1 => ?_) (fun g1 => ?_)
    rotate_left
    ·simp -implicitDefEqProofs [g1, h0, h1, h5]
     exact hQ2 _ _ (by rw [← hm]; simp [g1]) (by rfl)
    simp -implicitDefEqProofs [g1, h0, h1, h5, hlt', hget, Peer.row]
    refine zal (fun g2 => ?_) (fun g2 => ?_)
    ·simp -implicitDefEqProofs [g2, h0, h1, h5]
     exact hQ2 _ _ (by rw [← hm]; simp at g2; simp [g2]) (by rfl)
    simp -implicitDefEqProofs [g2, h0, h1, h5, hlt', hget, Peer.row]
    refine zah (fun g3 => ?_) (fun g3 => ?_)
    ·simp -implicitDefEqProofs [g3, h0, h1, h5]
     exact hQ2 _ _ (by rw [← hm]; simp; intros; omega) (by rfl)
    simp -implicitDefEqProofs [g3, h0, h1, h5, hlt', hget, Peer.row]
    refine zah (fun g4 => ?_) (fun g4 => ?_)
    ·simp -implicitDefEqProofs [g4, h0, h1, h5]
     exact hQ2 _ _ (by rw [← hm]; simp; intros; omega) (by rfl)
    simp -implicitDefEqProofs [g4, h0, h1, h5, hlt', hget, Peer.row]
    have g2' : decide (p.id ≠ base) = true := by simp at g2; simp [g2]
    rw [g1, g2', decide_eq_true (show 0 ≤ p.missed by omega), decide_eq_true (show p.missed < 3 by omega)] at hm
    by_cases hi0 : i = 0
    ·simp -implicitDefEqProofs [hi0, h0, h1, h5]
     rw [hi0] at hw
     simp -implicitDefEqProofs at hw
     simp -implicitDefEqProofs [hw]
     refine ih 1 _ (by rw [← hd, hi0]) (by omega) (by simp [h0, h1, h5]) (by simp [h0, h1, h5]) (by simp) ?_
     rw [hi0] at hprev hm
     rw [← hm]
     simp at hprev ⊢
     rw [hprev]
    ·have hpos : 0 < i := by omega
     have hwp : IntKind.wrap .i64 ((i : Int) - 1) = ((i - 1 : Nat) : Int) := by unfold cap at hl; rw [zaq (by omega) (by omega)]; omega
     have hlt2 : ((i - 1 : Nat) : Int) < ps.length := by omega
     obtain ⟨q, hq⟩ : ∃ q, ps[i - 1]? = some q := ⟨ps[i - 1], by simp⟩
     rw [if_neg hi0, hq] at hm
     simp -implicitDefEqProofs [hpos, h0, h1, h5, hwp, hlt2, hq, Peer.row]
     refine zaa (z3o base q.id) ?_
     simp -implicitDefEqProofs [h0, h1, h5, hlt', hget, Peer.row]
     refine zaa (z3o base p.id) ?_
     simp -implicitDefEqProofs [h0, h1, h5]
     refine zad (fun h2 => ?_) (fun h2 => ?_)
     all_goals simp -implicitDefEqProofs [h2, h0, h1, h5, hw]
     ·exact hQ2 _ _ (by rw [← hm]; simp; intros; omega) (by rfl)
     ·refine ih (i + 1) _ hd (by omega) (by simp [h0, h1, h5]) (by simp [h0, h1, h5]) (by simp) ?_
      rw [hprev, ← hm]
      simp [show far base q.id < far base p.id by omega]
 refine key _ (refPeersOk base none ps) (fun fr h h0 h1 => ?_) (fun fr bs h h4 => ?_) ps 0 _ rfl (Nat.zero_le _) rfl rfl rfl rfl
 ·simp -implicitDefEqProofs [h, h0, h1]
  refine zaa (zc5 base) ?_
  simp -implicitDefEqProofs [h0, h1]
  refine zac (fun h2 => ?_) (fun h2 => ?_)
  all_goals simp -implicitDefEqProofs [h2, h, h0, h1, refPeersMay]
  omega
 ·simp -implicitDefEqProofs [h, h4, refPeersMay]
end Go.AM
/- AM: contracts: the document's answers about views. -/
namespace Go.AM
set_option linter.unusedSimpArgs false
set_option linter.unusedVariables false
set_option maxRecDepth 8000
set_option maxHeartbeats 0
end Go.AM
/- Plain law: places put in their row, taken out. -/
namespace Go.AM
set_option linter.unusedSimpArgs false
set_option linter.unusedVariables false

theorem z25 : ∀ {xs ys : List Int}, xs.Pairwise (· < ·) → ys.Pairwise (· < ·) → (∀ a, a ∈ xs ↔ a ∈ ys) → xs = ys := by
 intro xs
 induction xs with
 | nil =>
   intro ys _ _ h
   cases ys with
   | nil => rfl
   | cons y ys => exact absurd ((h y).2 (by simp)) (by simp)
 | cons x xs ih =>
   intro ys hx hy h
   cases ys with
   | nil => exact absurd ((h x).1 (by simp)) (by simp)
   | cons y ys =>
     rw [List.pairwise_cons] at hx hy
     have hxy : x = y := by
      have h1 := (h x).1 (by simp)
      have h2 := (h y).2 (by simp)
      rcases List.mem_cons.1 h1 with h1 | h1
      ·exact h1
      ·rcases List.mem_cons.1 h2 with h2 | h2
       ·exact h2.symm
       ·have := hy.1 _ h1
        have := hx.1 _ h2
        omega
     subst hxy
     congr 1
     refine ih hx.2 hy.2 fun a => ?_
     have := h a
     simp only [List.mem_cons] at this
     constructor
     ·intro ha
      rcases this.1 (.inr ha) with h' | h'
      ·subst h'; exact absurd (hx.1 _ ha) (by omega)
      ·exact h'
     ·intro ha
      rcases this.2 (.inr ha) with h' | h'
      ·subst h'; exact absurd (hy.1 _ ha) (by omega)
      ·exact h'
theorem z64 : ∀ xs : List Int, incr xs = true ↔ xs.Pairwise (· < ·) := by
 intro xs
 induction xs with
 | nil => simp [incr]
 | cons x xs ih =>
   cases xs with
   | nil => simp [incr]
   | cons y ys =>
     simp only [incr, Bool.and_eq_true, decide_eq_true_eq, ih, List.pairwise_cons, List.mem_cons]
     constructor
     ·rintro ⟨h1, h2, h3⟩
      refine ⟨?_, h2, h3⟩
      rintro a (rfl | ha)
      ·exact h1
      ·have := h2 a ha
       omega
     ·rintro ⟨h1, h2, h3⟩
      exact ⟨h1 y (.inl rfl), h2, h3⟩
theorem zb1 (xs : List Int) : passiveMay xs = true ↔ xs.Pairwise (· < ·) ∧ (∀ x ∈ xs, place x = true) ∧ xs.length ≤ 16 := by
 rw [← zig]
 simp only [refPassiveMay, Bool.and_eq_true, z64, decide_eq_true_eq, List.all_eq_true]
 constructor
 ·rintro ⟨⟨h1, h2⟩, h3⟩; exact ⟨h1, h2, h3⟩
 ·rintro ⟨h1, h2, h3⟩; exact ⟨⟨h1, h2⟩, h3⟩

def posI (xs : List Int) (id : Int) : Nat := (xs.takeWhile fun x => decide (x < id)).length
theorem z6f (xs : List Int) (id : Int) : posI xs id ≤ xs.length := (List.takeWhile_prefix _).length_le
def insU (id : Int) : List Int → List Int
 | [] => [id]
 | x :: xs => if x < id then x :: insU id xs else id :: x :: xs
theorem zu9 (id : Int) : ∀ xs : List Int, insL xs (posI xs id) id = insU id xs := by
 intro xs
 induction xs with
 | nil => rfl
 | cons x xs ih =>
   unfold insU
   by_cases h : x < id
   ·rw [if_pos h, ← ih]
    simp [posI, insL, List.takeWhile_cons, h]
   ·rw [if_neg h]
    simp [posI, insL, List.takeWhile_cons, h]
theorem zmf {id a : Int} : ∀ {xs : List Int}, a ∈ insU id xs ↔ a = id ∨ a ∈ xs := by
 intro xs
 induction xs with
 | nil => simp [insU]
 | cons x xs ih =>
   unfold insU
   split
   ·simp only [List.mem_cons, ih]
    constructor
    ·rintro (h | h | h)
     ·exact .inr (.inl h)
     ·exact .inl h
     ·exact .inr (.inr h)
    ·rintro (h | h | h)
     ·exact .inr (.inl h)
     ·exact .inl h
     ·exact .inr (.inr h)
   ·simp
theorem zgr (id : Int) (xs : List Int) : (insU id xs).length = xs.length + 1 := by rw [← zu9, zpk]
theorem zoz {id : Int} : ∀ {xs : List Int}, xs.Pairwise (· < ·) → id ∉ xs → (insU id xs).Pairwise (· < ·) := by
 intro xs
 induction xs with
 | nil => intro _ _; simp [insU]
 | cons x xs ih =>
   intro h hn
   rw [List.pairwise_cons] at h
   simp only [List.mem_cons, not_or] at hn
   unfold insU
   split
   ·rename_i hlt
    rw [List.pairwise_cons]
    refine ⟨fun a ha => ?_, ih h.2 hn.2⟩
    rcases zmf.1 ha with rfl | ha
    ·exact hlt
    ·exact h.1 a ha
   ·rename_i hge
    rw [List.pairwise_cons, List.pairwise_cons]
    refine ⟨?_, h⟩
    intro a ha
    rcases List.mem_cons.1 ha with rfl | ha
    ·omega
    ·have := h.1 a ha
     omega
theorem z3p {xs : List Int} {id : Int} (i : Nat) (x : Int) (h : i < posI xs id) (hx : xs[i]? = some x) : x < id := by simpa using zlx _ xs i x h hx
theorem zq7 {xs : List Int} (h : xs.Pairwise (· < ·)) {i j : Nat} {x y : Int} (hij : i < j) (hx : xs[i]? = some x) (hy : xs[j]? = some y) : x < y := by
 obtain ⟨hi, rfl⟩ := List.getElem?_eq_some_iff.1 hx
 obtain ⟨hj, rfl⟩ := List.getElem?_eq_some_iff.1 hy
 exact List.pairwise_iff_getElem.1 h i j hi hj hij
theorem z6h {xs : List Int} {id : Int} (h : xs.Pairwise (· < ·)) (i : Nat) (x : Int) (hi : posI xs id ≤ i) (hx : xs[i]? = some x) : id ≤ x := by
 have hlt : posI xs id < xs.length := by
  have := (List.getElem?_eq_some_iff.1 hx).1
  omega
 have hq : xs[posI xs id]? = some xs[posI xs id] := by simp [hlt]
 have h1 := zmg _ xs _ hq
 simp at h1
 rcases Nat.lt_or_ge (posI xs id) i with h2 | h2
 ·have := zq7 h h2 hq hx
  omega
 ·have : i = posI xs id := by omega
  subst this
  rw [hq] at hx
  cases hx
  exact h1
theorem zzx {xs : List Int} {id : Int} (h : xs.Pairwise (· < ·)) : xs[posI xs id]? = some id ↔ id ∈ xs := by
 constructor
 ·intro h'
  exact List.mem_of_getElem? h'
 ·intro h'
  obtain ⟨j, hj⟩ := List.getElem?_of_mem h'
  rcases Nat.lt_trichotomy j (posI xs id) with h1 | h1 | h1
  ·have := z3p j id h1 hj
   omega
  ·rw [← h1]; exact hj
  ·have hlt := (List.getElem?_eq_some_iff.1 hj).1
   have hq : xs[posI xs id]? = some (xs[posI xs id]'(by omega)) := by simp
   have h2 := zq7 h h1 hq hj
   have h3 := z6h h (posI xs id) _ (Nat.le_refl _) hq
   omega

def withP (xs : List Int) (id : Int) : List Int × Int :=
 if passiveMay xs && place id then (if id ∈ xs then (xs, 0) else if xs.length = 16 then ([], 801) else (insU id xs, 0)) else ([], 800)
def withoutP (xs : List Int) (id : Int) : List Int × Int := if passiveMay xs && place id then (xs.filter (fun y => !decide (y = id)), 0) else ([], 800)
theorem zm1 {xs : List Int} {p : Int → Bool} (h : passiveMay xs = true) : passiveMay (xs.filter p) = true := by
 obtain ⟨h1, h2, h3⟩ := (zb1 xs).1 h
 refine (zb1 _).2 ⟨h1.filter _, fun x hx => h2 x (List.mem_filter.1 hx).1, Nat.le_trans (List.length_filter_le _ _) h3⟩
theorem zpu {xs : List Int} {id : Int} (h : passiveMay xs = true) (hp : place id = true) (hn : id ∉ xs) (hl : xs.length ≠ 16) : passiveMay (insU id xs) = true := by
 obtain ⟨h1, h2, h3⟩ := (zb1 xs).1 h
 refine (zb1 _).2 ⟨zoz h1 hn, fun x hx => ?_, by rw [zgr]; omega⟩
 rcases zmf.1 hx with rfl | hx
 ·exact hp
 ·exact h2 x hx
theorem z27 {xs : List Int} {id : Int} (h : id ∉ xs) : xs.filter (fun y => !decide (y = id)) = xs := by
 rw [List.filter_eq_self]
 intro a ha
 simp
 rintro rfl
 exact h ha
theorem z2m {xs : List Int} {id : Int} (h : xs.Pairwise (· < ·)) (hm : id ∈ xs) : xs.length = (xs.filter (fun y => !decide (y = id))).length + 1 := by
 have : xs = insU id (xs.filter (fun y => !decide (y = id))) := by
  refine z25 h (zoz (h.filter _) (by simp)) fun a => ?_
  rw [zmf, List.mem_filter]
  simp
  constructor
  ·intro ha
   by_cases h' : a = id
   ·exact .inl h'
   ·exact .inr ⟨ha, h'⟩
  ·rintro (rfl | ⟨ha, _⟩)
   ·exact hm
   ·exact ha
 have h2 := congrArg List.length this
 rw [zgr] at h2
 exact h2
theorem z5k (xs : List Int) (id : Int) : (withP xs id).1.length ≤ 16 := by
 unfold withP
 split
 ·rename_i h
  rw [Bool.and_eq_true] at h
  have hl := ((zb1 xs).1 h.1).2.2
  split
  ·exact hl
  ·split
   ·simp
   ·rw [zgr]; omega
 ·simp
theorem z0z (p : Int → Bool) : ∀ (xs : List Int) (i : Nat), (fIdx p i xs = -1 ∧ xs.filter (fun x => !p x) = xs) ∨ ∃ f, fIdx p i xs = ((i + f : Nat) : Int) ∧ f < xs.length ∧ (xs.take (f + 1)).filter (fun x => !p x) = xs.take f := by
 intro xs
 induction xs with
 | nil => intro i; exact .inl ⟨rfl, rfl⟩
 | cons x xs ih =>
   intro i
   simp only [fIdx]
   by_cases h : p x = true
   ·right
    exact ⟨0, by simp [h], by simp, by simp [h]⟩
   ·have h' : p x = false := by simpa using h
    rw [if_neg h]
    rcases ih (i + 1) with ⟨h1, h2⟩ | ⟨f, h1, h2, h3⟩
    ·left
     refine ⟨h1, ?_⟩
     rw [List.filter_cons]
     simp [h', h2]
    ·right
     refine ⟨f + 1, by rw [h1]; congr 1; omega, by simpa using h2, ?_⟩
     rw [List.take_succ_cons, List.filter_cons, h3]
     simp [h']
theorem z6g (p : Int → Bool) (xs : List Int) : (fIdx p 0 xs = -1 ∧ xs.filter (fun x => !p x) = xs) ∨ ∃ f : Nat, fIdx p 0 xs = (f : Int) ∧ f < xs.length ∧ (xs.take (f + 1)).filter (fun x => !p x) = xs.take f := by
 rcases z0z p xs 0 with h | ⟨f, h⟩
 ·exact .inl h
 ·exact .inr ⟨f, by simpa using h⟩
end Go.AM
/- Plain law: where a search by a comparison ends; stores by it. -/
namespace Go.AM
set_option linter.unusedSimpArgs false
set_option linter.unusedVariables false

def posC {α : Type} (c : α → Int) (xs : List α) : Nat := (xs.takeWhile fun x => decide (c x < 0)).length
def atC {α : Type} (c : α → Int) (xs : List α) : Bool := (xs[posC c xs]?).any fun x => decide (c x = 0)
def MonoC {α : Type} (c : α → Int) (xs : List α) : Prop := ∀ (i j : Nat) (x y : α), i ≤ j → xs[i]? = some x → xs[j]? = some y → c y < 0 → c x < 0
theorem zhj {α : Type} (c : α → Int) (a : α) (xs : List α) : posC c (a :: xs) = if c a < 0 then posC c xs + 1 else 0 := by
 unfold posC
 rw [List.takeWhile_cons]
 by_cases h : c a < 0 <;> simp [h]
theorem z4y {α : Type} (c : α → Int) : atC c [] = false := rfl
theorem zsw {α : Type} (c : α → Int) (a : α) (xs : List α) : atC c (a :: xs) = if c a < 0 then atC c xs else decide (c a = 0) := by
 unfold atC
 rw [zhj]
 by_cases h : c a < 0 <;> simp [h]
theorem ztq {α : Type} (c : α → Int) (xs : List α) : posC c xs ≤ xs.length := by
 induction xs with
 | nil => simp [posC]
 | cons a xs ih => rw [zhj]; split <;> simp <;> omega
theorem zsi {α : Type} (c : α → Int) (xs : List α) : ∀ (i : Nat) (x : α), i < posC c xs → xs[i]? = some x → c x < 0 := by
 induction xs with
 | nil => intro i x h; simp [posC] at h
 | cons a xs ih =>
   intro i x h hx
   rw [zhj] at h
   by_cases ha : c a < 0
   ·rw [if_pos ha] at h
    cases i with
    | zero => simp at hx; subst hx; exact ha
    | succ i => exact ih i x (by omega) (by simpa using hx)
   ·rw [if_neg ha] at h; omega
theorem z5e {α : Type} (c : α → Int) (xs : List α) : ∀ x, xs[posC c xs]? = some x → 0 ≤ c x := by
 induction xs with
 | nil => intro x h; simp [posC] at h
 | cons a xs ih =>
   intro x hx
   rw [zhj] at hx
   by_cases ha : c a < 0
   ·rw [if_pos ha] at hx
    exact ih x (by simpa using hx)
   ·rw [if_neg ha] at hx
    simp at hx
    subst hx
    omega
theorem zxu {α : Type} {c : α → Int} {xs : List α} (hm : MonoC c xs) : ∀ (i : Nat) (x : α), posC c xs ≤ i → xs[i]? = some x → 0 ≤ c x := by
 intro i x hi hx
 apply Classical.byContradiction
 intro hc
 have hlt : posC c xs < xs.length := by
  have := (List.getElem?_eq_some_iff.1 hx).1
  omega
 have h1 : xs[posC c xs]? = some xs[posC c xs] := by simp
 have h2 := hm _ _ _ _ hi h1 hx (by omega)
 have h3 := z5e c xs _ h1
 omega
theorem zn3 {α : Type} {c : α → Int} {xs : List α} (h : atC c xs = true) : posC c xs < xs.length ∧ ∃ x, xs[posC c xs]? = some x ∧ c x = 0 := by
 unfold atC at h
 cases hx : xs[posC c xs]? with
 | none => rw [hx] at h; cases h
 | some x =>
   rw [hx] at h
   exact ⟨(List.getElem?_eq_some_iff.1 hx).1, x, rfl, by simpa using h⟩

def keyC (k : Int) (i : Item) : Int := cmpI i.key k
theorem zp7 (a b : Int) : cmpI a b < 0 ↔ a < b := by unfold cmpI; split <;> (try split) <;> omega
theorem zji (a b : Int) : cmpI a b = 0 ↔ a = b := by unfold cmpI; split <;> (try split) <;> omega
theorem zxk : ∀ {is : List Item}, risingK is → ∀ (i j : Nat) (x y : Item), i < j → is[i]? = some x → is[j]? = some y → x.key < y.key := by
 intro is
 induction is with
 | nil => intro _ i j x y _ h; simp at h
 | cons a is ih =>
   intro h i j x y hij hx hy
   rw [zcu] at h
   cases j with
   | zero => omega
   | succ j =>
     simp at hy
     cases i with
     | zero =>
       simp at hx
       subst hx
       exact h.1 y (List.mem_of_getElem? hy)
     | succ i => exact ih h.2 i j x y (by omega) (by simpa using hx) hy
theorem z0h {is : List Item} (h : risingK is) (k : Int) : MonoC (keyC k) is := by
 intro i j x y hij hx hy hc
 unfold keyC at hc ⊢
 rw [zp7] at hc ⊢
 by_cases e : i = j
 ·subst e
  rw [hx] at hy
  cases hy
  exact hc
 ·have := zxk h i j x y (by omega) hx hy
  omega
theorem z4e : ∀ {is : List Item}, risingK is → ∀ k, getS is k = if atC (keyC k) is then is[posC (keyC k) is]? else none := by
 intro is
 induction is with
 | nil => intro _ k; simp [getS, z4y]
 | cons a is ih =>
   intro h k
   rw [zcu] at h
   rw [zoo, zhj, zsw]
   simp only [keyC, zp7, zji]
   by_cases h1 : a.key < k
   ·rw [if_neg (by omega), if_pos h1, if_pos h1, ih h.2 k]
    simp [keyC]
   ·by_cases h2 : a.key = k
    ·simp [h1, h2]
    ·simp [h1, h2]
     exact zr1 h.1 (by omega)
theorem z85 (x : Item) : ∀ (is : List Item), (∀ a, is[posC (keyC x.key) is]? = some a → atC (keyC x.key) is = true → putS x is = is.set (posC (keyC x.key) is) (bestI a x)) ∧ (atC (keyC x.key) is = false → putS x is = insL is (posC (keyC x.key) is) x) := by
 intro is
 induction is with
 | nil => exact ⟨fun a h => by simp at h, fun _ => by simp [putS, insL, posC]⟩
 | cons b is ih =>
   rw [zhj, zsw]
   simp only [keyC, zp7, zji]
   by_cases h1 : b.key < x.key
   ·simp only [if_pos h1]
    have e : putS x (b :: is) = b :: putS x is := by
     unfold putS
     rw [if_neg (by omega), if_neg (by omega)]
     cases is <;> simp [putS]
    rw [e]
    exact ⟨fun a ha ht => by rw [ih.1 a (by simpa using ha) ht]; rfl, fun ht => by rw [ih.2 ht]; simp [insL, keyC]⟩
   ·simp only [if_neg h1]
    by_cases h2 : b.key = x.key
    ·refine ⟨fun a ha _ => ?_, fun ht => by simp [h2] at ht⟩
     simp at ha
     subst ha
     simp [putS, h2]
    ·refine ⟨fun a ha ht => by simp [h2] at ht, fun _ => ?_⟩
     have h3 : x.key < b.key := by omega
     simp [putS, h3, insL]
def getR (is : List Item) (k : Int) : Item × Bool := if storeMay is then (match getS is k with | some i => (i, true) | none => (zeroItem, false)) else (zeroItem, false)
end Go.AM
/- AM: contracts: binary search by a comparison. -/
namespace Go.AM
set_option linter.unusedSimpArgs false
set_option linter.unusedVariables false
set_option maxRecDepth 8000
set_option maxHeartbeats 0
theorem znp (xs : List Item) (g : Nat) (key : Int) (c : Item → Int) (hc : ∀ x ∈ xs, Den PP g [.agg x.row, .int .i64 key] [] (.int .i64 (c x)) []) (hl : xs.length ≤ cap) (hr : MonoC c xs) :
 Den PP 125 [.sl (xs.map Item.row) xs.length, .int .i64 key, .fn g [] []] [] (.tup [.int .i64 (posC c xs), .bool (atC c xs)]) [] := by
 have hlo := zsi c xs
 have hhi := zxu hr
 have hat := ztq c xs
 have hac : atC c xs = (xs[posC c xs]?).any fun x => decide (c x = 0) := rfl
 rw [hac]
 clear hac
 generalize posC c xs = at_ at *
 refine zaj [] [] zco ?_
 simp -implicitDefEqProofs [zbk]
 refine zde xs.length (fun m ⟨fr, bs⟩ => ∃ lo hi : Nat, bs = [] ∧ hi - lo ≤ m ∧ lo ≤ at_ ∧ at_ ≤ hi ∧ hi ≤ xs.length ∧ fr 0 = .sl (xs.map Item.row) xs.length ∧ fr 1 = .int .i64 key ∧ fr 2 = .fn g [] [] ∧ fr 8 = .int .i64 xs.length ∧ fr 9 = .int .i64 lo ∧ fr 10 = .int .i64 hi)
  (fun ⟨fr, bs⟩ => bs = [] ∧ fr 0 = .sl (xs.map Item.row) xs.length ∧ fr 1 = .int .i64 key ∧ fr 2 = .fn g [] [] ∧ fr 8 = .int .i64 xs.length ∧ fr 9 = .int .i64 at_) (fun _ => False) zbd.eq_1 ?_ ?_ ?_ ?_ ?_
 ·exact ⟨0, xs.length, rfl, by omega, by omega, hat, by omega, rfl, rfl, rfl, rfl, rfl, rfl⟩
 ·rintro ⟨fr, bs⟩ ⟨lo, hi, rfl, h1, h2, h3, h4, h0, h5, h9, h6, h7, h8⟩
  have e1 : lo = at_ := by omega
  have e2 : hi = at_ := by omega
  simp -implicitDefEqProofs [h0, h5, h9, h6, h7, h8, e1, e2]
 ·rintro m ⟨fr, bs⟩ ⟨lo, hi, rfl, h1, h2, h3, h4, h0, h5, h9, h6, h7, h8⟩
  by_cases hlt : lo < hi
  ·have hlt' : (lo : Int) < hi := by omega
   have hm := zuk (lo := lo) (hi := hi) (by omega) (by omega)
   have hml : (lo + hi) / 2 < xs.length := by omega
   have hml' : (((lo + hi) / 2 : Nat) : Int) < xs.length := by omega
   have hw := zav (n := (lo + hi) / 2) (by unfold cap at hl; omega)
   have hb1 : lo ≤ (lo + hi) / 2 := by omega
   have hb2 : (lo + hi) / 2 < hi := by omega
   generalize (lo + hi) / 2 = mid at *
   obtain ⟨x, hx⟩ : ∃ x, xs[mid] = x := ⟨_, rfl⟩
   have hx' : xs[mid]? = some x := by simp [hml, hx]
   have hcx := hc x (List.mem_of_getElem? hx')
   simp only [Item.row] at hcx
   simp -implicitDefEqProofs [h0, h5, h9, h6, h7, h8, hlt', hlt, hm, hml, hml', hx, Item.row]
   refine zaa hcx ?_
   simp -implicitDefEqProofs
   refine zad (fun hc => ?_) (fun hc => ?_)
   all_goals simp -implicitDefEqProofs [h0, h5, h9, h6, h7, h8, hc, hw]
   ·have : mid < at_ := by
     apply Classical.byContradiction
     intro hx2
     have := hhi mid x (by omega) hx'
     omega
    exact ⟨mid + 1, hi, by omega, by omega, by omega, by omega, by simp, by simp⟩
   ·have : at_ ≤ mid := by
     apply Classical.byContradiction
     intro hx2
     have := hlo mid x (by omega) hx'
     omega
    exact ⟨lo, mid, by omega, by omega, by omega, by omega, by simp, by simp⟩
  ·have e1 : lo = at_ := by omega
   have e2 : hi = at_ := by omega
   simp -implicitDefEqProofs [h0, h5, h9, h6, h7, h8, e1, e2]
 ·rintro ⟨fr, bs⟩ ⟨rfl, h0, h1, h2, h6, h7⟩
  simp -implicitDefEqProofs [h0, h1, h2, h6, h7]
  refine zak (fun hc2 => ?_) (fun hc2 => ?_)
  ·obtain ⟨x, hx⟩ : ∃ x, xs[at_]'(by omega) = x := ⟨_, rfl⟩
   have hal : at_ < xs.length := by omega
   have hx' : xs[at_]? = some x := by simp [hx, hal]
   have hcx := hc x (List.mem_of_getElem? hx')
   simp only [Item.row] at hcx
   simp -implicitDefEqProofs [h0, h1, h2, h6, h7, hc2, hx, hal, Item.row]
   refine zaa hcx ?_
   simp -implicitDefEqProofs [h0, h1, h2, h6, h7, hc2, hx, hal, hx', Item.row]
  ·have hp : xs[at_]? = none := by rw [List.getElem?_eq_none]; omega
   simp -implicitDefEqProofs [h0, h1, h2, h6, h7, hc2, hp]
 ·rintro ⟨fr, bs⟩ h
  exact h.elim
theorem zxi (xs : List Cut) (g : Nat) (key : Cut) (c : Cut → Int) (hc : ∀ x ∈ xs, Den PP g [.agg x.row, .agg [.int .i64 key.a, .int .i64 key.b]] [] (.int .i64 (c x)) []) (hl : xs.length ≤ cap) (hr : MonoC c xs) :
 Den PP 237 [.sl (xs.map Cut.row) xs.length, .agg [.int .i64 key.a, .int .i64 key.b], .fn g [] []] [] (.tup [.int .i64 (posC c xs), .bool (atC c xs)]) [] := by
 have hlo := zsi c xs
 have hhi := zxu hr
 have hat := ztq c xs
 have hac : atC c xs = (xs[posC c xs]?).any fun x => decide (c x = 0) := rfl
 rw [hac]
 clear hac
 generalize posC c xs = at_ at *
 refine zaj [] [] zck ?_
 simp -implicitDefEqProofs [zbf]
 refine zde xs.length (fun m ⟨fr, bs⟩ => ∃ lo hi : Nat, bs = [⟨[[.int .i64 key.a, .int .i64 key.b]], 2, .box⟩] ∧ hi - lo ≤ m ∧ lo ≤ at_ ∧ at_ ≤ hi ∧ hi ≤ xs.length ∧ fr 0 = .sl (xs.map Cut.row) xs.length ∧ fr 4 = .ptr 0 0 0 ∧ fr 2 = .fn g [] [] ∧ fr 8 = .int .i64 xs.length ∧ fr 9 = .int .i64 lo ∧ fr 10 = .int .i64 hi)
  (fun ⟨fr, bs⟩ => bs = [⟨[[.int .i64 key.a, .int .i64 key.b]], 2, .box⟩] ∧ fr 0 = .sl (xs.map Cut.row) xs.length ∧ fr 4 = .ptr 0 0 0 ∧ fr 2 = .fn g [] [] ∧ fr 8 = .int .i64 xs.length ∧ fr 9 = .int .i64 at_) (fun _ => False) za7.eq_1 ?_ ?_ ?_ ?_ ?_
 ·exact ⟨0, xs.length, rfl, by omega, by omega, hat, by omega, rfl, rfl, rfl, rfl, rfl, rfl⟩
 ·rintro ⟨fr, bs⟩ ⟨lo, hi, rfl, h1, h2, h3, h4, h0, h5, h9, h6, h7, h8⟩
  have e1 : lo = at_ := by omega
  have e2 : hi = at_ := by omega
  simp -implicitDefEqProofs [h0, h5, h9, h6, h7, h8, e1, e2]
 ·rintro m ⟨fr, bs⟩ ⟨lo, hi, rfl, h1, h2, h3, h4, h0, h5, h9, h6, h7, h8⟩
  by_cases hlt : lo < hi
  ·have hlt' : (lo : Int) < hi := by omega
   have hm := zuk (lo := lo) (hi := hi) (by omega) (by omega)
   have hml : (lo + hi) / 2 < xs.length := by omega
   have hml' : (((lo + hi) / 2 : Nat) : Int) < xs.length := by omega
   have hw := zav (n := (lo + hi) / 2) (by unfold cap at hl; omega)
   have hb1 : lo ≤ (lo + hi) / 2 := by omega
   have hb2 : (lo + hi) / 2 < hi := by omega
   generalize (lo + hi) / 2 = mid at *
   obtain ⟨x, hx⟩ : ∃ x, xs[mid] = x := ⟨_, rfl⟩
   have hx' : xs[mid]? = some x := by simp [hml, hx]
   have hcx := hc x (List.mem_of_getElem? hx')
   simp only [Cut.row] at hcx
   simp -implicitDefEqProofs [h0, h5, h9, h6, h7, h8, hlt', hlt, hm, hml, hml', hx, Cut.row]
   refine zaa hcx ?_
   simp -implicitDefEqProofs
   refine zad (fun hc => ?_) (fun hc => ?_)
   all_goals simp -implicitDefEqProofs [h0, h5, h9, h6, h7, h8, hc, hw]
   ·have : mid < at_ := by
     apply Classical.byContradiction
     intro hx2
     have := hhi mid x (by omega) hx'
     omega
    exact ⟨mid + 1, hi, by omega, by omega, by omega, by omega, by simp, by simp⟩
   ·have : at_ ≤ mid := by
     apply Classical.byContradiction
     intro hx2
     have := hlo mid x (by omega) hx'
     omega
    exact ⟨lo, mid, by omega, by omega, by omega, by omega, by simp, by simp⟩
  ·have e1 : lo = at_ := by omega
   have e2 : hi = at_ := by omega
   simp -implicitDefEqProofs [h0, h5, h9, h6, h7, h8, e1, e2]
 ·rintro ⟨fr, bs⟩ ⟨rfl, h0, h1, h2, h6, h7⟩
  simp -implicitDefEqProofs [h0, h1, h2, h6, h7]
  refine zak (fun hc2 => ?_) (fun hc2 => ?_)
  ·obtain ⟨x, hx⟩ : ∃ x, xs[at_]'(by omega) = x := ⟨_, rfl⟩
   have hal : at_ < xs.length := by omega
   have hx' : xs[at_]? = some x := by simp [hx, hal]
   have hcx := hc x (List.mem_of_getElem? hx')
   simp only [Cut.row] at hcx
   simp -implicitDefEqProofs [h0, h1, h2, h6, h7, hc2, hx, hal, Cut.row]
   refine zaa hcx ?_
   simp -implicitDefEqProofs [h0, h1, h2, h6, h7, hc2, hx, hal, hx', Cut.row]
  ·have hp : xs[at_]? = none := by rw [List.getElem?_eq_none]; omega
   simp -implicitDefEqProofs [h0, h1, h2, h6, h7, hc2, hp]
 ·rintro ⟨fr, bs⟩ h
  exact h.elim
end Go.AM
/- AM: contracts: slices.Delete of one. -/
namespace Go.AM
set_option linter.unusedSimpArgs false
set_option linter.unusedVariables false
set_option maxRecDepth 8000
set_option maxHeartbeats 0
end Go.AM
/- Plain law: stores: put twice, in another row. -/
namespace Go.AM
set_option linter.unusedSimpArgs false
set_option linter.unusedVariables false

end Go.AM
namespace Go.AM
end Go.AM
/- Plain law: peers: one is heard, all age. -/
namespace Go.AM
set_option linter.unusedSimpArgs false
set_option linter.unusedVariables false

def PeerOk (base last : Int) (p : Peer) : Prop := place p.id = true ∧ 0 ≤ p.missed ∧ p.missed < 3 ∧ last < far base p.id
theorem zzg {base : Int} : ∀ (ps : List Peer) (last : Int), peersOk base last ps = true ↔ (∀ p ∈ ps, PeerOk base last p) ∧ ps.Pairwise (fun p q => far base p.id < far base q.id) := by
 intro ps
 induction ps with
 | nil => intro last; simp [peersOk]
 | cons p ps ih =>
   intro last
   simp only [peersOk, Bool.and_eq_true, decide_eq_true_eq, ih, List.mem_cons, List.pairwise_cons, PeerOk]
   constructor
   ·rintro ⟨⟨⟨⟨h1, h2⟩, h3⟩, h4⟩, h5, h6⟩
    refine ⟨?_, fun q hq => (h5 q hq).2.2.2, h6⟩
    rintro q (rfl | hq)
    ·exact ⟨h1, h2, h3, h4⟩
    ·obtain ⟨a, b, c, d⟩ := h5 q hq
     exact ⟨a, b, c, by omega⟩
   ·rintro ⟨h1, h2, h3⟩
    obtain ⟨a, b, c, d⟩ := h1 p (.inl rfl)
    refine ⟨⟨⟨⟨a, b⟩, c⟩, d⟩, fun q hq => ?_, h3⟩
    obtain ⟨a', b', c', d'⟩ := h1 q (.inr hq)
    exact ⟨a', b', c', h2 q hq⟩
theorem zbi {base : Int} {ps : List Peer} : peersMay base ps = true ↔ place base = true ∧ ps.length ≤ 16 ∧ (∀ p ∈ ps, PeerOk base 0 p) ∧ ps.Pairwise (fun p q => far base p.id < far base q.id) := by
 simp only [peersMay, Bool.and_eq_true, decide_eq_true_eq, zzg]
 constructor
 ·rintro ⟨⟨a, b⟩, c⟩; exact ⟨a, b, c⟩
 ·rintro ⟨a, b, c⟩; exact ⟨⟨a, b⟩, c⟩

theorem z1g (base id : Int) : ∀ ps : List Peer, hearG base id true ps = ps.filter fun p => !decide (p.id = id) := by
 intro ps
 induction ps with
 | nil => rfl
 | cons p ps ih =>
   simp only [hearG, Bool.true_or, ih]
   by_cases h : p.id = id <;> simp [h]
theorem zhl (base id : Int) (p : Peer) (ps : List Peer) (h : far base id ≤ far base p.id) : hearG base id false (p :: ps) = ⟨id, 0⟩ :: (p :: ps).filter fun p => !decide (p.id = id) := by
 simp only [hearG, h, decide_true, Bool.or_true, z1g]
 by_cases h2 : p.id = id <;> simp [h2]
theorem zf9 (base id : Int) (p : Peer) (ps : List Peer) (h : ¬ far base id ≤ far base p.id) : hearG base id false (p :: ps) = p :: hearG base id false ps := by
 have : p.id ≠ id := by intro e; rw [e] at h; omega
 simp [hearG, h, this]
theorem zvh (base id : Int) : ∀ ps : List Peer, (hearG base id false ps).filter (fun p => !decide (p.id = id)) = ps.filter fun p => !decide (p.id = id) := by
 intro ps
 induction ps with
 | nil => simp [hearG]
 | cons p ps ih =>
   by_cases h : far base id ≤ far base p.id
   ·rw [zhl _ _ _ _ h]
    simp
   ·rw [zf9 _ _ _ _ h]
    have : p.id ≠ id := by intro e; rw [e] at h; omega
    simp [this, ih]
theorem zq5 (base id : Int) : ∀ (ps : List Peer) (q : Peer), q ∈ hearG base id false ps → q.id = id → q = ⟨id, 0⟩ := by
 intro ps
 induction ps with
 | nil => intro q hq _; simpa [hearG] using hq
 | cons p ps ih =>
   intro q hq e
   by_cases h : far base id ≤ far base p.id
   ·rw [zhl _ _ _ _ h] at hq
    rcases List.mem_cons.1 hq with h1 | h1
    ·exact h1
    ·have := (List.mem_filter.1 h1).2
     simp [e] at this
   ·rw [zf9 _ _ _ _ h] at hq
    rcases List.mem_cons.1 hq with h1 | h1
    ·subst h1
     rw [e] at h
     omega
    ·exact ih q h1 e
theorem zzz (base id : Int) : ∀ (ps : List Peer) (q : Peer), q ∈ hearG base id false ps → q = ⟨id, 0⟩ ∨ q ∈ ps := by
 intro ps
 induction ps with
 | nil => intro q hq; exact .inl (by simpa [hearG] using hq)
 | cons p ps ih =>
   intro q hq
   by_cases h : far base id ≤ far base p.id
   ·rw [zhl _ _ _ _ h] at hq
    rcases List.mem_cons.1 hq with h1 | h1
    ·exact .inl h1
    ·exact .inr (List.mem_filter.1 h1).1
   ·rw [zf9 _ _ _ _ h] at hq
    rcases List.mem_cons.1 hq with h1 | h1
    ·exact .inr (by simp [h1])
    ·rcases ih q h1 with h2 | h2
     ·exact .inl h2
     ·exact .inr (List.mem_cons_of_mem _ h2)
theorem znb (base id : Int) : ∀ ps : List Peer, (hearG base id false ps).length = (ps.filter fun p => !decide (p.id = id)).length + 1 := by
 intro ps
 induction ps with
 | nil => rfl
 | cons p ps ih =>
   by_cases h : far base id ≤ far base p.id
   ·rw [zhl _ _ _ _ h]
    simp
   ·rw [zf9 _ _ _ _ h]
    have : p.id ≠ id := by intro e; rw [e] at h; omega
    simp [this, ih]
theorem z50 (base id : Int) (ps : List Peer) : ∃ q ∈ hearG base id false ps, q.id = id := by
 have h := (z3u base id ps false id).2 (.inr ⟨rfl, rfl⟩)
 simpa using h
theorem z0v {base id : Int} (hb : place base = true) (hid : place id = true) : ∀ ps : List Peer, (∀ p ∈ ps, place p.id = true) → ps.Pairwise (fun p q => far base p.id < far base q.id) → (hearG base id false ps).Pairwise (fun p q => far base p.id < far base q.id) := by
 intro ps
 induction ps with
 | nil => intro _ _; simp [hearG]
 | cons p ps ih =>
   intro hp hr
   by_cases h : far base id ≤ far base p.id
   ·rw [zhl _ _ _ _ h, List.pairwise_cons]
    refine ⟨fun q hq => ?_, hr.filter _⟩
    obtain ⟨h1, h2⟩ := List.mem_filter.1 hq
    have h3 : far base p.id ≤ far base q.id := by
     rcases List.mem_cons.1 h1 with h4 | h4
     ·subst h4; omega
     ·have := (List.pairwise_cons.1 hr).1 q h4
      omega
    have h5 : far base q.id ≠ far base id := by
     intro e
     have := (zo7 hb (hp q h1) hid).1 e
     simp [this] at h2
    show far base id < far base q.id
    omega
   ·rw [zf9 _ _ _ _ h, List.pairwise_cons]
    refine ⟨fun q hq => ?_, ih (fun q hq => hp q (List.mem_cons_of_mem _ hq)) (List.pairwise_cons.1 hr).2⟩
    rcases zzz base id ps q hq with h1 | h1
    ·subst h1
     show far base p.id < far base id
     omega
    ·exact (List.pairwise_cons.1 hr).1 q h1
theorem zoe (base : Int) (p : Peer) (ps : List Peer) (id : Int) : findAt base (p :: ps) id = if far base p.id < far base id then findAt base ps id + 1 else 0 := by
 unfold findAt
 rw [List.takeWhile_cons]
 by_cases h : far base p.id < far base id <;> simp [h]
theorem zx1 (base : Int) (p : Peer) (ps : List Peer) (id : Int) : peerIs base (p :: ps) id = if far base p.id < far base id then peerIs base ps id else decide (far base p.id = far base id) := by
 unfold peerIs
 rw [zoe]
 by_cases h : far base p.id < far base id <;> simp [h, isFar]
theorem z60 {base id : Int} (hb : place base = true) (hid : place id = true) : ∀ ps : List Peer, (∀ p ∈ ps, place p.id = true) → ps.Pairwise (fun p q => far base p.id < far base q.id) →
 (peerIs base ps id = true → findAt base ps id < ps.length ∧ (∃ m, ps[findAt base ps id]? = some ⟨id, m⟩) ∧ hearG base id false ps = ps.set (findAt base ps id) ⟨id, 0⟩) ∧ (peerIs base ps id = false → hearG base id false ps = insL ps (findAt base ps id) ⟨id, 0⟩) := by
 intro ps
 induction ps with
 | nil => intro _ _; exact ⟨fun h => by simp [peerIs, findAt, isFar] at h, fun _ => rfl⟩
 | cons p ps ih =>
   intro hp hr
   have hr' := (List.pairwise_cons.1 hr).2
   obtain ⟨i1, i2⟩ := ih (fun q hq => hp q (List.mem_cons_of_mem _ hq)) hr'
   rw [zx1, zoe]
   have hno : ∀ q ∈ ps, far base id ≤ far base p.id → q.id ≠ id := by
    intro q hq h e
    have := (List.pairwise_cons.1 hr).1 q hq
    rw [e] at this
    omega
   by_cases h : far base p.id < far base id
   ·rw [if_pos h, if_pos h, zf9 _ _ _ _ (by omega)]
    refine ⟨fun h1 => ?_, fun h1 => ?_⟩
    ·obtain ⟨a, b, c⟩ := i1 h1
     exact ⟨by simp; omega, by simpa using b, by simp [c]⟩
    ·rw [i2 h1]
     simp [insL]
   ·rw [if_neg h, if_neg h, zhl _ _ _ _ (by omega)]
    have hf : ps.filter (fun p => !decide (p.id = id)) = ps := by
     rw [List.filter_eq_self]
     intro q hq
     have := hno q hq (by omega)
     simp [this]
    refine ⟨fun h1 => ?_, fun h1 => ?_⟩
    ·have e : p.id = id := (zo7 hb (hp p (by simp)) hid).1 (by simpa using h1)
     obtain ⟨pi, pm⟩ := p
     simp only at e
     subst e
     refine ⟨by simp, ⟨pm, rfl⟩, ?_⟩
     simp [hf]
    ·have e : p.id ≠ id := by
      intro e
      rw [e] at h1
      simp at h1
     simp [e, hf, insL]
def ageL (ps : List Peer) : List Peer := (ps.filter fun p => !decide (p.missed + 1 = 3)).map fun p => ⟨p.id, p.missed + 1⟩
def lostL (ps : List Peer) : List Int := (ps.filter fun p => decide (p.missed + 1 = 3)).map Peer.id
def ageR (base : Int) (ps : List Peer) : List Peer × List Int × Int := if peersMay base ps then (ageL ps, lostL ps, 0) else ([], [], 700)
theorem z40 (ps : List Peer) (p : Peer) : ageL (ps ++ [p]) = if p.missed + 1 = 3 then ageL ps else ageL ps ++ [⟨p.id, p.missed + 1⟩] := by
 by_cases h : p.missed + 1 = 3 <;> simp [ageL, h]
theorem z3a (ps : List Peer) (p : Peer) : lostL (ps ++ [p]) = if p.missed + 1 = 3 then lostL ps ++ [p.id] else lostL ps := by
 by_cases h : p.missed + 1 = 3 <;> simp [lostL, h]
theorem zj7 (ps : List Peer) : (ageL ps).length + (lostL ps).length = ps.length := by
 induction ps with
 | nil => rfl
 | cons p ps ih =>
   by_cases h : p.missed + 1 = 3 <;> simp [ageL, lostL, h] at ih ⊢ <;> omega
theorem z72 {base : Int} {ps : List Peer} (h : peersMay base ps = true) : peersMay base (ageL ps) = true := by
 obtain ⟨a, b, c, d⟩ := zbi.1 h
 have hl := zj7 ps
 refine zbi.2 ⟨a, by omega, fun q hq => ?_, ?_⟩
 ·obtain ⟨p, hp, rfl⟩ := List.mem_map.1 hq
  obtain ⟨h1, h2⟩ := List.mem_filter.1 hp
  obtain ⟨e, f, g, k⟩ := c p h1
  simp at h2
  exact ⟨e, by simp; omega, by simp; omega, k⟩
 ·unfold ageL
  rw [List.pairwise_map]
  exact d.filter _
end Go.AM
/- Plain law: peers heard in a row stand in the row of distances. -/
namespace Go.AM
set_option linter.unusedSimpArgs false
set_option linter.unusedVariables false

end Go.AM
/- Plain law: cuts put in their row, taken out. -/
namespace Go.AM
set_option linter.unusedSimpArgs false
set_option linter.unusedVariables false

def numC (c : Cut) : Int := c.a * 256 + c.b
def cutOk (c : Cut) : Bool := place c.a && place c.b && decide (c.a < c.b)
def cutsOk : Option Cut → List Cut → Bool
 | _, [] => true
 | q, c :: cs => cutOk c && (match q with | none => true | some q => decide (numC q < numC c)) && cutsOk (some c) cs
def cutsMay (cs : List Cut) : Bool := cutsOk none cs && decide (cs.length ≤ 32)
def ordC (x y : Cut) : Int := if cmpI x.a y.a = 0 then cmpI x.b y.b else cmpI x.a y.a
theorem zjm (c : Cut) : cutOk c = true ↔ (0 ≤ c.a ∧ c.a < 256) ∧ (0 ≤ c.b ∧ c.b < 256) ∧ c.a < c.b := by
 simp [cutOk, place, and_assoc]
theorem zst {x y : Cut} (hx : cutOk x = true) (hy : cutOk y = true) : ordC x y < 0 ↔ numC x < numC y := by
 rw [zjm] at hx hy
 unfold ordC numC
 by_cases h : cmpI x.a y.a = 0
 ·rw [if_pos h, zp7]
  rw [zji] at h
  omega
 ·rw [if_neg h, zp7]
  rw [zji] at h
  omega
theorem z9y {x y : Cut} : ordC x y = 0 ↔ x = y := by
 obtain ⟨xa, xb⟩ := x
 obtain ⟨ya, yb⟩ := y
 unfold ordC
 by_cases h : cmpI xa ya = 0
 ·rw [if_pos h, zji]
  rw [zji] at h
  simp [h]
 ·rw [if_neg h]
  constructor
  ·intro e; exact absurd e h
  ·intro e
   have : xa = ya := by injection e
   exact absurd ((zji _ _).2 this) h
theorem z3f : ∀ (cs : List Cut) (q : Option Cut), cutsOk q cs = true ↔ (∀ c ∈ cs, cutOk c = true) ∧ cs.Pairwise (fun x y => numC x < numC y) ∧ (∀ k, q = some k → ∀ c ∈ cs, numC k < numC c) := by
 intro cs
 induction cs with
 | nil => intro q; simp [cutsOk]
 | cons c cs ih =>
   intro q
   simp only [cutsOk, Bool.and_eq_true, ih, List.mem_cons, List.pairwise_cons]
   constructor
   ·rintro ⟨⟨h1, h2⟩, h3, h4, h5⟩
    refine ⟨?_, ⟨fun d hd => h5 c rfl d hd, h4⟩, ?_⟩
    ·rintro d (rfl | hd)
     ·exact h1
     ·exact h3 d hd
    ·rintro k rfl d hd
     simp only [decide_eq_true_eq] at h2
     rcases hd with rfl | hd
     ·exact h2
     ·exact Int.lt_trans h2 (h5 c rfl d hd)
   ·rintro ⟨h1, ⟨h2, h3⟩, h4⟩
    refine ⟨⟨h1 c (.inl rfl), ?_⟩, fun d hd => h1 d (.inr hd), h3, ?_⟩
    ·cases q with
     | none => rfl
     | some q => simpa using h4 q rfl c (.inl rfl)
    ·rintro k hk d hd
     cases hk
     exact h2 d hd
theorem zxl {cs : List Cut} : cutsMay cs = true ↔ (∀ c ∈ cs, cutOk c = true) ∧ cs.Pairwise (fun x y => numC x < numC y) ∧ cs.length ≤ 32 := by
 simp only [cutsMay, Bool.and_eq_true, decide_eq_true_eq, z3f]
 constructor
 ·rintro ⟨⟨a, b, _⟩, c⟩; exact ⟨a, b, c⟩
 ·rintro ⟨a, b, c⟩; exact ⟨⟨a, b, by simp⟩, c⟩
def cutAB (a b : Int) : Cut := ⟨min a b, max a b⟩
theorem z7y {a b : Int} (ha : place a = true) (hb : place b = true) (h : a ≠ b) : cutOk (cutAB a b) = true := by
 rw [zen] at ha hb
 rw [zjm]
 simp only [cutAB]
 omega
theorem z62 {c : Cut} (hc : cutOk c = true) {cs : List Cut} (h : ∀ d ∈ cs, cutOk d = true) (hp : cs.Pairwise (fun x y => numC x < numC y)) : MonoC (fun x => ordC x c) cs := by
 intro i j x y hij hx hy hlt
 simp only at hlt ⊢
 rw [zst (h y (List.mem_of_getElem? hy)) hc] at hlt
 rw [zst (h x (List.mem_of_getElem? hx)) hc]
 by_cases e : i = j
 ·subst e
  rw [hx] at hy
  cases hy
  exact hlt
 ·obtain ⟨hi, rfl⟩ := List.getElem?_eq_some_iff.1 hx
  obtain ⟨hj, rfl⟩ := List.getElem?_eq_some_iff.1 hy
  have := List.pairwise_iff_getElem.1 hp i j hi hj (by omega)
  omega
theorem qb3 {c : Cut} (hc : cutOk c = true) : ∀ {cs : List Cut}, (∀ d ∈ cs, cutOk d = true) → cs.Pairwise (fun x y => numC x < numC y) → atC (fun x => ordC x c) cs = decide (c ∈ cs) := by
 intro cs
 induction cs with
 | nil => intro _ _; simp [z4y]
 | cons x xs ih =>
   intro h hp
   rw [List.pairwise_cons] at hp
   rw [zsw]
   have h1 := zst (h x (by simp)) hc
   by_cases h2 : numC x < numC c
   ·rw [if_pos (h1.2 h2), ih (fun d hd => h d (List.mem_cons_of_mem _ hd)) hp.2]
    have : c ≠ x := by rintro rfl; omega
    simp [this]
   ·rw [if_neg (fun e => h2 (h1.1 e))]
    rw [Bool.eq_iff_iff]
    simp only [decide_eq_true_eq, z9y, List.mem_cons]
    constructor
    ·rintro rfl; exact .inl rfl
    ·rintro (rfl | hc2)
     ·rfl
     ·have := hp.1 c hc2
      omega
def askMay (cs : List Cut) (a b : Int) : Bool := cutsMay cs && place a && place b && !decide (a = b)
def isC (cs : List Cut) (a b : Int) : Bool × Int := if askMay cs a b then (decide (cutAB a b ∈ cs), 0) else (false, 1500)
theorem z0x {cs : List Cut} {a b : Int} : askMay cs a b = true ↔ cutsMay cs = true ∧ place a = true ∧ place b = true ∧ a ≠ b := by simp [askMay, and_assoc]
end Go.AM
/- AM: contracts: may a row of cuts be. -/
namespace Go.AM
set_option linter.unusedSimpArgs false
set_option linter.unusedVariables false
set_option maxRecDepth 8000
set_option maxHeartbeats 0
def orL : List Int → Int
 | [] => 0
 | v :: vs => if v = 0 then orL vs else v
theorem qbv (xs : List Int) (hl : xs.length ≤ cap) : Den PP 214 [intsD xs] [] (.int .i64 (orL xs)) [] := by
 obtain ⟨r, hr⟩ : ∃ r, orL xs = r := ⟨_, rfl⟩
 rw [hr]
 unfold cap at hl
 refine zaj [] [] ztd ?_
 simp -implicitDefEqProofs [znn, intsD]
 refine zax xs (fun i rest => fun ⟨fr, bs⟩ => bs = [] ∧ fr 3 = .int .i64 0 ∧ fr 6 = intsD xs ∧ fr 7 = .int .i64 xs.length ∧ fr 8 = .int .i64 i ∧ orL rest = r)
  (fun ⟨fr, bs⟩ => bs = [] ∧ fr 3 = .int .i64 0 ∧ r = 0) (fun ⟨fr, bs⟩ => fr 2 = .int .i64 r) zjy.eq_1 ?_ ?_ ?_ ?_ ?_
 ·exact ⟨rfl, rfl, rfl, rfl, rfl, hr⟩
 ·rintro i ⟨fr, bs⟩ hi ⟨rfl, h3, h6, h7, h8, he⟩
  simp -implicitDefEqProofs [h3, h6, h7, h8, hi, intsD]
  simpa [orL] using he.symm
 ·rintro i a rest ⟨fr, bs⟩ hlt hget hg hd hd2 ⟨rfl, h3, h6, h7, h8, he⟩
  have hlt' : (i : Int) < xs.length := by omega
  have hw := zav (n := i) (by omega)
  simp only [orL] at he
  clear hr
  by_cases ha : a = 0
  ·rw [if_pos ha] at he
   simp -implicitDefEqProofs [h3, h6, h7, h8, hlt, hlt', hget, hg, ha, hw, intsD, irow]
   exact he
  ·rw [if_neg ha] at he
   simp -implicitDefEqProofs [h3, h6, h7, h8, hlt, hlt', hget, hg, ha, hw, intsD, irow]
   rw [he]
 ·rintro ⟨fr, bs⟩ ⟨rfl, h3, he⟩
  simp -implicitDefEqProofs [h3, he]
 ·rintro ⟨fr, bs⟩ h
  simp -implicitDefEqProofs [h]
theorem zry (x y : Cut) : Den PP 162 [.agg x.row, .agg y.row] [] (.int .i64 (ordC x y)) [] := by
 have c1 := qbv [cmpI x.a y.a, cmpI x.b y.b] (by unfold cap; simp)
 have e : orL [cmpI x.a y.a, cmpI x.b y.b] = ordC x y := by
  unfold ordC orL orL orL
  split
  ·split
   ·rename_i h; exact h.symm
   ·rfl
  ·rfl
 rw [e] at c1
 simp [intsD, irow] at c1
 clear e
 refine zaj [] [] ztc ?_
 simp -implicitDefEqProofs [znr, Cut.row]
 refine zaa (ze6 _ _) ?_
 simp -implicitDefEqProofs
 refine zaa (ze6 _ _) ?_
 simp -implicitDefEqProofs
 refine zaa c1 ?_
 simp -implicitDefEqProofs
def prevC (cs : List Cut) (i : Nat) : Option Cut := if i = 0 then none else cs[i - 1]?
theorem zsh (cs : List Cut) (hl : cs.length ≤ cap) : Den PP 77 [cutsD cs] [] (.bool (cutsMay cs)) [] := by
 obtain ⟨A, hA⟩ : ∃ A, cutsOk none cs = A := ⟨_, rfl⟩
 unfold cap at hl
 refine zaj [] [] zyv ?_
 simp -implicitDefEqProofs [zse, cutsD]
 refine zax cs (fun i rest => fun ⟨fr, bs⟩ => bs = [] ∧ fr 0 = cutsD cs ∧ fr 5 = cutsD cs ∧ fr 6 = .int .i64 cs.length ∧ fr 7 = .int .i64 i ∧ cutsOk (prevC cs i) rest = A ∧ (∀ q, prevC cs i = some q → cutOk q = true))
  (fun ⟨fr, bs⟩ => bs = [] ∧ fr 0 = cutsD cs ∧ A = true) (fun ⟨fr, bs⟩ => fr 2 = .bool false ∧ A = false) zli.eq_1 ?_ ?_ ?_ ?_ ?_
 ·exact ⟨rfl, rfl, rfl, rfl, rfl, hA, by simp [prevC]⟩
 ·rintro i ⟨fr, bs⟩ hi ⟨rfl, h0, h5, h6, h7, he, _⟩
  simp -implicitDefEqProofs [h0, h5, h6, h7, hi]
  simpa [cutsOk] using he.symm
 ·rintro i a rest ⟨fr, bs⟩ hlt hget hg hd hd2 ⟨rfl, h0, h5, h6, h7, he, hq⟩
  have hlt' : (i : Int) < cs.length := by omega
  have hw := zav (n := i) (by omega)
  simp only [cutsOk] at he
  have hp : prevC cs (i + 1) = some a := by simp [prevC, hget]
  rw [hp]
  by_cases ha : cutOk a = true
  ·have ha' := (zjm a).1 ha
   have p1 : place a.a = true := by rw [zen]; omega
   have p2 : place a.b = true := by rw [zen]; omega
   have p3 : ¬ a.b ≤ a.a := by omega
   have c1 := zat a.a
   have c2 := zat a.b
   rw [p1] at c1
   rw [p2] at c2
   rw [ha] at he
   have hqa : ∀ q, some a = some q → cutOk q = true := by rintro q ⟨⟩; exact ha
   clear hA
   cases i with
   | zero =>
     simp [prevC] at he
     simp -implicitDefEqProofs [h0, h5, h6, h7, hlt, hlt', hget, hg, cutsD, Cut.row]
     repeat' ((first | refine zaa (by first | exact c1 | exact c2) ?_ | ((with_reducible first | refine zak ?_ ?_ | refine zah ?_ ?_ | refine zad ?_ ?_ | refine zae ?_ ?_) <;> intro _) | ((with_reducible first | refine zan ?_ ?_ | refine zap ?_ ?_ | refine zal ?_ ?_ | refine zac ?_ ?_ | refine zai ?_ ?_ | refine zao ?_ ?_ | refine zaf ?_ ?_ | refine zab ?_ ?_) <;> intro hq <;> (try simp at hq)) | refine zag (by omega) ?_ | refine zam (by omega) ?_) <;> simp -implicitDefEqProofs [*, cutsD, Cut.row, hw, p3])
     exact zaq (by omega) (by omega)
   | succ j =>
     have hj : j < cs.length := by omega
     have hj' : (j : Int) < cs.length := by omega
     have hjw : IntKind.wrap .i64 (j : Int) = j := zaq (by omega) (by omega)
     obtain ⟨q, hqj⟩ : ∃ q, cs[j] = q := ⟨_, rfl⟩
     have hpj : prevC cs (j + 1) = some q := by simp [prevC, hj, hqj]
     rw [hpj] at he hq
     have hqo := zst (hq q rfl) ha
     have c3 := zry q a
     simp only [Cut.row] at c3
     simp at he
     clear hq
     by_cases hn : numC q < numC a
     ·have ho : ¬ 0 ≤ ordC q a := by have := hqo.2 hn; omega
      simp [hn] at he
      generalize ordC q a = o at *
      clear hqo
      simp -implicitDefEqProofs [h0, h5, h6, h7, hlt, hlt', hget, hg, cutsD, Cut.row]
      repeat' ((first | refine zaa (by first | exact c1 | exact c2 | exact c3) ?_ | ((with_reducible first | refine zak ?_ ?_ | refine zah ?_ ?_ | refine zad ?_ ?_ | refine zae ?_ ?_) <;> intro _) | ((with_reducible first | refine zan ?_ ?_ | refine zap ?_ ?_ | refine zal ?_ ?_ | refine zac ?_ ?_ | refine zai ?_ ?_ | refine zao ?_ ?_ | refine zaf ?_ ?_ | refine zab ?_ ?_) <;> intro hq <;> (try simp at hq)) | refine zag (by omega) ?_ | refine zam (by omega) ?_) <;> simp -implicitDefEqProofs [*, cutsD, Cut.row, hw, p3, hjw, hj, hj', hqj, ho])
      all_goals first | exact he | exact hw | exact ⟨hw, he⟩ | omega
     ·have ho : 0 ≤ ordC q a := by have : ¬ ordC q a < 0 := fun e => hn (hqo.1 e); omega
      simp [hn] at he
      generalize ordC q a = o at *
      clear hqo
      simp -implicitDefEqProofs [h0, h5, h6, h7, hlt, hlt', hget, hg, cutsD, Cut.row]
      repeat' ((first | refine zaa (by first | exact c1 | exact c2 | exact c3) ?_ | ((with_reducible first | refine zak ?_ ?_ | refine zah ?_ ?_ | refine zad ?_ ?_ | refine zae ?_ ?_) <;> intro _) | ((with_reducible first | refine zan ?_ ?_ | refine zap ?_ ?_ | refine zal ?_ ?_ | refine zac ?_ ?_ | refine zai ?_ ?_ | refine zao ?_ ?_ | refine zaf ?_ ?_ | refine zab ?_ ?_) <;> intro hq <;> (try simp at hq)) | refine zag (by omega) ?_ | refine zam (by omega) ?_) <;> simp -implicitDefEqProofs [*, cutsD, Cut.row, hw, p3, hjw, hj, hj', hqj, ho])
      all_goals omega
  ·have ha' : cutOk a = false := by simpa using ha
   rw [ha'] at he
   simp at he
   have c1 := zat a.a
   have c2 := zat a.b
   have hor : place a.a = false ∨ (place a.a = true ∧ (place a.b = false ∨ (place a.b = true ∧ a.b ≤ a.a))) := by
    simp only [cutOk] at ha'
    generalize place a.a = X at *
    generalize place a.b = Y at *
    cases X <;> cases Y <;> simp at ha' ⊢ <;> omega
   clear ha ha' hq hp hA
   rcases hor with h | ⟨h, h2 | ⟨h2, h3⟩⟩
   ·rw [h] at c1
    simp -implicitDefEqProofs [h0, h5, h6, h7, hlt, hlt', hget, hg, cutsD, Cut.row]
    repeat' ((first | refine zaa (by first | exact c1 | exact c2) ?_ | ((with_reducible first | refine zak ?_ ?_ | refine zah ?_ ?_ | refine zad ?_ ?_ | refine zae ?_ ?_) <;> intro _) | ((with_reducible first | refine zan ?_ ?_ | refine zap ?_ ?_ | refine zal ?_ ?_ | refine zac ?_ ?_ | refine zai ?_ ?_ | refine zao ?_ ?_ | refine zaf ?_ ?_ | refine zab ?_ ?_) <;> intro hq <;> (try simp at hq)) | refine zag (by omega) ?_ | refine zam (by omega) ?_) <;> simp -implicitDefEqProofs [*, cutsD, Cut.row, hw])
   ·rw [h] at c1
    rw [h2] at c2
    simp -implicitDefEqProofs [h0, h5, h6, h7, hlt, hlt', hget, hg, cutsD, Cut.row]
    repeat' ((first | refine zaa (by first | exact c1 | exact c2) ?_ | ((with_reducible first | refine zak ?_ ?_ | refine zah ?_ ?_ | refine zad ?_ ?_ | refine zae ?_ ?_) <;> intro _) | ((with_reducible first | refine zan ?_ ?_ | refine zap ?_ ?_ | refine zal ?_ ?_ | refine zac ?_ ?_ | refine zai ?_ ?_ | refine zao ?_ ?_ | refine zaf ?_ ?_ | refine zab ?_ ?_) <;> intro hq <;> (try simp at hq)) | refine zag (by omega) ?_ | refine zam (by omega) ?_) <;> simp -implicitDefEqProofs [*, cutsD, Cut.row, hw])
   ·rw [h] at c1
    rw [h2] at c2
    simp -implicitDefEqProofs [h0, h5, h6, h7, hlt, hlt', hget, hg, cutsD, Cut.row]
    repeat' ((first | refine zaa (by first | exact c1 | exact c2) ?_ | ((with_reducible first | refine zak ?_ ?_ | refine zah ?_ ?_ | refine zad ?_ ?_ | refine zae ?_ ?_) <;> intro _) | ((with_reducible first | refine zan ?_ ?_ | refine zap ?_ ?_ | refine zal ?_ ?_ | refine zac ?_ ?_ | refine zai ?_ ?_ | refine zao ?_ ?_ | refine zaf ?_ ?_ | refine zab ?_ ?_) <;> intro hq <;> (try simp at hq)) | refine zag (by omega) ?_ | refine zam (by omega) ?_) <;> simp -implicitDefEqProofs [*, cutsD, Cut.row, hw])
 ·rintro ⟨fr, bs⟩ ⟨rfl, h0, h1⟩
  simp -implicitDefEqProofs [h0, cutsD, cutsMay, hA, h1]
  omega
 ·rintro ⟨fr, bs⟩ h
  simp -implicitDefEqProofs [h.1, h.2, cutsMay, hA]
theorem zwx (cs : List Cut) (hl : cs.length ≤ cap) : Den PP 74 [cutsD cs] [] (.bool (cutsMay cs)) [] := by
 obtain ⟨A, hA⟩ : ∃ A, cutsOk none cs = A := ⟨_, rfl⟩
 unfold cap at hl
 refine zaj [] [] zi8 ?_
 simp -implicitDefEqProofs [zfs, cutsD]
 refine zax cs (fun i rest => fun ⟨fr, bs⟩ => bs = [] ∧ fr 0 = cutsD cs ∧ fr 3 = .int .i64 i ∧ cutsOk (prevC cs i) rest = A ∧ (∀ q, prevC cs i = some q → cutOk q = true))
  (fun ⟨fr, bs⟩ => bs = [] ∧ fr 0 = cutsD cs ∧ A = true) (fun ⟨fr, bs⟩ => fr 2 = .bool false ∧ A = false) zes.eq_1 ?_ ?_ ?_ ?_ ?_
 ·exact ⟨rfl, rfl, rfl, hA, by simp [prevC]⟩
 ·rintro i ⟨fr, bs⟩ hi ⟨rfl, h0, h3, he, _⟩
  simp -implicitDefEqProofs [h0, h3, hi, cutsD]
  simpa [cutsOk] using he.symm
 ·rintro i a rest ⟨fr, bs⟩ hlt hget hg hd hd2 ⟨rfl, h0, h3, he, hq⟩
  have hlt' : (i : Int) < cs.length := by omega
  have hw := zav (n := i) (by omega)
  simp only [cutsOk] at he
  have hp : prevC cs (i + 1) = some a := by simp [prevC, hget]
  rw [hp]
  have c1 := zc5 a.a
  have c2 := zc5 a.b
  by_cases ha : cutOk a = true
  ·have ha' := (zjm a).1 ha
   have p1 : place a.a = true := by rw [zen]; omega
   have p2 : place a.b = true := by rw [zen]; omega
   have p3 : ¬ a.b ≤ a.a := by omega
   rw [p1] at c1
   rw [p2] at c2
   rw [ha] at he
   have hqa : ∀ q, some a = some q → cutOk q = true := by rintro q ⟨⟩; exact ha
   have wa1 : IntKind.wrap .i64 (a.a * 256) = a.a * 256 := zaq (by omega) (by omega)
   have wa2 : IntKind.wrap .i64 (a.a * 256 + a.b) = a.a * 256 + a.b := zaq (by omega) (by omega)
   clear hA
   cases i with
   | zero =>
     simp [prevC] at he
     simp -implicitDefEqProofs [h0, h3, hlt, hlt', hget, hg, cutsD, Cut.row]
     repeat' ((first | refine zaa (by first | exact c1 | exact c2) ?_ | ((with_reducible first | refine zak ?_ ?_ | refine zah ?_ ?_ | refine zad ?_ ?_ | refine zae ?_ ?_) <;> intro _) | ((with_reducible first | refine zan ?_ ?_ | refine zap ?_ ?_ | refine zal ?_ ?_ | refine zac ?_ ?_ | refine zai ?_ ?_ | refine zao ?_ ?_ | refine zaf ?_ ?_ | refine zab ?_ ?_) <;> intro hq <;> (try simp at hq)) | refine zag (by omega) ?_ | refine zam (by omega) ?_) <;> simp -implicitDefEqProofs [*, cutsD, Cut.row, hw, p3])
     all_goals first | exact he | exact hw | exact ⟨hw, he⟩ | exact zaq (by omega) (by omega) | omega
   | succ j =>
     have hj : j < cs.length := by omega
     have hj' : (j : Int) < cs.length := by omega
     have hjw : IntKind.wrap .i64 (j : Int) = j := zaq (by omega) (by omega)
     obtain ⟨q, hqj⟩ : ∃ q, cs[j] = q := ⟨_, rfl⟩
     have hpj : prevC cs (j + 1) = some q := by simp [prevC, hj, hqj]
     rw [hpj] at he hq
     have hqc := (zjm q).1 (hq q rfl)
     have wq1 : IntKind.wrap .i64 (q.a * 256) = q.a * 256 := zaq (by omega) (by omega)
     have wq2 : IntKind.wrap .i64 (q.a * 256 + q.b) = q.a * 256 + q.b := zaq (by omega) (by omega)
     simp at he
     clear hq
     by_cases hn : numC q < numC a
     ·have hn2 : ¬ a.a * 256 + a.b ≤ q.a * 256 + q.b := by unfold numC at hn; omega
      simp [hn] at he
      clear hn
      simp -implicitDefEqProofs [h0, h3, hlt, hlt', hget, hg, cutsD, Cut.row]
      repeat' ((first | refine zaa (by first | exact c1 | exact c2) ?_ | ((with_reducible first | refine zak ?_ ?_ | refine zah ?_ ?_ | refine zad ?_ ?_ | refine zae ?_ ?_) <;> intro _) | ((with_reducible first | refine zan ?_ ?_ | refine zap ?_ ?_ | refine zal ?_ ?_ | refine zac ?_ ?_ | refine zai ?_ ?_ | refine zao ?_ ?_ | refine zaf ?_ ?_ | refine zab ?_ ?_) <;> intro hq <;> (try simp at hq)) | refine zag (by omega) ?_ | refine zam (by omega) ?_) <;> simp -implicitDefEqProofs [*, cutsD, Cut.row, hw, p3, hjw, hj, hj', hqj, wa1, wa2, wq1, wq2, hn2])
      all_goals first | exact he | exact hw | exact ⟨hw, he⟩ | omega
     ·have hn2 : a.a * 256 + a.b ≤ q.a * 256 + q.b := by unfold numC at hn; omega
      simp [hn] at he
      clear hn
      simp -implicitDefEqProofs [h0, h3, hlt, hlt', hget, hg, cutsD, Cut.row]
      repeat' ((first | refine zaa (by first | exact c1 | exact c2) ?_ | ((with_reducible first | refine zak ?_ ?_ | refine zah ?_ ?_ | refine zad ?_ ?_ | refine zae ?_ ?_) <;> intro _) | ((with_reducible first | refine zan ?_ ?_ | refine zap ?_ ?_ | refine zal ?_ ?_ | refine zac ?_ ?_ | refine zai ?_ ?_ | refine zao ?_ ?_ | refine zaf ?_ ?_ | refine zab ?_ ?_) <;> intro hq <;> (try simp at hq)) | refine zag (by omega) ?_ | refine zam (by omega) ?_) <;> simp -implicitDefEqProofs [*, cutsD, Cut.row, hw, p3, hjw, hj, hj', hqj, wa1, wa2, wq1, wq2, hn2])
      all_goals omega
  ·have ha' : cutOk a = false := by simpa using ha
   rw [ha'] at he
   simp at he
   have hor : place a.a = false ∨ (place a.a = true ∧ (place a.b = false ∨ (place a.b = true ∧ a.b ≤ a.a))) := by
    simp only [cutOk] at ha'
    generalize place a.a = X at *
    generalize place a.b = Y at *
    cases X <;> cases Y <;> simp at ha' ⊢ <;> omega
   clear ha ha' hq hp hA
   rcases hor with h | ⟨h, h2 | ⟨h2, h3⟩⟩
   ·rw [h] at c1
    simp -implicitDefEqProofs [h0, h3, hlt, hlt', hget, hg, cutsD, Cut.row]
    repeat' ((first | refine zaa (by first | exact c1 | exact c2) ?_ | ((with_reducible first | refine zak ?_ ?_ | refine zah ?_ ?_ | refine zad ?_ ?_ | refine zae ?_ ?_) <;> intro _) | ((with_reducible first | refine zan ?_ ?_ | refine zap ?_ ?_ | refine zal ?_ ?_ | refine zac ?_ ?_ | refine zai ?_ ?_ | refine zao ?_ ?_ | refine zaf ?_ ?_ | refine zab ?_ ?_) <;> intro hq <;> (try simp at hq)) | refine zag (by omega) ?_ | refine zam (by omega) ?_) <;> simp -implicitDefEqProofs [*, cutsD, Cut.row, hw])
   ·rw [h] at c1
    rw [h2] at c2
    simp -implicitDefEqProofs [h0, h3, hlt, hlt', hget, hg, cutsD, Cut.row]
    repeat' ((first | refine zaa (by first | exact c1 | exact c2) ?_ | ((with_reducible first | refine zak ?_ ?_ | refine zah ?_ ?_ | refine zad ?_ ?_ | refine zae ?_ ?_) <;> intro _) | ((with_reducible first | refine zan ?_ ?_ | refine zap ?_ ?_ | refine zal ?_ ?_ | refine zac ?_ ?_ | refine zai ?_ ?_ | refine zao ?_ ?_ | refine zaf ?_ ?_ | refine zab ?_ ?_) <;> intro hq <;> (try simp at hq)) | refine zag (by omega) ?_ | refine zam (by omega) ?_) <;> simp -implicitDefEqProofs [*, cutsD, Cut.row, hw])
   ·rename_i h33
    rw [h] at c1
    rw [h2] at c2
    simp -implicitDefEqProofs [h0, h33, hlt, hlt', hget, hg, cutsD, Cut.row]
    repeat' ((first | refine zaa (by first | exact c1 | exact c2) ?_ | ((with_reducible first | refine zak ?_ ?_ | refine zah ?_ ?_ | refine zad ?_ ?_ | refine zae ?_ ?_) <;> intro _) | ((with_reducible first | refine zan ?_ ?_ | refine zap ?_ ?_ | refine zal ?_ ?_ | refine zac ?_ ?_ | refine zai ?_ ?_ | refine zao ?_ ?_ | refine zaf ?_ ?_ | refine zab ?_ ?_) <;> intro hq <;> (try simp at hq)) | refine zag (by omega) ?_ | refine zam (by omega) ?_) <;> simp -implicitDefEqProofs [*, cutsD, Cut.row, hw])
 ·rintro ⟨fr, bs⟩ ⟨rfl, h0, h1⟩
  simp -implicitDefEqProofs [h0, cutsD, cutsMay, hA, h1]
  omega
 ·rintro ⟨fr, bs⟩ h
  simp -implicitDefEqProofs [h.1, h.2, cutsMay, hA]
end Go.AM
/- AM: contracts: binary search, places put and taken out. -/
namespace Go.AM
set_option linter.unusedSimpArgs false
set_option linter.unusedVariables false
set_option maxRecDepth 8000
set_option maxHeartbeats 0
theorem zwh (a : Int) : Den PP 220 [.int .i64 a] [] (.bool false) [] := by
 refine zaj [] [] zkw ?_
 simp -implicitDefEqProofs [zgu]
theorem z7a (a b : Int) : Den PP 219 [.int .i64 a, .int .i64 b] [] (.bool (decide (a < b))) [] := by
 refine zaj [] [] zpe ?_
 simp -implicitDefEqProofs [zki]
 repeat' ((first | refine zaa (by first | exact zow _) ?_ | ((with_reducible first | refine zak ?_ ?_ | refine zah ?_ ?_ | refine zad ?_ ?_ | refine zae ?_ ?_) <;> intro _) | ((with_reducible first | refine zan ?_ ?_ | refine zap ?_ ?_ | refine zal ?_ ?_ | refine zac ?_ ?_ | refine zai ?_ ?_ | refine zao ?_ ?_ | refine zaf ?_ ?_ | refine zab ?_ ?_) <;> intro hq <;> (try simp at hq)) | refine zag (by omega) ?_ | refine zam (by omega) ?_) <;> simp -implicitDefEqProofs [*])
theorem zxh (xs : List Int) (id : Int) (hl : xs.length ≤ cap) (hr : xs.Pairwise (· < ·)) :
 Den PP 185 [intsD xs, .int .i64 id] [] (.tup [.int .i64 (posI xs id), .bool (decide (xs[posI xs id]? = some id))]) [] := by
 have hlo := fun i x => z3p (xs := xs) (id := id) i x
 have hhi := fun i x => z6h (id := id) hr i x
 have hat := z6f xs id
 generalize posI xs id = at_ at *
 refine zaj [] [] zfl ?_
 simp -implicitDefEqProofs [zdc, intsD]
 refine zde xs.length (fun m ⟨fr, bs⟩ => ∃ lo hi : Nat, bs = [] ∧ hi - lo ≤ m ∧ lo ≤ at_ ∧ at_ ≤ hi ∧ hi ≤ xs.length ∧ fr 0 = intsD xs ∧ fr 1 = .int .i64 id ∧ fr 6 = .int .i64 xs.length ∧ fr 7 = .int .i64 lo ∧ fr 8 = .int .i64 hi)
  (fun ⟨fr, bs⟩ => bs = [] ∧ fr 0 = intsD xs ∧ fr 1 = .int .i64 id ∧ fr 6 = .int .i64 xs.length ∧ fr 7 = .int .i64 at_) (fun _ => False) zcw.eq_1 ?_ ?_ ?_ ?_ ?_
 ·exact ⟨0, xs.length, rfl, by omega, by omega, hat, by omega, rfl, rfl, rfl, rfl, rfl⟩
 ·rintro ⟨fr, bs⟩ ⟨lo, hi, rfl, h1, h2, h3, h4, h0, h5, h6, h7, h8⟩
  have e1 : lo = at_ := by omega
  have e2 : hi = at_ := by omega
  simp -implicitDefEqProofs [h0, h5, h6, h7, h8, e1, e2]
 ·rintro m ⟨fr, bs⟩ ⟨lo, hi, rfl, h1, h2, h3, h4, h0, h5, h6, h7, h8⟩
  by_cases hlt : lo < hi
  ·have hlt' : (lo : Int) < hi := by omega
   have hm := zuk (lo := lo) (hi := hi) (by omega) (by omega)
   have hml : (lo + hi) / 2 < xs.length := by omega
   have hml' : (((lo + hi) / 2 : Nat) : Int) < xs.length := by omega
   have hw := zav (n := (lo + hi) / 2) (by unfold cap at hl; omega)
   have hb1 : lo ≤ (lo + hi) / 2 := by omega
   have hb2 : (lo + hi) / 2 < hi := by omega
   generalize (lo + hi) / 2 = mid at *
   obtain ⟨x, hx⟩ : ∃ x, xs[mid] = x := ⟨_, rfl⟩
   have hx' : xs[mid]? = some x := by simp [hml, hx]
   simp -implicitDefEqProofs [h0, h5, h6, h7, h8, hlt', hlt, hm, hml, hml', irow, hx, intsD]
   refine zaa (z7a x id) ?_
   simp -implicitDefEqProofs
   refine zad (fun hc => ?_) (fun hc => ?_)
   all_goals simp -implicitDefEqProofs [h0, h5, h6, h7, h8, hc, hw, intsD]
   ·have : mid < at_ := by
     apply Classical.byContradiction
     intro hx2
     have := hhi mid x (by omega) hx'
     omega
    exact ⟨mid + 1, hi, by omega, by omega, by omega, by omega, by simp, by simp⟩
   ·have : at_ ≤ mid := by
     apply Classical.byContradiction
     intro hx2
     have := hlo mid x (by omega) hx'
     omega
    exact ⟨lo, mid, by omega, by omega, by omega, by omega, by simp, by simp⟩
  ·have e1 : lo = at_ := by omega
   have e2 : hi = at_ := by omega
   simp -implicitDefEqProofs [h0, h5, h6, h7, h8, e1, e2]
 ·rintro ⟨fr, bs⟩ ⟨rfl, h0, h1, h6, h7⟩
  simp -implicitDefEqProofs [h0, h1, h6, h7]
  refine zak (fun hc => ?_) (fun hc => ?_)
  ·obtain ⟨x, hx⟩ : ∃ x, xs[at_] = x := ⟨_, rfl⟩
   simp -implicitDefEqProofs [h0, h1, h6, h7, hc, irow, hx, intsD]
   repeat' ((first | refine zaa (by first | exact zwh _) ?_ | ((with_reducible first | refine zak ?_ ?_ | refine zah ?_ ?_ | refine zad ?_ ?_ | refine zae ?_ ?_) <;> intro _) | ((with_reducible first | refine zan ?_ ?_ | refine zap ?_ ?_ | refine zal ?_ ?_ | refine zac ?_ ?_ | refine zai ?_ ?_ | refine zao ?_ ?_ | refine zaf ?_ ?_ | refine zab ?_ ?_) <;> intro hq <;> (try simp at hq)) | refine zag (by omega) ?_ | refine zam (by omega) ?_) <;> simp -implicitDefEqProofs [*, h0, h1, h6, h7, hc, irow, hx, intsD])
  ·have hp : xs[at_]? = none := by rw [List.getElem?_eq_none]; omega
   simp -implicitDefEqProofs [h0, h1, h6, h7, hc, hp, intsD]
 ·rintro ⟨fr, bs⟩ h
  exact h.elim
theorem zg7 (xs : List Int) (g : Nat) (caps : List D) (p : Int → Bool) (hp : TellsI g caps p xs) (hl : xs.length ≤ 1000000) :
 GivesC (DenF PP [0]) 225 (xs.map irow) 1 [.fn g [] caps] ((xs.filter fun x => !p x).map irow) := by
 refine zlo (fun r hr => by obtain ⟨a, _, rfl⟩ := List.mem_map.1 hr; rfl) (StillR.map _ _ fun a _ d hd => by rw [List.mem_singleton.1 hd]; rfl) fun fl hfl hrow hfs htake hget => ?_
 have hi0 := zfx xs (by unfold cap; omega) g caps p hp
 have hi1 : Den PP 165 [.sl fl xs.length, .fn g [] caps] [] (.int .i64 (fIdx p 0 xs)) [] := z5l (by
  simp only [List.map_cons, List.map_nil, D.cut]
  rw [List.length_map] at htake
  rw [htake]
  exact hi0)
 simp only [List.length_map] at *
 rcases z6g p xs with ⟨he, hf⟩ | ⟨f, he, hf, hff⟩
 ·rw [he] at hi1
  refine ⟨.ref 0 0 xs.length, [⟨fl, 1, .mut⟩], ?_, ?_⟩
  ·refine zeb [] [] [] [] (by simp) (fun _ h => absurd h List.not_mem_nil) zdh ?_
   simp -implicitDefEqProofs [-leave, zci, hp.2.1]
   refine zaa hi1 ?_
   simp -implicitDefEqProofs [-leave, hp.2.1]
   rw [zdg (by omega) (by simpa using hfs)]
   rfl
  ·rw [hf]
   exact zbz rfl rfl rfl (by simpa using hfl) (by simpa using htake.symm) (.inl rfl)
 ·rw [he] at hi1
  have hfl' : f < fl.length := by omega
  have hw := zav (n := f) (by omega)
  have hne : ¬ (f : Int) = -1 := by omega
  have hm1 := List.length_filter_le (fun x => !p x) xs
  obtain ⟨m, hm⟩ : ∃ m, (xs.filter fun x => !p x).length = m := ⟨_, rfl⟩
  rw [hm] at hm1
  have hcells : ∀ k, k < xs.length → fl[k]? = (xs[k]?).map irow := by
   intro k hk
   rw [hget k hk, List.getElem?_map]
  refine ⟨.ref 0 0 m, [⟨(xs.filter fun x => !p x).map irow ++ List.replicate (xs.length - m) [.int .i64 0] ++ fl.drop xs.length, 1, .mut⟩], ?_, ?_⟩
  ·refine zeb [] [] [] [] (by simp) (fun _ h => absurd h List.not_mem_nil) zdh ?_
   simp -implicitDefEqProofs [-leave, zci, hp.2.1]
   refine zaa hi1 ?_
   simp -implicitDefEqProofs [-leave, hp.2.1, hne, hw]
   refine zde (xs.length - (f + 1)) (fun q ⟨fr, bs⟩ => ∃ (i j : Nat) (cur : List (List D)), bs = [⟨cur, 1, .mut⟩, ⟨[], 1, .mut⟩] ∧ xs.length - j ≤ q ∧ j ≤ xs.length ∧ i < j ∧ cur.length = fl.length ∧ StillR cur ∧
    (∀ r ∈ cur, r.length = 1) ∧ cur.take i = ((xs.take j).filter fun x => !p x).map irow ∧ cur.drop j = fl.drop j ∧ fr 0 = .ref 0 0 xs.length ∧ fr 1 = .fn g [] caps ∧ fr 5 = .int .i64 i ∧ fr 6 = .int .i64 j)
    (fun ⟨fr, bs⟩ => ∃ cur : List (List D), bs = [⟨cur, 1, .mut⟩, ⟨[], 1, .mut⟩] ∧ m < xs.length ∧ cur.length = fl.length ∧ StillR cur ∧ cur.take m = (xs.filter fun x => !p x).map irow ∧ cur.drop xs.length = fl.drop xs.length ∧ fr 0 = .ref 0 0 xs.length ∧ fr 5 = .int .i64 m)
    (fun _ => False) zc4.eq_1 ?_ ?_ ?_ ?_ ?_
   ·refine ⟨f, f + 1, fl, rfl, by omega, by omega, by omega, rfl, hfs, hrow, ?_, rfl, rfl, rfl, rfl, rfl⟩
    rw [hff, List.map_take, ← htake, List.take_take]
    congr 1
    omega
   ·rintro ⟨fr, bs⟩ ⟨i, j, cur, rfl, hq, hj, hij, hcl, hcs, hcr, hct, hcd, h0, h1, h5, h6⟩
    have hje : j = xs.length := by omega
    subst hje
    rw [List.take_length] at hct
    have him : i = m := by
     have := congrArg List.length hct
     simp at this
     omega
    subst him
    simp -implicitDefEqProofs [-leave, h0, h1, h5, h6]
    exact ⟨hij, hcl, hcs, hct, hcd⟩
   ·rintro q ⟨fr, bs⟩ ⟨i, j, cur, rfl, hq, hj, hij, hcl, hcs, hcr, hct, hcd, h0, h1, h5, h6⟩
    by_cases hjx : j = xs.length
    ·subst hjx
     rw [List.take_length] at hct
     have him : i = m := by
      have := congrArg List.length hct
      simp at this
      omega
     subst him
     simp -implicitDefEqProofs [-leave, h0, h1, h5, h6]
     exact ⟨hij, hcl, hcs, hct, hcd⟩
    ·have hjl : j < xs.length := by omega
     have hjl' : (j : Int) < xs.length := by omega
     obtain ⟨x, hx⟩ : ∃ x, xs[j] = x := ⟨_, rfl⟩
     have hx' : xs[j]? = some x := by simp [hjl, hx]
     have hcj : cur[j]? = some [.int .i64 x] := by
      have h7 : (cur.drop j)[0]? = (fl.drop j)[0]? := by rw [hcd]
      rw [List.getElem?_drop, List.getElem?_drop, Nat.add_zero, hcells j hjl, hx'] at h7
      exact h7
     have hwj := zav (n := j) (by omega)
     have hwi := zav (n := i) (by omega)
     have hil' : (i : Int) < xs.length := by omega
     obtain ⟨r0, hr0⟩ : ∃ r0, cur[i]? = some r0 := ⟨cur[i]'(by omega), by simp⟩
     have hr0l : r0.length = 1 := hcr r0 (List.mem_of_getElem? hr0)
     obtain ⟨d0, rfl⟩ := List.length_eq_one_iff.1 hr0l
     have hsw := hcs.sweep
     have hicl : i < cur.length := by omega
     have htk : xs.take (j + 1) = xs.take j ++ [x] := by rw [List.take_add_one, hx']; rfl
     simp -implicitDefEqProofs [-leave, h0, h1, h5, h6, hjl', hcj, hp.1, hp.2.1]
     refine zaa (hp.2.2 x (List.mem_of_getElem? hx')) ?_
     simp -implicitDefEqProofs [-leave]
     refine zaf (fun hpx => ?_) (fun hpx => ?_)
     all_goals simp -implicitDefEqProofs [-leave, h0, h1, h5, h6, hwi, hwj, hil', hr0, hp.1, hp.2.1, hsw]
     ·refine ⟨i, j + 1, ?_⟩
      simp
      refine ⟨by omega, by omega, by omega, hcl, hcs, hcr, ?_, ?_⟩
      ·rw [htk, List.filter_append, hct]
       simp [hpx]
      ·rw [← List.drop_drop, ← List.drop_drop, hcd]
     ·refine ⟨i + 1, j + 1, ?_⟩
      simp
      refine ⟨by omega, by omega, by omega, hcl, hcs.set (by simp [D.still]) i, ?_, ?_, ?_⟩
      ·intro r hr
       rcases List.mem_or_eq_of_mem_set hr with h | h
       ·exact hcr r h
       ·rw [h]; rfl
      ·rw [htk, List.filter_append, List.map_append, ← hct, List.take_add_one]
       simp [hpx, irow, List.take_set, hicl]
       rw [List.set_eq_of_length_le (by simp; omega)]
      ·rw [List.drop_set_of_lt (by omega), ← List.drop_drop, ← List.drop_drop, hcd]
   ·rintro ⟨fr, bs⟩ ⟨cur, rfl, hlt, hcl, hcs, hct, hcd, h0, h5⟩
    simp -implicitDefEqProofs [-leave, h0, h5]
    refine zhv (m) (xs.length) (by simp; rfl) rfl (by first | rfl | omega | (simp [boundD]; done) | (simp [boundD]; omega) | (simp; done) | (simp; omega)) (by first | rfl | omega | (simp [boundD]; done) | (simp [boundD]; omega) | (simp; done) | (simp; omega)) (by omega) (by first | rfl | omega | (simp [boundD]; done) | (simp [boundD]; omega) | (simp; done) | (simp; omega)) rfl (by first | rfl | omega | (simp [boundD]; done) | (simp [boundD]; omega) | (simp; done) | (simp; omega)) ?_
    simp -implicitDefEqProofs [-leave, h0, h5]
    try refine zc8 (by first | omega | (simp; done) | (simp; omega)) ?_
    try simp -implicitDefEqProofs [-leave, h0, h5]
    have hov := zaw (rows := cur) (p := m) (ys := List.replicate (xs.length - m) [D.int IntKind.i64 0]) (by simp; omega)
    refine zhv (0) (m) (by simp; rfl) rfl (by first | rfl | omega | (simp [boundD]; done) | (simp [boundD]; omega) | (simp; done) | (simp; omega)) (by first | rfl | omega | (simp [boundD]; done) | (simp [boundD]; omega) | (simp; done) | (simp; omega)) (by omega) (by first | rfl | omega | (simp [boundD]; done) | (simp [boundD]; omega) | (simp; done) | (simp; omega)) rfl (by first | rfl | omega | (simp [boundD]; done) | (simp [boundD]; omega) | (simp; done) | (simp; omega)) ?_
    simp -implicitDefEqProofs [-leave, h0, h5]
    rw [zdg (by omega) (by simpa using hcs.ovr (b := List.replicate (xs.length - m) [D.int IntKind.i64 0]) (fun r hr d hd => by rw [(List.mem_replicate.1 hr).2] at hd; rw [List.mem_singleton.1 hd]; rfl) m)]
    simp only [List.take_succ_cons, List.take_zero, ovr, List.length_replicate, hct, show m + (xs.length - m) = xs.length by omega, hcd, List.append_assoc]
   ·rintro ⟨fr, bs⟩ h
    exact h.elim
  ·refine zbz rfl rfl rfl ?_ ?_ (.inl rfl)
   ·simp; omega
   ·rw [List.drop_zero, List.append_assoc, List.take_left' (by simpa using hm)]
theorem zv0 (xs : List Int) (id : Int) (hl : xs.length ≤ cap) : Den PP 112 [intsD xs, .int .i64 id] [] (.tup [.ref 0 0 (withP xs id).1.length, .int .i64 (withP xs id).2]) [⟨(withP xs id).1.map irow, 1, .mut⟩] := by
 have c1 := zkx xs hl
 have c2 := fun h : xs.length ≤ 16 => zld (xs.map irow) (by simp) (by simp; omega)
 have c3 := fun h => zxh xs id hl h
 simp only [intsD, List.length_map] at c1 c2 c3
 refine zku [25, 31] [31] [31] [] (fun _ h => absurd h List.not_mem_nil) zou ?_
 simp -implicitDefEqProofs [zkm, intsD]
 refine zaa c1 ?_
 simp -implicitDefEqProofs
 refine zac (fun h1 => ?_) (fun h1 => ?_)
 rotate_left
 ·simp -implicitDefEqProofs [h1, withP]
 obtain ⟨hr, hp, h16⟩ := (zb1 xs).1 h1
 simp -implicitDefEqProofs [h1]
 refine zaa (zat id) ?_
 simp -implicitDefEqProofs
 refine zaf (fun h2 => ?_) (fun h2 => ?_)
 rotate_left
 ·simp -implicitDefEqProofs [h1, h2, withP]
 simp -implicitDefEqProofs [h1, h2]
 refine zaa (c3 hr) ?_
 simp -implicitDefEqProofs
 refine zad (fun h3 => ?_) (fun h3 => ?_)
 ·have h4 := (zzx hr).1 h3
  simp -implicitDefEqProofs
  refine zaa (c2 h16) ?_
  simp -implicitDefEqProofs [h1, h2, h4, withP]
 ·have h4 : ¬ id ∈ xs := fun h => h3 ((zzx hr).2 h)
  simp -implicitDefEqProofs
  refine zad (fun h5 => ?_) (fun h5 => ?_)
  ·have h5' : xs.length = 16 := by omega
   simp -implicitDefEqProofs [h1, h2, h4, h5', withP]
  ·have h5' : ¬ xs.length = 16 := by omega
   simp -implicitDefEqProofs
   refine zaa (c2 h16) ?_
   simp -implicitDefEqProofs
   refine zgp rfl (by simp) (by simp) (by simp) (z0u (xs.map irow) (irow id) (posI xs id) (by simp) (StillR.map _ _ fun a _ d hd => by rw [List.mem_singleton.1 hd]; rfl) (by intro r hr; rw [List.mem_singleton.1 hr]; exact ⟨rfl, rfl⟩) (by intro d hd; rw [List.mem_singleton.1 hd]; rfl) (by simpa using z6f xs id) (by simp; omega)) ?_
   rw [← zs2, zu9]
   simp -implicitDefEqProofs [downTo, h1, h2, h4, h5', withP]
theorem ze5 (id a : Int) : Den PP 224 [.int .i64 a, .mem [.int .i64 id]] [] (.bool (decide (a = id))) [] := by
 refine zaj [] [] zkg ?_
 simp -implicitDefEqProofs [zgl]
theorem zoq (xs : List Int) (id : Int) (hl : xs.length ≤ cap) : Den PP 191 [intsD xs, .int .i64 id] [] (.tup [.ref 0 0 (withoutP xs id).1.length, .int .i64 (withoutP xs id).2]) [⟨(withoutP xs id).1.map irow, 1, .mut⟩] := by
 have c1 := zkx xs hl
 have c2 := fun h : xs.length ≤ 16 => zld (xs.map irow) (by simp) (by simp; omega)
 have c3 := fun h : xs.length ≤ 16 => zg7 xs 224 [.mem [.int .i64 id]] (fun a => decide (a = id)) ⟨fun _ => rfl, fun _ _ => rfl, fun a _ => ze5 id a⟩ (by omega)
 simp only [intsD, List.length_map] at c1 c2
 refine zku [17] [17] [17] [] (fun _ h => absurd h List.not_mem_nil) zlj ?_
 simp -implicitDefEqProofs [zhg, intsD]
 refine zaa c1 ?_
 simp -implicitDefEqProofs
 refine zac (fun h1 => ?_) (fun h1 => ?_)
 rotate_left
 ·simp -implicitDefEqProofs [h1, withoutP]
 obtain ⟨hr, hp, h16⟩ := (zb1 xs).1 h1
 simp -implicitDefEqProofs [h1]
 refine zaa (zat id) ?_
 simp -implicitDefEqProofs
 refine zaf (fun h2 => ?_) (fun h2 => ?_)
 rotate_left
 ·simp -implicitDefEqProofs [h1, h2, withoutP]
 simp -implicitDefEqProofs [h1, h2]
 refine zaa (c2 h16) ?_
 simp -implicitDefEqProofs
 refine zgp rfl (by simp) (by simp) (by simp) (c3 h16) ?_
 simp -implicitDefEqProofs [downTo, h1, h2, withoutP]
end Go.AM
/- AM: contracts: the document's answers about views, more. -/
namespace Go.AM
set_option linter.unusedSimpArgs false
set_option linter.unusedVariables false
set_option maxRecDepth 8000
set_option maxHeartbeats 0
theorem zxt (v : View) (hs : v.small) : Den PP 160 [viewD v] [] (.bool (refViewMay v)) [] := by
 have c1 := zol v.peers hs.1
 have c2 := z92 (v.peers.map Peer.id)
 have c3 := zvs v.id v.peers (zpv hs.1)
 have c4 := zqt v.passive hs.2
 simp [peersD, intsD, irow] at c1 c2 c3 c4
 have hw : IntKind.wrap .i64 ((v.peers.length : Int) + v.passive.length) = v.peers.length + v.passive.length := by
  obtain ⟨a, b⟩ := hs
  unfold cap16 at a
  unfold cap at b
  exact zaq (by omega) (by omega)
 obtain ⟨A, hA⟩ : ∃ A, v.passive.any (refOdd v) = A := ⟨_, rfl⟩
 refine zaj [] [] zjs ?_
 simp -implicitDefEqProofs [zf0, viewD, View.cells, peersD, intsD]
 refine zaa c1 ?_
 simp -implicitDefEqProofs
 refine zax v.passive (fun i rest => fun ⟨fr, bs⟩ => bs = [⟨[v.cells], 3, .box⟩] ∧ fr 1 = .ptr 0 0 0 ∧ fr 3 = .sl (v.peers.map fun p => irow p.id) v.peers.length ∧ fr 4 = .int .i64 i ∧ rest.any (refOdd v) = A)
  (fun ⟨fr, bs⟩ => bs = [⟨[v.cells], 3, .box⟩] ∧ fr 1 = .ptr 0 0 0 ∧ A = false) (fun ⟨fr, bs⟩ => fr 2 = .bool false ∧ A = true) zeu.eq_1 ?_ ?_ ?_ ?_ ?_
 ·exact ⟨rfl, rfl, rfl, rfl, hA⟩
 ·rintro i ⟨fr, bs⟩ hi ⟨rfl, h1, h3, h4, he⟩
  simp -implicitDefEqProofs [h1, h3, h4, hi, View.cells, intsD]
  simpa using he.symm
 ·rintro i a rest ⟨fr, bs⟩ hlt hget hg hd hd2 ⟨rfl, h1, h3, h4, he⟩
  have hlt' : (i : Int) < v.passive.length := by omega
  have hw2 := zav (n := i) (by have := hs.2; unfold cap at this; omega)
  have c2' := c2 a (zpv hs.1)
  simp -implicitDefEqProofs [h1, h3, h4, hlt, hlt', hget, hg, hw2, View.cells, intsD, irow]
  repeat' ((first | refine zaa (by first | exact c2') ?_ | ((with_reducible first | refine zak ?_ ?_ | refine zah ?_ ?_ | refine zad ?_ ?_ | refine zae ?_ ?_) <;> intro _) | ((with_reducible first | refine zan ?_ ?_ | refine zap ?_ ?_ | refine zal ?_ ?_ | refine zac ?_ ?_ | refine zai ?_ ?_ | refine zao ?_ ?_ | refine zaf ?_ ?_ | refine zab ?_ ?_) <;> intro hq <;> (try simp at hq)) | refine zag (by omega) ?_ | refine zam (by omega) ?_) <;> simp -implicitDefEqProofs [*, View.cells, peersD])
  all_goals grind [refOdd, irow]
 ·rintro ⟨fr, bs⟩ ⟨rfl, h1, he⟩
  simp -implicitDefEqProofs [h1, he, hA, View.cells, intsD, peersD]
  repeat' ((first | refine zaa (by first | exact c3 | exact c4) ?_ | ((with_reducible first | refine zak ?_ ?_ | refine zah ?_ ?_ | refine zad ?_ ?_ | refine zae ?_ ?_) <;> intro _) | ((with_reducible first | refine zan ?_ ?_ | refine zap ?_ ?_ | refine zal ?_ ?_ | refine zac ?_ ?_ | refine zai ?_ ?_ | refine zao ?_ ?_ | refine zaf ?_ ?_ | refine zab ?_ ?_) <;> intro hq <;> (try simp at hq)) | refine zag (by omega) ?_ | refine zam (by omega) ?_) <;> simp -implicitDefEqProofs [*, refViewMay, hw])
  omega
 ·rintro ⟨fr, bs⟩ h
  simp -implicitDefEqProofs [h.1, h.2, hA, refViewMay]
theorem zwb (v : View) (hs : v.small) : Den PP 160 [viewD v] [] (.bool (viewMay v)) [] := by
 rw [← z0q]
 exact zxt v hs
end Go.AM
/- AM: contracts: items, stores, nodes. -/
namespace Go.AM
set_option linter.unusedSimpArgs false
set_option linter.unusedVariables false
set_option maxRecDepth 8000
set_option maxHeartbeats 0
theorem zpt (c w : Int) : Den PP 195 [.agg [.int .i64 c, .int .i64 w]] [] (.bool (verMay c w)) [] := by
 refine zaj [] [] zq2 ?_
 simp -implicitDefEqProofs [zl7]
 repeat' ((first | refine zaa (by first | exact zat _) ?_ | ((with_reducible first | refine zak ?_ ?_ | refine zah ?_ ?_ | refine zad ?_ ?_ | refine zae ?_ ?_) <;> intro _) | ((with_reducible first | refine zan ?_ ?_ | refine zap ?_ ?_ | refine zal ?_ ?_ | refine zac ?_ ?_ | refine zai ?_ ?_ | refine zao ?_ ?_ | refine zaf ?_ ?_ | refine zab ?_ ?_) <;> intro hq <;> (try simp at hq)) | refine zag (by omega) ?_ | refine zam (by omega) ?_) <;> simp -implicitDefEqProofs [*, verMay])
theorem zqo (c w : Int) : Den PP 180 [.agg [.int .i64 c, .int .i64 w]] [] (.bool (verMay c w)) [] := by
 refine zaj [] [] zhs ?_
 simp -implicitDefEqProofs [zer]
 repeat' ((first | refine zaa (by first | exact zc5 _) ?_ | ((with_reducible first | refine zak ?_ ?_ | refine zah ?_ ?_ | refine zad ?_ ?_ | refine zae ?_ ?_) <;> intro _) | ((with_reducible first | refine zan ?_ ?_ | refine zap ?_ ?_ | refine zal ?_ ?_ | refine zac ?_ ?_ | refine zai ?_ ?_ | refine zao ?_ ?_ | refine zaf ?_ ?_ | refine zab ?_ ?_) <;> intro hq <;> (try simp at hq)) | refine zag (by omega) ?_ | refine zam (by omega) ?_) <;> simp -implicitDefEqProofs [*, verMay])
theorem zlg (x : Int) : Den PP 149 [.int .i64 x] [] (.bool (byte x)) [] := by
 refine zaj [] [] zv7 ?_
 simp -implicitDefEqProofs [zn9]
 repeat' ((first | ((with_reducible first | refine zak ?_ ?_ | refine zah ?_ ?_ | refine zad ?_ ?_ | refine zae ?_ ?_) <;> intro _) | ((with_reducible first | refine zan ?_ ?_ | refine zap ?_ ?_ | refine zal ?_ ?_ | refine zac ?_ ?_ | refine zai ?_ ?_ | refine zao ?_ ?_ | refine zaf ?_ ?_ | refine zab ?_ ?_) <;> intro hq <;> (try simp at hq)) | refine zag (by omega) ?_ | refine zam (by omega) ?_) <;> simp -implicitDefEqProofs [*, byte])
theorem zzn (x : Int) : Den PP 179 [.int .i64 x] [] (.bool (byte x)) [] := by
 refine zaj [] [] zjl ?_
 simp -implicitDefEqProofs [zfp]
 repeat' ((first | ((with_reducible first | refine zak ?_ ?_ | refine zah ?_ ?_ | refine zad ?_ ?_ | refine zae ?_ ?_) <;> intro _) | ((with_reducible first | refine zan ?_ ?_ | refine zap ?_ ?_ | refine zal ?_ ?_ | refine zac ?_ ?_ | refine zai ?_ ?_ | refine zao ?_ ?_ | refine zaf ?_ ?_ | refine zab ?_ ?_) <;> intro hq <;> (try simp at hq)) | refine zag (by omega) ?_ | refine zam (by omega) ?_) <;> simp -implicitDefEqProofs [*, byte])
 all_goals omega
theorem ztg (x : Int) : Den PP 159 [.int .i64 x] [] (.bool (byte x)) [] := by
 refine zaj [] [] zi6 ?_
 simp -implicitDefEqProofs [zfe]
 repeat' ((first | ((with_reducible first | refine zak ?_ ?_ | refine zah ?_ ?_ | refine zad ?_ ?_ | refine zae ?_ ?_) <;> intro _) | ((with_reducible first | refine zan ?_ ?_ | refine zap ?_ ?_ | refine zal ?_ ?_ | refine zac ?_ ?_ | refine zai ?_ ?_ | refine zao ?_ ?_ | refine zaf ?_ ?_ | refine zab ?_ ?_) <;> intro hq <;> (try simp at hq)) | refine zag (by omega) ?_ | refine zam (by omega) ?_) <;> simp -implicitDefEqProofs [*, byte])
 all_goals omega
theorem zkd (i : Item) : Den PP 123 [.agg i.row] [] (.bool (itemMay i)) [] := by
 refine zaj [] [] zx5 ?_
 simp -implicitDefEqProofs [zsd, Item.row]
 repeat' ((first | refine zaa (by first | exact zlg _ | exact zpt _ _) ?_ | ((with_reducible first | refine zak ?_ ?_ | refine zah ?_ ?_ | refine zad ?_ ?_ | refine zae ?_ ?_) <;> intro _) | ((with_reducible first | refine zan ?_ ?_ | refine zap ?_ ?_ | refine zal ?_ ?_ | refine zac ?_ ?_ | refine zai ?_ ?_ | refine zao ?_ ?_ | refine zaf ?_ ?_ | refine zab ?_ ?_) <;> intro hq <;> (try simp at hq)) | refine zag (by omega) ?_ | refine zam (by omega) ?_) <;> simp -implicitDefEqProofs [*, itemMay])
theorem zpx (i : Item) : Den PP 106 [.agg i.row] [] (.bool (itemMay i)) [] := by
 refine zaj [] [] zja ?_
 simp -implicitDefEqProofs [zft, Item.row]
 repeat' ((first | refine zaa (by first | exact zzn _ | exact zqo _ _) ?_ | ((with_reducible first | refine zak ?_ ?_ | refine zah ?_ ?_ | refine zad ?_ ?_ | refine zae ?_ ?_) <;> intro _) | ((with_reducible first | refine zan ?_ ?_ | refine zap ?_ ?_ | refine zal ?_ ?_ | refine zac ?_ ?_ | refine zai ?_ ?_ | refine zao ?_ ?_ | refine zaf ?_ ?_ | refine zab ?_ ?_) <;> intro hq <;> (try simp at hq)) | refine zag (by omega) ?_ | refine zam (by omega) ?_) <;> simp -implicitDefEqProofs [*, itemMay])
theorem zot (k c w v : Int) (g : Bool) : Den PP 106 [.agg [.int .i64 k, .int .i64 c, .int .i64 w, .int .i64 v, .bool g]] [] (.bool (itemMay ⟨k, c, w, v, g⟩)) [] := zpx ⟨k, c, w, v, g⟩
theorem zu2 (k c w v : Int) (g : Bool) : Den PP 123 [.agg [.int .i64 k, .int .i64 c, .int .i64 w, .int .i64 v, .bool g]] [] (.bool (itemMay ⟨k, c, w, v, g⟩)) [] := zkd ⟨k, c, w, v, g⟩
def prevKey (is : List Item) (i : Nat) : Option Int := if i = 0 then none else (is[i - 1]?).map Item.key
theorem zqa (is : List Item) (hl : is.length ≤ cap16) : Den PP 115 [itemsD is] [] (.bool (storeMay is)) [] := by
 obtain ⟨A, hA⟩ : ∃ A, itemsOk none is = A := ⟨_, rfl⟩
 unfold cap16 at hl
 refine zaj [] [] zwq ?_
 simp -implicitDefEqProofs [zov, itemsD]
 refine zax is (fun i rest => fun ⟨fr, bs⟩ => bs = [] ∧ fr 0 = itemsD is ∧ fr 5 = itemsD is ∧ fr 6 = .int .i64 is.length ∧ fr 7 = .int .i64 i ∧ itemsOk (prevKey is i) rest = A)
  (fun ⟨fr, bs⟩ => bs = [] ∧ fr 0 = itemsD is ∧ A = true) (fun ⟨fr, bs⟩ => fr 2 = .bool false ∧ A = false) zkp.eq_1 ?_ ?_ ?_ ?_ ?_
 ·exact ⟨rfl, rfl, rfl, rfl, rfl, hA⟩
 ·rintro i ⟨fr, bs⟩ hi ⟨rfl, h0, h5, h6, h7, he⟩
  simp -implicitDefEqProofs [h0, h5, h6, h7, hi]
  simpa [itemsOk] using he.symm
 ·rintro i a rest ⟨fr, bs⟩ hlt hget hg hd hd2 ⟨rfl, h0, h5, h6, h7, he⟩
  have hlt' : (i : Int) < is.length := by omega
  have hw := zav (n := i) (by omega)
  have c1 := zkd a
  simp [Item.row] at c1
  simp only [itemsOk] at he
  have hp : prevKey is (i + 1) = some a.key := by simp [prevKey, hget]
  cases i with
  | zero =>
    simp [prevKey] at he
    simp -implicitDefEqProofs [h0, h5, h6, h7, hlt, hlt', hget, hg, itemsD, Item.row]
    repeat' ((first | refine zaa (by first | exact c1) ?_ | ((with_reducible first | refine zak ?_ ?_ | refine zah ?_ ?_ | refine zad ?_ ?_ | refine zae ?_ ?_) <;> intro _) | ((with_reducible first | refine zan ?_ ?_ | refine zap ?_ ?_ | refine zal ?_ ?_ | refine zac ?_ ?_ | refine zai ?_ ?_ | refine zao ?_ ?_ | refine zaf ?_ ?_ | refine zab ?_ ?_) <;> intro hq <;> (try simp at hq)) | refine zag (by omega) ?_ | refine zam (by omega) ?_) <;> simp -implicitDefEqProofs [*, itemsD, Item.row, hw])
    all_goals grind
  | succ j =>
    have hj : j < is.length := by omega
    have hj' : (j : Int) < is.length := by omega
    have hjw : IntKind.wrap .i64 (j : Int) = j := zaq (by omega) (by omega)
    obtain ⟨b, hb⟩ : ∃ b, is[j] = b := ⟨_, rfl⟩
    have hpj : prevKey is (j + 1) = some b.key := by simp [prevKey, hj, hb]
    rw [hpj] at he
    simp -implicitDefEqProofs [h0, h5, h6, h7, hlt, hlt', hget, hg, itemsD, Item.row]
    repeat' ((first | refine zaa (by first | exact c1) ?_ | ((with_reducible first | refine zak ?_ ?_ | refine zah ?_ ?_ | refine zad ?_ ?_ | refine zae ?_ ?_) <;> intro _) | ((with_reducible first | refine zan ?_ ?_ | refine zap ?_ ?_ | refine zal ?_ ?_ | refine zac ?_ ?_ | refine zai ?_ ?_ | refine zao ?_ ?_ | refine zaf ?_ ?_ | refine zab ?_ ?_) <;> intro hq <;> (try simp at hq)) | refine zag (by omega) ?_ | refine zam (by omega) ?_) <;> simp -implicitDefEqProofs [*, itemsD, Item.row, hw, hb])
    all_goals grind
 ·rintro ⟨fr, bs⟩ ⟨rfl, h0, h1⟩
  simp -implicitDefEqProofs [h0, itemsD, storeMay, hA, h1]
  omega
 ·rintro ⟨fr, bs⟩ h
  simp -implicitDefEqProofs [h.1, h.2, storeMay, hA]
theorem zuo (is : List Item) (hl : is.length ≤ cap16) : Den PP 56 [itemsD is] [] (.bool (storeMay is)) [] := by
 obtain ⟨A, hA⟩ : ∃ A, itemsOk none is = A := ⟨_, rfl⟩
 unfold cap16 at hl
 refine zaj [] [] zi5 ?_
 simp -implicitDefEqProofs [zfd, itemsD]
 refine zax is (fun i rest => fun ⟨fr, bs⟩ => bs = [] ∧ fr 0 = itemsD is ∧ fr 3 = .int .i64 i ∧ itemsOk (prevKey is i) rest = A)
  (fun ⟨fr, bs⟩ => bs = [] ∧ fr 0 = itemsD is ∧ A = true) (fun ⟨fr, bs⟩ => fr 2 = .bool false ∧ A = false) zek.eq_1 ?_ ?_ ?_ ?_ ?_
 ·exact ⟨rfl, rfl, rfl, hA⟩
 ·rintro i ⟨fr, bs⟩ hi ⟨rfl, h0, h3, he⟩
  simp -implicitDefEqProofs [h0, h3, hi, itemsD]
  simpa [itemsOk] using he.symm
 ·rintro i a rest ⟨fr, bs⟩ hlt hget hg hd hd2 ⟨rfl, h0, h3, he⟩
  have hlt' : (i : Int) < is.length := by omega
  have hw := zav (n := i) (by omega)
  have c1 := zpx a
  simp [Item.row] at c1
  simp only [itemsOk] at he
  have hp : prevKey is (i + 1) = some a.key := by simp [prevKey, hget]
  cases i with
  | zero =>
    simp [prevKey] at he
    simp -implicitDefEqProofs [h0, h3, hlt, hlt', hget, hg, itemsD, Item.row]
    repeat' ((first | refine zaa (by first | exact c1) ?_ | ((with_reducible first | refine zak ?_ ?_ | refine zah ?_ ?_ | refine zad ?_ ?_ | refine zae ?_ ?_) <;> intro _) | ((with_reducible first | refine zan ?_ ?_ | refine zap ?_ ?_ | refine zal ?_ ?_ | refine zac ?_ ?_ | refine zai ?_ ?_ | refine zao ?_ ?_ | refine zaf ?_ ?_ | refine zab ?_ ?_) <;> intro hq <;> (try simp at hq)) | refine zag (by omega) ?_ | refine zam (by omega) ?_) <;> simp -implicitDefEqProofs [*, itemsD, Item.row, hw])
    all_goals grind
  | succ j =>
    have hj : j < is.length := by omega
    have hj' : (j : Int) < is.length := by omega
    have hjw : IntKind.wrap .i64 (j : Int) = j := zaq (by omega) (by omega)
    obtain ⟨b, hb⟩ : ∃ b, is[j] = b := ⟨_, rfl⟩
    have hpj : prevKey is (j + 1) = some b.key := by simp [prevKey, hj, hb]
    rw [hpj] at he
    simp -implicitDefEqProofs [h0, h3, hlt, hlt', hget, hg, itemsD, Item.row]
    repeat' ((first | refine zaa (by first | exact c1) ?_ | ((with_reducible first | refine zak ?_ ?_ | refine zah ?_ ?_ | refine zad ?_ ?_ | refine zae ?_ ?_) <;> intro _) | ((with_reducible first | refine zan ?_ ?_ | refine zap ?_ ?_ | refine zal ?_ ?_ | refine zac ?_ ?_ | refine zai ?_ ?_ | refine zao ?_ ?_ | refine zaf ?_ ?_ | refine zab ?_ ?_) <;> intro hq <;> (try simp at hq)) | refine zag (by omega) ?_ | refine zam (by omega) ?_) <;> simp -implicitDefEqProofs [*, itemsD, Item.row, hw, hb])
    all_goals grind
 ·rintro ⟨fr, bs⟩ ⟨rfl, h0, h1⟩
  simp -implicitDefEqProofs [h0, itemsD, storeMay, hA, h1]
  omega
 ·rintro ⟨fr, bs⟩ h
  simp -implicitDefEqProofs [h.1, h.2, storeMay, hA]
theorem z7x (t : Told) : Den PP 117 [.agg t.row] [] (.bool (toldOdd t)) [] := by
 refine zaj [] [] zzc ?_
 simp -implicitDefEqProofs [zri, Told.row]
 repeat' ((first | refine zaa (by first | exact zlg _) ?_ | ((with_reducible first | refine zak ?_ ?_ | refine zah ?_ ?_ | refine zad ?_ ?_ | refine zae ?_ ?_) <;> intro _) | ((with_reducible first | refine zan ?_ ?_ | refine zap ?_ ?_ | refine zal ?_ ?_ | refine zac ?_ ?_ | refine zai ?_ ?_ | refine zao ?_ ?_ | refine zaf ?_ ?_ | refine zab ?_ ?_) <;> intro hq <;> (try simp at hq)) | refine zag (by omega) ?_ | refine zam (by omega) ?_) <;> simp -implicitDefEqProofs [*, toldOdd])
end Go.AM
/- AM: contracts: nodes, sharing. -/
namespace Go.AM
set_option linter.unusedSimpArgs false
set_option linter.unusedVariables false
set_option maxRecDepth 8000
set_option maxHeartbeats 0
theorem zi7 (xs : List Told) (hl : xs.length ≤ cap) : Den PP 189 [toldsD xs, .fn 117 [] []] [] (.int .i64 (gIdx toldOdd 0 xs)) [] := by
 obtain ⟨A, hA⟩ : ∃ A, gIdx toldOdd 0 xs = A := ⟨_, rfl⟩
 unfold cap at hl
 refine zaj [] [] zd1 ?_
 simp -implicitDefEqProofs [zcg, toldsD, hA]
 refine zax xs (fun i rest => fun ⟨fr, bs⟩ => bs = [] ∧ fr 0 = toldsD xs ∧ fr 1 = .fn 117 [] [] ∧ fr 7 = .int .i64 xs.length ∧ fr 8 = .int .i64 i ∧ gIdx toldOdd i rest = A)
  (fun ⟨fr, bs⟩ => bs = [] ∧ A = -1) (fun ⟨fr, bs⟩ => fr 4 = .int .i64 A) zb5.eq_1 ?_ ?_ ?_ ?_ ?_
 ·exact ⟨rfl, rfl, rfl, rfl, rfl, hA⟩
 ·rintro i ⟨fr, bs⟩ hi ⟨rfl, h0, h1, h7, h8, he⟩
  simp -implicitDefEqProofs [h0, h1, h7, h8, hi]
  simpa [gIdx] using he.symm
 ·rintro i a rest ⟨fr, bs⟩ hlt hget hg hd hd2 ⟨rfl, h0, h1, h7, h8, he⟩
  have hlt' : (i : Int) < xs.length := by omega
  have hw := zav (n := i) (by omega)
  have c1 := z7x a
  simp [Told.row] at c1
  simp only [gIdx] at he
  simp -implicitDefEqProofs [h0, h1, h7, h8, hlt, hlt', hget, hg, toldsD, Told.row]
  repeat' ((first | refine zaa (by first | exact c1) ?_ | ((with_reducible first | refine zak ?_ ?_ | refine zah ?_ ?_ | refine zad ?_ ?_ | refine zae ?_ ?_) <;> intro _) | ((with_reducible first | refine zan ?_ ?_ | refine zap ?_ ?_ | refine zal ?_ ?_ | refine zac ?_ ?_ | refine zai ?_ ?_ | refine zao ?_ ?_ | refine zaf ?_ ?_ | refine zab ?_ ?_) <;> intro hq <;> (try simp at hq)) | refine zag (by omega) ?_ | refine zam (by omega) ?_) <;> simp -implicitDefEqProofs [*, toldsD, Told.row, hw])
  all_goals grind
 ·rintro ⟨fr, bs⟩ ⟨rfl, h1⟩
  simp -implicitDefEqProofs [h1]
 ·rintro ⟨fr, bs⟩ h
  simp -implicitDefEqProofs [h]
theorem zhc (xs : List Told) (hl : xs.length ≤ cap) : Den PP 116 [toldsD xs, .fn 117 [] []] [] (.bool (xs.any toldOdd)) [] := by
 have c1 := zi7 xs hl
 have h1 := zs4 toldOdd xs 0
 obtain ⟨A, hA⟩ : ∃ A, xs.any toldOdd = A := ⟨_, rfl⟩
 rw [hA] at h1
 simp [toldsD] at c1
 refine zaj [] [] zdj ?_
 simp -implicitDefEqProofs [zb4, toldsD]
 refine zaa c1 ?_
 simp -implicitDefEqProofs [h1, hA]
theorem zz6 (x : Node) (hs : x.small) : Den PP 40 [nodeD x] [] (.bool (nodeMay x)) [] := by
 obtain ⟨h1, h2, h3⟩ := hs
 have c1 := zh7 x.view h1
 have c2 := zqa x.items (by unfold cap16; omega)
 have c3 := zhc x.log (by unfold cap; omega)
 obtain ⟨A, hA⟩ : ∃ A, x.log.any toldOdd = A := ⟨_, rfl⟩
 rw [hA] at c3
 simp [viewD, View.cells, peersD, intsD, itemsD, toldsD] at c1 c2 c3
 obtain ⟨hp, hq⟩ := h1
 unfold cap16 at hp
 unfold cap at hq
 have w1 : IntKind.wrap .i64 ((x.view.peers.length : Int) + x.view.passive.length) = x.view.peers.length + x.view.passive.length := zaq (by omega) (by omega)
 have w2 : IntKind.wrap .i64 ((x.view.peers.length : Int) + x.view.passive.length + x.items.length) = x.view.peers.length + x.view.passive.length + x.items.length := zaq (by omega) (by omega)
 have w3 : IntKind.wrap .i64 ((x.view.peers.length : Int) + x.view.passive.length + x.items.length + x.log.length) = x.view.peers.length + x.view.passive.length + x.items.length + x.log.length := zaq (by omega) (by omega)
 refine zaj [] [] zyw ?_
 simp -implicitDefEqProofs [zq6, nodeD, Node.cells, peersD, intsD, itemsD, toldsD]
 repeat' ((first | refine zaa (by first | exact c1 | exact c2 | exact c3) ?_ | ((with_reducible first | refine zak ?_ ?_ | refine zah ?_ ?_ | refine zad ?_ ?_ | refine zae ?_ ?_) <;> intro _) | ((with_reducible first | refine zan ?_ ?_ | refine zap ?_ ?_ | refine zal ?_ ?_ | refine zac ?_ ?_ | refine zai ?_ ?_ | refine zao ?_ ?_ | refine zaf ?_ ?_ | refine zab ?_ ?_) <;> intro hq <;> (try simp at hq)) | refine zag (by omega) ?_ | refine zam (by omega) ?_) <;> simp -implicitDefEqProofs [*, w1, w2, w3])
 all_goals simp only [nodeMay, emptyN, hA]
 all_goals grind
theorem zjp (x : Node) (hs : x.small) : Den PP 84 [nodeD x] [] (.bool (nodeUp x)) [] := by
 have c1 := zz6 x hs
 simp only [nodeD, Node.cells, peersD, intsD, itemsD, toldsD] at c1
 refine zaj [] [] z1y ?_
 cases hu : x.up
 all_goals
  rw [hu] at c1
  simp -implicitDefEqProofs [zvp, nodeD, Node.cells, peersD, intsD, itemsD, toldsD, hu]
  repeat' ((first | refine zaa (by first | exact c1) ?_ | ((with_reducible first | refine zak ?_ ?_ | refine zah ?_ ?_ | refine zad ?_ ?_ | refine zae ?_ ?_) <;> intro _) | ((with_reducible first | refine zan ?_ ?_ | refine zap ?_ ?_ | refine zal ?_ ?_ | refine zac ?_ ?_ | refine zai ?_ ?_ | refine zao ?_ ?_ | refine zaf ?_ ?_ | refine zab ?_ ?_) <;> intro hq <;> (try simp at hq)) | refine zag (by omega) ?_ | refine zam (by omega) ?_) <;> simp -implicitDefEqProofs [*])
  all_goals simp [nodeUp, hu]
theorem z8g (x : Node) (hs : x.small) : Den PP 39 [nodeD x] [] (.tup [.ref 0 0 (shareOf x).1.length, .int .i64 (shareOf x).2]) [⟨(shareOf x).1.map Msg.row0, 11, .mut⟩] := by
 have c1 := zjp x hs
 have c2 := zt2 x.view hs.1
 have c3 := fun k => z23 x.view k hs.1
 simp only [nodeD, Node.cells, viewD, View.cells, peersD, intsD, itemsD, toldsD, pairD] at c1 c2 c3
 obtain ⟨h1, h2, h3⟩ := hs
 refine zaj [] [] zyj ?_
 simp -implicitDefEqProofs [zrk, nodeD, Node.cells, peersD, intsD, itemsD, toldsD]
 repeat' ((first | refine zaa (by first | exact c1 | exact c2) ?_ | ((with_reducible first | refine zak ?_ ?_ | refine zah ?_ ?_ | refine zad ?_ ?_ | refine zae ?_ ?_) <;> intro _) | ((with_reducible first | refine zan ?_ ?_ | refine zap ?_ ?_ | refine zal ?_ ?_ | refine zac ?_ ?_ | refine zai ?_ ?_ | refine zao ?_ ?_ | refine zaf ?_ ?_ | refine zab ?_ ?_) <;> intro hq <;> (try simp at hq)) | refine zag (by omega) ?_ | refine zam (by omega) ?_) <;> simp -implicitDefEqProofs [*, shareOf])
 have hu : x.items.length ≤ 16 := by
  have := ‹nodeUp x = true›
  simp only [nodeUp, nodeMay, storeMay, Bool.and_eq_true, decide_eq_true_eq] at this
  exact this.2.1.1.2.2
 have hf : ∀ i, ((x.items.take i).filterMap (shareOne x)).length ≤ 16 := fun i => Nat.le_trans (List.length_filterMap_le _ _) (by simp; omega)
 refine zax x.items (fun i rest => fun ⟨fr, bs⟩ => bs = [⟨[x.cells], 6, .box⟩, ⟨[], 11, .mut⟩, ⟨((x.items.take i).filterMap (shareOne x)).map Msg.row0, 11, .mut⟩] ∧ fr 1 = .ptr 0 0 0 ∧ fr 4 = .ref 2 0 ((x.items.take i).filterMap (shareOne x)).length ∧ fr 5 = .int .i64 (succV x.view).1 ∧ fr 21 = itemsD x.items ∧ fr 22 = .int .i64 x.items.length ∧ fr 23 = .int .i64 i)
  (fun ⟨fr, bs⟩ => bs = [⟨[x.cells], 6, .box⟩, ⟨[], 11, .mut⟩, ⟨(x.items.filterMap (shareOne x)).map Msg.row0, 11, .mut⟩] ∧ fr 4 = .ref 2 0 (x.items.filterMap (shareOne x)).length) (fun ⟨fr, bs⟩ => False) zlu.eq_1 ?_ ?_ ?_ ?_ ?_
 ·exact ⟨rfl, rfl, rfl, rfl, rfl, rfl, rfl⟩
 ·rintro i ⟨fr, bs⟩ hi ⟨rfl, h1', h4, h5, h21, h22, h23⟩
  simp -implicitDefEqProofs [h1', h4, h5, h21, h22, h23, hi]
 ·rintro i a rest ⟨fr, bs⟩ hlt hget hg hd hd2 ⟨rfl, h1', h4, h5, h21, h22, h23⟩
  have hlt' : (i : Int) < x.items.length := by omega
  have hw := zav (n := i) (by omega)
  have htk : x.items.take (i + 1) = x.items.take i ++ [a] := by rw [List.take_add_one, hget]; rfl
  have c4 := c3 a.key
  have hfi := hf i
  generalize hacc : (x.items.take i).filterMap (shareOne x) = acc at *
  clear c3 hf
  simp -implicitDefEqProofs [h1', h4, h5, h21, h22, h23, hlt, hlt', hget, hg, Node.cells, peersD, intsD, itemsD, toldsD, Item.row]
  repeat' ((first | refine zaa (by first | exact c4) ?_ | ((with_reducible first | refine zak ?_ ?_ | refine zah ?_ ?_ | refine zad ?_ ?_ | refine zae ?_ ?_) <;> intro _) | ((with_reducible first | refine zan ?_ ?_ | refine zap ?_ ?_ | refine zal ?_ ?_ | refine zac ?_ ?_ | refine zai ?_ ?_ | refine zao ?_ ?_ | refine zaf ?_ ?_ | refine zab ?_ ?_) <;> intro hq <;> (try simp at hq)) | refine zag (by omega) ?_ | refine zam (by omega) ?_) <;> simp -implicitDefEqProofs [*, Node.cells, peersD, intsD, itemsD, toldsD, Item.row, hw, htk, hacc, Fits, shareOne, Msg.row0])
 ·rintro ⟨fr, bs⟩ ⟨rfl, h1⟩
  simp -implicitDefEqProofs [h1]
 ·rintro ⟨fr, bs⟩ h
  exact h.elim
end Go.AM
/- AM: contracts: what the statements' own helpers do with items, messages, nodes. -/
namespace Go.AM
set_option linter.unusedSimpArgs false
set_option linter.unusedVariables false
set_option maxRecDepth 8000
set_option maxHeartbeats 0
end Go.AM
/- AM: contracts: what the statements' helpers do with slices. -/
namespace Go.AM
set_option linter.unusedSimpArgs false
set_option linter.unusedVariables false
set_option maxRecDepth 8000
set_option maxHeartbeats 0
end Go.AM
/- AM: contracts: the document's best, its put; what a node takes. -/
namespace Go.AM
set_option linter.unusedSimpArgs false
set_option linter.unusedVariables false
set_option maxRecDepth 8000
set_option maxHeartbeats 0
def newerR (a b : Item) : Bool × Int := if verMay a.count a.writer && verMay b.count b.writer then (decide (b.count < a.count) || decide (a.count = b.count) && decide (b.writer < a.writer), 0) else (false, 300)
def bestR (a b : Item) : Item × Int := if itemMay a && (itemMay b && decide (a.key = b.key)) then (bestI a b, 0) else (zeroItem, 400)
end Go.AM
/- AM: contracts: the best of two, a store's item, its put. -/
namespace Go.AM
set_option linter.unusedSimpArgs false
set_option linter.unusedVariables false
set_option maxRecDepth 8000
set_option maxHeartbeats 0
theorem ztu (a b : Item) : Den PP 230 [.agg [.int .i64 a.count, .int .i64 a.writer], .agg [.int .i64 b.count, .int .i64 b.writer]] [] (.tup [.bool (newerR a b).1, .int .i64 (newerR a b).2]) [] := by
 refine zaj [] [] zny ?_
 simp -implicitDefEqProofs [zjt]
 repeat' ((first | refine zaa (by first | exact zpt _ _) ?_ | ((with_reducible first | refine zak ?_ ?_ | refine zah ?_ ?_ | refine zad ?_ ?_ | refine zae ?_ ?_) <;> intro _) | ((with_reducible first | refine zan ?_ ?_ | refine zap ?_ ?_ | refine zal ?_ ?_ | refine zac ?_ ?_ | refine zai ?_ ?_ | refine zao ?_ ?_ | refine zaf ?_ ?_ | refine zab ?_ ?_) <;> intro hq <;> (try simp at hq)) | refine zag (by omega) ?_ | refine zam (by omega) ?_) <;> simp -implicitDefEqProofs [*, newerR])
theorem zyb (a b : Item) (ha : verMay a.count a.writer = true) (hb : verMay b.count b.writer = true) : Den PP 196 [.mem a.row, .mem b.row] [] (.bool (better a b)) [] := by
 have c1 := ztu a b
 simp only [newerR, ha, hb, Bool.and_self, if_true] at c1
 obtain ⟨ak, ac, aw, av, ag⟩ := a
 obtain ⟨bk, bc, bw, bv, bg⟩ := b
 simp only [Item.row, better] at c1 ⊢
 clear ha hb
 refine zaj [] [] zqd ?_
 by_cases h1 : ac = bc
 ·subst h1
  by_cases h2 : aw = bw
  ·subst h2
   clear c1
   cases ag <;> cases bg
   all_goals simp -implicitDefEqProofs [zf1, EQS]
  ·have h3 : decide (bw < aw) = (decide (bw < aw) || false) := by simp
   simp -implicitDefEqProofs [zf1, EQS, h2]
   simp at c1
   refine zaa c1 ?_
   simp -implicitDefEqProofs [EQS, h2]
 ·simp -implicitDefEqProofs [zf1, EQS, h1]
  simp [h1] at c1
  refine zaa c1 ?_
  simp -implicitDefEqProofs [EQS, h1]
theorem z4a (a b : Item) : Den PP 127 [.agg a.row, .agg b.row] [] (.tup [.agg (bestR a b).1.row, .int .i64 (bestR a b).2]) [] := by
 have c1 := zkd a
 have c2 := zkd b
 have c3 := fun h1 h2 => zyb a b h1 h2
 have hv : itemMay a = true → verMay a.count a.writer = true := by
  intro h; simp only [itemMay, Bool.and_eq_true] at h; exact h.1.2
 have hw : itemMay b = true → verMay b.count b.writer = true := by
  intro h; simp only [itemMay, Bool.and_eq_true] at h; exact h.1.2
 have hbr : bestR a b = if itemMay a && (itemMay b && decide (a.key = b.key)) then (bestI a b, 0) else (zeroItem, 400) := rfl
 obtain ⟨A, hA⟩ : ∃ A, itemMay a = A := ⟨_, rfl⟩
 obtain ⟨B, hB⟩ : ∃ B, itemMay b = B := ⟨_, rfl⟩
 rw [hA] at c1 hv hbr
 rw [hB] at c2 hw hbr
 obtain ⟨r, hr⟩ : ∃ r, bestR a b = r := ⟨_, rfl⟩
 rw [hr] at hbr ⊢
 unfold bestI at hbr
 obtain ⟨q, hq⟩ : ∃ q, better a b = q := ⟨_, rfl⟩
 rw [hq] at c3 hbr
 obtain ⟨ak, ac, aw, av, ag⟩ := a
 obtain ⟨bk, bc, bw, bv, bg⟩ := b
 simp only [Item.row] at c1 c2 c3 hv hw hbr ⊢
 clear hA hB hr hq
 refine zaj [] [] zwe ?_
 cases A <;> cases B
 case true.true =>
  have c3' := c3 (hv rfl) (hw rfl)
  clear c3 hv hw
  by_cases hk : ak = bk
  ·subst hk
   cases q
   all_goals
    simp at hbr
    subst hbr
    simp -implicitDefEqProofs [zh8]
    repeat' ((first | refine zaa (by first | exact c1 | exact c2 | exact c3') ?_ | ((with_reducible first | refine zak ?_ ?_ | refine zah ?_ ?_ | refine zad ?_ ?_ | refine zae ?_ ?_) <;> intro _) | ((with_reducible first | refine zan ?_ ?_ | refine zap ?_ ?_ | refine zal ?_ ?_ | refine zac ?_ ?_ | refine zai ?_ ?_ | refine zao ?_ ?_ | refine zaf ?_ ?_ | refine zab ?_ ?_) <;> intro hq <;> (try simp at hq)) | refine zag (by omega) ?_ | refine zam (by omega) ?_) <;> simp -implicitDefEqProofs [*])
  ·simp [hk] at hbr
   subst hbr
   simp -implicitDefEqProofs [zh8, zeroItem]
   repeat' ((first | refine zaa (by first | exact c1 | exact c2) ?_ | ((with_reducible first | refine zak ?_ ?_ | refine zah ?_ ?_ | refine zad ?_ ?_ | refine zae ?_ ?_) <;> intro _) | ((with_reducible first | refine zan ?_ ?_ | refine zap ?_ ?_ | refine zal ?_ ?_ | refine zac ?_ ?_ | refine zai ?_ ?_ | refine zao ?_ ?_ | refine zaf ?_ ?_ | refine zab ?_ ?_) <;> intro hq <;> (try simp at hq)) | refine zag (by omega) ?_ | refine zam (by omega) ?_) <;> simp -implicitDefEqProofs [*, hk])
 all_goals
  clear c3 hv hw
  simp at hbr
  subst hbr
  simp -implicitDefEqProofs [zh8, zeroItem]
  repeat' ((first | refine zaa (by first | exact c1 | exact c2) ?_ | ((with_reducible first | refine zak ?_ ?_ | refine zah ?_ ?_ | refine zad ?_ ?_ | refine zae ?_ ?_) <;> intro _) | ((with_reducible first | refine zan ?_ ?_ | refine zap ?_ ?_ | refine zal ?_ ?_ | refine zac ?_ ?_ | refine zai ?_ ?_ | refine zao ?_ ?_ | refine zaf ?_ ?_ | refine zab ?_ ?_) <;> intro hq <;> (try simp at hq)) | refine zag (by omega) ?_ | refine zam (by omega) ?_) <;> simp -implicitDefEqProofs [*])
theorem zpw (x : Item) (k : Int) : Den PP 126 [.agg x.row, .int .i64 k] [] (.int .i64 (keyC k x)) [] := by
 refine zaj [] [] zqj ?_
 simp -implicitDefEqProofs [zlt, Item.row, keyC]
 repeat' ((first | refine zaa (by first | exact ze6 _ _) ?_ | ((with_reducible first | refine zak ?_ ?_ | refine zah ?_ ?_ | refine zad ?_ ?_ | refine zae ?_ ?_) <;> intro _) | ((with_reducible first | refine zan ?_ ?_ | refine zap ?_ ?_ | refine zal ?_ ?_ | refine zac ?_ ?_ | refine zai ?_ ?_ | refine zao ?_ ?_ | refine zaf ?_ ?_ | refine zab ?_ ?_) <;> intro hq <;> (try simp at hq)) | refine zag (by omega) ?_ | refine zam (by omega) ?_) <;> simp -implicitDefEqProofs [*])
theorem z5n (is : List Item) (k : Int) (hl : is.length ≤ cap16) : Den PP 130 [itemsD is, .int .i64 k] [] (.tup [.agg (getR is k).1.row, .bool (getR is k).2]) [] := by
 have c1 := zqa is hl
 have c2 := fun h => znp is 126 k (keyC k) (fun x _ => zpw x k) (by unfold cap; unfold cap16 at hl; omega) h
 simp only [itemsD] at c1
 refine zaj [] [] zwa ?_
 simp -implicitDefEqProofs [zpy, itemsD]
 refine zaa c1 ?_
 simp -implicitDefEqProofs
 refine zaf (fun h1 => ?_) (fun h1 => ?_)
 rotate_left
 ·simp -implicitDefEqProofs [h1, getR, zeroItem, Item.row]
 obtain ⟨hm, hr, h16⟩ := (zdn is).1 h1
 have hg := z4e hr k
 have hat := fun h => zn3 (c := keyC k) (xs := is) h
 have c3 := c2 (z0h hr k)
 clear c2 c1
 generalize atC (keyC k) is = A at *
 generalize posC (keyC k) is = p at *
 simp -implicitDefEqProofs [h1]
 refine zaa c3 ?_
 cases A with
 | false =>
   simp -implicitDefEqProofs [h1, hg, getR, zeroItem, Item.row]
 | true =>
   obtain ⟨hlt, x, hx, hx0⟩ := hat rfl
   have hlt' : (p : Int) < is.length := by omega
   simp at hg
   rw [hx] at hg
   have hxr : (is.map Item.row)[p]? = some x.row := by simp [hx]
   have hx2 : is[p] = x := by simpa [hlt] using hx
   simp -implicitDefEqProofs [h1, hg, getR, hlt', hlt, hx2, Item.row]
end Go.AM
/- AM: contracts: a store's put. -/
namespace Go.AM
set_option linter.unusedSimpArgs false
set_option linter.unusedVariables false
set_option maxRecDepth 8000
set_option maxHeartbeats 0
theorem zvb (i : Item) : ∀ d ∈ i.row, d.still = true := by
 intro d hd
 simp [Item.row] at hd
 rcases hd with rfl | rfl | rfl | rfl | rfl <;> rfl
theorem z5f (is : List Item) (x : Item) (hl : is.length ≤ cap16) : Den PP 43 [itemsD is, .agg x.row] [] (.tup [.ref 0 0 (putR is x).1.length, .int .i64 (putR is x).2]) [⟨(putR is x).1.map Item.row, 5, .mut⟩] := by
 have c1 := zqa is hl
 have c0 := zkd x
 have c2 := fun h : is.length ≤ 16 => zrb (is.map Item.row) (by intro r hr; obtain ⟨a, _, rfl⟩ := List.mem_map.1 hr; exact ⟨rfl, rfl⟩) (by simp; omega)
 have c3 := fun h => znp is 126 x.key (keyC x.key) (fun y _ => zpw y x.key) (by unfold cap; unfold cap16 at hl; omega) h
 obtain ⟨r, hr⟩ : ∃ r, putR is x = r := ⟨_, rfl⟩
 have hr' := hr
 unfold putR at hr'
 rw [hr]
 clear hr
 simp only [itemsD, Item.row, List.length_map] at c0 c1 c2
 refine zku [18, 26] [26] [26] [] (fun _ h => absurd h List.not_mem_nil) zt0 ?_
 simp -implicitDefEqProofs [zp6, itemsD, Item.row]
 refine zaa c1 ?_
 simp -implicitDefEqProofs
 cases h1 : storeMay is with
 | false =>
   rw [h1] at hr'
   simp at hr'
   subst hr'
   simp -implicitDefEqProofs
 | true =>
 cases h2 : itemMay x with
 | false =>
   rw [h2] at hr' c0
   simp at hr'
   subst hr'
   simp -implicitDefEqProofs
   repeat' ((first | refine zaa (by first | exact c0) ?_ | ((with_reducible first | refine zak ?_ ?_ | refine zah ?_ ?_ | refine zad ?_ ?_ | refine zae ?_ ?_) <;> intro _) | ((with_reducible first | refine zan ?_ ?_ | refine zap ?_ ?_ | refine zal ?_ ?_ | refine zac ?_ ?_ | refine zai ?_ ?_ | refine zao ?_ ?_ | refine zaf ?_ ?_ | refine zab ?_ ?_) <;> intro hq <;> (try simp at hq)) | refine zag (by omega) ?_ | refine zam (by omega) ?_) <;> simp -implicitDefEqProofs [*])
 | true =>
 obtain ⟨hm, hri, h16⟩ := (zdn is).1 h1
 rw [h1, h2] at hr'
 rw [h2] at c0
 have hlen := zy3 x is hri
 have hg := z4e hri x.key
 obtain ⟨hp1, hp2⟩ := z85 x is
 have hat := fun h => zn3 (c := keyC x.key) (xs := is) h
 have hple := ztq (keyC x.key) is
 have c4 := c3 (z0h hri x.key)
 clear c3
 generalize atC (keyC x.key) is = A at *
 generalize posC (keyC x.key) is = p at *
 simp -implicitDefEqProofs
 refine zaa c0 ?_
 simp -implicitDefEqProofs
 refine zaa (c2 h16) ?_
 simp -implicitDefEqProofs [downTo]
 refine zaa c4 ?_
 simp -implicitDefEqProofs [downTo]
 cases A with
 | true =>
   obtain ⟨hlt, y, hy, hy0⟩ := hat rfl
   have hmy := hm y (List.mem_of_getElem? hy)
   have hky : y.key = x.key := by simpa [keyC, zji] using hy0
   have c5 := z4a y x
   have hbr : bestR y x = (bestI y x, 0) := by simp [bestR, hmy, h2, hky]
   have hput := hp1 y hy rfl
   rw [hbr] at c5
   have hr2 : r = (is.set p (bestI y x), 0) := by
    rw [← hr', hput]
    simp [h16]
   subst hr2
   have hlt' : (p : Int) < is.length := by omega
   have hy2 : is[p] = y := by simpa [hlt] using hy
   generalize bestI y x = b at *
   simp only [Item.row] at c5
   clear hr' hput hbr hg hp1 hp2 hat hlen c4 hm hri
   simp -implicitDefEqProofs [hlt, hlt', hy2, Item.row]
   refine zaa c5 ?_
   simp -implicitDefEqProofs [hlt, hlt', hy2, Item.row]
 | false =>
   have hput := hp2 rfl
   simp at hg
   rw [hg] at hlen
   simp at hlen
   rw [hput] at hr' hlen
   by_cases h5 : is.length = 16
   ·have hr2 : r = ([], 501) := by
     rw [← hr']
     simp [h5]
    subst hr2
    clear hr' hput hg hp1 hp2 hat hlen c4 hm hri
    simp -implicitDefEqProofs [h5]
   ·have hr2 : r = (insL is p x, 0) := by
     rw [← hr']
     simp
     omega
    subst hr2
    clear hr' hput hg hp1 hp2 hat hlen c4 hm hri
    have h5' : ¬ (is.length : Int) = 16 := by omega
    simp -implicitDefEqProofs [h5']
    refine zgp rfl (by simp) (by simp) (by simp) (zxg (is.map Item.row) x.row p (by simp [Item.row]) (StillR.map _ _ fun a _ => zvb a) (by intro r hr; rw [List.mem_singleton.1 hr]; exact ⟨rfl, rfl⟩) (zvb x) (by simpa using hple) (by simp; omega)) ?_
    rw [← zs2]
    simp -implicitDefEqProofs [downTo]
end Go.AM
/- AM: contracts: what chapter 9's statements build on. -/
namespace Go.AM
set_option linter.unusedSimpArgs false
set_option linter.unusedVariables false
set_option maxRecDepth 8000
set_option maxHeartbeats 0
end Go.AM
/- AM: contracts: the document's nodes and sharing; chapter 18's helpers. -/
namespace Go.AM
set_option linter.unusedSimpArgs false
set_option linter.unusedVariables false
set_option maxRecDepth 8000
set_option maxHeartbeats 0
theorem zys (x : Node) (hs : x.small) : Den PP 71 [nodeD x] [] (.bool (nodeMay x)) [] := by
 obtain ⟨h1, h2, h3⟩ := hs
 have c1 := zwb x.view h1
 have c2 := zuo x.items (by unfold cap16; omega)
 obtain ⟨A, hA⟩ : ∃ A, x.log.any toldOdd = A := ⟨_, rfl⟩
 simp only [viewD, View.cells, peersD, intsD, itemsD, toldsD] at c1 c2
 obtain ⟨hp, hq⟩ := h1
 unfold cap16 at hp
 unfold cap at hq
 have w1 : IntKind.wrap .i64 ((x.view.peers.length : Int) + x.view.passive.length) = x.view.peers.length + x.view.passive.length := zaq (by omega) (by omega)
 have w2 : IntKind.wrap .i64 ((x.view.peers.length : Int) + x.view.passive.length + x.items.length) = x.view.peers.length + x.view.passive.length + x.items.length := zaq (by omega) (by omega)
 have w3 : IntKind.wrap .i64 ((x.view.peers.length : Int) + x.view.passive.length + x.items.length + x.log.length) = x.view.peers.length + x.view.passive.length + x.items.length + x.log.length := zaq (by omega) (by omega)
 refine zaj [] [] ziz ?_
 cases hu : x.up with
 | false =>
   have hm : nodeMay x = (emptyN x && place x.view.id) := by
    cases he : emptyN x with
    | false => simp [nodeMay, hu, he]
    | true =>
      simp only [emptyN, decide_eq_true_eq] at he
      have e1 : x.view.peers = [] := List.eq_nil_of_length_eq_zero (by omega)
      have e2 : x.view.passive = [] := List.eq_nil_of_length_eq_zero (by omega)
      have e3 : x.items = [] := List.eq_nil_of_length_eq_zero (by omega)
      have e4 : x.log = [] := List.eq_nil_of_length_eq_zero (by omega)
      simp [nodeMay, emptyN, hu, e1, e2, e3, e4, viewMay, peersMay, peersOk, passiveMay, ups, storeMay, itemsOk]
   simp -implicitDefEqProofs [zdo, nodeD, Node.cells, peersD, intsD, itemsD, toldsD, hu]
   repeat' ((first | refine zaa (by first | exact zc5 _) ?_ | ((with_reducible first | refine zak ?_ ?_ | refine zah ?_ ?_ | refine zad ?_ ?_ | refine zae ?_ ?_) <;> intro _) | ((with_reducible first | refine zan ?_ ?_ | refine zap ?_ ?_ | refine zal ?_ ?_ | refine zac ?_ ?_ | refine zai ?_ ?_ | refine zao ?_ ?_ | refine zaf ?_ ?_ | refine zab ?_ ?_) <;> intro hq <;> (try simp at hq)) | refine zag (by omega) ?_ | refine zam (by omega) ?_) <;> simp -implicitDefEqProofs [*, w1, w2, w3])
   all_goals grind [emptyN]
 | true =>
   simp -implicitDefEqProofs [zdo, nodeD, Node.cells, peersD, intsD, itemsD, toldsD, hu]
   refine zax x.log (fun i rest => fun ⟨fr, bs⟩ => bs = [⟨[x.cells], 6, .box⟩] ∧ fr 1 = .ptr 0 0 0 ∧ fr 3 = .int .i64 i ∧ rest.any toldOdd = A)
    (fun ⟨fr, bs⟩ => bs = [⟨[x.cells], 6, .box⟩] ∧ fr 1 = .ptr 0 0 0 ∧ A = false) (fun ⟨fr, bs⟩ => fr 2 = .bool false ∧ A = true) zee.eq_1 ?_ ?_ ?_ ?_ ?_
   ·refine ⟨?_, rfl, rfl, hA⟩
    simp [Node.cells, hu, peersD, intsD, itemsD, toldsD]
   ·rintro i ⟨fr, bs⟩ hi ⟨rfl, h1, h3, he⟩
    simp -implicitDefEqProofs [h1, h3, hi, Node.cells, toldsD]
    simpa using he.symm
   ·rintro i a rest ⟨fr, bs⟩ hlt hget hg hd hd2 ⟨rfl, h1, h3, he⟩
    have hlt' : (i : Int) < x.log.length := by omega
    have hw := zav (n := i) (by omega)
    have hodd : toldOdd a = (!byte a.key || !byte a.value || (!a.has && !decide (a.value = 0))) := rfl
    simp -implicitDefEqProofs [h1, h3, hlt, hlt', hget, hg, Node.cells, peersD, intsD, itemsD, toldsD, Told.row]
    repeat' ((first | refine zaa (by first | exact ztg _) ?_ | ((with_reducible first | refine zak ?_ ?_ | refine zah ?_ ?_ | refine zad ?_ ?_ | refine zae ?_ ?_) <;> intro _) | ((with_reducible first | refine zan ?_ ?_ | refine zap ?_ ?_ | refine zal ?_ ?_ | refine zac ?_ ?_ | refine zai ?_ ?_ | refine zao ?_ ?_ | refine zaf ?_ ?_ | refine zab ?_ ?_) <;> intro hq <;> (try simp at hq)) | refine zag (by omega) ?_ | refine zam (by omega) ?_) <;> simp -implicitDefEqProofs [*, Node.cells, peersD, intsD, itemsD, toldsD, Told.row, hw])
    all_goals grind
   ·rintro ⟨fr, bs⟩ ⟨rfl, h1, he⟩
    simp -implicitDefEqProofs [h1, he, Node.cells, peersD, intsD, itemsD, toldsD]
    repeat' ((first | refine zaa (by first | exact c1 | exact c2) ?_ | ((with_reducible first | refine zak ?_ ?_ | refine zah ?_ ?_ | refine zad ?_ ?_ | refine zae ?_ ?_) <;> intro _) | ((with_reducible first | refine zan ?_ ?_ | refine zap ?_ ?_ | refine zal ?_ ?_ | refine zac ?_ ?_ | refine zai ?_ ?_ | refine zao ?_ ?_ | refine zaf ?_ ?_ | refine zab ?_ ?_) <;> intro hq <;> (try simp at hq)) | refine zag (by omega) ?_ | refine zam (by omega) ?_) <;> simp -implicitDefEqProofs [*])
    all_goals simp only [nodeMay, hA, he, hu]
    all_goals grind
   ·rintro ⟨fr, bs⟩ h
    simp -implicitDefEqProofs [h.1, h.2, nodeMay, hA]
end Go.AM
/- AM: contracts: messages that may be. -/
namespace Go.AM
set_option linter.unusedSimpArgs false
set_option linter.unusedVariables false
set_option maxRecDepth 8000
set_option maxHeartbeats 0
theorem z3b (m : Msg) (hl : m.ids.length ≤ cap) : Den PP 92 [msgD m] [] (.bool (msgMay m)) [] := by
 obtain ⟨kind, from_, to, ids, key, ⟨ik, ic, iw, iv, ig⟩, has⟩ := m
 have c1 := zl4 ids hl
 obtain ⟨A, hA⟩ : ∃ A, ids.all place = A := ⟨_, rfl⟩
 rw [hA] at c1
 simp only [intsD] at c1
 refine zaj [] [] zkh ?_
 simp -implicitDefEqProofs [zgm, msgD, Msg.row, intsD, EQS]
 repeat' ((first | refine zaa (by first | exact c1 | exact zot _ _ _ _ _ | exact zc5 _) ?_ | ((with_reducible first | refine zak ?_ ?_ | refine zah ?_ ?_ | refine zad ?_ ?_ | refine zae ?_ ?_) <;> intro _) | ((with_reducible first | refine zan ?_ ?_ | refine zap ?_ ?_ | refine zal ?_ ?_ | refine zac ?_ ?_ | refine zai ?_ ?_ | refine zao ?_ ?_ | refine zaf ?_ ?_ | refine zab ?_ ?_) <;> intro hq <;> (try simp at hq)) | refine zag (by omega) ?_ | refine zam (by omega) ?_) <;> simp -implicitDefEqProofs [*, EQS])
 all_goals (simp only [msgMay, hA, zeroItem, Item.mk.injEq]; first | (simp [*]; done) | (simp [*]; grind) | grind)
def noneM (ids : List Int) (key : Int) (i : Item) (has : Bool) : Bool := decide (ids.length = 0) && decide (key = 0) && decide (i = zeroItem) && !has
theorem zvl (kind f t key ik ic iw iv : Int) (ig has : Bool) (ids : List Int) : Den PP 169 [.agg [.int .i64 kind, .int .i64 f, .int .i64 t, .sl (ids.map irow) ids.length, .int .i64 key, .int .i64 ik, .int .i64 ic, .int .i64 iw, .int .i64 iv, .bool ig, .bool has]] [] (.bool (noneM ids key ⟨ik, ic, iw, iv, ig⟩ has)) [] := by
 refine zaj [] [] zo8 ?_
 simp -implicitDefEqProofs [zmr, EQS]
 repeat' ((first | ((with_reducible first | refine zak ?_ ?_ | refine zah ?_ ?_ | refine zad ?_ ?_ | refine zae ?_ ?_) <;> intro _) | ((with_reducible first | refine zan ?_ ?_ | refine zap ?_ ?_ | refine zal ?_ ?_ | refine zac ?_ ?_ | refine zai ?_ ?_ | refine zao ?_ ?_ | refine zaf ?_ ?_ | refine zab ?_ ?_) <;> intro hq <;> (try simp at hq)) | refine zag (by omega) ?_ | refine zam (by omega) ?_) <;> simp -implicitDefEqProofs [*, EQS])
 all_goals (simp only [noneM, zeroItem, Item.mk.injEq]; first | (simp [*]; done) | (simp [*]; grind) | grind)
theorem zjq (kind f t key ik ic iw iv : Int) (ig has : Bool) : Den PP 169 [.agg [.int .i64 kind, .int .i64 f, .int .i64 t, .nil, .int .i64 key, .int .i64 ik, .int .i64 ic, .int .i64 iw, .int .i64 iv, .bool ig, .bool has]] [] (.bool (noneM [] key ⟨ik, ic, iw, iv, ig⟩ has)) [] := by
 refine zaj [] [] zo8 ?_
 simp -implicitDefEqProofs [zmr, EQS]
 repeat' ((first | ((with_reducible first | refine zak ?_ ?_ | refine zah ?_ ?_ | refine zad ?_ ?_ | refine zae ?_ ?_) <;> intro _) | ((with_reducible first | refine zan ?_ ?_ | refine zap ?_ ?_ | refine zal ?_ ?_ | refine zac ?_ ?_ | refine zai ?_ ?_ | refine zao ?_ ?_ | refine zaf ?_ ?_ | refine zab ?_ ?_) <;> intro hq <;> (try simp at hq)) | refine zag (by omega) ?_ | refine zam (by omega) ?_) <;> simp -implicitDefEqProofs [*, EQS])
 all_goals (simp only [noneM, zeroItem, Item.mk.injEq]; first | (simp [*]; done) | (simp [*]; grind) | grind)
theorem zm8 (m : Msg) (hl : m.ids.length ≤ cap) : Den PP 85 [msgD m] [] (.bool (msgMay m)) [] := by
 obtain ⟨kind, from_, to, ids, key, ⟨ik, ic, iw, iv, ig⟩, has⟩ := m
 have c1 := zih ids hl
 obtain ⟨A, hA⟩ : ∃ A, ids.all place = A := ⟨_, rfl⟩
 rw [hA] at c1
 simp only [intsD] at c1
 refine zaj [] [] z1e ?_
 simp -implicitDefEqProofs [zuw, msgD, Msg.row, intsD, EQS]
 repeat' ((first | refine zaa (by first | exact c1 | exact zu2 _ _ _ _ _ | exact zat _ | exact zvl _ _ _ _ _ _ _ _ _ _ _ | exact zjq _ _ _ _ _ _ _ _ _ _ | exact zd0 (zjq _ _ _ _ _ _ _ _ _ _) | exact zd0 (by simpa using zjq _ _ _ _ _ _ _ _ _ _)) ?_ | ((with_reducible first | refine zak ?_ ?_ | refine zah ?_ ?_ | refine zad ?_ ?_ | refine zae ?_ ?_) <;> intro _) | ((with_reducible first | refine zan ?_ ?_ | refine zap ?_ ?_ | refine zal ?_ ?_ | refine zac ?_ ?_ | refine zai ?_ ?_ | refine zao ?_ ?_ | refine zaf ?_ ?_ | refine zab ?_ ?_) <;> intro hq <;> (try simp at hq)) | refine zag (by omega) ?_ | refine zam (by omega) ?_) <;> simp -implicitDefEqProofs [*, EQS])
 all_goals (try simp only [noneM, zeroItem, Item.mk.injEq] at *)
 all_goals (simp only [msgMay, hA, zeroItem, Item.mk.injEq]; first | (simp [*]; done) | (simp [*]; grind) | grind)
end Go.AM
/- AM: contracts: slices.Delete of one. -/
namespace Go.AM
set_option linter.unusedSimpArgs false
set_option linter.unusedVariables false
set_option maxRecDepth 8000
set_option maxHeartbeats 0
theorem zke (rows : List (List D)) (p : Nat) (hf : Fits 11 rows) (hst : StillR rows) (hp : p < rows.length) (hl : rows.length ≤ 1000000) :
 GivesC (DenF PP [0]) 236 rows 11 [.int .i64 p, .int .i64 ((p : Int) + 1)] (rows.take p ++ rows.drop (p + 1)) := by
 refine zlo (fun r hr => (hf r hr).1) hst fun fl hfl hrow hfs htake hget => ?_
 have hzs : StillR [([D.int IntKind.i64 0, D.int IntKind.i64 0, D.int IntKind.i64 0, D.nil, D.int IntKind.i64 0, D.int IntKind.i64 0, D.int IntKind.i64 0, D.int IntKind.i64 0, D.int IntKind.i64 0, D.bool false, D.bool false] : List D)] := by intro r hr d hd; rw [List.mem_singleton.1 hr] at hd; exact List.all_eq_true.1 (rfl : ([D.int IntKind.i64 0, D.int IntKind.i64 0, D.int IntKind.i64 0, D.nil, D.int IntKind.i64 0, D.int IntKind.i64 0, D.int IntKind.i64 0, D.int IntKind.i64 0, D.int IntKind.i64 0, D.bool false, D.bool false] : List D).all D.still = true) d hd
 generalize hn : rows.length = n at *
 have hfit : Fits 11 (List.take (n - (p + 1)) (List.drop (p + 1) fl)) := by
  intro r hr
  have : r ∈ rows := by
   rw [← htake]
   have h1 : List.take (n - (p + 1)) (List.drop (p + 1) fl) = List.drop (p + 1) (List.take n fl) := by rw [List.drop_take]
   rw [h1] at hr
   exact List.mem_of_mem_drop hr
  exact hf r this
 have hyl : (List.take (n - (p + 1)) (List.drop (p + 1) fl)).length = n - (p + 1) := by simp; omega
 have hne : ¬ (p : Int) = (p : Int) + 1 := by omega
 have hcl : (fl.take p ++ (List.take (n - (p + 1)) (List.drop (p + 1) fl) ++ fl.drop (n - 1))).length = fl.length := by simp; omega
 have hmin : p + min (n - (p + 1)) (fl.length - (p + 1)) = n - 1 := by omega
 have hmin2 : (p : Int) + ((min (n - (p + 1)) (fl.length - (p + 1)) : Nat) : Int) = ((n - 1 : Nat) : Int) := by omega
 have hpn : p + (n - (p + 1)) = n - 1 := by omega
 have hcS : StillR (fl.take p ++ (List.take (n - (p + 1)) (List.drop (p + 1) fl) ++ fl.drop (n - 1))) := (hfs.take _).append (((hfs.drop _).take _).append (hfs.drop _))
 refine ⟨.ref 0 0 (n - 1), [⟨ovr (fl.take p ++ (List.take (n - (p + 1)) (List.drop (p + 1) fl) ++ fl.drop (n - 1))) (n - 1) [[D.int IntKind.i64 0, D.int IntKind.i64 0, D.int IntKind.i64 0, D.nil, D.int IntKind.i64 0, D.int IntKind.i64 0, D.int IntKind.i64 0, D.int IntKind.i64 0, D.int IntKind.i64 0, D.bool false, D.bool false]], 11, .mut⟩], ?_, ?_⟩
 ·refine zeb [] [] [] [] (by simp) (fun _ h => absurd h List.not_mem_nil) zex ?_
  simp -implicitDefEqProofs [-leave, zc1]
  refine zam (by simp [boundD]; omega) ?_
  simp -implicitDefEqProofs [-leave, hne]
  refine za2 (0) (p) ?_
  simp -implicitDefEqProofs [-leave, hne]
  by_cases hE : p + 1 < fl.length
  ·refine za2 (p + 1) (n) ?_
   simp -implicitDefEqProofs [-leave, hne, hfit]
   repeat' (first | (refine zag (by omega) ?_) | (refine zbw (by omega) ?_))
   simp -implicitDefEqProofs [-leave, hne, hyl, hpn, hmin, hmin2]
   generalize (fl.take p ++ (List.take (n - (p + 1)) (List.drop (p + 1) fl) ++ fl.drop (n - 1))) = B at *
   refine za2 (n - 1) (n) ?_
   simp -implicitDefEqProofs [-leave, hne]
   try refine zc8 (by first | omega | (simp; done) | (simp; omega)) ?_
   have hnn : n - (n - 1) = 1 := by omega
   try simp -implicitDefEqProofs [-leave, hne, hnn]
   rw [zdg (by omega) (by simpa [hnn] using hcS.ovr hzs (n - 1))]
   simp [hnn]
  ·obtain rfl : n = p + 1 := by omega
   have hB : fl.take p ++ (List.take (p + 1 - (p + 1)) (List.drop (p + 1) fl) ++ fl.drop (p + 1 - 1)) = fl := by simp
   rw [hB] at *
   refine zn5 (p + 1) ?_
   try simp -implicitDefEqProofs [-leave, hne]
   refine ⟨by simp [Fits], ?_⟩
   repeat' (first | (refine zag (by omega) ?_) | (refine zbw (by omega) ?_))
   try simp -implicitDefEqProofs [-leave, hne]
   refine za2 (p) (p + 1) ?_
   simp -implicitDefEqProofs [-leave, hne]
   try refine zc8 (by first | omega | (simp; done) | (simp; omega)) ?_
   try simp -implicitDefEqProofs [-leave, hne]
   rw [zdg (by omega) (by simpa using hcS.ovr hzs p)]
   simp [Fits]
 ·refine zbz rfl rfl rfl ?_ ?_ (.inl rfl)
  ·rw [zaw (by rw [hcl]; simp; omega), hcl]
   omega
  ·rw [List.drop_zero, ← htake]
   have h1 : (ovr (fl.take p ++ (List.take (n - (p + 1)) (List.drop (p + 1) fl) ++ fl.drop (n - 1))) (n - 1) [[D.int IntKind.i64 0, D.int IntKind.i64 0, D.int IntKind.i64 0, D.nil, D.int IntKind.i64 0, D.int IntKind.i64 0, D.int IntKind.i64 0, D.int IntKind.i64 0, D.int IntKind.i64 0, D.bool false, D.bool false]]).take (n - 1) = fl.take p ++ List.take (n - (p + 1)) (List.drop (p + 1) fl) := by
    unfold ovr
    rw [List.append_assoc, List.take_append_of_le_length (by simp; omega), List.take_take, Nat.min_self, ← List.append_assoc, List.take_left' (by simp; omega)]
   rw [h1, List.take_take, List.drop_take, Nat.min_eq_left (by omega)]
end Go.AM
/- Plain law: greetings. -/
namespace Go.AM
set_option linter.unusedSimpArgs false
set_option linter.unusedVariables false

def knowsV (v : View) (x : Int) : Bool := (v.peers.map Peer.id).contains x || v.passive.contains x
def roomV (v : View) (x : Int) : Bool := knowsV v x || decide (v.peers.length + v.passive.length < 16)
def knownV (v : View) (x : Int) : View := if roomV v x then ⟨v.id, hearG v.id x false v.peers, v.passive.filter fun y => !decide (y = x)⟩ else v
def tellV (v : View) (x : Int) : View := if !decide (x = v.id) && !knowsV v x then knownV v x else v
def helloV (v : View) (a : Int) (ids : List Int) : View := ids.foldl tellV (knownV v a)
def helloOk (v : View) (a : Int) (ids : List Int) : Bool := viewMay v && (place a && (!decide (a = v.id) && (decide (ids.length ≤ 16) && ids.all place)))

theorem zq9 {v : View} (h1 : peersMay v.id v.peers = true) (h2 : passiveMay v.passive = true) (h3 : v.peers.length + v.passive.length ≤ 16) (h4 : ∀ x ∈ v.passive, x ≠ v.id ∧ x ∉ v.peers.map Peer.id) : viewMay v = true := by
 simp only [viewMay, Bool.and_eq_true, decide_eq_true_eq, Bool.not_eq_true']
 refine ⟨⟨⟨h1, h2⟩, h3⟩, ?_⟩
 rw [List.any_eq_false]
 intro x hx
 simp only [oddIn, Bool.or_eq_true, not_or]
 rw [ze3 h1 (zcy h2 x hx)]
 have := h4 x hx
 simpa using this
theorem zrh (v : View) (x : Int) : knowsV v x = true ↔ (∃ q ∈ v.peers, q.id = x) ∨ x ∈ v.passive := by
 simp [knowsV]
theorem zmi {b x : Int} {ps : List Peer} (q : Peer) : q ∈ hearG b x false ps ↔ q = ⟨x, 0⟩ ∨ (q ∈ ps ∧ q.id ≠ x) := by
 have hf := zvh b x ps
 constructor
 ·intro h
  by_cases he : q.id = x
  ·exact .inl (zq5 b x ps q h he)
  ·rcases zzz b x ps q h with h' | h'
   ·exact .inl h'
   ·exact .inr ⟨h', he⟩
 ·rintro (rfl | ⟨h, he⟩)
  ·obtain ⟨q, hq, hi⟩ := z50 b x ps
   rw [← zq5 b x ps q hq hi]
   exact hq
  ·have : q ∈ (hearG b x false ps).filter fun p => !decide (p.id = x) := by rw [hf]; simp [h, he]
   exact (List.mem_filter.1 this).1
theorem zgn (v : View) (x : Int) : (knownV v x).id = v.id := by
 unfold knownV; split <;> rfl
theorem zhx {v : View} {x : Int} (h : roomV v x = false) : knownV v x = v := by
 unfold knownV; rw [if_neg (by simp [h])]
theorem zcm {v : View} {x : Int} (h : roomV v x = true) (q : Peer) : q ∈ (knownV v x).peers ↔ q = ⟨x, 0⟩ ∨ (q ∈ v.peers ∧ q.id ≠ x) := by
 unfold knownV; rw [if_pos h]; exact zmi q
theorem zg4 {v : View} {x : Int} (h : roomV v x = true) (y : Int) : y ∈ (knownV v x).passive ↔ y ∈ v.passive ∧ y ≠ x := by
 unfold knownV; rw [if_pos h]; simp
theorem z0i (v : View) (x : Int) : (tellV v x).id = v.id := by
 unfold tellV; split
 ·exact zgn v x
 ·rfl

def sizeV (v : View) : Nat := v.peers.length + v.passive.length
theorem znv {b : Int} {ps : List Peer} (h : peersMay b ps = true) {x : Int} : (ps.filter fun p => !decide (p.id = x)).length + (if (∃ q ∈ ps, q.id = x) then 1 else 0) = ps.length := by
 obtain ⟨hb, _, h1, h2⟩ := zbi.1 h
 clear h h1
 induction ps with
 | nil => simp
 | cons p ps ih =>
   have hp := (List.pairwise_cons.1 h2).1
   have ih := ih (by first | assumption | (rename_i hlen; simp at hlen; omega)) (List.pairwise_cons.1 h2).2
   by_cases he : p.id = x
   ·have hno : ¬ ∃ q ∈ ps, q.id = x := by
     rintro ⟨q, hq, hqx⟩
     have := hp q hq
     rw [he, hqx] at this
     omega
    rw [if_neg hno] at ih
    rw [if_pos ⟨p, by simp, he⟩]
    simp [he]
    simpa using ih
   ·have : (∃ q ∈ p :: ps, q.id = x) ↔ ∃ q ∈ ps, q.id = x := by simp [he]
    simp only [this]
    simp [he]
    omega
theorem zyt {xs : List Int} (h : passiveMay xs = true) (x : Int) : (xs.filter fun y => !decide (y = x)).length + (if x ∈ xs then 1 else 0) = xs.length := by
 by_cases hx : x ∈ xs
 ·rw [if_pos hx, ← z2m ((zb1 xs).1 h).1 hx]
 ·rw [if_neg hx, z27 hx]; rfl
theorem zx7 {v : View} {x : Int} (hv : viewMay v = true) (h : roomV v x = true) : sizeV (knownV v x) = if knowsV v x then sizeV v else sizeV v + 1 := by
 obtain ⟨h1, h2, h3, h4⟩ := zas hv
 have e1 := znv h1 (x := x)
 have e2 := zyt h2 x
 have e3 := znb v.id x v.peers
 have hk := zrh v x
 unfold sizeV knownV
 rw [if_pos h]
 simp only
 by_cases hp : ∃ q ∈ v.peers, q.id = x
 ·have hnx : x ∉ v.passive := by
   intro hx
   obtain ⟨q, hq, hqx⟩ := hp
   exact (h4 x hx).2 (List.mem_map.2 ⟨q, hq, hqx⟩)
  rw [if_pos hp] at e1
  rw [if_neg hnx] at e2
  rw [if_pos (hk.2 (.inl hp))]
  omega
 ·rw [if_neg hp] at e1
  by_cases hx : x ∈ v.passive
  ·rw [if_pos hx] at e2
   rw [if_pos (hk.2 (.inr hx))]
   omega
  ·rw [if_neg hx] at e2
   have : ¬ knowsV v x = true := by rw [hk]; simp [hp, hx]
   rw [if_neg this]
   omega
theorem zhd {v : View} {x : Int} (hv : viewMay v = true) (hx : place x = true) (hn : x ≠ v.id) : viewMay (knownV v x) = true ∧ (roomV v x = true → refHeard v.id v.peers x = (hearG v.id x false v.peers, 0)) := by
 cases hr : roomV v x with
 | false => rw [zhx hr]; exact ⟨hv, by simp⟩
 | true =>
   have hsz := zx7 hv hr
   obtain ⟨h1, h2, h3, h4⟩ := zas hv
   obtain ⟨hb, _, hok, hpw⟩ := zbi.1 h1
   have hle : sizeV (knownV v x) ≤ 16 := by
    rw [hsz]
    unfold roomV at hr
    split
    ·exact h3
    ·rename_i hk
     simp [hk] at hr
     unfold sizeV
     omega
   have hpm : peersMay v.id (hearG v.id x false v.peers) = true := by
    rw [zbi]
    refine ⟨hb, ?_, ?_, z0v hb hx v.peers (fun p hp => (hok p hp).1) hpw⟩
    ·have : (knownV v x).peers = hearG v.id x false v.peers := by unfold knownV; rw [if_pos hr]
     unfold sizeV at hle
     rw [this] at hle
     omega
    ·intro p hp
     rcases zmi (b := v.id) p |>.1 hp with rfl | ⟨hp, _⟩
     ·refine ⟨hx, by simp, by simp, ?_⟩
      have := zo9 hb hx
      have := mt (zn2 hb hx).1 hn
      simp only
      omega
     ·exact hok p hp
   have hpeers : (knownV v x).peers = hearG v.id x false v.peers := by unfold knownV; rw [if_pos hr]
   refine ⟨zq9 ?_ ?_ hle ?_, fun _ => ?_⟩
   ·rw [hpeers, zgn]; exact hpm
   ·unfold knownV; rw [if_pos hr]; exact zm1 h2
   ·intro y hy
    rw [zg4 hr] at hy
    have := h4 y hy.1
    refine ⟨by rw [zgn]; exact this.1, ?_⟩
    intro hm
    obtain ⟨q, hq, hqy⟩ := List.mem_map.1 hm
    rw [zcm hr] at hq
    rcases hq with rfl | ⟨hq, _⟩
    ·exact hy.2 hqy.symm
    ·exact this.2 (List.mem_map.2 ⟨q, hq, hqy⟩)
   ·have hl : (hearG v.id x false v.peers).length ≤ 16 := (zbi.1 hpm).2.1
    unfold refHeard
    rw [zk5, h1, hx]
    simp [hn, hl]
theorem zu3 {v : View} {x : Int} (hv : viewMay v = true) (hx : place x = true) : viewMay (tellV v x) = true := by
 unfold tellV
 split
 ·rename_i h
  simp only [Bool.and_eq_true, Bool.not_eq_true', decide_eq_false_iff_not] at h
  exact (zhd hv hx h.1).1
 ·exact hv
theorem zwl : ∀ (ids : List Int) (v : View), viewMay v = true → (∀ x ∈ ids, place x = true) → viewMay (ids.foldl tellV v) = true ∧ (ids.foldl tellV v).id = v.id := by
 intro ids
 induction ids with
 | nil => intro v hv _; exact ⟨hv, rfl⟩
 | cons x ids ih =>
   intro v hv hp
   obtain ⟨a, b⟩ := ih (tellV v x) (zu3 hv (hp x (by simp))) (fun y hy => hp y (by simp [hy]))
   exact ⟨a, by rw [List.foldl_cons, b, z0i]⟩
theorem zh3 {v : View} {a : Int} {ids : List Int} (h : helloOk v a ids = true) : viewMay v = true ∧ place a = true ∧ a ≠ v.id ∧ ids.length ≤ 16 ∧ ∀ x ∈ ids, place x = true := by
 simp only [helloOk, Bool.and_eq_true, Bool.not_eq_true', decide_eq_false_iff_not, decide_eq_true_eq, List.all_eq_true] at h
 exact ⟨h.1, h.2.1, h.2.2.1, h.2.2.2.1, h.2.2.2.2⟩
theorem zm5 {v : View} {a : Int} {ids : List Int} (h : helloOk v a ids = true) : viewMay (helloV v a ids) = true ∧ (helloV v a ids).id = v.id := by
 obtain ⟨h1, h2, h3, h4, h5⟩ := zh3 h
 obtain ⟨a, b⟩ := zwl ids _ (zhd h1 h2 h3).1 h5
 exact ⟨a, by unfold helloV; rw [b, zgn]⟩

end Go.AM
/- AM: plain: time that goes by, for a view. -/
namespace Go.AM
set_option linter.unusedSimpArgs false
set_option linter.unusedVariables false
def agedP (lost : List Int) (p : List Int) : List Int := lost.foldl (fun p x => (withP p x).1) p
def ageV (v : View) : View := ⟨v.id, ageL v.peers, agedP (lostL v.peers) v.passive⟩
theorem z3h : ∀ (lost p : List Int), passiveMay p = true → (∀ x ∈ lost, place x = true ∧ x ∉ p) → lost.Nodup → p.length + lost.length ≤ 16 →
 passiveMay (agedP lost p) = true ∧ (agedP lost p).length = p.length + lost.length ∧ ∀ y, y ∈ agedP lost p ↔ y ∈ p ∨ y ∈ lost := by
 intro lost
 induction lost with
 | nil => intro p hp _ _ _; exact ⟨hp, by simp [agedP], by simp [agedP]⟩
 | cons x lost ih =>
   intro p hp hl hn hk
   obtain ⟨hx, hxp⟩ := hl x (by simp)
   have hne : p.length ≠ 16 := by simp at hk; omega
   have e : withP p x = (insU x p, 0) := by simp [withP, hp, hx, hxp, hne]
   have e2 : agedP (x :: lost) p = agedP lost (insU x p) := by simp [agedP, e]
   rw [List.nodup_cons] at hn
   obtain ⟨h1, h2, h3⟩ := ih (insU x p) (zpu hp hx hxp hne) (fun y hy => ⟨(hl y (by simp [hy])).1, fun hm => by
    rcases zmf.1 hm with rfl | hm
    ·exact hn.1 hy
    ·exact (hl y (by simp [hy])).2 hm⟩) hn.2 (by rw [zgr]; simp at hk; omega)
   rw [e2]
   refine ⟨h1, by rw [h2, zgr]; simp; omega, fun y => ?_⟩
   rw [h3, zmf]
   simp only [List.mem_cons]
   constructor
   ·rintro ((h | h) | h)
    ·exact .inr (.inl h)
    ·exact .inl h
    ·exact .inr (.inr h)
   ·rintro (h | h | h)
    ·exact .inl (.inr h)
    ·exact .inl (.inl h)
    ·exact .inr h
theorem zop {x : Int} {ps : List Peer} (h : x ∈ lostL ps) : ∃ p ∈ ps, p.missed + 1 = 3 ∧ p.id = x := by
 obtain ⟨p, hp, rfl⟩ := List.mem_map.1 h
 obtain ⟨h1, h2⟩ := List.mem_filter.1 hp
 exact ⟨p, h1, by simpa using h2, rfl⟩
theorem zsk {q : Peer} {ps : List Peer} (h : q ∈ ageL ps) : ∃ p ∈ ps, p.missed + 1 ≠ 3 ∧ q = ⟨p.id, p.missed + 1⟩ := by
 obtain ⟨p, hp, rfl⟩ := List.mem_map.1 h
 obtain ⟨h1, h2⟩ := List.mem_filter.1 hp
 exact ⟨p, h1, by simpa using h2, rfl⟩
theorem zw0 {base : Int} {ps : List Peer} (h : peersMay base ps = true) : (lostL ps).Nodup := by
 have hp := (zbi.1 h).2.2.2
 unfold lostL List.Nodup
 rw [List.pairwise_map]
 refine (hp.filter _).imp ?_
 intro a b hab he
 rw [he] at hab
 omega
theorem z10 {base : Int} {ps : List Peer} (h : peersMay base ps = true) {p q : Peer} (hp : p ∈ ps) (hq : q ∈ ps) (he : p.id = q.id) : p = q := by
 have hw := (zbi.1 h).2.2.2
 induction ps with
 | nil => cases hp
 | cons a ps ih =>
   have hh := zbi.1 h
   rw [List.pairwise_cons] at hw
   have key : ∀ b ∈ ps, far base a.id < far base b.id := hw.1
   rcases List.mem_cons.1 hp with rfl | hp' <;> rcases List.mem_cons.1 hq with rfl | hq'
   ·rfl
   ·have := key q hq'; rw [he] at this; omega
   ·have := key p hp'; rw [he] at this; omega
   ·refine ih (zbi.2 ⟨hh.1, by have := hh.2.1; simp at this; omega, fun x hx => hh.2.2.1 x (by simp [hx]), hw.2⟩) hp' hq' hw.2
theorem zhf {v : View} (h : viewMay v = true) : viewMay (ageV v) = true ∧ (ageV v).peers.length + (ageV v).passive.length = v.peers.length + v.passive.length ∧ (∀ y, y ∈ (ageV v).passive ↔ y ∈ v.passive ∨ y ∈ lostL v.peers) := by
 obtain ⟨h1, h2, h3, h4⟩ := zas h
 have hlen := zj7 v.peers
 have hpl := zc0 h1
 have hlost : ∀ x ∈ lostL v.peers, place x = true ∧ x ∉ v.passive := by
  intro x hx
  obtain ⟨p, hp, hm, rfl⟩ := zop hx
  exact ⟨(hpl p hp).1, fun hm => (h4 _ hm).2 (List.mem_map.2 ⟨p, hp, rfl⟩)⟩
 obtain ⟨a1, a2, a3⟩ := z3h (lostL v.peers) v.passive h2 hlost (zw0 h1) (by omega)
 refine ⟨zq9 (z72 h1) a1 ?_ ?_, ?_, a3⟩
 ·show (ageL v.peers).length + (agedP (lostL v.peers) v.passive).length ≤ 16
  rw [a2]; omega
 ·intro x hx
  show x ≠ v.id ∧ x ∉ (ageL v.peers).map Peer.id
  have hx' : x ∈ v.passive ∨ x ∈ lostL v.peers := (a3 x).1 hx
  rcases hx' with hx' | hx'
  ·refine ⟨(h4 x hx').1, fun hm => ?_⟩
   obtain ⟨q, hq, rfl⟩ := List.mem_map.1 hm
   obtain ⟨p, hp, -, rfl⟩ := zsk hq
   exact (h4 _ hx').2 (List.mem_map.2 ⟨p, hp, rfl⟩)
  ·obtain ⟨p, hp, hm, rfl⟩ := zop hx'
   refine ⟨z3g h hp, fun hm' => ?_⟩
   obtain ⟨q, hq, he⟩ := List.mem_map.1 hm'
   obtain ⟨p', hp', hm2, rfl⟩ := zsk hq
   have := z10 h1 hp' hp he
   rw [this] at hm2
   exact hm2 hm
 ·show (ageL v.peers).length + (agedP (lostL v.peers) v.passive).length = _
  rw [a2]; omega
def greetV (w : View) : List Int := w.peers.map Peer.id ++ w.passive
def greetM (w : View) (to : Int) : Msg := ⟨0, w.id, to, w.peers.map Peer.id, 0, zeroItem, false⟩
end Go.AM
/- AM: plain: worlds, acts. -/
namespace Go.AM
set_option linter.unusedSimpArgs false
set_option linter.unusedVariables false
structure Wld where
 nodes : List Node
 cuts : List Cut
 packets : List Msg
 deriving DecidableEq, Inhabited
def nodesD (xs : List Node) : D := .sl (xs.map Node.cells) xs.length
@[simp] theorem z8r (S : Nat → Bool) (x : Node) : x.cells.map (D.sweep S) = x.cells := rfl
@[simp] theorem z86 (fr fp : Nat → Nat → Nat → D) (x : Node) : x.cells.map (D.mapR fr fp) = x.cells := rfl
@[simp] theorem qa2 (x : Node) : idsL x.cells = [] := rfl
@[simp] theorem z9x (x : Node) : ridsL x.cells = [] := rfl
@[simp] theorem z9w (x : Node) : x.cells.take 6 = x.cells := rfl
@[simp] theorem qah (x : Node) : x.cells.drop 6 = [] := rfl
theorem zjr (x : Node) : x.cells = [.bool x.up, .int .i64 x.view.id, .sl (x.view.peers.map Peer.row) x.view.peers.length, .sl (x.view.passive.map irow) x.view.passive.length, .sl (x.items.map Item.row) x.items.length, .sl (x.log.map Told.row) x.log.length] := rfl
@[simp] theorem z8d (x : Node) : x.cells.length = 6 := rfl
def Wld.cells (w : Wld) : List D := [nodesD w.nodes, cutsD w.cuts, msgsD w.packets]
def wldD (w : Wld) : D := .agg w.cells
structure Wld.small (w : Wld) : Prop where
 nodes : w.nodes.length ≤ cap16
 node : ∀ x ∈ w.nodes, x.small
 cuts : w.cuts.length ≤ cap
 packets : w.packets.length ≤ cap16
 packet : ∀ m ∈ w.packets, m.ids.length ≤ cap
def nodesOk : Option Int → List Node → Bool
 | _, [] => true
 | q, x :: xs => nodeMay x && (q.all (fun y => decide (y < x.view.id)) && nodesOk (some x.view.id) xs)
def nodesMay (xs : List Node) : Bool := nodesOk none xs && (decide (1 ≤ xs.length) && decide (xs.length ≤ 8))
def oddM (m : Msg) : Bool := !msgMay m
def queueMay (ms : List Msg) : Bool := decide (ms.length ≤ 512) && !ms.any oddM
def namedN (x : Node) : List Int := x.view.peers.map Peer.id ++ x.view.passive
def namedC (c : Cut) : List Int := [c.a, c.b]
def namedM (m : Msg) : List Int := m.from_ :: m.to :: m.ids
def namedW (w : Wld) : List Int := w.nodes.flatMap namedN ++ w.cuts.flatMap namedC ++ w.packets.flatMap namedM
def cmpN (id : Int) (x : Node) : Int := cmpI x.view.id id
def posN (id : Int) (xs : List Node) : Nat := posC (cmpN id) xs
def isN (id : Int) (xs : List Node) : Bool := atC (cmpN id) xs
def worldMay (w : Wld) : Bool := nodesMay w.nodes && (cutsMay w.cuts && (queueMay w.packets && !(namedW w).any fun id => !isN id w.nodes))
def NamedSmall (w : Wld) : Prop := w.nodes.length ≤ 8 ∧ (∀ x ∈ w.nodes, x.view.peers.length ≤ 16 ∧ x.view.passive.length ≤ 16) ∧ w.cuts.length ≤ 32 ∧ w.packets.length ≤ 512 ∧ ∀ m ∈ w.packets, m.ids.length ≤ 16
theorem zif {α β : Type} {f : α → List β} {n : Nat} : ∀ (xs : List α), (∀ x ∈ xs, (f x).length ≤ n) → (xs.flatMap f).length ≤ xs.length * n := by
 intro xs
 induction xs with
 | nil => intro _; simp
 | cons x xs ih =>
   intro h
   have h1 := ih fun y hy => h y (by simp [hy])
   have h2 := h x (by simp)
   simp only [List.flatMap_cons, List.length_append, List.length_cons]
   rw [Nat.succ_mul]
   omega
theorem z5m {w : Wld} (h : NamedSmall w) : (namedW w).length ≤ 16384 := by
 obtain ⟨h1, h2, h3, h4, h5⟩ := h
 have a := zif (f := namedN) (n := 32) w.nodes (fun x hx => by have := h2 x hx; simp [namedN]; omega)
 have b := zif (f := namedC) (n := 2) w.cuts (fun x hx => by simp [namedC])
 have c := zif (f := namedM) (n := 18) w.packets (fun x hx => by have := h5 x hx; simp [namedM]; omega)
 unfold namedW
 simp only [List.length_append]
 omega
theorem zwv : ∀ (xs : List Node) (q : Option Int), nodesOk q xs = true → (∀ x ∈ xs, nodeMay x = true ∧ ∀ y, q = some y → y < x.view.id) ∧ xs.Pairwise (fun x y => x.view.id < y.view.id) := by
 intro xs
 induction xs with
 | nil => intro q _; exact ⟨by simp, List.Pairwise.nil⟩
 | cons x xs ih =>
   intro q h
   simp only [nodesOk, Bool.and_eq_true] at h
   obtain ⟨h1, h2, h3⟩ := h
   obtain ⟨i1, i2⟩ := ih _ h3
   have hq : ∀ y, q = some y → y < x.view.id := by
    rintro y rfl
    simpa using h2
   refine ⟨?_, List.pairwise_cons.2 ⟨fun y hy => (i1 y hy).2 _ rfl, i2⟩⟩
   intro y hy
   rcases List.mem_cons.1 hy with rfl | hy
   ·exact ⟨h1, hq⟩
   ·refine ⟨(i1 y hy).1, fun z hz => ?_⟩
    have := hq z hz
    have := (i1 y hy).2 _ rfl
    omega
theorem zbm {xs : List Node} (h : nodesMay xs = true) : (∀ x ∈ xs, nodeMay x = true) ∧ xs.Pairwise (fun x y => x.view.id < y.view.id) ∧ 1 ≤ xs.length ∧ xs.length ≤ 8 := by
 simp only [nodesMay, Bool.and_eq_true, decide_eq_true_eq] at h
 obtain ⟨h1, h2, h3⟩ := h
 obtain ⟨a, b⟩ := zwv _ _ h1
 exact ⟨fun x hx => (a x hx).1, b, h2, h3⟩
theorem zf5 {x : Node} (h : nodeMay x = true) : (x.up = true ∨ emptyN x = true) ∧ viewMay x.view = true ∧ storeMay x.items = true ∧ x.log.length ≤ 64 ∧ x.log.any toldOdd = false := by
 simp only [nodeMay, Bool.and_eq_true, Bool.or_eq_true, decide_eq_true_eq, Bool.not_eq_true'] at h
 obtain ⟨⟨⟨⟨h1, h2⟩, h3⟩, h4⟩, h5⟩ := h
 exact ⟨h1, h2, h3, h4, h5⟩
theorem zhe {xs : List Node} (h : nodesMay xs = true) (id : Int) : MonoC (cmpN id) xs := by
 have hp := (zbm h).2.1
 intro i j x y hij hx hy hc
 rcases Nat.lt_or_ge i j with h1 | h1
 ·obtain ⟨hi, rfl⟩ := List.getElem?_eq_some_iff.1 hx
  obtain ⟨hj, rfl⟩ := List.getElem?_eq_some_iff.1 hy
  have := List.pairwise_iff_getElem.1 hp i j hi hj h1
  unfold cmpN at *
  rw [zj3] at *
  omega
 ·obtain rfl : i = j := by omega
  rw [hx] at hy
  cases hy
  exact hc
theorem z1r {m : Msg} (h : msgMay m = true) : m.ids.length ≤ 16 := by
 simp only [msgMay, Bool.and_eq_true] at h
 obtain ⟨_, _, _, h⟩ := h
 split at h
 ·simp only [Bool.and_eq_true, decide_eq_true_eq] at h; exact h.2
 ·split at h
  ·simp only [Bool.and_eq_true, decide_eq_true_eq] at h; omega
  ·split at h
   ·simp only [Bool.and_eq_true, decide_eq_true_eq] at h; omega
   ·split at h
    ·simp only [Bool.and_eq_true, decide_eq_true_eq] at h; omega
    ·cases h
theorem zkr {ms : List Msg} (h : queueMay ms = true) : ms.length ≤ 512 ∧ ∀ m ∈ ms, msgMay m = true := by
 simp only [queueMay, Bool.and_eq_true, decide_eq_true_eq, Bool.not_eq_true'] at h
 refine ⟨h.1, fun m hm => ?_⟩
 have := List.any_eq_false.1 h.2 m hm
 simpa [oddM] using this
theorem zo0 {w : Wld} (h1 : nodesMay w.nodes = true) (h2 : cutsMay w.cuts = true) (h3 : queueMay w.packets = true) : NamedSmall w := by
 obtain ⟨a1, a2, a3, a4⟩ := zbm h1
 obtain ⟨b1, b2⟩ := zkr h3
 refine ⟨a4, fun x hx => ?_, ?_, b1, fun m hm => z1r (b2 m hm)⟩
 ·obtain ⟨p1, p2, p3, _⟩ := zas (zf5 (a1 x hx)).2.1
  omega
 ·simp only [cutsMay, Bool.and_eq_true, decide_eq_true_eq] at h2
  exact h2.2
theorem zcf {w : Wld} (h : worldMay w = true) : nodesMay w.nodes = true ∧ cutsMay w.cuts = true ∧ queueMay w.packets = true ∧ ∀ id ∈ namedW w, isN id w.nodes = true := by
 simp only [worldMay, Bool.and_eq_true, Bool.not_eq_true'] at h
 obtain ⟨h1, h2, h3, h4⟩ := h
 exact ⟨h1, h2, h3, fun id hid => by simpa using List.any_eq_false.1 h4 id hid⟩
theorem zto {x : Node} (h : nodeMay x = true) : x.view.peers.length ≤ 16 ∧ x.view.passive.length ≤ 16 ∧ x.items.length ≤ 16 ∧ x.log.length ≤ 64 := by
 obtain ⟨_, h2, h3, h4, _⟩ := zf5 h
 obtain ⟨p1, p2, p3, _⟩ := zas h2
 simp only [storeMay, Bool.and_eq_true, decide_eq_true_eq] at h3
 omega
theorem zcv {x : Node} (h : nodeMay x = true) : x.small := by
 obtain ⟨h1, h2, h3, h4⟩ := zto h
 refine ⟨⟨?_, ?_⟩, ?_, ?_⟩ <;> (try unfold cap16) <;> (try unfold cap) <;> omega
structure Wld.tiny (w : Wld) : Prop where
 nodes : w.nodes.length ≤ 8
 node : ∀ x ∈ w.nodes, nodeMay x = true
 cuts : w.cuts.length ≤ 32
 packets : w.packets.length ≤ 512
 packet : ∀ m ∈ w.packets, m.ids.length ≤ 16
theorem zbr {w : Wld} (h : worldMay w = true) : w.tiny := by
 obtain ⟨h1, h2, h3, h4⟩ := zcf h
 obtain ⟨n1, n2, n3, n4, n5⟩ := zo0 h1 h2 h3
 exact ⟨n1, (zbm h1).1, n3, n4, n5⟩
theorem Wld.tiny.small {w : Wld} (h : w.tiny) : w.small :=
 ⟨by have := h.nodes; unfold cap16; omega, fun x hx => zcv (h.node x hx), by have := h.cuts; unfold cap; omega, by have := h.packets; unfold cap16; omega, fun m hm => by have := h.packet m hm; unfold cap; omega⟩
def sendW (w : Wld) (ms : List Msg) : Wld := { w with packets := w.packets ++ ms.take (512 - w.packets.length) }
theorem Rep.mem_less {w : World} {M : Foot} {ρ : Nat → Loc} {v : Value} {cs more : List D} (h : Rep w M ρ v (.mem (cs ++ more))) : Rep w M ρ v (.mem cs) := by
 have hi := h.mem_inv
 cases hi with
 | mem g off _ vals hc hv =>
   refine .imm _ _ (.mem g off cs vals (fun j hj => hc j (by simp; omega)) fun j d hd => hv j d ?_)
   rw [List.getElem?_append_left (List.getElem?_eq_some_iff.1 hd).1]
   exact hd
theorem zm2 {P : Program} {f : Nat} {args : List D} {r : D} {nbs : List Blk} (h : Den P f args [] r nbs) : Den P f args [] (r.freeze nbs) [] := by
 refine ⟨h.1, fun w M0 ρ vals hM hS hs ha => (h.2 w M0 ρ vals hM hS hs ha).mono ?_⟩
 rintro e w' ⟨v, ρ'', rfl, hr, hS2, _, _, hp2, har⟩
 have hbel := har.below
 refine ⟨v, ρ, rfl, ?_, hS.below hbel, Nat.le_refl _, fun _ _ => rfl, zho hbel _, hbel.size, hbel.os, hbel.tape, hbel.output, fun g hg _ => hbel.block g hg, fun i g base n rl esz _ hi => by rw [hS.out i (Nat.zero_le _)] at hi; cases hi⟩
 rw [zx9]
 have h1 : Rep w' M0 noLoc v (r.freeze nbs) := hS2.freeze (Ext.refl _) (M' := M0) (Pres.sub fun g o h => .inl h) hr (by
  intro x hx g base n rl esz hat o ho hm
  have := har.fresh x g _ _ _ _ (Nat.zero_le _) hat
  have := hM g o hm
  omega)
 exact h1.move (Pres.refl _ _) fun b hb => absurd rfl hb
theorem z7i {P : Program} {f : Nat} {pre post : List D} {bs : List Blk} {r : D} {bs' : List Blk} {cs more : List D} (h : Den P f (pre ++ .mem cs :: post) bs r bs') : Den P f (pre ++ .mem (cs ++ more) :: post) bs r bs' := by
 refine ⟨h.1, fun w M0 ρ vals hM hS hs ha => h.2 w M0 ρ vals hM hS (by rw [hs]; simp) ?_⟩
 intro i v d hv hd
 by_cases hi : i = pre.length
 ·subst hi
  simp at hd
  subst hd
  exact (ha pre.length v (.mem (cs ++ more)) hv (by simp)).mem_less
 ·refine ha i v d hv ?_
  rw [← hd]
  rcases Nat.lt_or_gt_of_ne hi with h | h
  ·rw [List.getElem?_append_left h, List.getElem?_append_left h]
  ·rw [List.getElem?_append_right (by omega), List.getElem?_append_right (by omega)]
   obtain ⟨m, hm⟩ : ∃ m, i - pre.length = m + 1 := ⟨i - pre.length - 1, by omega⟩
   rw [hm]
   rfl
end Go.AM
/- AM: contracts: nodes and messages cloned; queues. -/
namespace Go.AM
set_option linter.unusedSimpArgs false
set_option linter.unusedVariables false
set_option maxRecDepth 8000
set_option maxHeartbeats 0
theorem z2t (rows : List (List D)) (hf : Fits 6 rows) (hl : rows.length * 112 ≤ 140737488355328) : Den PP 144 [.sl rows rows.length] [] (.ref 0 0 rows.length) [⟨rows, 6, .mut⟩] := by
 cases hr : rows with
 | nil =>
   refine zno (pre := []) (post := []) ?_ ?_
   ·refine zaj [] [] zbt ?_
    simp -implicitDefEqProofs [zbb]
   ·refine zaj [] [] zbt ?_
    simp -implicitDefEqProofs [zbb, Fits]
 | cons r rs =>
   rw [hr] at hf hl
   have h63 : (r :: rs).length ≤ 9223372036854775807 := by omega
   have hlen : 0 < (r :: rs).length := by simp
   generalize hn : (r :: rs).length = n at *
   generalize r :: rs = rows at *
   refine zaj [] [] zbt ?_
   simp -implicitDefEqProofs [zbb, hlen, List.take_of_length_le (Nat.le_of_eq hn), hf, hn, hl, h63]
theorem zw4 (m : Msg) (hl : m.ids.length ≤ cap) : Den PP 163 [msgD m] [] (.bool (oddM m)) [] := by
 have c1 := zm8 m hl
 unfold oddM
 simp only [msgD, Msg.row, intsD] at c1 ⊢
 refine zaj [] [] zqm ?_
 simp -implicitDefEqProofs [zmd]
 refine zaa c1 ?_
 simp -implicitDefEqProofs
theorem z3i (xs : List Msg) (hl : xs.length ≤ cap16) (hi : ∀ m ∈ xs, m.ids.length ≤ cap) : Den PP 215 [msgsD xs, .fn 163 [] []] [] (.int .i64 (gIdx oddM 0 xs)) [] := by
 obtain ⟨A, hA⟩ : ∃ A, gIdx oddM 0 xs = A := ⟨_, rfl⟩
 unfold cap16 at hl
 refine zaj [] [] zed ?_
 simp -implicitDefEqProofs [zcl, msgsD, hA]
 refine zax xs (fun i rest => fun ⟨fr, bs⟩ => bs = [] ∧ fr 0 = msgsD xs ∧ fr 1 = .fn 163 [] [] ∧ fr 7 = .int .i64 xs.length ∧ fr 8 = .int .i64 i ∧ gIdx oddM i rest = A)
  (fun ⟨fr, bs⟩ => bs = [] ∧ A = -1) (fun ⟨fr, bs⟩ => fr 4 = .int .i64 A) zca.eq_1 ?_ ?_ ?_ ?_ ?_
 ·exact ⟨rfl, rfl, rfl, rfl, rfl, hA⟩
 ·rintro i ⟨fr, bs⟩ hi ⟨rfl, h0, h1, h7, h8, he⟩
  simp -implicitDefEqProofs [h0, h1, h7, h8, hi]
  simpa [gIdx] using he.symm
 ·rintro i a rest ⟨fr, bs⟩ hlt hget hg hd hd2 ⟨rfl, h0, h1, h7, h8, he⟩
  have hlt' : (i : Int) < xs.length := by omega
  have hw := zav (n := i) (by omega)
  have c1 := zw4 a (hi a (List.mem_of_getElem? hget))
  clear hi
  simp only [msgD, Msg.row, intsD] at c1
  simp only [gIdx] at he
  generalize oddM a = B at *
  simp -implicitDefEqProofs [h0, h1, h7, h8, hlt, hlt', hget, hg, msgsD, Msg.row, intsD]
  repeat' ((first | refine zaa (by first | exact c1) ?_ | ((with_reducible first | refine zak ?_ ?_ | refine zah ?_ ?_ | refine zad ?_ ?_ | refine zae ?_ ?_) <;> intro _) | ((with_reducible first | refine zan ?_ ?_ | refine zap ?_ ?_ | refine zal ?_ ?_ | refine zac ?_ ?_ | refine zai ?_ ?_ | refine zao ?_ ?_ | refine zaf ?_ ?_ | refine zab ?_ ?_) <;> intro hq <;> (try simp at hq)) | refine zag (by omega) ?_ | refine zam (by omega) ?_) <;> simp -implicitDefEqProofs [*, msgsD, Msg.row, hw])
  all_goals grind
 ·rintro ⟨fr, bs⟩ ⟨rfl, h1⟩
  simp -implicitDefEqProofs [h1]
 ·rintro ⟨fr, bs⟩ h
  simp -implicitDefEqProofs [h]
theorem zun (xs : List Msg) (hl : xs.length ≤ cap16) (hi : ∀ m ∈ xs, m.ids.length ≤ cap) : Den PP 164 [msgsD xs, .fn 163 [] []] [] (.bool (xs.any oddM)) [] := by
 have c1 := z3i xs hl hi
 have h1 := zs4 oddM xs 0
 obtain ⟨A, hA⟩ : ∃ A, (xs.any oddM) = A := ⟨_, rfl⟩
 rw [hA] at h1
 rw [hA]
 clear hA
 generalize gIdx oddM 0 xs = G at *
 simp only [msgsD] at c1 ⊢
 refine zaj [] [] zdv ?_
 simp -implicitDefEqProofs [zb9]
 refine zaa c1 ?_
 simp -implicitDefEqProofs [h1]
theorem zut (xs : List Msg) (hl : xs.length ≤ cap16) (hi : ∀ m ∈ xs, m.ids.length ≤ cap) : Den PP 78 [msgsD xs] [] (.bool (queueMay xs)) [] := by
 have c1 := zun xs hl hi
 unfold queueMay
 generalize (xs.any oddM) = A at *
 simp only [msgsD] at c1 ⊢
 refine zaj [] [] zud ?_
 clear hi
 simp -implicitDefEqProofs [zoh]
 repeat' ((first | refine zaa (by first | exact c1) ?_ | ((with_reducible first | refine zak ?_ ?_ | refine zah ?_ ?_ | refine zad ?_ ?_ | refine zae ?_ ?_) <;> intro _) | ((with_reducible first | refine zan ?_ ?_ | refine zap ?_ ?_ | refine zal ?_ ?_ | refine zac ?_ ?_ | refine zai ?_ ?_ | refine zao ?_ ?_ | refine zaf ?_ ?_ | refine zab ?_ ?_) <;> intro hq <;> (try simp at hq)) | refine zag (by omega) ?_ | refine zam (by omega) ?_) <;> simp -implicitDefEqProofs [*])
 all_goals grind
end Go.AM
/- AM: contracts: may nodes be. -/
namespace Go.AM
set_option linter.unusedSimpArgs false
set_option linter.unusedVariables false
set_option maxRecDepth 8000
set_option maxHeartbeats 0
def prevN (xs : List Node) (i : Nat) : Option Int := if i = 0 then none else (xs[i - 1]?).map fun x => x.view.id
theorem zxq (xs : List Node) (hl : xs.length ≤ cap) (hs : ∀ x ∈ xs, x.small) : Den PP 76 [nodesD xs] [] (.bool (nodesMay xs)) [] := by
 unfold nodesMay
 obtain ⟨A, hA⟩ : ∃ A, nodesOk none xs = A := ⟨_, rfl⟩
 rw [hA]
 unfold cap at hl
 refine zaj [] [] zqs ?_
 simp -implicitDefEqProofs [zln, nodesD]
 refine zax xs (fun i rest => fun ⟨fr, bs⟩ => bs = [] ∧ fr 0 = nodesD xs ∧ fr 5 = nodesD xs ∧ fr 6 = .int .i64 xs.length ∧ fr 7 = .int .i64 i ∧ nodesOk (prevN xs i) rest = A)
  (fun ⟨fr, bs⟩ => bs = [] ∧ fr 0 = nodesD xs ∧ A = true) (fun ⟨fr, bs⟩ => fr 2 = .bool false ∧ A = false) ziu.eq_1 ?_ ?_ ?_ ?_ ?_
 ·exact ⟨rfl, rfl, rfl, rfl, rfl, hA⟩
 ·rintro i ⟨fr, bs⟩ hi ⟨rfl, h0, h5, h6, h7, he⟩
  simp -implicitDefEqProofs [h0, h5, h6, h7, hi]
  simpa [nodesOk] using he.symm
 ·rintro i a rest ⟨fr, bs⟩ hlt hget hg hd hd2 ⟨rfl, h0, h5, h6, h7, he⟩
  have hlt' : (i : Int) < xs.length := by omega
  have hw := zav (n := i) (by omega)
  have c1 := zz6 a (hs a (List.mem_of_getElem? hget))
  simp only [nodesOk] at he
  have hp : prevN xs (i + 1) = some a.view.id := by simp [prevN, hget]
  rw [hp]
  simp only [nodeD, Node.cells, peersD, intsD, itemsD, toldsD] at c1
  clear hs hA hp
  generalize nodeMay a = M at *
  cases i with
  | zero =>
    simp [prevN] at he
    simp -implicitDefEqProofs [h0, h5, h6, h7, hlt, hlt', hget, hg, nodesD, Node.cells, peersD, intsD, itemsD, toldsD]
    repeat' ((first | refine zaa (by first | exact c1) ?_ | ((with_reducible first | refine zak ?_ ?_ | refine zah ?_ ?_ | refine zad ?_ ?_ | refine zae ?_ ?_) <;> intro _) | ((with_reducible first | refine zan ?_ ?_ | refine zap ?_ ?_ | refine zal ?_ ?_ | refine zac ?_ ?_ | refine zai ?_ ?_ | refine zao ?_ ?_ | refine zaf ?_ ?_ | refine zab ?_ ?_) <;> intro hq <;> (try simp at hq)) | refine zag (by omega) ?_ | refine zam (by omega) ?_) <;> simp -implicitDefEqProofs [*, nodesD, Node.cells, peersD, intsD, itemsD, toldsD, hw])
    all_goals grind
  | succ j =>
    have hj : j < xs.length := by omega
    have hj' : (j : Int) < xs.length := by omega
    have hjw : IntKind.wrap .i64 (j : Int) = j := zaq (by omega) (by omega)
    obtain ⟨q, hqj⟩ : ∃ q, xs[j] = q := ⟨_, rfl⟩
    have hpj : prevN xs (j + 1) = some q.view.id := by simp [prevN, hj, hqj]
    rw [hpj] at he
    simp at he
    simp -implicitDefEqProofs [h0, h5, h6, h7, hlt, hlt', hget, hg, nodesD, Node.cells, peersD, intsD, itemsD, toldsD]
    repeat' ((first | refine zaa (by first | exact c1) ?_ | ((with_reducible first | refine zak ?_ ?_ | refine zah ?_ ?_ | refine zad ?_ ?_ | refine zae ?_ ?_) <;> intro _) | ((with_reducible first | refine zan ?_ ?_ | refine zap ?_ ?_ | refine zal ?_ ?_ | refine zac ?_ ?_ | refine zai ?_ ?_ | refine zao ?_ ?_ | refine zaf ?_ ?_ | refine zab ?_ ?_) <;> intro hq <;> (try simp at hq)) | refine zag (by omega) ?_ | refine zam (by omega) ?_) <;> simp -implicitDefEqProofs [*, nodesD, Node.cells, peersD, intsD, itemsD, toldsD, hw, hj, hj', hjw, hqj])
    all_goals grind
 ·rintro ⟨fr, bs⟩ ⟨rfl, h0, h1⟩
  clear hs hA
  simp -implicitDefEqProofs [h0, h1, nodesD]
  repeat' ((first | ((with_reducible first | refine zak ?_ ?_ | refine zah ?_ ?_ | refine zad ?_ ?_ | refine zae ?_ ?_) <;> intro _) | ((with_reducible first | refine zan ?_ ?_ | refine zap ?_ ?_ | refine zal ?_ ?_ | refine zac ?_ ?_ | refine zai ?_ ?_ | refine zao ?_ ?_ | refine zaf ?_ ?_ | refine zab ?_ ?_) <;> intro hq <;> (try simp at hq)) | refine zag (by omega) ?_ | refine zam (by omega) ?_) <;> simp -implicitDefEqProofs [*, nodesD])
  all_goals grind
 ·rintro ⟨fr, bs⟩ ⟨h2, h1⟩
  simp -implicitDefEqProofs [h1, h2]
end Go.AM
/- AM: contracts: all that a world names. -/
namespace Go.AM
set_option linter.unusedSimpArgs false
set_option linter.unusedVariables false
set_option maxRecDepth 8000
set_option maxHeartbeats 0
theorem zjj {α β : Type} {f : α → List β} {xs : List α} {i : Nat} {a : α} (h : xs[i]? = some a) : (xs.take (i + 1)).flatMap f = (xs.take i).flatMap f ++ f a := by
 have e1 : xs.take (i + 1) = xs.take i ++ [a] := by rw [List.take_add_one, h]; rfl
 rw [e1]; simp
def fmap (f : Node → List Int) (xs : List Node) : List Int := xs.flatMap f
def fmapC (f : Cut → List Int) (xs : List Cut) : List Int := xs.flatMap f
def fmapM (f : Msg → List Int) (xs : List Msg) : List Int := xs.flatMap f
theorem zy7 (w : Wld) (h : NamedSmall w) : Den PP 80 [.mem w.cells] [] (.ref 0 0 (namedW w).length) [⟨(namedW w).map irow, 1, .mut⟩] := by
 obtain ⟨ns, cs, ps⟩ := w
 obtain ⟨h1, h2, h3, h4, h5⟩ := h
 simp only at h1 h2 h3 h4 h5
 have e0 : namedW ⟨ns, cs, ps⟩ = fmap namedN ns ++ fmapC namedC cs ++ fmapM namedM ps := rfl
 rw [e0]
 simp only [Wld.cells, nodesD, cutsD, msgsD]
 have bN : ∀ i, (fmap namedN (ns.take i)).length ≤ 512 := fun i => by
  have := zif (f := namedN) (n := 32) (ns.take i) (fun x hx => by have := h2 x (List.mem_of_mem_take hx); simp [namedN]; omega)
  simp only [List.length_take] at this
  unfold fmap
  omega
 have bC : ∀ i, (fmapC namedC (cs.take i)).length ≤ 512 := fun i => by
  have := zif (f := namedC) (n := 2) (cs.take i) (fun x hx => by simp [namedC])
  simp only [List.length_take] at this
  unfold fmapC
  omega
 have bM : ∀ i, (fmapM namedM (ps.take i)).length ≤ 16384 := fun i => by
  have := zif (f := namedM) (n := 18) (ps.take i) (fun x hx => by have := h5 x (List.mem_of_mem_take hx); simp [namedM]; omega)
  simp only [List.length_take] at this
  unfold fmapM
  omega
 refine zaj [] [] zql ?_
 simp -implicitDefEqProofs [zl9]
 refine zax ns (fun i rest => fun ⟨fr, bs⟩ => bs = [⟨[], 1, .mut⟩, ⟨(fmap namedN (ns.take i)).map irow, 1, .mut⟩] ∧ fr 0 = .mem [.sl (ns.map Node.cells) ns.length, .sl (cs.map Cut.row) cs.length, .sl (ps.map Msg.row) ps.length] ∧ fr 3 = .ref 1 0 (fmap namedN (ns.take i)).length ∧ fr 13 = .int .i64 ns.length ∧ fr 14 = .int .i64 i)
  (fun ⟨fr, bs⟩ => bs = [⟨[], 1, .mut⟩, ⟨(fmap namedN ns).map irow, 1, .mut⟩] ∧ fr 0 = .mem [.sl (ns.map Node.cells) ns.length, .sl (cs.map Cut.row) cs.length, .sl (ps.map Msg.row) ps.length] ∧ fr 3 = .ref 1 0 (fmap namedN ns).length) (fun _ => False) zit.eq_1 ?_ ?_ ?_ ?_ ?_
 ·exact ⟨rfl, rfl, rfl, rfl, rfl⟩
 ·rintro i ⟨fr, bs⟩ hi ⟨rfl, h0, h3, h13, h14⟩
  subst hi
  rw [List.take_length] at *
  simp -implicitDefEqProofs [h0, h3, h13, h14]
 ·rintro i a rest ⟨fr, bs⟩ hlt hget hg hd hd2 ⟨rfl, h0, h3, h13, h14⟩
  have hlt' : (i : Int) < ns.length := by omega
  have c1 := zj4 a.view (by have := (h2 a (List.mem_of_getElem? hget)).1; unfold cap16; omega)
  have b1 := bN i
  have b2 := bN (i + 1)
  have e1 : fmap namedN (ns.take (i + 1)) = fmap namedN (ns.take i) ++ namedN a := zjj hget
  rw [e1] at b2 ⊢
  clear e1 h2 h5 bN bC bM e0
  generalize fmap namedN (ns.take i) = L at *
  simp only [View.cells, peersD, intsD] at c1
  have c1 := z7i (pre := []) (post := []) (more := [.sl (a.items.map Item.row) a.items.length, .sl (a.log.map Told.row) a.log.length]) c1
  simp only [List.nil_append, List.cons_append] at c1
  simp only [namedN, List.length_append, List.length_map] at b2 ⊢
  simp -implicitDefEqProofs [h0, h3, h13, h14, hlt, hlt', hget, hg, Node.cells, peersD, intsD, itemsD, toldsD]
  repeat' ((first | refine zaa (by first | exact c1) ?_ | ((with_reducible first | refine zak ?_ ?_ | refine zah ?_ ?_ | refine zad ?_ ?_ | refine zae ?_ ?_) <;> intro _) | ((with_reducible first | refine zan ?_ ?_ | refine zap ?_ ?_ | refine zal ?_ ?_ | refine zac ?_ ?_ | refine zai ?_ ?_ | refine zao ?_ ?_ | refine zaf ?_ ?_ | refine zab ?_ ?_) <;> intro hq <;> (try simp at hq)) | refine zag (by omega) ?_ | refine zam (by omega) ?_) <;> simp -implicitDefEqProofs [*, h0, h3, h13, h14, hlt, hlt', hget, hg, Node.cells, peersD, intsD, itemsD, toldsD, downTo])
  refine ⟨by intro r hr; obtain ⟨p, _, rfl⟩ := List.mem_map.1 hr; exact ⟨rfl, rfl⟩, ?_⟩
  refine zag ⟨by omega, by omega⟩ ?_
  simp -implicitDefEqProofs [h0, h3, h13, h14, hlt, hlt', hget, hg, Node.cells, peersD, intsD, itemsD, toldsD, downTo, Function.comp_def]
  refine zag ⟨by omega, by omega⟩ ?_
  simp -implicitDefEqProofs [h0, h3, h13, h14, hlt, hlt', hget, hg, Node.cells, peersD, intsD, itemsD, toldsD, downTo, Function.comp_def]
  exact ⟨Nat.add_assoc .., zaq (by omega) (by omega)⟩
 ·rintro ⟨fr, bs⟩ ⟨rfl, h0, h3⟩
  have bN0 := bN ns.length
  rw [List.take_length] at bN0
  clear bN h2 e0
  generalize fmap namedN ns = LN at *
  simp -implicitDefEqProofs [h0, h3]
  refine zax cs (fun i rest => fun ⟨fr, bs⟩ => bs = [⟨[], 1, .mut⟩, ⟨(LN ++ fmapC namedC (cs.take i)).map irow, 1, .mut⟩] ∧ fr 0 = .mem [.sl (ns.map Node.cells) ns.length, .sl (cs.map Cut.row) cs.length, .sl (ps.map Msg.row) ps.length] ∧ fr 3 = .ref 1 0 (LN ++ fmapC namedC (cs.take i)).length ∧ fr 42 = .sl (cs.map Cut.row) cs.length ∧ fr 43 = .int .i64 cs.length ∧ fr 44 = .int .i64 i)
   (fun ⟨fr, bs⟩ => bs = [⟨[], 1, .mut⟩, ⟨(LN ++ fmapC namedC cs).map irow, 1, .mut⟩] ∧ fr 0 = .mem [.sl (ns.map Node.cells) ns.length, .sl (cs.map Cut.row) cs.length, .sl (ps.map Msg.row) ps.length] ∧ fr 3 = .ref 1 0 (LN ++ fmapC namedC cs).length) (fun _ => False) zis.eq_1 ?_ ?_ ?_ ?_ ?_
  ·exact ⟨by simp [fmapC], by simp [h0], by simp [fmapC, h3], rfl, rfl, rfl⟩
  ·rintro i ⟨fr, bs⟩ hi ⟨rfl, h0, h3, h13, h43, h14⟩
   subst hi
   rw [List.take_length] at *
   simp -implicitDefEqProofs [h0, h3, h13, h14, h43]
  ·rintro i a rest ⟨fr, bs⟩ hlt hget hg hd hd2 ⟨rfl, h0, h3, h42, h43, h44⟩
   have hlt' : (i : Int) < cs.length := by omega
   have b1 := bC i
   have e1 : fmapC namedC (cs.take (i + 1)) = fmapC namedC (cs.take i) ++ namedC a := zjj hget
   rw [e1, ← List.append_assoc]
   have b2 : (LN ++ fmapC namedC (cs.take i)).length ≤ 1024 := by simp; omega
   clear e1 h5 bC bM b1
   generalize LN ++ fmapC namedC (cs.take i) = L at *
   simp -implicitDefEqProofs [h0, h3, h42, h43, h44, hlt, hlt', hget, hg, Cut.row, namedC]
   refine ⟨by simp [Fits], ?_⟩
   refine zag ⟨by omega, by omega⟩ ?_
   simp -implicitDefEqProofs [h0, h3, h42, h43, h44, hlt, hlt', hget, hg, Cut.row, downTo, Function.comp_def]
   exact ⟨⟨rfl, rfl⟩, zaq (by omega) (by omega)⟩
  ·rintro ⟨fr, bs⟩ ⟨rfl, h0, h3⟩
   have bC0 := bC cs.length
   rw [List.take_length] at bC0
   have bL : (LN ++ fmapC namedC cs).length ≤ 1024 := by simp; omega
   clear bC
   rw [← List.append_assoc]
   generalize hLC : LN ++ fmapC namedC cs = LC at *
   simp -implicitDefEqProofs [h0, h3]
   refine zax ps (fun i rest => fun ⟨fr, bs⟩ => bs = [⟨[], 1, .mut⟩, ⟨(LC ++ fmapM namedM (ps.take i)).map irow, 1, .mut⟩] ∧ fr 3 = .ref 1 0 (LC ++ fmapM namedM (ps.take i)).length ∧ fr 59 = .sl (ps.map Msg.row) ps.length ∧ fr 60 = .int .i64 ps.length ∧ fr 61 = .int .i64 i)
    (fun ⟨fr, bs⟩ => bs = [⟨[], 1, .mut⟩, ⟨(LC ++ fmapM namedM ps).map irow, 1, .mut⟩] ∧ fr 3 = .ref 1 0 (LC ++ fmapM namedM ps).length) (fun _ => False) zim.eq_1 ?_ ?_ ?_ ?_ ?_
   ·exact ⟨by simp [fmapM], by simp [fmapM, h3], rfl, rfl, rfl⟩
   ·rintro i ⟨fr, bs⟩ hi ⟨rfl, h3, h13, h43, h14⟩
    subst hi
    rw [List.take_length] at *
    simp -implicitDefEqProofs [h3, h13, h14, h43]
   ·rintro i a rest ⟨fr, bs⟩ hlt hget hg hd hd2 ⟨rfl, h3, h59, h60, h61⟩
    have hlt' : (i : Int) < ps.length := by omega
    have b1 := bM i
    have b5 := h5 a (List.mem_of_getElem? hget)
    have e1 : fmapM namedM (ps.take (i + 1)) = fmapM namedM (ps.take i) ++ namedM a := zjj hget
    rw [e1, ← List.append_assoc]
    have b2 : (LC ++ fmapM namedM (ps.take i)).length ≤ 65536 := by simp; omega
    clear e1 h5 bM b1
    generalize LC ++ fmapM namedM (ps.take i) = L at *
    simp -implicitDefEqProofs [h3, h59, h60, h61, hlt, hlt', hget, hg, Msg.row, intsD, namedM]
    refine ⟨by simp [Fits], ?_⟩
    refine zag ⟨by omega, by omega⟩ ?_
    simp -implicitDefEqProofs [h3, h59, h60, h61, hlt, hlt', hget, hg, Msg.row, intsD, downTo, Function.comp_def]
    refine zag ⟨by omega, by omega⟩ ?_
    simp -implicitDefEqProofs [h3, h59, h60, h61, hlt, hlt', hget, hg, Msg.row, intsD, downTo, Function.comp_def]
    exact ⟨⟨rfl, rfl⟩, by omega, zaq (by omega) (by omega)⟩
   ·rintro ⟨fr, bs⟩ ⟨rfl, h3⟩
    simp -implicitDefEqProofs [h3]
    rw [← hLC]
    simp [Nat.add_assoc]
   ·rintro ⟨fr, bs⟩ h
    exact h.elim
  ·rintro ⟨fr, bs⟩ h
   exact h.elim
 ·rintro ⟨fr, bs⟩ h
  exact h.elim
end Go.AM
/- AM: contracts: nodes found; may a world be. -/
namespace Go.AM
set_option linter.unusedSimpArgs false
set_option linter.unusedVariables false
set_option maxRecDepth 8000
set_option maxHeartbeats 0
theorem zwm (xs : List Node) (g : Nat) (key : Int) (c : Node → Int) (hc : ∀ x ∈ xs, Den PP g [.agg x.cells, .int .i64 key] [] (.int .i64 (c x)) []) (hl : xs.length ≤ cap) (hr : MonoC c xs) :
 Den PP 166 [.sl (xs.map Node.cells) xs.length, .int .i64 key, .fn g [] []] [] (.tup [.int .i64 (posC c xs), .bool (atC c xs)]) [] := by
 have hlo := zsi c xs
 have hhi := zxu hr
 have hat := ztq c xs
 have hac : atC c xs = (xs[posC c xs]?).any fun x => decide (c x = 0) := rfl
 rw [hac]
 clear hac
 generalize posC c xs = at_ at *
 refine zaj [] [] zcp ?_
 simp -implicitDefEqProofs [zbl]
 refine zde xs.length (fun m ⟨fr, bs⟩ => ∃ lo hi : Nat, bs = [] ∧ hi - lo ≤ m ∧ lo ≤ at_ ∧ at_ ≤ hi ∧ hi ≤ xs.length ∧ fr 0 = .sl (xs.map Node.cells) xs.length ∧ fr 1 = .int .i64 key ∧ fr 2 = .fn g [] [] ∧ fr 8 = .int .i64 xs.length ∧ fr 9 = .int .i64 lo ∧ fr 10 = .int .i64 hi)
  (fun ⟨fr, bs⟩ => bs = [] ∧ fr 0 = .sl (xs.map Node.cells) xs.length ∧ fr 1 = .int .i64 key ∧ fr 2 = .fn g [] [] ∧ fr 8 = .int .i64 xs.length ∧ fr 9 = .int .i64 at_) (fun _ => False) zbc.eq_1 ?_ ?_ ?_ ?_ ?_
 ·exact ⟨0, xs.length, rfl, by omega, by omega, hat, by omega, rfl, rfl, rfl, rfl, rfl, rfl⟩
 ·rintro ⟨fr, bs⟩ ⟨lo, hi, rfl, h1, h2, h3, h4, h0, h5, h9, h6, h7, h8⟩
  have e1 : lo = at_ := by omega
  have e2 : hi = at_ := by omega
  simp -implicitDefEqProofs [h0, h5, h9, h6, h7, h8, e1, e2]
 ·rintro m ⟨fr, bs⟩ ⟨lo, hi, rfl, h1, h2, h3, h4, h0, h5, h9, h6, h7, h8⟩
  by_cases hlt : lo < hi
  ·have hlt' : (lo : Int) < hi := by omega
   have hm := zuk (lo := lo) (hi := hi) (by omega) (by omega)
   have hml : (lo + hi) / 2 < xs.length := by omega
   have hml' : (((lo + hi) / 2 : Nat) : Int) < xs.length := by omega
   have hw := zav (n := (lo + hi) / 2) (by unfold cap at hl; omega)
   have hb1 : lo ≤ (lo + hi) / 2 := by omega
   have hb2 : (lo + hi) / 2 < hi := by omega
   generalize (lo + hi) / 2 = mid at *
   obtain ⟨x, hx⟩ : ∃ x, xs[mid] = x := ⟨_, rfl⟩
   have hx' : xs[mid]? = some x := by simp [hml, hx]
   have hcx := hc x (List.mem_of_getElem? hx')
   simp only [Node.cells, peersD, intsD, itemsD, toldsD] at hcx
   simp -implicitDefEqProofs [h0, h5, h9, h6, h7, h8, hlt', hlt, hm, hml, hml', hx, Node.cells, peersD, intsD, itemsD, toldsD]
   refine zaa hcx ?_
   simp -implicitDefEqProofs
   refine zad (fun hc => ?_) (fun hc => ?_)
   all_goals simp -implicitDefEqProofs [h0, h5, h9, h6, h7, h8, hc, hw]
   ·have : mid < at_ := by
     apply Classical.byContradiction
     intro hx2
     have := hhi mid x (by omega) hx'
     omega
    exact ⟨mid + 1, hi, by omega, by omega, by omega, by omega, by simp, by simp⟩
   ·have : at_ ≤ mid := by
     apply Classical.byContradiction
     intro hx2
     have := hlo mid x (by omega) hx'
     omega
    exact ⟨lo, mid, by omega, by omega, by omega, by omega, by simp, by simp⟩
  ·have e1 : lo = at_ := by omega
   have e2 : hi = at_ := by omega
   simp -implicitDefEqProofs [h0, h5, h9, h6, h7, h8, e1, e2]
 ·rintro ⟨fr, bs⟩ ⟨rfl, h0, h1, h2, h6, h7⟩
  simp -implicitDefEqProofs [h0, h1, h2, h6, h7]
  refine zak (fun hc2 => ?_) (fun hc2 => ?_)
  ·obtain ⟨x, hx⟩ : ∃ x, xs[at_]'(by omega) = x := ⟨_, rfl⟩
   have hal : at_ < xs.length := by omega
   have hx' : xs[at_]? = some x := by simp [hx, hal]
   have hcx := hc x (List.mem_of_getElem? hx')
   simp only [Node.cells, peersD, intsD, itemsD, toldsD] at hcx
   simp -implicitDefEqProofs [h0, h1, h2, h6, h7, hc2, hx, hal, Node.cells, peersD, intsD, itemsD, toldsD]
   refine zaa hcx ?_
   simp -implicitDefEqProofs [h0, h1, h2, h6, h7, hc2, hx, hal, hx', Node.cells, peersD, intsD, itemsD, toldsD]
  ·have hp : xs[at_]? = none := by rw [List.getElem?_eq_none]; omega
   simp -implicitDefEqProofs [h0, h1, h2, h6, h7, hc2, hp]
 ·rintro ⟨fr, bs⟩ h
  exact h.elim
theorem zvj (x : Node) (id : Int) : Den PP 167 [.agg x.cells, .int .i64 id] [] (.int .i64 (cmpN id x)) [] := by
 simp only [Node.cells, peersD, intsD, itemsD, toldsD, cmpN]
 refine zaj [] [] zoj ?_
 simp -implicitDefEqProofs [zkq]
 refine zaa (ze6 _ _) ?_
 simp -implicitDefEqProofs
theorem zj1 (w : Wld) (id : Int) (hl : w.nodes.length ≤ cap) (hr : MonoC (cmpN id) w.nodes) : Den PP 82 [.mem w.cells, .int .i64 id] [] (.tup [.int .i64 (posN id w.nodes), .bool (isN id w.nodes)]) [] := by
 have c1 := zwm w.nodes 167 id (cmpN id) (fun x _ => zvj x id) hl hr
 unfold posN isN
 generalize posC (cmpN id) w.nodes = P at *
 generalize atC (cmpN id) w.nodes = A at *
 simp only [Wld.cells, nodesD, cutsD, msgsD]
 clear hr
 refine zaj [] [] zsv ?_
 simp -implicitDefEqProofs [znf]
 refine zaa c1 ?_
 simp -implicitDefEqProofs
theorem zym (w : Wld) (id : Int) (hl : w.nodes.length ≤ cap) (hr : MonoC (cmpN id) w.nodes) : Den PP 81 [.int .i64 id, .mem w.cells] [] (.bool (!isN id w.nodes)) [] := by
 have c1 := zj1 w id hl hr
 generalize posN id w.nodes = P at *
 generalize isN id w.nodes = A at *
 simp only [Wld.cells, nodesD, cutsD, msgsD] at c1 ⊢
 clear hr
 refine zaj [] [] zqf ?_
 simp -implicitDefEqProofs [zly]
 refine zaa c1 ?_
 simp -implicitDefEqProofs
theorem zhu (w : Wld) (hs : w.small) : Den PP 23 [wldD w] [] (.bool (worldMay w)) [] := by
 have c1 := zxq w.nodes (by have := hs.nodes; unfold cap16 at this; unfold cap; omega) hs.node
 have c2 := zsh w.cuts hs.cuts
 have c3 := zut w.packets hs.packets hs.packet
 unfold worldMay
 cases h1 : nodesMay w.nodes with
 | false =>
   rw [h1] at c1
   clear h1 hs c2 c3
   simp only [wldD, Wld.cells, nodesD, cutsD, msgsD] at c1 ⊢
   refine zaj [] [] zg0 ?_
   simp -implicitDefEqProofs [zgo]
   refine zaa c1 ?_
   simp -implicitDefEqProofs
 | true =>
   cases h2 : cutsMay w.cuts with
   | false =>
     rw [h1] at c1
     rw [h2] at c2
     clear h1 h2 hs c3
     simp only [wldD, Wld.cells, nodesD, cutsD, msgsD] at c1 c2 ⊢
     refine zaj [] [] zg0 ?_
     simp -implicitDefEqProofs [zgo]
     refine zaa c1 ?_
     simp -implicitDefEqProofs
     refine zaa c2 ?_
     simp -implicitDefEqProofs
   | true =>
     cases h3 : queueMay w.packets with
     | false =>
       rw [h1] at c1
       rw [h2] at c2
       rw [h3] at c3
       clear h1 h2 h3 hs
       simp only [wldD, Wld.cells, nodesD, cutsD, msgsD] at c1 c2 c3 ⊢
       refine zaj [] [] zg0 ?_
       simp -implicitDefEqProofs [zgo]
       refine zaa c1 ?_
       simp -implicitDefEqProofs
       refine zaa c2 ?_
       simp -implicitDefEqProofs
       refine zaa c3 ?_
       simp -implicitDefEqProofs
     | true =>
       have hn := zo0 h1 h2 h3
       have hl := z5m hn
       have c4 := zy7 w hn
       have hm := fun id => zhe h1 id
       have c5 := zda (namedW w) (by unfold cap; omega) 81 [.mem w.cells] (fun id => !isN id w.nodes) ⟨fun _ => rfl, fun _ _ => rfl, fun id _ => zym w id (by have := hn.1; unfold cap; omega) (hm id)⟩
       rw [h1] at c1
       rw [h2] at c2
       rw [h3] at c3
       generalize (namedW w).any (fun id => !isN id w.nodes) = A at *
       generalize namedW w = L at *
       clear h1 h2 h3 hs hn hl hm
       simp only [wldD, Wld.cells, nodesD, cutsD, msgsD, intsD] at c1 c2 c3 c4 c5 ⊢
       refine zaj [] [] zg0 ?_
       simp -implicitDefEqProofs [zgo]
       refine zaa c1 ?_
       simp -implicitDefEqProofs
       refine zaa c2 ?_
       simp -implicitDefEqProofs
       refine zaa c3 ?_
       simp -implicitDefEqProofs
       refine zaa c4 ?_
       simp -implicitDefEqProofs [downTo]
       refine zaa c5 ?_
       simp -implicitDefEqProofs
end Go.AM
/- AM: contracts: a queue copied; one taken out. -/
namespace Go.AM
set_option linter.unusedSimpArgs false
set_option linter.unusedVariables false
set_option maxRecDepth 8000
set_option maxHeartbeats 0
theorem zuh (xs : List Msg) : Fits 11 (xs.map Msg.row) := by
 intro r hr
 obtain ⟨m, _, rfl⟩ := List.mem_map.1 hr
 exact ⟨rfl, rfl⟩
theorem zzw {α β : Type} {f : α → β} {xs : List α} {i : Nat} {a : α} (h : xs[i]? = some a) : (xs.map f).set i (f a) = xs.map f := by
 apply List.ext_getElem?
 intro j
 rw [List.getElem?_set]
 split
 ·rename_i hij
  subst hij
  have hlt := (List.getElem?_eq_some_iff.1 h).1
  rw [List.getElem?_eq_getElem hlt] at h
  simp [hlt, Option.some.inj h]
 ·rfl
theorem zmv (xs : List Msg) (hl : xs.length ≤ cap16) (hl2 : xs.length * 104 ≤ 140737488355328) (hi : ∀ m ∈ xs, m.ids.length ≤ cap) : Den PP 146 [msgsD xs] [] (.ref 0 0 xs.length) [⟨xs.map Msg.row, 11, .mut⟩] := by
 have c1 := z37 (xs.map Msg.row) (zuh xs) (by simpa using hl2)
 unfold cap16 at hl
 simp only [List.length_map, msgsD] at c1 ⊢
 refine zaj [6] [] zsj ?_
 simp -implicitDefEqProofs [zng]
 refine zaa c1 ?_
 simp -implicitDefEqProofs
 refine zax xs (fun i rest => fun ⟨fr, bs⟩ => bs = [⟨[], 11, .mut⟩, ⟨xs.map Msg.row, 11, .mut⟩] ∧ fr 3 = .ref 1 0 xs.length ∧ fr 8 = .int .i64 xs.length ∧ fr 9 = .int .i64 i)
  (fun ⟨fr, bs⟩ => bs = [⟨[], 11, .mut⟩, ⟨xs.map Msg.row, 11, .mut⟩] ∧ fr 3 = .ref 1 0 xs.length) (fun _ => False) zjf.eq_1 ?_ ?_ ?_ ?_ ?_
 ·exact ⟨rfl, rfl, rfl, rfl⟩
 ·rintro i ⟨fr, bs⟩ hi ⟨rfl, h3, h8, h9⟩
  simp -implicitDefEqProofs [h3, h8, h9, hi]
 ·rintro i a rest ⟨fr, bs⟩ hlt hget hg hd hd2 ⟨rfl, h3, h8, h9⟩
  have hlt' : (i : Int) < xs.length := by omega
  have hw := zav (n := i) (by omega)
  have c2 := zld (a.ids.map irow) (by simp) (by have := hi a (List.mem_of_getElem? hget); unfold cap at this; simp; omega)
  clear hi
  simp only [List.length_map] at c2
  simp -implicitDefEqProofs [h3, h8, h9, hlt, hlt', hget, hg, Msg.row, intsD]
  refine zaa c2 ?_
  simp -implicitDefEqProofs [h3, h8, h9, hlt, hlt', hget, hg, Msg.row, intsD]
  exact ⟨zzw (f := Msg.row) hget, zaq (by omega) (by omega)⟩
 ·rintro ⟨fr, bs⟩ ⟨rfl, h3⟩
  simp -implicitDefEqProofs [h3]
 ·rintro ⟨fr, bs⟩ h
  exact h.elim
theorem z2o (xs : List Msg) (p : Nat) (m : Msg) (hi : ∀ m ∈ xs, m.ids.length ≤ cap) (hq : queueMay xs = true) (hm : xs[p]? = some m) :
 Den PP 207 [msgsD xs, .int .i64 p] [] (.tup [msgD m, .ref 0 0 (xs.take p ++ xs.drop (p + 1)).length, .int .i64 0]) [⟨(xs.take p ++ xs.drop (p + 1)).map Msg.row, 11, .mut⟩] := by
 have hlt := (List.getElem?_eq_some_iff.1 hm).1
 have hg : ∀ h : p < xs.length, xs[p] = m := fun h => by rw [List.getElem?_eq_getElem h] at hm; exact Option.some.inj hm
 have h512 : xs.length ≤ 512 := by
  unfold queueMay at hq
  simp only [Bool.and_eq_true, decide_eq_true_eq] at hq
  exact hq.1
 have c1 := zut xs (by unfold cap16; omega) hi
 have c2 := zmv xs (by unfold cap16; omega) (by omega) hi
 have c3 := zke (xs.map Msg.row) p (zuh xs) (by
  intro r hr d hd
  obtain ⟨y, _, rfl⟩ := List.mem_map.1 hr
  simp only [Msg.row, intsD] at hd
  exact List.all_eq_true.1 (rfl : (List.all _ D.still) = true) d hd) (by simpa using hlt) (by simp; omega)
 rw [← List.map_take, ← List.map_drop, ← List.map_append] at c3
 rw [hq] at c1
 have hlen : (xs.take p ++ xs.drop (p + 1)).length = xs.length - 1 := by simp; omega
 have hw : IntKind.wrap .i64 ((p : Int) + 1) = (p : Int) + 1 := zaq (by omega) (by omega)
 have hp' : (p : Int) < xs.length := by omega
 have hp0 : ¬ (p : Int) < 0 := by omega
 have hp1 : ¬ (xs.length : Int) ≤ p := by omega
 generalize (xs.take p ++ xs.drop (p + 1)) = ys at *
 clear hi hq
 simp only [msgsD, msgD] at c1 c2 ⊢
 refine zku [24, 34] [30] [30] [] (fun _ h => absurd h List.not_mem_nil) zss ?_
 simp -implicitDefEqProofs [znc]
 refine zaa c1 ?_
 simp -implicitDefEqProofs [hp0, hp1]
 refine zaa c2 ?_
 simp -implicitDefEqProofs [hlt, hp', hm, hg, Msg.row, intsD, hw]
 refine ⟨?_, ?_⟩
 all_goals
  refine zgp rfl (by simp) (by simp) (by simp) c3 ?_
  simp -implicitDefEqProofs [downTo, hlen]
end Go.AM
/- AM: what is handed in, told. -/
namespace Go.AM
set_option linter.unusedSimpArgs false
set_option linter.unusedVariables false
set_option maxRecDepth 8000
theorem zcr {n : Nat} {cs : List D} (h : Tell TT (n + 1) 3 cs) : ∃ x, cs = [.int .i64 x] ∧ in64 x := by
 simp [Tell] at h
 obtain ⟨x, rfl, hx⟩ := h
 exact ⟨x, rfl, wf64 hx⟩
theorem zjk {n : Nat} {cs : List D} (h : Tell TT (n + 1) 4 cs) : ∃ x, cs = [.bool x] := by
 simpa [Tell] using h
theorem zps {n : Nat} {cs : List D} (h : Tell TT (n + 2) 36 cs) : ∃ xs : List Int, cs = [intsD xs] ∧ xs.length * 8 ≤ 140737488351232 ∧ ∀ x ∈ xs, in64 x := by
 unfold Tell at h
 simp at h
 obtain ⟨rows, rfl, hl, hr⟩ := h
 obtain ⟨xs, rfl, hx⟩ := zlb (f := irow) (Q := in64) rows fun r h => by
  obtain ⟨x, rfl, hx⟩ := zcr (hr r h)
  exact ⟨x, rfl, hx⟩
 exact ⟨xs, by simp [intsD], by simpa using hl, hx⟩
theorem z5h {n : Nat} {cs : List D} (h : Tell TT (n + 2) 204 cs) : ∃ p : Peer, cs = p.row ∧ in64 p.id ∧ in64 p.missed := by
 unfold Tell at h
 simp [Tell.TellFs] at h
 obtain ⟨a, b, rfl, h1, h2⟩ := h
 obtain ⟨x, rfl, hx⟩ := zcr h1
 obtain ⟨y, rfl, hy⟩ := zcr h2
 exact ⟨⟨x, y⟩, rfl, hx, hy⟩
theorem zrq {n : Nat} {cs : List D} (h : Tell TT (n + 3) 35 cs) : ∃ ps : List Peer, cs = [peersD ps] ∧ ps.length * 16 ≤ 140737488351232 ∧ ∀ p ∈ ps, in64 p.id ∧ in64 p.missed := by
 unfold Tell at h
 simp at h
 obtain ⟨rows, rfl, hl, hr⟩ := h
 obtain ⟨xs, rfl, hx⟩ := zlb (f := Peer.row) (Q := fun p => in64 p.id ∧ in64 p.missed) rows fun r h => z5h (hr r h)
 exact ⟨xs, by simp [peersD], by simpa using hl, hx⟩
def View.tame (v : View) : Prop := v.peers.length * 16 ≤ 140737488351232 ∧ v.passive.length * 8 ≤ 140737488351232 ∧ in64 v.id ∧ (∀ p ∈ v.peers, in64 p.id ∧ in64 p.missed) ∧ ∀ x ∈ v.passive, in64 x
theorem View.tame.small {v : View} (h : v.tame) : v.small := by
 obtain ⟨h1, h2, _⟩ := h
 unfold View.small cap16 cap
 omega
theorem zv2 {n : Nat} {cs : List D} (h : Tell TT (n + 4) 38 cs) : ∃ v : View, cs = v.cells ∧ v.tame := by
 unfold Tell at h
 simp [Tell.TellFs] at h
 obtain ⟨a, r, rfl, h1, b, c, rfl, h2, h3⟩ := h
 obtain ⟨x, rfl, hx⟩ := zcr h1
 obtain ⟨ps, rfl, hp, hp2⟩ := zrq h2
 obtain ⟨xs, rfl, hq, hq2⟩ := zps h3
 exact ⟨⟨x, ps, xs⟩, rfl, hp, hq, hx, hp2, hq2⟩
theorem zvi {n : Nat} {cs : List D} (h : Tell TT (n + 2) 44 cs) : ∃ c w : Int, cs = [.int .i64 c, .int .i64 w] ∧ in64 c ∧ in64 w := by
 unfold Tell at h
 simp [Tell.TellFs] at h
 obtain ⟨a, b, rfl, h1, h2⟩ := h
 obtain ⟨x, rfl, hx⟩ := zcr h1
 obtain ⟨y, rfl, hy⟩ := zcr h2
 exact ⟨x, y, rfl, hx, hy⟩
def Item.tame (i : Item) : Prop := in64 i.key ∧ in64 i.count ∧ in64 i.writer ∧ in64 i.value
theorem zoa {n : Nat} {cs : List D} (h : Tell TT (n + 3) 46 cs) : ∃ i : Item, cs = i.row ∧ i.tame := by
 unfold Tell at h
 simp [Tell.TellFs] at h
 obtain ⟨a, r1, rfl, h1, b, r2, rfl, h2, c, d, rfl, h3, h4⟩ := h
 obtain ⟨x, rfl, hx⟩ := zcr h1
 obtain ⟨y, z, rfl, hy, hz⟩ := zvi h2
 obtain ⟨u, rfl, hu⟩ := zcr h3
 obtain ⟨g, rfl⟩ := zjk h4
 exact ⟨⟨x, y, z, u, g⟩, rfl, hx, hy, hz, hu⟩
theorem zrm {n : Nat} {cs : List D} (h : Tell TT (n + 4) 39 cs) : ∃ is : List Item, cs = [itemsD is] ∧ is.length * 40 ≤ 140737488351232 ∧ ∀ i ∈ is, i.tame := by
 unfold Tell at h
 simp at h
 obtain ⟨rows, rfl, hl, hr⟩ := h
 obtain ⟨xs, rfl, hx⟩ := zlb (f := Item.row) (Q := Item.tame) rows fun r h => zoa (hr r h)
 exact ⟨xs, by simp [itemsD], by simpa using hl, hx⟩
theorem z3v {n : Nat} {cs : List D} (h : Tell TT (n + 2) 61 cs) : ∃ t : Told, cs = t.row ∧ in64 t.key ∧ in64 t.value := by
 unfold Tell at h
 simp [Tell.TellFs] at h
 obtain ⟨a, r1, rfl, h1, b, c, rfl, h2, h3⟩ := h
 obtain ⟨x, rfl, hx⟩ := zcr h1
 obtain ⟨g, rfl⟩ := zjk h2
 obtain ⟨u, rfl, hu⟩ := zcr h3
 exact ⟨⟨x, g, u⟩, rfl, hx, hu⟩
theorem z1b {n : Nat} {cs : List D} (h : Tell TT (n + 3) 40 cs) : ∃ ts : List Told, cs = [toldsD ts] ∧ ts.length * 24 ≤ 140737488351232 ∧ ∀ t ∈ ts, in64 t.key ∧ in64 t.value := by
 unfold Tell at h
 simp at h
 obtain ⟨rows, rfl, hl, hr⟩ := h
 obtain ⟨xs, rfl, hx⟩ := zlb (f := Told.row) (Q := fun t => in64 t.key ∧ in64 t.value) rows fun r h => z3v (hr r h)
 exact ⟨xs, by simp [toldsD], by simpa using hl, hx⟩
def Node.tame (x : Node) : Prop := x.view.tame ∧ x.items.length * 40 ≤ 140737488351232 ∧ (∀ i ∈ x.items, i.tame) ∧ x.log.length * 24 ≤ 140737488351232 ∧ ∀ t ∈ x.log, in64 t.key ∧ in64 t.value
theorem Node.tame.small {x : Node} (h : x.tame) : x.small := ⟨h.1.small, h.2.1, h.2.2.2.1⟩
theorem zuy {n : Nat} {cs : List D} (h : Tell TT (n + 5) 42 cs) : ∃ x : Node, cs = x.cells ∧ x.tame := by
 unfold Tell at h
 simp [Tell.TellFs] at h
 obtain ⟨a, r1, rfl, h1, b, r2, rfl, h2, c, d, rfl, h3, h4⟩ := h
 obtain ⟨u, rfl⟩ := zjk h1
 obtain ⟨v, rfl, hv⟩ := zv2 h2
 obtain ⟨is, rfl, h5, h6⟩ := zrm h3
 obtain ⟨ts, rfl, h7, h8⟩ := z1b h4
 exact ⟨⟨u, v, is, ts⟩, rfl, hv, h5, h6, h7, h8⟩
theorem qcl {n : Nat} {d : D} (h : TellArg TT (n + 5) 42 d) : ∃ x : Node, d = nodeD x ∧ x.tame := by
 simp [TellArg] at h
 obtain ⟨cs, rfl, h⟩ := h
 obtain ⟨v, rfl, hv⟩ := zuy h
 exact ⟨v, rfl, hv⟩
theorem qct {n : Nat} {d : D} (h : TellArg TT (n + 3) 46 d) : ∃ x : Item, d = .agg x.row ∧ x.tame := by
 simp [TellArg] at h
 obtain ⟨cs, rfl, h⟩ := h
 obtain ⟨v, rfl, hv⟩ := zoa h
 exact ⟨v, rfl, hv⟩
theorem qb5 {n : Nat} {d : D} (h : TellArg TT (n + 4) 39 d) : ∃ x : List Item, d = itemsD x ∧ x.length * 40 ≤ 140737488351232 ∧ ∀ i ∈ x, i.tame := by
 simp [TellArg] at h
 obtain ⟨xs, hx, h2⟩ := zrm h
 simp at hx
 exact ⟨xs, hx, h2⟩
theorem qcr {n : Nat} {d : D} (h : TellArg TT (n + 2) 36 d) : ∃ x : List Int, d = intsD x ∧ x.length * 8 ≤ 140737488351232 ∧ ∀ i ∈ x, in64 i := by
 simp [TellArg] at h
 obtain ⟨xs, hx, h2⟩ := zps h
 simp at hx
 exact ⟨xs, hx, h2⟩
theorem qbj {n : Nat} {d : D} (h : TellArg TT (n + 3) 35 d) : ∃ x : List Peer, d = peersD x ∧ x.length * 16 ≤ 140737488351232 ∧ ∀ p ∈ x, in64 p.id ∧ in64 p.missed := by
 simp [TellArg] at h
 obtain ⟨xs, hx, h2⟩ := zrq h
 simp at hx
 exact ⟨xs, hx, h2⟩
theorem qcj {n : Nat} {d : D} (h : TellArg TT (n + 1) 4 d) : ∃ x, d = .bool x ∧ True := by
 simp [TellArg] at h
 obtain ⟨x, hx⟩ := zjk h
 simp at hx
 exact ⟨x, hx, trivial⟩
theorem qcu {n : Nat} {d : D} (h : TellArg TT (n + 1) 3 d) : ∃ x, d = .int .i64 x ∧ in64 x := by
 simp [TellArg] at h
 obtain ⟨x, hx, h2⟩ := zcr h
 simp at hx
 exact ⟨x, hx, h2⟩
theorem qci {n : Nat} {d : D} (h : TellArg TT (n + 4) 38 d) : ∃ v : View, d = viewD v ∧ v.tame := by
 simp [TellArg] at h
 obtain ⟨cs, rfl, h⟩ := h
 obtain ⟨v, rfl, hv⟩ := zv2 h
 exact ⟨v, rfl, hv⟩
end Go.AM
/- AM: contracts: a node is copied, takes an item. -/
namespace Go.AM
set_option linter.unusedSimpArgs false
set_option linter.unusedVariables false
set_option maxRecDepth 8000
set_option maxHeartbeats 0
theorem zz7 {α : Type} {f : α → List D} {n : Nat} (h : ∀ a, (f a).length = n ∧ (f a).all D.isCell = true) (xs : List α) : Fits n (xs.map f) := by
 intro r hr
 obtain ⟨a, _, rfl⟩ := List.mem_map.1 hr
 exact h a
theorem zma (v : View) (hs : v.small) : Den PP 110 [viewD v] [] (.agg [.int .i64 v.id, .ref 0 0 v.peers.length, .ref 1 0 v.passive.length]) [⟨v.peers.map Peer.row, 2, .mut⟩, ⟨v.passive.map irow, 1, .mut⟩] := by
 obtain ⟨h1, h2⟩ := hs
 unfold cap16 at h1
 unfold cap at h2
 have c1 := zrl (v.peers.map Peer.row) (zz7 (f := Peer.row) (n := 2) (fun _ => ⟨rfl, rfl⟩) _) (by simp; omega)
 have c2 := zld (v.passive.map irow) (zz7 (f := irow) (n := 1) (fun _ => ⟨rfl, rfl⟩) _) (by simp; omega)
 simp only [List.length_map] at c1 c2
 refine zaj [5, 8] [] zu4 ?_
 simp -implicitDefEqProofs [zob, viewD, View.cells, peersD, intsD]
 refine zaa c1 ?_
 simp -implicitDefEqProofs [downTo]
 refine zaa c2 ?_
 simp -implicitDefEqProofs [downTo]
def copyD (x : Node) : D := .agg [.bool x.up, .int .i64 x.view.id, .ref 0 0 x.view.peers.length, .ref 1 0 x.view.passive.length, .ref 2 0 x.items.length, .ref 3 0 x.log.length]
def nodeB (x : Node) : List Blk := [⟨x.view.peers.map Peer.row, 2, .mut⟩, ⟨x.view.passive.map irow, 1, .mut⟩, ⟨x.items.map Item.row, 5, .mut⟩, ⟨x.log.map Told.row, 3, .mut⟩]
theorem zfg (x : Node) (hs : x.small) : Den PP 86 [nodeD x] [] (copyD x) (nodeB x) := by
 have c1 := zma x.view hs.1
 obtain ⟨⟨h1, h2⟩, h3, h4⟩ := hs
 unfold cap16 at h1
 unfold cap at h2
 have c2 := zrb (x.items.map Item.row) (zz7 (f := Item.row) (n := 5) (fun _ => ⟨rfl, rfl⟩) _) (by simp; omega)
 have c3 := z28 (x.log.map Told.row) (zz7 (f := Told.row) (n := 3) (fun _ => ⟨rfl, rfl⟩) _) (by simp; omega)
 simp only [List.length_map, viewD, View.cells, peersD, intsD] at c1 c2 c3
 unfold copyD nodeB
 refine zaj [5, 8, 11] [] zvq ?_
 simp -implicitDefEqProofs [zon, nodeD, Node.cells, peersD, intsD, itemsD, toldsD]
 refine zaa c1 ?_
 simp -implicitDefEqProofs [downTo]
 refine zaa c2 ?_
 simp -implicitDefEqProofs [downTo]
 refine zaa c3 ?_
 simp -implicitDefEqProofs [downTo]
def takeI (x : Node) (i : Item) : Node := if (putR x.items i).2 = 0 then { x with items := (putR x.items i).1 } else x
theorem z4p (x : Node) (i : Item) (hs : x.small) (h : (nodeUp x && itemMay i) = true) : Den PP 42 [nodeD x, .agg i.row] [] (.tup [copyD (takeI x i), .int .i64 0]) (nodeB (takeI x i)) := by
 have c1 := zjp x hs
 have c2 := zkd i
 have c3 := zfg x hs
 have c4 := z5f x.items i (by have := hs.2.1; unfold cap16; omega)
 rw [Bool.and_eq_true] at h
 obtain ⟨h1, h2⟩ := h
 rw [h1] at c1
 rw [h2] at c2
 unfold takeI
 generalize putR x.items i = r at *
 obtain ⟨is, e⟩ := r
 simp only [nodeD, Node.cells, peersD, intsD, itemsD, toldsD, Item.row, copyD, nodeB] at c1 c2 c3 c4 ⊢
 clear h1 h2
 refine zaj [19, 24] [] zui ?_
 by_cases he : e = 0
 ·subst he
  simp -implicitDefEqProofs [zk7, nodeD, Node.cells, peersD, intsD, itemsD, toldsD, Item.row]
  refine zaa c1 ?_
  simp -implicitDefEqProofs
  refine zaa c2 ?_
  simp -implicitDefEqProofs
  refine zaa c3 ?_
  simp -implicitDefEqProofs [downTo]
  refine zaa c4 ?_
  simp -implicitDefEqProofs [downTo]
 ·simp -implicitDefEqProofs [zk7, nodeD, Node.cells, peersD, intsD, itemsD, toldsD, Item.row]
  refine zaa c1 ?_
  simp -implicitDefEqProofs
  refine zaa c2 ?_
  simp -implicitDefEqProofs
  refine zaa c3 ?_
  simp -implicitDefEqProofs [downTo]
  refine zaa c4 ?_
  simp -implicitDefEqProofs [downTo, he]
end Go.AM
/- AM: contracts: a world copied, messages sent in it. -/
namespace Go.AM
set_option linter.unusedSimpArgs false
set_option linter.unusedVariables false
set_option maxRecDepth 8000
set_option maxHeartbeats 0
theorem z04 (xs : List Node) : Fits 6 (xs.map Node.cells) := by
 intro r hr
 obtain ⟨m, _, rfl⟩ := List.mem_map.1 hr
 exact ⟨rfl, rfl⟩
theorem z53 (xs : List Cut) : Fits 2 (xs.map Cut.row) := by
 intro r hr
 obtain ⟨m, _, rfl⟩ := List.mem_map.1 hr
 exact ⟨rfl, rfl⟩
def wldR (w : Wld) (i j k : Nat) : List D := [.ref i 0 w.nodes.length, .ref j 0 w.cuts.length, .ref k 0 w.packets.length]
def wldB (w : Wld) : List Blk := [⟨w.nodes.map Node.cells, 6, .mut⟩, ⟨w.cuts.map Cut.row, 2, .mut⟩, ⟨w.packets.map Msg.row, 11, .mut⟩]
theorem zj5 (w : Wld) (h : w.tiny) : Den PP 57 [wldD w] [] (.agg (wldR w 0 1 2)) (wldB w) := by
 obtain ⟨ns, cs, ps⟩ := w
 obtain ⟨h1, h2, h3, h4, h5⟩ := h
 simp only at h1 h2 h3 h4 h5
 have c1 := z2t (ns.map Node.cells) (z04 ns) (by simp; omega)
 have c2 := zuc (cs.map Cut.row) (z53 cs) (by simp; omega)
 have c3 := zmv ps (by unfold cap16; omega) (by omega) (fun m hm => by have := h5 m hm; unfold cap; omega)
 simp only [wldD, Wld.cells, nodesD, cutsD, msgsD, List.length_map, wldR, wldB] at c1 c2 c3 ⊢
 refine zaj [6, 9, 12] [] zs1 ?_
 simp -implicitDefEqProofs [znd]
 refine zaa c1 ?_
 simp -implicitDefEqProofs
 refine zaa c2 ?_
 simp -implicitDefEqProofs
 refine zaa c3 ?_
 simp -implicitDefEqProofs
 refine zax ns (fun i rest => fun ⟨fr, bs⟩ => bs = [⟨[[.ref 2 0 ns.length, .ref 3 0 cs.length, .ref 4 0 ps.length]], 3, .box⟩, ⟨[[.nil, .nil, .nil]], 3, .box⟩, ⟨ns.map Node.cells, 6, .mut⟩, ⟨cs.map Cut.row, 2, .mut⟩, ⟨ps.map Msg.row, 11, .mut⟩] ∧ fr 1 = .ptr 0 0 0 ∧ fr 2 = .ptr 1 0 0 ∧ fr 18 = .int .i64 ns.length ∧ fr 19 = .int .i64 i)
  (fun ⟨fr, bs⟩ => bs = [⟨[[.ref 2 0 ns.length, .ref 3 0 cs.length, .ref 4 0 ps.length]], 3, .box⟩, ⟨[[.nil, .nil, .nil]], 3, .box⟩, ⟨ns.map Node.cells, 6, .mut⟩, ⟨cs.map Cut.row, 2, .mut⟩, ⟨ps.map Msg.row, 11, .mut⟩] ∧ fr 1 = .ptr 0 0 0 ∧ fr 2 = .ptr 1 0 0) (fun _ => False) zje.eq_1 ?_ ?_ ?_ ?_ ?_
 ·exact ⟨rfl, rfl, rfl, rfl, rfl⟩
 ·rintro i ⟨fr, bs⟩ hi ⟨rfl, h1, h2, h18, h19⟩
  simp -implicitDefEqProofs [h1, h2, h18, h19, hi]
 ·rintro i a rest ⟨fr, bs⟩ hlt hget hg hd hd2 ⟨rfl, k1, k2, h18, h19⟩
  have hlt' : (i : Int) < ns.length := by omega
  have c4 := zfg a (zcv (h2 a (List.mem_of_getElem? hget)))
  clear h2 h5
  simp only [nodeD, Node.cells, peersD, intsD, itemsD, toldsD, copyD, nodeB] at c4
  simp -implicitDefEqProofs [k1, k2, h18, h19, hlt, hlt', hget, hg, Node.cells, peersD, intsD, itemsD, toldsD]
  refine zaa c4 ?_
  simp -implicitDefEqProofs [k1, k2, h18, h19, hlt, hlt', hget, hg, Node.cells, peersD, intsD, itemsD, toldsD]
  exact ⟨zzw (f := Node.cells) hget, zaq (by omega) (by omega)⟩
 ·rintro ⟨fr, bs⟩ ⟨rfl, h1, h2⟩
  simp -implicitDefEqProofs [h1, h2]
 ·rintro ⟨fr, bs⟩ h
  exact h.elim
theorem z7e (m : Msg) : m.row.length = 11 := rfl
theorem zsc (w : Wld) (ms : List Msg) (hw : worldMay w = true) (hm : worldMay { w with packets := ms } = true) : Den PP 206 [wldD w, msgsD ms] [] (.tup [.agg (wldR (sendW w ms) 0 1 2), .int .i64 0]) (wldB (sendW w ms)) := by
 have t1 := zbr hw
 have t2 := zbr hm
 have c1 := zhu w t1.small
 have c2 := zhu _ t2.small
 have c3 := zj5 w t1
 have h1 := t1.packets
 have h2 := t2.packets
 simp only at h2
 have hk : (min ms.length (512 - w.packets.length)) ≤ ms.length := Nat.min_le_left ..
 have c4 := zmv (ms.take (512 - w.packets.length)) (by simp; unfold cap16; omega) (by simp; omega) (fun m hm' => by have := t2.packet m (List.mem_of_mem_take hm'); unfold cap; omega)
 rw [hw] at c1
 rw [hm] at c2
 have hmi : (if (512 : Int) - w.packets.length < ms.length then (512 : Int) - w.packets.length else ms.length) = ((ms.take (512 - w.packets.length)).length : Nat) := by simp only [List.length_take]; split <;> omega
 have hle : (ms.take (512 - w.packets.length)).length ≤ ms.length := by simp; omega
 have hpk : w.packets.length + (ms.take (512 - w.packets.length)).length ≤ 512 := by simp; omega
 have htk : (ms.map Msg.row).take (ms.take (512 - w.packets.length)).length = (ms.take (512 - w.packets.length)).map Msg.row := by
  rw [← List.map_take]; congr 1; simp
 unfold sendW
 generalize (ms.take (512 - w.packets.length)) = ks at *
 obtain ⟨ns, cs, ps⟩ := w
 clear hw hm t1 t2 hk
 simp only [wldD, Wld.cells, nodesD, cutsD, msgsD, List.length_map, wldR, wldB] at *
 have w1 : IntKind.wrap .i64 (512 - (ps.length : Int)) = 512 - (ps.length : Int) := zaq (by omega) (by omega)
 have c4 : Den PP 146 [.sl (ms.map Msg.row) ks.length] [] (.ref 0 0 ks.length) [⟨ks.map Msg.row, 11, .mut⟩] := z5l (by simp only [List.map_cons, List.map_nil, D.cut, htk]; exact c4)
 refine zaj [22] [] zty ?_
 simp -implicitDefEqProofs [znk]
 refine zaa c1 ?_
 simp -implicitDefEqProofs
 refine zaa c2 ?_
 simp -implicitDefEqProofs
 refine zaa c3 ?_
 have hle' : (ks.length : Int) ≤ ms.length := by omega
 simp -implicitDefEqProofs [w1, minL, minF, hmi, sliceD, boundD, z7e, hle, hle']
 refine zaa c4 ?_
 simp -implicitDefEqProofs
 refine zag ⟨by omega, by omega⟩ ?_
 simp -implicitDefEqProofs
end Go.AM
/- AM: plain: acts. -/
namespace Go.AM
set_option linter.unusedSimpArgs false
set_option linter.unusedVariables false
structure Act where
 kind : Int
 node : Int
 other : Int
 pick : Int
 ids : List Int
 key : Int
 value : Int
 deriving DecidableEq, Inhabited
def Act.cells (a : Act) : List D := [.int .i64 a.kind, .int .i64 a.node, .int .i64 a.other, .int .i64 a.pick, intsD a.ids, .int .i64 a.key, .int .i64 a.value]
def actD (a : Act) : D := .agg a.cells
@[simp] theorem z81 (S : Nat → Bool) (x : Act) : x.cells.map (D.sweep S) = x.cells := rfl
@[simp] theorem z9l (fr fp : Nat → Nat → Nat → D) (x : Act) : x.cells.map (D.mapR fr fp) = x.cells := rfl
@[simp] theorem qaq (x : Act) : idsL x.cells = [] := rfl
@[simp] theorem z9u (x : Act) : ridsL x.cells = [] := rfl
@[simp] theorem z8l (x : Act) : x.cells.length = 7 := rfl
def mayA (w : Wld) (a : Act) : Bool :=
 if a.kind = 1 ∨ a.kind = 2 ∨ a.kind = 3 then decide (0 ≤ a.pick) && decide (a.pick ≤ 65535)
 else if a.kind < 0 ∨ 10 < a.kind ∨ isN a.node w.nodes = false then false
 else if a.kind = 4 ∨ a.kind = 5 then isN a.other w.nodes && !decide (a.node = a.other)
 else if a.kind = 7 then decide (a.ids.length ≤ 16) && !a.ids.any fun id => !isN id w.nodes
 else if a.kind = 8 then byte a.key && byte a.value
 else if a.kind = 9 ∨ a.kind = 10 then byte a.key
 else true
def lowD (n0 : Nat) : D → Bool
 | .ref b _ _ => decide (b < n0)
 | .int _ _ => true
 | .bool _ => true
 | .nil => true
 | .zs _ => true
 | .sl _ _ => true
 | .mem _ => true
 | _ => false
theorem z7w {n0 : Nat} {d : D} (h : lowD n0 d = true) : ∀ b ∈ d.rids, b < n0 := by
 cases d <;> simp [lowD, D.rids] at h ⊢
 exact h
theorem z6o {n0 : Nat} {d : D} (h : lowD n0 d = true) (L : List Nat) (bs : List Blk) : d.mapR (expRef n0 L) (expPtr n0 bs) = d := by
 cases d with
 | ref b o l =>
   simp [lowD] at h
   show expRef n0 L b o l = _
   simp [expRef, h]
 | _ => first | rfl | cases h
theorem zwf {b : Nat} : ∀ {cs : List D}, b ∈ ridsL cs → ∃ d ∈ cs, b ∈ d.rids
 | [], h => by simp [ridsL] at h
 | d :: ds, h => by
   simp only [ridsL, List.mem_append] at h
   rcases h with h | h
   ·exact ⟨d, by simp, h⟩
   ·obtain ⟨e, he, hb⟩ := zwf h
    exact ⟨e, by simp [he], hb⟩
theorem z6c {n0 : Nat} {st : St} (h : ∀ k ∈ st.bs.take n0, ∀ r ∈ k.rows, ∀ d ∈ r, lowD n0 d = true) : leave n0 st (.tup []) = some (.tup [], st.bs.take n0) := by
 have h1 : (lentRids (st.bs.take n0)).filter (fun b => decide (n0 ≤ b)) = [] := by
  rw [List.filter_eq_nil_iff]
  intro b hb
  unfold lentRids at hb
  obtain ⟨k, hk, hb⟩ := List.mem_flatMap.1 hb
  obtain ⟨r, hr, hb⟩ := List.mem_flatMap.1 hb
  obtain ⟨d, hd, hb⟩ := zwf hb
  have := z7w (h k hk r hr d hd) b hb
  simp; omega
 have h2 : (st.bs.take n0).map (Blk.mapR (expRef n0 []) (expPtr n0 st.bs)) = st.bs.take n0 := by
  rw [List.map_congr_left (g := id), List.map_id]
  intro k hk
  show { k with rows := _ } = k
  have : k.rows.map (fun r => r.map (D.mapR (expRef n0 []) (expPtr n0 st.bs))) = k.rows := by
   rw [List.map_congr_left (g := id), List.map_id]
   intro r hr
   rw [List.map_congr_left (g := id), List.map_id]
   ·rfl
   ·intro d hd
    exact z6o (h k hk r hr d hd) _ _
  rw [this]
 unfold leave
 simp only [D.rids, ridsL, List.nil_append, h1, h2]
 simp [D.mapR, mapRL]
def lowR (n0 : Nat) (rows : List (List D)) : Prop := ∀ r ∈ rows, ∀ d ∈ r, lowD n0 d = true
theorem zyk {α : Type} (n0 : Nat) (f : α → List D) (xs : List α) (h : ∀ x, ∀ d ∈ f x, lowD n0 d = true) : lowR n0 (xs.map f) := by
 intro r hr
 obtain ⟨x, _, rfl⟩ := List.mem_map.1 hr
 exact h x
theorem z1q (n0 : Nat) (x : Node) : ∀ d ∈ x.cells, lowD n0 d = true := List.all_eq_true.1 (rfl : (x.cells.all fun d => lowD n0 d) = true)
theorem zju (n0 : Nat) (xs : List Node) : lowR n0 (xs.map Node.cells) := zyk n0 _ xs (z1q n0)
theorem zmc (n0 : Nat) (xs : List Cut) : lowR n0 (xs.map Cut.row) := zyk n0 _ xs fun x => List.all_eq_true.1 (rfl : (x.row.all fun d => lowD n0 d) = true)
theorem zlv (n0 : Nat) (xs : List Msg) : lowR n0 (xs.map Msg.row) := zyk n0 _ xs fun x => List.all_eq_true.1 (rfl : (x.row.all fun d => lowD n0 d) = true)
theorem zoc {n0 : Nat} {rows : List (List D)} {P : Nat} {cs : List D} (h : lowR n0 rows) (hc : ∀ d ∈ cs, lowD n0 d = true) : lowR n0 (rows.set P cs) := by
 intro r hr
 rcases List.mem_or_eq_of_mem_set hr with h1 | rfl
 ·exact h r h1
 ·exact hc
theorem zg6 {n0 : Nat} {cs : List D} (h : (cs.all fun d => lowD n0 d) = true) : lowR n0 [cs] := by
 intro r hr
 rw [List.mem_singleton.1 hr]
 exact List.all_eq_true.1 h
theorem low5 {n0 : Nat} {a b c d e : Blk} (ha : lowR n0 a.rows) (hb : lowR n0 b.rows) (hc : lowR n0 c.rows) (hd : lowR n0 d.rows) (he : lowR n0 e.rows) : ∀ k ∈ [a, b, c, d, e], ∀ r ∈ k.rows, ∀ x ∈ r, lowD n0 x = true := by
 intro k hk
 simp only [List.mem_cons, List.not_mem_nil, or_false] at hk
 rcases hk with rfl | rfl | rfl | rfl | rfl
 ·exact ha
 ·exact hb
 ·exact hc
 ·exact hd
 ·exact he
theorem leave5 {fr : Nat → D} {a b c d e : Blk} {news : List Blk} (ha : lowR 5 a.rows) (hb : lowR 5 b.rows) (hc : lowR 5 c.rows) (hd : lowR 5 d.rows) (he : lowR 5 e.rows) : leave 5 ⟨fr, a :: b :: c :: d :: e :: news⟩ (.tup []) = some (.tup [], [a, b, c, d, e]) :=
 z6c (st := ⟨fr, a :: b :: c :: d :: e :: news⟩) (low5 ha hb hc hd he)
def actB (w : Wld) (a : Act) : List Blk := [⟨[[.ref 1 0 w.nodes.length, .ref 2 0 w.cuts.length, .ref 3 0 w.packets.length]], 3, .box⟩, ⟨w.nodes.map Node.cells, 6, .mut⟩, ⟨w.cuts.map Cut.row, 2, .mut⟩, ⟨w.packets.map Msg.row, 11, .mut⟩, ⟨[a.cells], 7, .box⟩]
end Go.AM
/- AM: contracts: what an act's doer asks. -/
namespace Go.AM
set_option linter.unusedSimpArgs false
set_option linter.unusedVariables false
set_option maxRecDepth 8000
set_option maxHeartbeats 0
theorem zmo (w : Wld) (id : Int) (hl : w.nodes.length ≤ cap) (hr : MonoC (cmpN id) w.nodes) : Den PP 147 [.mem w.cells, .int .i64 id] [] (.bool (isN id w.nodes)) [] := by
 have c1 := zj1 w id hl hr
 generalize posN id w.nodes = P at *
 generalize isN id w.nodes = A at *
 simp only [Wld.cells, nodesD, cutsD, msgsD] at c1 ⊢
 clear hr
 refine zaj [] [] zm0 ?_
 simp -implicitDefEqProofs [zin]
 refine zaa c1 ?_
 simp -implicitDefEqProofs
theorem z12 (w : Wld) (id : Int) (hl : w.nodes.length ≤ cap) (hr : MonoC (cmpN id) w.nodes) : Den PP 148 [.int .i64 id, .mem [.mem w.cells]] [] (.bool (!isN id w.nodes)) [] := by
 have c1 := zmo w id hl hr
 generalize isN id w.nodes = A at *
 simp only [Wld.cells, nodesD, cutsD, msgsD] at c1 ⊢
 clear hr
 refine zaj [] [] zmn ?_
 simp -implicitDefEqProofs [zik]
 refine zaa c1 ?_
 simp -implicitDefEqProofs
theorem zz1 (w : Wld) (a : Act) (hl : w.nodes.length ≤ cap) (hr : ∀ id, MonoC (cmpN id) w.nodes) (hi : a.ids.length ≤ cap) : Den PP 58 [.mem w.cells, .mem a.cells] [] (.bool (mayA w a)) [] := by
 have c1 := zmo w a.node hl (hr a.node)
 have c2 := zmo w a.other hl (hr a.other)
 have c3 := zda a.ids hi 148 [.mem [.mem w.cells]] (fun id => !isN id w.nodes) ⟨fun _ => rfl, fun _ _ => rfl, fun id _ => z12 w id hl (hr id)⟩
 have c4 := zlg a.key
 have c5 := zlg a.value
 unfold mayA
 generalize (a.ids.any fun id => !isN id w.nodes) = X at *
 generalize isN a.node w.nodes = A at *
 generalize isN a.other w.nodes = B at *
 generalize byte a.key = K at *
 generalize byte a.value = V at *
 clear hr
 simp only [Wld.cells, Act.cells, nodesD, cutsD, msgsD, intsD] at c1 c2 c3 ⊢
 obtain ⟨k, n, o, p, ids, key, value⟩ := a
 simp only at *
 by_cases hk : k < 0 ∨ 10 < k
 ·have e : ∀ i : Int, 0 ≤ i → i ≤ 10 → ¬ k = i := fun i h1 h2 => by omega
  have e1 := e 1 (by omega) (by omega)
  have e2 := e 2 (by omega) (by omega)
  have e3 := e 3 (by omega) (by omega)
  clear e
  refine zaj [] [] zjc ?_
  simp -implicitDefEqProofs [zg5, e1, e2, e3]
  rcases hk with hk | hk
  ·simp -implicitDefEqProofs [hk, e1, e2, e3]
  ·have h2 : ¬ k < 0 := by omega
   simp -implicitDefEqProofs [hk, h2, e1, e2, e3]
 ·have hk2 : k = 1 ∨ k = 2 ∨ k = 3 ∨ k = 0 ∨ k = 4 ∨ k = 5 ∨ k = 6 ∨ k = 7 ∨ k = 8 ∨ k = 9 ∨ k = 10 := by omega
  clear hk
  rcases hk2 with rfl | rfl | rfl | rfl | rfl | rfl | rfl | rfl | rfl | rfl | rfl
  all_goals
   refine zaj [] [] zjc ?_
   simp -implicitDefEqProofs [zg5]
   repeat' ((first | refine zaa (by first | exact c1 | exact c2 | exact c3 | exact c4 | exact c5) ?_ | ((with_reducible first | refine zak ?_ ?_ | refine zah ?_ ?_ | refine zad ?_ ?_ | refine zae ?_ ?_) <;> intro _) | ((with_reducible first | refine zan ?_ ?_ | refine zap ?_ ?_ | refine zal ?_ ?_ | refine zac ?_ ?_ | refine zai ?_ ?_ | refine zao ?_ ?_ | refine zaf ?_ ?_ | refine zab ?_ ?_) <;> intro hq <;> (try simp at hq)) | refine zag (by omega) ?_ | refine zam (by omega) ?_) <;> simp -implicitDefEqProofs [*])
  all_goals grind
end Go.AM
/- AM: contracts: a doer's node, what it sends, what it picks. -/
namespace Go.AM
set_option linter.unusedSimpArgs false
set_option linter.unusedVariables false
set_option maxRecDepth 8000
set_option maxHeartbeats 0
theorem zkz {w : Wld} {id : Int} (h : isN id w.nodes = true) : posN id w.nodes < w.nodes.length := (zn3 h).1
theorem z56 (w : Wld) (a : Act) (hl : w.nodes.length ≤ cap) (hr : MonoC (cmpN a.node) w.nodes) (hi : isN a.node w.nodes = true) : Den PP 150 [.ptr 0 0 0, .ptr 4 0 0] [⟨[[.ref 1 0 w.nodes.length, .ref 2 0 w.cuts.length, .ref 3 0 w.packets.length]], 3, .box⟩, ⟨w.nodes.map Node.cells, 6, .mut⟩, ⟨w.cuts.map Cut.row, 2, .mut⟩, ⟨w.packets.map Msg.row, 11, .mut⟩, ⟨[a.cells], 7, .box⟩] (.ptr 1 (posN a.node w.nodes) 0) [⟨[[.ref 1 0 w.nodes.length, .ref 2 0 w.cuts.length, .ref 3 0 w.packets.length]], 3, .box⟩, ⟨w.nodes.map Node.cells, 6, .mut⟩, ⟨w.cuts.map Cut.row, 2, .mut⟩, ⟨w.packets.map Msg.row, 11, .mut⟩, ⟨[a.cells], 7, .box⟩] := by
 have c1 := zj1 w a.node hl hr
 have hp := zkz hi
 generalize posN a.node w.nodes = P at *
 rw [hi] at c1
 clear hi hr
 have hp' : (P : Int) < w.nodes.length := by omega
 simp only [Wld.cells, Act.cells, nodesD, cutsD, msgsD, intsD] at c1 ⊢
 refine zaj [] [] ziw ?_
 simp -implicitDefEqProofs [zgj]
 refine zaa c1 ?_
 simp -implicitDefEqProofs [hp, hp']
theorem zgv (w : Wld) (id : Int) (qs : List Msg) (hl : w.nodes.length ≤ cap) (hr : MonoC (cmpN id) w.nodes) (hi : isN id w.nodes = true) : Den PP 150 [.ptr 0 0 0, .ptr 4 0 0] [⟨[[.ref 1 0 w.nodes.length, .ref 2 0 w.cuts.length, .sl (w.packets.map Msg.row) w.packets.length]], 3, .box⟩, ⟨w.nodes.map Node.cells, 6, .mut⟩, ⟨w.cuts.map Cut.row, 2, .mut⟩, ⟨qs.map Msg.row, 11, .app⟩, ⟨[[.int .i64 0, .int .i64 id, .int .i64 0, .int .i64 0, .nil, .int .i64 0, .int .i64 0]], 7, .box⟩] (.ptr 1 (posN id w.nodes) 0) [⟨[[.ref 1 0 w.nodes.length, .ref 2 0 w.cuts.length, .sl (w.packets.map Msg.row) w.packets.length]], 3, .box⟩, ⟨w.nodes.map Node.cells, 6, .mut⟩, ⟨w.cuts.map Cut.row, 2, .mut⟩, ⟨qs.map Msg.row, 11, .app⟩, ⟨[[.int .i64 0, .int .i64 id, .int .i64 0, .int .i64 0, .nil, .int .i64 0, .int .i64 0]], 7, .box⟩] := by
 have c1 := zj1 w id hl hr
 have hp := zkz hi
 generalize posN id w.nodes = P at *
 rw [hi] at c1
 clear hi hr
 have hp' : (P : Int) < w.nodes.length := by omega
 simp only [Wld.cells, Act.cells, nodesD, cutsD, msgsD, intsD] at c1 ⊢
 refine zaj [] [] ziw ?_
 simp -implicitDefEqProofs [zgj]
 refine zaa c1 ?_
 simp -implicitDefEqProofs [hp, hp']
theorem z4r (w : Wld) (ms : List Msg) (hw : worldMay w = true) (hm : worldMay { w with packets := ms } = true) : Den PP 151 [.ptr 0 0 0, msgsD ms] [⟨[[.ref 1 0 w.nodes.length, .ref 2 0 w.cuts.length, .ref 3 0 w.packets.length]], 3, .box⟩, ⟨w.nodes.map Node.cells, 6, .mut⟩, ⟨w.cuts.map Cut.row, 2, .mut⟩, ⟨w.packets.map Msg.row, 11, .mut⟩] (.tup []) [⟨[(sendW w ms).cells], 3, .box⟩, ⟨w.nodes.map Node.cells, 6, .app⟩, ⟨w.cuts.map Cut.row, 2, .app⟩, ⟨w.packets.map Msg.row, 11, .app⟩] := by
 have c1 := zsc w ms hw hm
 have e : (sendW w ms).nodes = w.nodes ∧ (sendW w ms).cuts = w.cuts := ⟨rfl, rfl⟩
 generalize sendW w ms = v at *
 obtain ⟨ns, cs, ps⟩ := v
 obtain ⟨e1, e2⟩ := e
 simp only at e1 e2
 subst e1 e2
 clear hw hm
 simp only [wldD, wldR, wldB, Wld.cells, Act.cells, nodesD, cutsD, msgsD, intsD] at c1 ⊢
 refine zaj [] [] zix ?_
 simp -implicitDefEqProofs [zgc]
 refine zaa c1 ?_
 simp -implicitDefEqProofs [downTo]
theorem zgx (w : Wld) (ms : List Msg) (qs : List Msg) (hw : worldMay w = true) (hm : worldMay { w with packets := ms } = true) : Den PP 151 [.ptr 0 0 0, msgsD ms] [⟨[[.ref 1 0 w.nodes.length, .ref 2 0 w.cuts.length, .sl (w.packets.map Msg.row) w.packets.length]], 3, .box⟩, ⟨w.nodes.map Node.cells, 6, .mut⟩, ⟨w.cuts.map Cut.row, 2, .mut⟩, ⟨qs.map Msg.row, 11, .app⟩] (.tup []) [⟨[(sendW w ms).cells], 3, .box⟩, ⟨w.nodes.map Node.cells, 6, .app⟩, ⟨w.cuts.map Cut.row, 2, .app⟩, ⟨qs.map Msg.row, 11, .app⟩] := by
 have c1 := zsc w ms hw hm
 have e : (sendW w ms).nodes = w.nodes ∧ (sendW w ms).cuts = w.cuts := ⟨rfl, rfl⟩
 generalize sendW w ms = v at *
 obtain ⟨ns, cs, ps⟩ := v
 obtain ⟨e1, e2⟩ := e
 simp only at e1 e2
 subst e1 e2
 clear hw hm
 simp only [wldD, wldR, wldB, Wld.cells, Act.cells, nodesD, cutsD, msgsD, intsD] at c1 ⊢
 refine zaj [] [] zix ?_
 simp -implicitDefEqProofs [zgc]
 refine zaa c1 ?_
 simp -implicitDefEqProofs [downTo]
def pickP (w : Wld) (a : Act) : Nat := (a.pick % w.packets.length).toNat
def leftP (w : Wld) (p : Nat) : List Msg := w.packets.take p ++ w.packets.drop (p + 1)
theorem zh5 (w : Wld) (a : Act) (m : Msg) (hw : w.tiny) (hq : queueMay w.packets = true) (h0 : 0 ≤ a.pick) (hp : a.pick ≤ 65535) (hm : w.packets[pickP w a]? = some m) : Den PP 152 [.ptr 0 0 0, .ptr 4 0 0] (actB w a) (.tup [msgD m, msgsD (leftP w (pickP w a)), .bool true])
 [⟨[[.ref 1 0 w.nodes.length, .ref 2 0 w.cuts.length, .ref 3 0 w.packets.length]], 3, .box⟩, ⟨w.nodes.map Node.cells, 6, .mut⟩, ⟨w.cuts.map Cut.row, 2, .mut⟩, ⟨w.packets.map Msg.row, 11, .app⟩, ⟨[a.cells], 7, .box⟩] := by
 have c1 := z2o w.packets (pickP w a) m (fun m hm => by have := hw.packet m hm; unfold cap; omega) hq hm
 have hlt := (List.getElem?_eq_some_iff.1 hm).1
 have h512 := hw.packets
 have e : (leftP w (pickP w a)) = w.packets.take (pickP w a) ++ w.packets.drop (pickP w a + 1) := rfl
 rw [← e] at c1
 have hmod : ((pickP w a : Nat) : Int) = a.pick % w.packets.length := by
  unfold pickP
  rw [Int.toNat_of_nonneg (Int.emod_nonneg _ (by omega))]
 have hmod2 : a.pick.tmod w.packets.length = ((pickP w a : Nat) : Int) := by rw [hmod, Int.tmod_eq_emod_of_nonneg h0]
 generalize leftP w (pickP w a) = ls at *
 generalize pickP w a = P at *
 clear hq hmod e
 have hne : ¬ (w.packets.length : Int) = 0 := by omega
 have hne2 : ¬ w.packets = [] := by intro h; rw [h] at hlt; simp at hlt
 unfold actB
 simp only [msgD, Msg.row, Wld.cells, Act.cells, nodesD, cutsD, msgsD, intsD] at c1 ⊢
 refine zaj [] [] zlw ?_
 simp -implicitDefEqProofs [zhh, hne, hne2, hmod2]
 refine zaa c1 ?_
 simp -implicitDefEqProofs [downTo, hmod2]
end Go.AM
/- AM: contracts: the document's take; a node spoiled. -/
namespace Go.AM
set_option linter.unusedSimpArgs false
set_option linter.unusedVariables false
set_option maxRecDepth 8000
set_option maxHeartbeats 0
end Go.AM
/- Plain law: a store takes items twice. -/
namespace Go.AM
set_option linter.unusedSimpArgs false
set_option linter.unusedVariables false

end Go.AM
/- AM: contracts: writing; the document's. -/
namespace Go.AM
set_option linter.unusedSimpArgs false
set_option linter.unusedVariables false
set_option maxRecDepth 8000
set_option maxHeartbeats 0
def getW : Option Item → Item × Bool
 | some i => (i, true)
 | none => (zeroItem, false)
theorem z48 {is : List Item} (h : storeMay is = true) (k : Int) : getR is k = getW (getS is k) := by
 unfold getR
 rw [if_pos h]
 cases getS is k <;> rfl
end Go.AM
/- AM: chapter 17's statements: Writes. -/
namespace Go.AM
set_option linter.unusedSimpArgs false
set_option linter.unusedVariables false
set_option maxRecDepth 8000
set_option maxHeartbeats 0
end Go.AM
/- AM: contracts: acts that turn one node. -/
namespace Go.AM
set_option linter.unusedSimpArgs false
set_option linter.unusedVariables false
set_option maxRecDepth 8000
set_option maxHeartbeats 0
def doA (w : Wld) (a : Act) (P : Nat) (cs : List D) : List Blk := [⟨[[.ref 1 0 w.nodes.length, .ref 2 0 w.cuts.length, .ref 3 0 w.packets.length]], 3, .box⟩, ⟨(w.nodes.map Node.cells).set P cs, 6, .mut⟩, ⟨w.cuts.map Cut.row, 2, .mut⟩, ⟨w.packets.map Msg.row, 11, .mut⟩, ⟨[a.cells], 7, .box⟩]
end Go.AM
/- AM: contracts: cuts put in, taken out, asked for. -/
namespace Go.AM
set_option linter.unusedSimpArgs false
set_option linter.unusedVariables false
set_option maxRecDepth 8000
set_option maxHeartbeats 0
theorem z9r (a b : Int) : (if b < a then b else a) = min a b := by omega
theorem qad (a b : Int) : (if a < b then b else a) = max a b := by omega
theorem z63 (a b : Int) : (if b < a then a else b) = max a b := by omega
theorem zwu (cs : List Cut) (a b : Int) (hl : cs.length ≤ cap) (h : askMay cs a b = false) : Den PP 208 [cutsD cs, .int .i64 a, .int .i64 b] [] (.tup [.agg [.nil, .int .i64 0, .int .i64 0, .int .i64 0, .bool false], .bool false]) [] := by
 have c1 := zsh cs hl
 have c2 := zat a
 have c3 := zat b
 simp only [cutsD, askMay] at c1 h
 generalize cutsMay cs = M at *
 generalize place a = X at *
 generalize place b = Y at *
 by_cases hab : a = b
 ·clear h
  refine zaj [] [] zk0 ?_
  cases M <;> cases X <;> cases Y
  all_goals
   simp -implicitDefEqProofs [zka, cutsD]
   repeat' ((first | refine zaa (by first | exact c1 | exact c2 | exact c3) ?_ | ((with_reducible first | refine zak ?_ ?_ | refine zah ?_ ?_ | refine zad ?_ ?_ | refine zae ?_ ?_) <;> intro _) | ((with_reducible first | refine zan ?_ ?_ | refine zap ?_ ?_ | refine zal ?_ ?_ | refine zac ?_ ?_ | refine zai ?_ ?_ | refine zao ?_ ?_ | refine zaf ?_ ?_ | refine zab ?_ ?_) <;> intro hq <;> (try simp at hq)) | refine zag (by omega) ?_ | refine zam (by omega) ?_) <;> simp -implicitDefEqProofs [*, hab])
 ·simp [hab] at h
  refine zaj [] [] zk0 ?_
  cases M <;> cases X <;> cases Y
  all_goals
   simp at h
  all_goals
   simp -implicitDefEqProofs [zka, cutsD]
   repeat' ((first | refine zaa (by first | exact c1 | exact c2 | exact c3) ?_ | ((with_reducible first | refine zak ?_ ?_ | refine zah ?_ ?_ | refine zad ?_ ?_ | refine zae ?_ ?_) <;> intro _) | ((with_reducible first | refine zan ?_ ?_ | refine zap ?_ ?_ | refine zal ?_ ?_ | refine zac ?_ ?_ | refine zai ?_ ?_ | refine zao ?_ ?_ | refine zaf ?_ ?_ | refine zab ?_ ?_) <;> intro hq <;> (try simp at hq)) | refine zag (by omega) ?_ | refine zam (by omega) ?_) <;> simp -implicitDefEqProofs [*, hab])
theorem z8e (cs : List Cut) (a b : Int) (hl : cs.length ≤ cap) (h : askMay cs a b = true) : Den PP 208 [cutsD cs, .int .i64 a, .int .i64 b] [] (.tup [.agg [.ref 0 0 cs.length, .int .i64 (cutAB a b).a, .int .i64 (cutAB a b).b, .int .i64 (posC (fun x => ordC x (cutAB a b)) cs), .bool (decide (cutAB a b ∈ cs))], .bool true]) [⟨cs.map Cut.row, 2, .mut⟩] := by
 obtain ⟨h1, h2, h3, h4⟩ := z0x.1 h
 obtain ⟨k1, k2, k3⟩ := zxl.1 h1
 have hc := z7y h2 h3 h4
 have c1 := zsh cs hl
 have c2 := zat a
 have c3 := zat b
 have c4 := zxi cs 162 (cutAB a b) (fun x => ordC x (cutAB a b)) (fun x _ => zry x (cutAB a b)) hl (z62 hc k1 k2)
 have c5 := zuc (cs.map Cut.row) (by intro r hr; obtain ⟨a, _, rfl⟩ := List.mem_map.1 hr; exact ⟨rfl, rfl⟩) (by simp; omega)
 rw [qb3 hc k1 k2] at c4
 rw [h1] at c1
 rw [h2] at c2
 rw [h3] at c3
 simp only [cutsD, List.length_map] at c1 c4 c5
 have e1 : (cutAB a b).a = min a b := rfl
 have e2 : (cutAB a b).b = max a b := rfl
 rw [e1, e2] at c4
 rw [e1, e2]
 generalize posC (fun x => ordC x (cutAB a b)) cs = p at *
 generalize decide (cutAB a b ∈ cs) = A at *
 clear e1 e2 hc k1 k2 h h1 h2 h3
 refine zaj [44] [] zk0 ?_
 simp -implicitDefEqProofs [zka, cutsD]
 repeat' ((first | refine zaa (by first | exact c1 | exact c2 | exact c3) ?_ | ((with_reducible first | refine zak ?_ ?_ | refine zah ?_ ?_ | refine zad ?_ ?_ | refine zae ?_ ?_) <;> intro _) | ((with_reducible first | refine zan ?_ ?_ | refine zap ?_ ?_ | refine zal ?_ ?_ | refine zac ?_ ?_ | refine zai ?_ ?_ | refine zao ?_ ?_ | refine zaf ?_ ?_ | refine zab ?_ ?_) <;> intro hq <;> (try simp at hq)) | refine zag (by omega) ?_ | refine zam (by omega) ?_) <;> simp -implicitDefEqProofs [*, h4])
 simp -implicitDefEqProofs [minL, minF, z9r, qad, z63]
 refine zaa c4 ?_
 simp -implicitDefEqProofs
 refine zaa c5 ?_
 simp -implicitDefEqProofs [downTo]
theorem zsm (cs : List Cut) (a b : Int) (hl : cs.length ≤ cap) : Den PP 153 [cutsD cs, .int .i64 a, .int .i64 b] [] (.tup [.bool (isC cs a b).1, .int .i64 (isC cs a b).2]) [] := by
 cases h : askMay cs a b with
 | false =>
   have c1 := zwu cs a b hl h
   rw [show isC cs a b = (false, 1500) by simp [isC, h]]
   simp only [cutsD] at c1
   refine zaj [] [] zra ?_
   simp -implicitDefEqProofs [zo5, cutsD]
   refine zaa c1 ?_
   simp -implicitDefEqProofs [downTo]
 | true =>
   have c1 := z8e cs a b hl h
   rw [show isC cs a b = (decide (cutAB a b ∈ cs), 0) by simp [isC, h]]
   generalize decide (cutAB a b ∈ cs) = A at *
   generalize posC (fun x => ordC x (cutAB a b)) cs = p at *
   generalize cutAB a b = c at *
   simp only [cutsD] at c1
   refine zaj [] [] zra ?_
   simp -implicitDefEqProofs [zo5, cutsD]
   refine zaa c1 ?_
   simp -implicitDefEqProofs [downTo]
end Go.AM
