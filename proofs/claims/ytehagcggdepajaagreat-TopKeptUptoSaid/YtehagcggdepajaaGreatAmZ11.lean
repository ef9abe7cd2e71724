/- What the proof of this claim stands on, part 11. -/
import Derived.Test.YtehagcggdepajaaGreatAmZ10
set_option linter.unusedVariables false
set_option linter.unusedSimpArgs false
set_option maxRecDepth 8000
set_option maxHeartbeats 0
/- AM: contracts: the library's functions over slices. -/
namespace Go.AM
theorem zqn (rows : List (List D)) (hf : Fits 1 rows) (hl : rows.length * 8 ≤ 140737488355328) : Den PP 184 [.sl rows rows.length] [] (.ref 0 0 rows.length) [⟨rows, 1, .mut⟩] := by
 cases hr : rows with
 | nil =>
   refine zs1 (pre := []) (post := []) ?_ ?_
   ·refine zak [] [] zel ?_
    simp -implicitDefEqProofs [zdq]
   ·refine zak [] [] zel ?_
    simp -implicitDefEqProofs [zdq, Fits]
 | cons r rs =>
   rw [hr] at hf hl
   have h63 : (r :: rs).length ≤ 9223372036854775807 := by omega
   have hlen : 0 < (r :: rs).length := by simp
   generalize hn : (r :: rs).length = n at *
   generalize r :: rs = rows at *
   refine zak [] [] zel ?_
   simp -implicitDefEqProofs [zdq, hlen, List.take_of_length_le (Nat.le_of_eq hn), hf, hn, hl, h63]
theorem z7l (rows : List (List D)) (v : List D) (at_ : Nat) (hf : Fits 1 rows) (hst : StillR rows) (hv : Fits 1 [v]) (hvs : ∀ d ∈ v, d.still = true) (hat : at_ ≤ rows.length) (hl : rows.length ≤ 1000000) :
 zgz (DenF PP [0]) 186 rows 1 [.int .i64 at_, .sl [v] 1] (insL rows at_ v) := by
 refine zre (fun r hr => (hf r hr).1) hst fun fl hfl hrow hfs htake hget => ?_
 have hv1 : v.length = 1 := (hv v (by simp)).1
 obtain ⟨c0, cs0, hvv⟩ : ∃ c0 cs0, v = c0 :: cs0 := by
  cases v with
  | nil => simp at hv1
  | cons a b => exact ⟨a, b, rfl⟩
 have hvS : StillR [v] := by intro r hr; rw [List.mem_singleton.1 hr]; exact hvs
 generalize hn : rows.length = n at *
 have w1 : IntKind.wrap .i64 ((n : Int) + 1) = n + 1 := zaw (by omega) (by omega)
 have w2 : IntKind.wrap .i64 ((at_ : Int) + 1) = at_ + 1 := zaw (by omega) (by omega)
 have w3 : IntKind.wrap .i64 ((n : Int) + 1 - at_) = ((n + 1 - at_ : Nat) : Int) := by rw [zaw (by omega) (by omega)]; omega
 by_cases h1 : at_ = n
 ·subst h1
  by_cases h2 : at_ + 1 ≤ fl.length
  ·refine ⟨.ref 0 0 (at_ + 1), [⟨ovr fl at_ [v], 1, .mut⟩], ?_, ?_⟩
   ·refine zf7 [] [66] [] [221] (by simp) z0b zc8 ?_
    simp -implicitDefEqProofs [-zax, zco]
    refine zbk (at_) (at_) ?_
    simp -implicitDefEqProofs [-zax, hv]
    repeat' (first | (refine zag (by omega) ?_) | (refine zcw (by omega) ?_))
    simp -implicitDefEqProofs [-zax, hv, h2]
    rw [zeu (by omega) (by simpa using ((hfs.take _).append hvS).append (hfs.drop _))]
    simp [ovr]
   ·exact zcx rfl rfl rfl (by rw [za6 (by simpa using h2)]; omega) (zwc hn h2 htake) (.inl rfl)
  ·have h3 : fl.length = at_ := by omega
   refine ⟨.ref 1 0 (at_ + 1), [⟨fl, 1, .mut⟩, ⟨fl.take at_ ++ [v], 1, .mut⟩], ?_, ?_⟩
   ·refine zf7 [] [66] [] [221] (by simp) z0b zc8 ?_
    simp -implicitDefEqProofs [-zax, zco]
    by_cases h0 : at_ = 0
    ·refine zbk (at_) (at_) ?_
     simp -implicitDefEqProofs [-zax, hv, h3]
     repeat' (first | (refine zag (by omega) ?_) | (refine zcw (by omega) ?_))
     simp -implicitDefEqProofs [-zax, hv, h3]
     rw [zgq (by omega) rfl rfl (by simpa using hfs)]
     rfl
    ·refine ztw (at_) ?_
     simp -implicitDefEqProofs [-zax, hv, h3]
     repeat' (first | (refine zag (by omega) ?_) | (refine zcw (by omega) ?_))
     simp -implicitDefEqProofs [-zax, hv, h3]
     rw [zgq (by omega) rfl rfl (by simpa using hfs)]
     rfl
   ·exact zcx rfl rfl rfl (by simp; omega) (zv3 hn htake) (.inr (by omega))
 ·have hlt : at_ < n := by omega
  have hT1 : ∀ X : List (List D), List.take (n - at_) (List.take (n + 1 - at_) X) = List.take (n - at_) X := by
   intro X
   rw [List.take_take]
   congr 1
   omega
  have hfit : Fits 1 (List.take (n - at_) (List.drop at_ fl)) := by
   intro r hr
   rw [← List.drop_take, htake] at hr
   exact hf r (List.mem_of_mem_drop hr)
  have hrr : ∀ m, ∀ r ∈ List.take m (List.drop at_ fl), r.length = 1 := fun m r hr => hrow r (List.mem_of_mem_drop (List.mem_of_mem_take hr))
  have hT3 : ∀ X : List (List D), List.take (n - at_) (List.take (n - at_) X) = List.take (n - at_) X := by intro X; rw [List.take_take]; congr 1; omega
  have hT2 : List.take (n + 1 - at_) [v] = [v] := List.take_of_length_le (by simp; omega)
  have hap : ∀ (fl' : List (List D)) (bs : List Blk) (o l : Nat), ztj (⟨fl', 1, .mut⟩ :: bs) [.sl [v] 1, .ref 0 o l] = true := by
   intro _ _ _ _
   rw [hvv]
   rfl
  have hyl : (List.take (n - at_) (List.drop at_ fl)).length = n - at_ := by simp; omega
  have hne : ¬ (at_ : Int) = n := by omega
  by_cases h2 : n + 1 ≤ fl.length
  ·have h2' : ¬ ((fl.length : Int) < (n : Int) + 1) := by omega
   refine ⟨.ref 0 0 (n + 1), [⟨ovr (ovr fl (at_ + 1) ((fl.drop at_).take (n - at_))) at_ [v], 1, .mut⟩], ?_, ?_⟩
   ·refine zf7 [] [66] [] [221] (by simp) z0b zc8 ?_
    simp -implicitDefEqProofs [-zax, zco]
    refine zbk (at_) (n) ?_
    simp -implicitDefEqProofs [-zax, hv, h1, hne, w1, w2, h2']
    refine zbk (0) (n + 1) ?_
    simp -implicitDefEqProofs [-zax, hv, h1, hne, w1, w2, h2']
    refine zbk (at_ + 1) (n + 1) ?_
    simp -implicitDefEqProofs [-zax, hv, h1, hne, w1, w2, h2', hap]
    refine zbk (at_ + 1) (n + 1) ?_
    simp -implicitDefEqProofs [-zax, hv, h1, hne, w1, w2, h2']
    refine zbk (at_) (n + 1) ?_
    simp -implicitDefEqProofs [-zax, hv, h1, hne, w1, w2, h2', hT1, hfit]
    refine ⟨hrr _, ?_⟩
    try refine zem (by first | omega | (simp; done) | (simp; omega)) ?_
    have hB1 := za6 (rows := fl) (p := at_ + 1) (ys := List.take (n - at_) (List.drop at_ fl)) (by omega)
    have hBS := hfs.ovr ((hfs.drop at_).take (n - at_)) (at_ + 1)
    generalize hB : ovr fl (at_ + 1) (List.take (n - at_) (List.drop at_ fl)) = B at *
    simp -implicitDefEqProofs [-zax, hv, h1, hne, w1, w2, h2']
    refine zbk (at_) (n + 1) ?_
    simp -implicitDefEqProofs [-zax, hv, h1, hne, w1, w2, h2', hv1, hT2]
    try refine zem (by first | omega | (simp; done) | (simp; omega)) ?_
    simp -implicitDefEqProofs [-zax, hv, h1, hne, w1, w2, h2']
    rw [zeu (by omega) (by simpa using hBS.ovr hvS at_)]
    rfl
   ·exact zcx rfl rfl rfl (by show 0 + (n + 1) ≤ (ovr (ovr fl (at_ + 1) _) at_ [v]).length; rw [za6 (by rw [za6 (by omega)]; simp; omega), za6 (by omega)]; omega) (zvq hn hlt h2 htake) (.inl rfl)
  ·have h3 : fl.length = n := by omega
   have h3' : (n : Int) < (n : Int) + 1 := by omega
   refine ⟨.ref 1 0 (n + 1), [⟨fl, 1, .mut⟩, ⟨ovr (ovr (fl.take at_ ++ List.replicate (n + 1 - at_) (TT 3).zero) at_ [v]) (at_ + 1) ((fl.drop at_).take (n - at_)), 1, .mut⟩], ?_, ?_⟩
   ·refine zf7 [] [66] [] [221] (by simp) z0b zc8 ?_
    simp -implicitDefEqProofs [-zax, zco]
    refine zbk (at_) (n) ?_
    simp -implicitDefEqProofs [-zax, hv, h1, hne, w1, w2, h3, h3']
    refine zbk (0) (at_) ?_
    simp -implicitDefEqProofs [-zax, hv, h1, hne, w1, w2, w3, h3, h3']
    refine zz3 (by omega) ?_
    have e1 : at_ + (n + 1 - at_) = n + 1 := by omega
    simp -implicitDefEqProofs [-zax, hv, h1, hne, w1, w2, w3, h3, h3', e1]
    repeat' (first | (refine zag (by omega) ?_) | (refine zcw (by omega) ?_))
    simp -implicitDefEqProofs [-zax, hv, h1, hne, w1, w2, w3, h3, h3', e1]
    have hA1 : (List.take at_ fl ++ List.replicate (n + 1 - at_) [D.int IntKind.i64 0]).length = n + 1 := by simp; omega
    generalize hA : List.take at_ fl ++ List.replicate (n + 1 - at_) [D.int IntKind.i64 0] = A at *
    refine zbk (at_) (n + 1) ?_
    simp -implicitDefEqProofs [-zax, hv, h1, hne, w1, w2, h3, hv1, hT2]
    try refine zem (by first | omega | (simp; done) | (simp; omega)) ?_
    have hB1 := za6 (rows := A) (p := at_) (ys := [v]) (by simp; omega)
    generalize hB : ovr A at_ [v] = B at *
    simp -implicitDefEqProofs [-zax, hv, h1, hne, w1, w2, h3]
    refine zbk (at_ + 1) (n + 1) ?_
    simp -implicitDefEqProofs [-zax, hv, h1, hne, w1, w2, h3]
    refine zbk (at_) (n) ?_
    simp -implicitDefEqProofs [-zax, hv, h1, hne, w1, w2, h3, hfit, hT3]
    refine ⟨hrr _, ?_⟩
    try refine zem (by first | omega | (simp; done) | (simp; omega)) ?_
    try simp -implicitDefEqProofs [-zax, hv, h1, hne, w1, w2, h3]
    rw [zgq (by omega) rfl rfl (by simpa using hfs)]
    simp [hA, hB]
   ·exact zcx rfl rfl rfl (by
     have hA1 : (List.take at_ fl ++ List.replicate (n + 1 - at_) (TT 3).zero).length = n + 1 := by simp; omega
     show 0 + (n + 1) ≤ (ovr (ovr _ at_ [v]) (at_ + 1) _).length
     rw [za6 (by rw [za6 (by rw [hA1]; simp; omega), hA1]; omega), za6 (by rw [hA1]; simp; omega), hA1]; omega) (zvc hn hlt h3 htake) (.inr (by omega))
theorem zxr (rows : List (List D)) (hf : Fits 2 rows) (hl : rows.length * 16 ≤ 140737488355328) : Den PP 183 [.sl rows rows.length] [] (.ref 0 0 rows.length) [⟨rows, 2, .mut⟩] := by
 cases hr : rows with
 | nil =>
   refine zs1 (pre := []) (post := []) ?_ ?_
   ·refine zak [] [] zcn ?_
    simp -implicitDefEqProofs [zby]
   ·refine zak [] [] zcn ?_
    simp -implicitDefEqProofs [zby, Fits]
 | cons r rs =>
   rw [hr] at hf hl
   have h63 : (r :: rs).length ≤ 9223372036854775807 := by omega
   have hlen : 0 < (r :: rs).length := by simp
   generalize hn : (r :: rs).length = n at *
   generalize r :: rs = rows at *
   refine zak [] [] zcn ?_
   simp -implicitDefEqProofs [zby, hlen, List.take_of_length_le (Nat.le_of_eq hn), hf, hn, hl, h63]
theorem zp3 (rows : List (List D)) (v : List D) (at_ : Nat) (hf : Fits 2 rows) (hst : StillR rows) (hv : Fits 2 [v]) (hvs : ∀ d ∈ v, d.still = true) (hat : at_ ≤ rows.length) (hl : rows.length ≤ 1000000) :
 zgz (DenF PP [0]) 226 rows 2 [.int .i64 at_, .sl [v] 1] (insL rows at_ v) := by
 refine zre (fun r hr => (hf r hr).1) hst fun fl hfl hrow hfs htake hget => ?_
 have hv1 : v.length = 2 := (hv v (by simp)).1
 obtain ⟨c0, cs0, hvv⟩ : ∃ c0 cs0, v = c0 :: cs0 := by
  cases v with
  | nil => simp at hv1
  | cons a b => exact ⟨a, b, rfl⟩
 have hvS : StillR [v] := by intro r hr; rw [List.mem_singleton.1 hr]; exact hvs
 generalize hn : rows.length = n at *
 have w1 : IntKind.wrap .i64 ((n : Int) + 1) = n + 1 := zaw (by omega) (by omega)
 have w2 : IntKind.wrap .i64 ((at_ : Int) + 1) = at_ + 1 := zaw (by omega) (by omega)
 have w3 : IntKind.wrap .i64 ((n : Int) + 1 - at_) = ((n + 1 - at_ : Nat) : Int) := by rw [zaw (by omega) (by omega)]; omega
 by_cases h1 : at_ = n
 ·subst h1
  by_cases h2 : at_ + 1 ≤ fl.length
  ·refine ⟨.ref 0 0 (at_ + 1), [⟨ovr fl at_ [v], 2, .mut⟩], ?_, ?_⟩
   ·refine zf7 [] [66] [] [241] (by simp) z0f zbq ?_
    simp -implicitDefEqProofs [-zax, zbh]
    refine zbk (at_) (at_) ?_
    simp -implicitDefEqProofs [-zax, hv]
    repeat' (first | (refine zag (by omega) ?_) | (refine zcw (by omega) ?_))
    simp -implicitDefEqProofs [-zax, hv, h2]
    rw [zeu (by omega) (by simpa using ((hfs.take _).append hvS).append (hfs.drop _))]
    simp [ovr]
   ·exact zcx rfl rfl rfl (by rw [za6 (by simpa using h2)]; omega) (zwc hn h2 htake) (.inl rfl)
  ·have h3 : fl.length = at_ := by omega
   refine ⟨.ref 1 0 (at_ + 1), [⟨fl, 2, .mut⟩, ⟨fl.take at_ ++ [v], 2, .mut⟩], ?_, ?_⟩
   ·refine zf7 [] [66] [] [241] (by simp) z0f zbq ?_
    simp -implicitDefEqProofs [-zax, zbh]
    by_cases h0 : at_ = 0
    ·refine zbk (at_) (at_) ?_
     simp -implicitDefEqProofs [-zax, hv, h3]
     repeat' (first | (refine zag (by omega) ?_) | (refine zcw (by omega) ?_))
     simp -implicitDefEqProofs [-zax, hv, h3]
     rw [zgq (by omega) rfl rfl (by simpa using hfs)]
     rfl
    ·refine ztw (at_) ?_
     simp -implicitDefEqProofs [-zax, hv, h3]
     repeat' (first | (refine zag (by omega) ?_) | (refine zcw (by omega) ?_))
     simp -implicitDefEqProofs [-zax, hv, h3]
     rw [zgq (by omega) rfl rfl (by simpa using hfs)]
     rfl
   ·exact zcx rfl rfl rfl (by simp; omega) (zv3 hn htake) (.inr (by omega))
 ·have hlt : at_ < n := by omega
  have hT1 : ∀ X : List (List D), List.take (n - at_) (List.take (n + 1 - at_) X) = List.take (n - at_) X := by
   intro X
   rw [List.take_take]
   congr 1
   omega
  have hfit : Fits 2 (List.take (n - at_) (List.drop at_ fl)) := by
   intro r hr
   rw [← List.drop_take, htake] at hr
   exact hf r (List.mem_of_mem_drop hr)
  have hrr : ∀ m, ∀ r ∈ List.take m (List.drop at_ fl), r.length = 2 := fun m r hr => hrow r (List.mem_of_mem_drop (List.mem_of_mem_take hr))
  have hT3 : ∀ X : List (List D), List.take (n - at_) (List.take (n - at_) X) = List.take (n - at_) X := by intro X; rw [List.take_take]; congr 1; omega
  have hT2 : List.take (n + 1 - at_) [v] = [v] := List.take_of_length_le (by simp; omega)
  have hap : ∀ (fl' : List (List D)) (bs : List Blk) (o l : Nat), ztj (⟨fl', 2, .mut⟩ :: bs) [.sl [v] 1, .ref 0 o l] = true := by
   intro _ _ _ _
   rw [hvv]
   rfl
  have hyl : (List.take (n - at_) (List.drop at_ fl)).length = n - at_ := by simp; omega
  have hne : ¬ (at_ : Int) = n := by omega
  by_cases h2 : n + 1 ≤ fl.length
  ·have h2' : ¬ ((fl.length : Int) < (n : Int) + 1) := by omega
   refine ⟨.ref 0 0 (n + 1), [⟨ovr (ovr fl (at_ + 1) ((fl.drop at_).take (n - at_))) at_ [v], 2, .mut⟩], ?_, ?_⟩
   ·refine zf7 [] [66] [] [241] (by simp) z0f zbq ?_
    simp -implicitDefEqProofs [-zax, zbh]
    refine zbk (at_) (n) ?_
    simp -implicitDefEqProofs [-zax, hv, h1, hne, w1, w2, h2']
    refine zbk (0) (n + 1) ?_
    simp -implicitDefEqProofs [-zax, hv, h1, hne, w1, w2, h2']
    refine zbk (at_ + 1) (n + 1) ?_
    simp -implicitDefEqProofs [-zax, hv, h1, hne, w1, w2, h2', hap]
    refine zbk (at_ + 1) (n + 1) ?_
    simp -implicitDefEqProofs [-zax, hv, h1, hne, w1, w2, h2']
    refine zbk (at_) (n + 1) ?_
    simp -implicitDefEqProofs [-zax, hv, h1, hne, w1, w2, h2', hT1, hfit]
    refine ⟨hrr _, ?_⟩
    try refine zem (by first | omega | (simp; done) | (simp; omega)) ?_
    have hB1 := za6 (rows := fl) (p := at_ + 1) (ys := List.take (n - at_) (List.drop at_ fl)) (by omega)
    have hBS := hfs.ovr ((hfs.drop at_).take (n - at_)) (at_ + 1)
    generalize hB : ovr fl (at_ + 1) (List.take (n - at_) (List.drop at_ fl)) = B at *
    simp -implicitDefEqProofs [-zax, hv, h1, hne, w1, w2, h2']
    refine zbk (at_) (n + 1) ?_
    simp -implicitDefEqProofs [-zax, hv, h1, hne, w1, w2, h2', hv1, hT2]
    try refine zem (by first | omega | (simp; done) | (simp; omega)) ?_
    simp -implicitDefEqProofs [-zax, hv, h1, hne, w1, w2, h2']
    rw [zeu (by omega) (by simpa using hBS.ovr hvS at_)]
    rfl
   ·exact zcx rfl rfl rfl (by show 0 + (n + 1) ≤ (ovr (ovr fl (at_ + 1) _) at_ [v]).length; rw [za6 (by rw [za6 (by omega)]; simp; omega), za6 (by omega)]; omega) (zvq hn hlt h2 htake) (.inl rfl)
  ·have h3 : fl.length = n := by omega
   have h3' : (n : Int) < (n : Int) + 1 := by omega
   refine ⟨.ref 1 0 (n + 1), [⟨fl, 2, .mut⟩, ⟨ovr (ovr (fl.take at_ ++ List.replicate (n + 1 - at_) (TT 204).zero) at_ [v]) (at_ + 1) ((fl.drop at_).take (n - at_)), 2, .mut⟩], ?_, ?_⟩
   ·refine zf7 [] [66] [] [241] (by simp) z0f zbq ?_
    simp -implicitDefEqProofs [-zax, zbh]
    refine zbk (at_) (n) ?_
    simp -implicitDefEqProofs [-zax, hv, h1, hne, w1, w2, h3, h3']
    refine zbk (0) (at_) ?_
    simp -implicitDefEqProofs [-zax, hv, h1, hne, w1, w2, w3, h3, h3']
    refine zz3 (by omega) ?_
    have e1 : at_ + (n + 1 - at_) = n + 1 := by omega
    simp -implicitDefEqProofs [-zax, hv, h1, hne, w1, w2, w3, h3, h3', e1]
    repeat' (first | (refine zag (by omega) ?_) | (refine zcw (by omega) ?_))
    simp -implicitDefEqProofs [-zax, hv, h1, hne, w1, w2, w3, h3, h3', e1]
    have hA1 : (List.take at_ fl ++ List.replicate (n + 1 - at_) [D.int IntKind.i64 0, D.int IntKind.i64 0]).length = n + 1 := by simp; omega
    generalize hA : List.take at_ fl ++ List.replicate (n + 1 - at_) [D.int IntKind.i64 0, D.int IntKind.i64 0] = A at *
    refine zbk (at_) (n + 1) ?_
    simp -implicitDefEqProofs [-zax, hv, h1, hne, w1, w2, h3, hv1, hT2]
    try refine zem (by first | omega | (simp; done) | (simp; omega)) ?_
    have hB1 := za6 (rows := A) (p := at_) (ys := [v]) (by simp; omega)
    generalize hB : ovr A at_ [v] = B at *
    simp -implicitDefEqProofs [-zax, hv, h1, hne, w1, w2, h3]
    refine zbk (at_ + 1) (n + 1) ?_
    simp -implicitDefEqProofs [-zax, hv, h1, hne, w1, w2, h3]
    refine zbk (at_) (n) ?_
    simp -implicitDefEqProofs [-zax, hv, h1, hne, w1, w2, h3, hfit, hT3]
    refine ⟨hrr _, ?_⟩
    try refine zem (by first | omega | (simp; done) | (simp; omega)) ?_
    try simp -implicitDefEqProofs [-zax, hv, h1, hne, w1, w2, h3]
    rw [zgq (by omega) rfl rfl (by simpa using hfs)]
    simp [hA, hB]
   ·exact zcx rfl rfl rfl (by
     have hA1 : (List.take at_ fl ++ List.replicate (n + 1 - at_) (TT 204).zero).length = n + 1 := by simp; omega
     show 0 + (n + 1) ≤ (ovr (ovr _ at_ [v]) (at_ + 1) _).length
     rw [za6 (by rw [za6 (by rw [hA1]; simp; omega), hA1]; omega), za6 (by rw [hA1]; simp; omega), hA1]; omega) (zvc hn hlt h3 htake) (.inr (by omega))
theorem zw7 (rows : List (List D)) (hf : Fits 5 rows) (hl : rows.length * 40 ≤ 140737488355328) : Den PP 124 [.sl rows rows.length] [] (.ref 0 0 rows.length) [⟨rows, 5, .mut⟩] := by
 cases hr : rows with
 | nil =>
   refine zs1 (pre := []) (post := []) ?_ ?_
   ·refine zak [] [] zcm ?_
    simp -implicitDefEqProofs [zb0]
   ·refine zak [] [] zcm ?_
    simp -implicitDefEqProofs [zb0, Fits]
 | cons r rs =>
   rw [hr] at hf hl
   have h63 : (r :: rs).length ≤ 9223372036854775807 := by omega
   have hlen : 0 < (r :: rs).length := by simp
   generalize hn : (r :: rs).length = n at *
   generalize r :: rs = rows at *
   refine zak [] [] zcm ?_
   simp -implicitDefEqProofs [zb0, hlen, List.take_of_length_le (Nat.le_of_eq hn), hf, hn, hl, h63]
theorem z40 (rows : List (List D)) (v : List D) (at_ : Nat) (hf : Fits 5 rows) (hst : StillR rows) (hv : Fits 5 [v]) (hvs : ∀ d ∈ v, d.still = true) (hat : at_ ≤ rows.length) (hl : rows.length ≤ 1000000) :
 zgz (DenF PP [0]) 128 rows 5 [.int .i64 at_, .sl [v] 1] (insL rows at_ v) := by
 refine zre (fun r hr => (hf r hr).1) hst fun fl hfl hrow hfs htake hget => ?_
 have hv1 : v.length = 5 := (hv v (by simp)).1
 obtain ⟨c0, cs0, hvv⟩ : ∃ c0 cs0, v = c0 :: cs0 := by
  cases v with
  | nil => simp at hv1
  | cons a b => exact ⟨a, b, rfl⟩
 have hvS : StillR [v] := by intro r hr; rw [List.mem_singleton.1 hr]; exact hvs
 generalize hn : rows.length = n at *
 have w1 : IntKind.wrap .i64 ((n : Int) + 1) = n + 1 := zaw (by omega) (by omega)
 have w2 : IntKind.wrap .i64 ((at_ : Int) + 1) = at_ + 1 := zaw (by omega) (by omega)
 have w3 : IntKind.wrap .i64 ((n : Int) + 1 - at_) = ((n + 1 - at_ : Nat) : Int) := by rw [zaw (by omega) (by omega)]; omega
 by_cases h1 : at_ = n
 ·subst h1
  by_cases h2 : at_ + 1 ≤ fl.length
  ·refine ⟨.ref 0 0 (at_ + 1), [⟨ovr fl at_ [v], 5, .mut⟩], ?_, ?_⟩
   ·refine zf7 [] [66] [] [197] (by simp) z0e zbp ?_
    simp -implicitDefEqProofs [-zax, zbg]
    refine zbk (at_) (at_) ?_
    simp -implicitDefEqProofs [-zax, hv]
    repeat' (first | (refine zag (by omega) ?_) | (refine zcw (by omega) ?_))
    simp -implicitDefEqProofs [-zax, hv, h2]
    rw [zeu (by omega) (by simpa using ((hfs.take _).append hvS).append (hfs.drop _))]
    simp [ovr]
   ·exact zcx rfl rfl rfl (by rw [za6 (by simpa using h2)]; omega) (zwc hn h2 htake) (.inl rfl)
  ·have h3 : fl.length = at_ := by omega
   refine ⟨.ref 1 0 (at_ + 1), [⟨fl, 5, .mut⟩, ⟨fl.take at_ ++ [v], 5, .mut⟩], ?_, ?_⟩
   ·refine zf7 [] [66] [] [197] (by simp) z0e zbp ?_
    simp -implicitDefEqProofs [-zax, zbg]
    by_cases h0 : at_ = 0
    ·refine zbk (at_) (at_) ?_
     simp -implicitDefEqProofs [-zax, hv, h3]
     repeat' (first | (refine zag (by omega) ?_) | (refine zcw (by omega) ?_))
     simp -implicitDefEqProofs [-zax, hv, h3]
     rw [zgq (by omega) rfl rfl (by simpa using hfs)]
     rfl
    ·refine ztw (at_) ?_
     simp -implicitDefEqProofs [-zax, hv, h3]
     repeat' (first | (refine zag (by omega) ?_) | (refine zcw (by omega) ?_))
     simp -implicitDefEqProofs [-zax, hv, h3]
     rw [zgq (by omega) rfl rfl (by simpa using hfs)]
     rfl
   ·exact zcx rfl rfl rfl (by simp; omega) (zv3 hn htake) (.inr (by omega))
 ·have hlt : at_ < n := by omega
  have hT1 : ∀ X : List (List D), List.take (n - at_) (List.take (n + 1 - at_) X) = List.take (n - at_) X := by
   intro X
   rw [List.take_take]
   congr 1
   omega
  have hfit : Fits 5 (List.take (n - at_) (List.drop at_ fl)) := by
   intro r hr
   rw [← List.drop_take, htake] at hr
   exact hf r (List.mem_of_mem_drop hr)
  have hrr : ∀ m, ∀ r ∈ List.take m (List.drop at_ fl), r.length = 5 := fun m r hr => hrow r (List.mem_of_mem_drop (List.mem_of_mem_take hr))
  have hT3 : ∀ X : List (List D), List.take (n - at_) (List.take (n - at_) X) = List.take (n - at_) X := by intro X; rw [List.take_take]; congr 1; omega
  have hT2 : List.take (n + 1 - at_) [v] = [v] := List.take_of_length_le (by simp; omega)
  have hap : ∀ (fl' : List (List D)) (bs : List Blk) (o l : Nat), ztj (⟨fl', 5, .mut⟩ :: bs) [.sl [v] 1, .ref 0 o l] = true := by
   intro _ _ _ _
   rw [hvv]
   rfl
  have hyl : (List.take (n - at_) (List.drop at_ fl)).length = n - at_ := by simp; omega
  have hne : ¬ (at_ : Int) = n := by omega
  by_cases h2 : n + 1 ≤ fl.length
  ·have h2' : ¬ ((fl.length : Int) < (n : Int) + 1) := by omega
   refine ⟨.ref 0 0 (n + 1), [⟨ovr (ovr fl (at_ + 1) ((fl.drop at_).take (n - at_))) at_ [v], 5, .mut⟩], ?_, ?_⟩
   ·refine zf7 [] [66] [] [197] (by simp) z0e zbp ?_
    simp -implicitDefEqProofs [-zax, zbg]
    refine zbk (at_) (n) ?_
    simp -implicitDefEqProofs [-zax, hv, h1, hne, w1, w2, h2']
    refine zbk (0) (n + 1) ?_
    simp -implicitDefEqProofs [-zax, hv, h1, hne, w1, w2, h2']
    refine zbk (at_ + 1) (n + 1) ?_
    simp -implicitDefEqProofs [-zax, hv, h1, hne, w1, w2, h2', hap]
    refine zbk (at_ + 1) (n + 1) ?_
    simp -implicitDefEqProofs [-zax, hv, h1, hne, w1, w2, h2']
    refine zbk (at_) (n + 1) ?_
    simp -implicitDefEqProofs [-zax, hv, h1, hne, w1, w2, h2', hT1, hfit]
    refine ⟨hrr _, ?_⟩
    try refine zem (by first | omega | (simp; done) | (simp; omega)) ?_
    have hB1 := za6 (rows := fl) (p := at_ + 1) (ys := List.take (n - at_) (List.drop at_ fl)) (by omega)
    have hBS := hfs.ovr ((hfs.drop at_).take (n - at_)) (at_ + 1)
    generalize hB : ovr fl (at_ + 1) (List.take (n - at_) (List.drop at_ fl)) = B at *
    simp -implicitDefEqProofs [-zax, hv, h1, hne, w1, w2, h2']
    refine zbk (at_) (n + 1) ?_
    simp -implicitDefEqProofs [-zax, hv, h1, hne, w1, w2, h2', hv1, hT2]
    try refine zem (by first | omega | (simp; done) | (simp; omega)) ?_
    simp -implicitDefEqProofs [-zax, hv, h1, hne, w1, w2, h2']
    rw [zeu (by omega) (by simpa using hBS.ovr hvS at_)]
    rfl
   ·exact zcx rfl rfl rfl (by show 0 + (n + 1) ≤ (ovr (ovr fl (at_ + 1) _) at_ [v]).length; rw [za6 (by rw [za6 (by omega)]; simp; omega), za6 (by omega)]; omega) (zvq hn hlt h2 htake) (.inl rfl)
  ·have h3 : fl.length = n := by omega
   have h3' : (n : Int) < (n : Int) + 1 := by omega
   refine ⟨.ref 1 0 (n + 1), [⟨fl, 5, .mut⟩, ⟨ovr (ovr (fl.take at_ ++ List.replicate (n + 1 - at_) (TT 46).zero) at_ [v]) (at_ + 1) ((fl.drop at_).take (n - at_)), 5, .mut⟩], ?_, ?_⟩
   ·refine zf7 [] [66] [] [197] (by simp) z0e zbp ?_
    simp -implicitDefEqProofs [-zax, zbg]
    refine zbk (at_) (n) ?_
    simp -implicitDefEqProofs [-zax, hv, h1, hne, w1, w2, h3, h3']
    refine zbk (0) (at_) ?_
    simp -implicitDefEqProofs [-zax, hv, h1, hne, w1, w2, w3, h3, h3']
    refine zz3 (by omega) ?_
    have e1 : at_ + (n + 1 - at_) = n + 1 := by omega
    simp -implicitDefEqProofs [-zax, hv, h1, hne, w1, w2, w3, h3, h3', e1]
    repeat' (first | (refine zag (by omega) ?_) | (refine zcw (by omega) ?_))
    simp -implicitDefEqProofs [-zax, hv, h1, hne, w1, w2, w3, h3, h3', e1]
    have hA1 : (List.take at_ fl ++ List.replicate (n + 1 - at_) [D.int IntKind.i64 0, D.int IntKind.i64 0, D.int IntKind.i64 0, D.int IntKind.i64 0, D.bool false]).length = n + 1 := by simp; omega
    generalize hA : List.take at_ fl ++ List.replicate (n + 1 - at_) [D.int IntKind.i64 0, D.int IntKind.i64 0, D.int IntKind.i64 0, D.int IntKind.i64 0, D.bool false] = A at *
    refine zbk (at_) (n + 1) ?_
    simp -implicitDefEqProofs [-zax, hv, h1, hne, w1, w2, h3, hv1, hT2]
    try refine zem (by first | omega | (simp; done) | (simp; omega)) ?_
    have hB1 := za6 (rows := A) (p := at_) (ys := [v]) (by simp; omega)
    generalize hB : ovr A at_ [v] = B at *
    simp -implicitDefEqProofs [-zax, hv, h1, hne, w1, w2, h3]
    refine zbk (at_ + 1) (n + 1) ?_
    simp -implicitDefEqProofs [-zax, hv, h1, hne, w1, w2, h3]
    refine zbk (at_) (n) ?_
    simp -implicitDefEqProofs [-zax, hv, h1, hne, w1, w2, h3, hfit, hT3]
    refine ⟨hrr _, ?_⟩
    try refine zem (by first | omega | (simp; done) | (simp; omega)) ?_
    try simp -implicitDefEqProofs [-zax, hv, h1, hne, w1, w2, h3]
    rw [zgq (by omega) rfl rfl (by simpa using hfs)]
    simp [hA, hB]
   ·exact zcx rfl rfl rfl (by
     have hA1 : (List.take at_ fl ++ List.replicate (n + 1 - at_) (TT 46).zero).length = n + 1 := by simp; omega
     show 0 + (n + 1) ≤ (ovr (ovr _ at_ [v]) (at_ + 1) _).length
     rw [za6 (by rw [za6 (by rw [hA1]; simp; omega), hA1]; omega), za6 (by rw [hA1]; simp; omega), hA1]; omega) (zvc hn hlt h3 htake) (.inr (by omega))
theorem z9p (rows : List (List D)) (hf : Fits 3 rows) (hl : rows.length * 24 ≤ 140737488355328) : Den PP 170 [.sl rows rows.length] [] (.ref 0 0 rows.length) [⟨rows, 3, .mut⟩] := by
 cases hr : rows with
 | nil =>
   refine zs1 (pre := []) (post := []) ?_ ?_
   ·refine zak [] [] zcp ?_
    simp -implicitDefEqProofs [zbz]
   ·refine zak [] [] zcp ?_
    simp -implicitDefEqProofs [zbz, Fits]
 | cons r rs =>
   rw [hr] at hf hl
   have h63 : (r :: rs).length ≤ 9223372036854775807 := by omega
   have hlen : 0 < (r :: rs).length := by simp
   generalize hn : (r :: rs).length = n at *
   generalize r :: rs = rows at *
   refine zak [] [] zcp ?_
   simp -implicitDefEqProofs [zbz, hlen, List.take_of_length_le (Nat.le_of_eq hn), hf, hn, hl, h63]
theorem z1u (rows : List (List D)) (hf : Fits 2 rows) (hl : rows.length * 16 ≤ 140737488355328) : Den PP 145 [.sl rows rows.length] [] (.ref 0 0 rows.length) [⟨rows, 2, .mut⟩] := by
 cases hr : rows with
 | nil =>
   refine zs1 (pre := []) (post := []) ?_ ?_
   ·refine zak [] [] zcv ?_
    simp -implicitDefEqProofs [zb8]
   ·refine zak [] [] zcv ?_
    simp -implicitDefEqProofs [zb8, Fits]
 | cons r rs =>
   rw [hr] at hf hl
   have h63 : (r :: rs).length ≤ 9223372036854775807 := by omega
   have hlen : 0 < (r :: rs).length := by simp
   generalize hn : (r :: rs).length = n at *
   generalize r :: rs = rows at *
   refine zak [] [] zcv ?_
   simp -implicitDefEqProofs [zb8, hlen, List.take_of_length_le (Nat.le_of_eq hn), hf, hn, hl, h63]
theorem qa4 (rows : List (List D)) (hf : Fits 11 rows) (hl : rows.length * 104 ≤ 140737488355328) : Den PP 205 [.sl rows rows.length] [] (.ref 0 0 rows.length) [⟨rows, 11, .mut⟩] := by
 cases hr : rows with
 | nil =>
   refine zs1 (pre := []) (post := []) ?_ ?_
   ·refine zak [] [] zct ?_
    simp -implicitDefEqProofs [zcb]
   ·refine zak [] [] zct ?_
    simp -implicitDefEqProofs [zcb, Fits]
 | cons r rs =>
   rw [hr] at hf hl
   have h63 : (r :: rs).length ≤ 9223372036854775807 := by omega
   have hlen : 0 < (r :: rs).length := by simp
   generalize hn : (r :: rs).length = n at *
   generalize r :: rs = rows at *
   refine zak [] [] zct ?_
   simp -implicitDefEqProofs [zcb, hlen, List.take_of_length_le (Nat.le_of_eq hn), hf, hn, hl, h63]
end Go.AM
/- AM: contracts: a view's ends, a key's owner. -/
namespace Go.AM
theorem zzb (v : View) (hs : v.small) : Den PP 136 [zd6 v, .fn 137 [] []] [] (zng (zn9 v)) [] := by
 refine zak [] [] z4v ?_
 simp -implicitDefEqProofs [zxn, zd6, View.cells, zat, zap]
 refine zaa (zoi v hs) ?_
 simp -implicitDefEqProofs
 refine zaf (fun h => ?_) (fun h => ?_)
 rotate_left
 ·simp -implicitDefEqProofs [h, zn9, zng]
 simp -implicitDefEqProofs [h]
 refine zab (fun h2 => ?_) (fun h2 => ?_)
 ·have h3 : v.peers = [] := by simpa using h2
  simp -implicitDefEqProofs [h, h2, h3, zn9, zng]
 simp -implicitDefEqProofs [h2]
 refine zaa (zrh v hs.1) ?_
 cases hp : v.peers with
 | nil => rw [hp] at h2; simp at h2
 | cons p ps =>
   have hc := z4i p.id (ps.map Peer.id)
   simp [zap] at hc
   simp -implicitDefEqProofs [zar]
   refine zaa hc ?_
   simp -implicitDefEqProofs [h, hp, zn9, zng]

theorem qce (v : View) (hs : v.small) : Den PP 50 [zd6 v] [] (zng (zn9 v)) [] := by
 have hc := zzb v hs
 simp [zd6, View.cells, zat, zap, zng] at hc
 refine zak [] [] z2m ?_
 simp -implicitDefEqProofs [zvj, zd6, View.cells, zat, zap, zng]
 refine zaa hc ?_
 simp -implicitDefEqProofs
end Go.AM
/- AM: contracts: a key's owner. -/
namespace Go.AM
theorem qgf (one : Int) (ids : List Int) (hl : ids.length ≤ cap) : Den PP 138 [.int .i64 one, zap ids] [] (.bool (place one && decide (ids.length ≤ 64) && ids.all place)) [] := by
 have hc := zl4 ids hl
 simp [zap] at hc
 refine zak [] [] z9n ?_
 simp -implicitDefEqProofs [z0z, zap]
 refine zaa (zaz one) ?_
 simp -implicitDefEqProofs
 refine zac (fun h => ?_) (fun h => ?_)
 rotate_left
 ·simp -implicitDefEqProofs [h]
 simp -implicitDefEqProofs [h]
 refine zaj (fun h2 => ?_) (fun h2 => ?_)
 rotate_left
 ·simp -implicitDefEqProofs [h, h2]
  omega
 simp -implicitDefEqProofs [h2]
 refine zaa hc ?_
 simp -implicitDefEqProofs
 intros
 omega
theorem zwl (key_ x : Int) (xs : List Int) (hl : xs.length < cap) : Den PP 223 [zap (x :: xs), .fn 203 [] [.mem [.int .i64 key_]]] [] (.int .i64 (zdv key_ x xs)) [] := by
 refine zak [] [] zka ?_
 have h0 : ¬ ((xs.length : Int) + 1 < 1) := by omega
 simp -implicitDefEqProofs [zgf, zap, h0, irow]
 refine zdm (xs.length + 1) ?_
 have key : ∀ (Q : Ex → St → Prop) (r : Int) (hQ1 : ∀ fr, fr 5 = .int .i64 r → Q .normal ⟨fr, []⟩) (ys : List Int) (hys : ys.length ≤ cap) (rest : List Int) (i : Nat) (m : Int) (fr : Nat → D), ys.drop i = rest → i ≤ ys.length →
  fr 0 = .sl (ys.map irow) ys.length → fr 1 = .fn 203 [] [.mem [.int .i64 key_]] → fr 5 = .int .i64 m → fr 6 = .int .i64 i → zdv key_ m rest = r → zlf (cf 0 [] []) 0 zcq (zdk 0 Q) (rest.length + 1) ⟨fr, []⟩ := by
  intro Q r hQ1 ys hys rest
  induction rest with
  | nil =>
    intro i m fr e hi h0 h1 h5 h6 hm
    refine zbe zcq.eq_1 ?_
    have hi' := zgu e hi
    simp -implicitDefEqProofs [h0, h1, h5, h6, hi']
    exact hQ1 _ (by rw [← hm]; simp [h0, h1, h5, h6, zdv])
  | cons y rest ih =>
    intro i m fr e hi h0 h1 h5 h6 hm
    refine zbe zcq.eq_1 ?_
    obtain ⟨hlt, hget, hd, hlen⟩ := ze1 e
    have hlt' : (i : Int) < ys.length := by omega
    have hw := za5 (n := i) (by unfold cap at hys; omega)
    simp only [zdv] at hm
    simp -implicitDefEqProofs [h0, h1, h5, h6, hlt', hget, irow]
    refine zaa (qe0 key_ y m) ?_
    simp -implicitDefEqProofs [zt1]
    refine zae (fun h2 => ?_) (fun h2 => ?_)
    all_goals simp -implicitDefEqProofs [h2, h0, h1, h5, h6, hw, hlt', hget, irow]
    ·exact ih (i + 1) y _ hd (by omega) (by simp [h0, h1, h5, h6]) (by simp [h0, h1, h5, h6]) (by simp) (by simp) (by rw [← hm, if_pos h2])
    ·exact ih (i + 1) m _ hd (by omega) (by simp [h0, h1, h5, h6]) (by simp [h0, h1, h5, h6]) (by simp [h0, h1, h5, h6]) (by simp) (by rw [← hm, if_neg h2])
 refine key _ (zdv key_ x xs) (fun fr h => ?_) (x :: xs) (by simp; omega) xs 1 x _ rfl (by simp) rfl rfl rfl rfl rfl
 simp -implicitDefEqProofs [h]
theorem qai (ids : List Int) (key : Int) (hl : ids.length ≤ cap) : Den PP 188 [zap ids, .int .i64 key] [] (zng (zfj ids key)) [] := by
 have hc := qgf key ids hl
 simp only [zfj, zng]
 generalize (place key && decide (ids.length ≤ 64) && ids.all place) = b at *
 simp [zap] at hc
 refine zak [] [] z2y ?_
 simp -implicitDefEqProofs [zu4, zap]
 refine zaa hc ?_
 simp -implicitDefEqProofs
 cases b
 ·simp -implicitDefEqProofs
 simp -implicitDefEqProofs
 cases ids with
 | nil => simp -implicitDefEqProofs
 | cons x xs =>
   have hm := zwl key x xs (by simpa [Nat.lt_iff_add_one_le] using hl)
   simp [zap] at hm
   simp -implicitDefEqProofs
   refine zaa (qip key) ?_
   simp -implicitDefEqProofs
   refine zaa hm ?_
   simp -implicitDefEqProofs
theorem zsa (v : View) (key : Int) (hs : v.small) : Den PP 114 [zd6 v, .int .i64 key] [] (zng (zbw v key)) [] := by
 have hc := zoi v hs
 have hi := zrh v hs.1
 simp only [zbw, zng]
 simp [zd6, View.cells, zat, zap] at hc hi
 refine zak [17] [] zyn ?_
 simp -implicitDefEqProofs [ztf, zd6, View.cells, zat, zap]
 refine zaa hc ?_
 simp -implicitDefEqProofs
 refine zac (fun h => ?_) (fun h => ?_)
 rotate_left
 ·simp -implicitDefEqProofs [h]
 simp -implicitDefEqProofs [h]
 refine zaa (zaz key) ?_
 simp -implicitDefEqProofs
 refine zaf (fun h2 => ?_) (fun h2 => ?_)
 rotate_left
 ·simp -implicitDefEqProofs [h, h2]
 simp -implicitDefEqProofs [h, h2]
 refine zaa hi ?_
 have hb1 : (v.peers.length + 1) * 8 ≤ 140737488355328 := by
  have := hs.1
  unfold zbo at this
  omega
 have hb2 : v.peers.length ≤ 9223372036854775806 := by omega
 have ho := qai (v.peers.map Peer.id ++ [v.id]) key (by unfold cap; simp; omega)
 simp [zap, zng, irow] at ho
 simp -implicitDefEqProofs [zar, hb1, hb2, Fits]
 refine zaa ho ?_
 simp -implicitDefEqProofs
end Go.AM
/- AM: contracts: the document's answers about views. -/
namespace Go.AM
theorem zw3 (xs : List Int) (hl : xs.length ≤ cap) : Den PP 213 [zap xs] [] (.bool (zd4 xs)) [] := by
 have hc := zlz xs hl
 simp [zap] at hc
 refine zak [] [] zk9 ?_
 simp -implicitDefEqProofs [zgl, zap]
 refine zdm (xs.length + 1) ?_
 have key : ∀ (Q : Ex → St → Prop) (r : Bool) (hQ1 : ∀ fr, r = true → fr 0 = .sl (xs.map irow) xs.length → Q .normal ⟨fr, []⟩) (hQ2 : ∀ fr bs, r = false → fr 2 = .bool false → Q .ret ⟨fr, bs⟩) (n j : Nat) (fr : Nat → D), xs.length - j ≤ n → 1 ≤ j →
  fr 0 = .sl (xs.map irow) xs.length → fr 3 = .int .i64 j → zrs xs j = r → zlf (cf 0 [] []) 0 zcs (zdk 0 Q) (n + 1) ⟨fr, []⟩ := by
  intro Q r hQ1 hQ2 n
  induction n with
  | zero =>
    intro j fr hn hj h0 h3 hm
    refine zbe zcs.eq_1 ?_
    have hx : ¬ (j < xs.length) := by omega
    simp -implicitDefEqProofs [h0, h3, hx]
    exact hQ1 _ (by rw [← hm]; exact zw8 (List.drop_of_length_le (by omega))) (by simp [h0, h3])
  | succ n ih =>
    intro j fr hn hj h0 h3 hm
    refine zbe zcs.eq_1 ?_
    by_cases hx : j < xs.length
    ·have hlt' : (j : Int) < xs.length := by omega
     have hw := za5 (n := j) (by unfold cap at hl; omega)
     have hwp : IntKind.wrap .i64 ((j : Int) - 1) = ((j - 1 : Nat) : Int) := by unfold cap at hl; rw [zaw (by omega) (by omega)]; omega
     have hlt2 : ((j - 1 : Nat) : Int) < xs.length := by omega
     obtain ⟨x, hxv⟩ : ∃ x, xs[j]? = some x := ⟨xs[j], by simp⟩
     obtain ⟨y, hyv⟩ : ∃ y, xs[j - 1]? = some y := ⟨xs[j - 1], by simp⟩
     rw [z4y hj hyv hxv] at hm
     simp -implicitDefEqProofs [h0, h3, hlt', hwp, hlt2, hxv, hyv, irow]
     refine zae (fun h2 => ?_) (fun h2 => ?_)
     all_goals simp -implicitDefEqProofs [h2, h0, h3, hw]
     ·exact hQ2 _ _ (by rw [← hm]; simp; intros; omega) (by rfl)
     ·exact ih (j + 1) _ (by omega) (by omega) (by simp [h0, h3]) (by simp) (by rw [← hm]; simp [show y < x by omega])
    ·simp -implicitDefEqProofs [h0, h3, hx]
     exact hQ1 _ (by rw [← hm]; exact zw8 (List.drop_of_length_le (by omega))) (by simp [h0, h3])
 refine key _ (incr xs) (fun fr h h0 => ?_) (fun fr bs h h2 => ?_) xs.length 1 _ (by omega) (by omega) rfl rfl (z1c xs)
 ·simp -implicitDefEqProofs [h, h0]
  refine zaa hc ?_
  simp -implicitDefEqProofs
  refine zac (fun h2 => ?_) (fun h2 => ?_)
  all_goals simp -implicitDefEqProofs [h2, h, h0, zd4]
  omega
 ·simp -implicitDefEqProofs [h, h2, zd4]
end Go.AM
/- AM: contracts: the document's peers. -/
namespace Go.AM
theorem z2f (base : Int) (ps : List Peer) (hl : ps.length ≤ cap) : Den PP 212 [.int .i64 base, zat ps] [] (.bool (zf9 base ps)) [] := by
 refine zak [] [] zm5 ?_
 simp -implicitDefEqProofs [zho, zat]
 refine zdm (ps.length + 1) ?_
 have key : ∀ (Q : Ex → St → Prop) (r : Bool) (hQ1 : ∀ fr, r = true → fr 0 = .int .i64 base → fr 1 = .sl (ps.map Peer.row) ps.length → Q .normal ⟨fr, []⟩) (hQ2 : ∀ fr bs, r = false → fr 4 = .bool false → Q .ret ⟨fr, bs⟩) (rest : List Peer) (i : Nat) (fr : Nat → D), ps.drop i = rest → i ≤ ps.length →
  fr 0 = .int .i64 base → fr 1 = .sl (ps.map Peer.row) ps.length → fr 5 = .int .i64 i → zhe base (if i = 0 then none else ps[i - 1]?) rest = r → zlf (cf 0 [] []) 0 zc6 (zdk 0 Q) (rest.length + 1) ⟨fr, []⟩ := by
  intro Q r hQ1 hQ2 rest
  induction rest with
  | nil =>
    intro i fr e hi h0 h1 h5 hm
    refine zbe zc6.eq_1 ?_
    have hi' := zgu e hi
    simp -implicitDefEqProofs [h0, h1, h5, hi']
    exact hQ1 _ hm.symm (by simp [h0, h1, h5]) (by simp [h0, h1, h5])
  | cons p rest ih =>
    intro i fr e hi h0 h1 h5 hm
    refine zbe zc6.eq_1 ?_
    obtain ⟨hlt, hget, hd, hlen⟩ := ze1 e
    have hlt' : (i : Int) < ps.length := by omega
    have hw := za5 (n := i) (by unfold cap at hl; omega)
    have hprev : (if i + 1 = 0 then none else ps[i + 1 - 1]?) = some p := by simp [hget]
    simp only [zhe] at hm
    simp -implicitDefEqProofs [h0, h1, h5, hlt', hget, Peer.row]
    refine zaa (zdj p.id) ?_
    simp -implicitDefEqProofs [h0, h1, h5]
    refine zac (fun g1 => ?_) (fun g1 => ?_)
    rotate_left
    ·simp -implicitDefEqProofs [g1, h0, h1, h5]
     exact hQ2 _ _ (by rw [← hm]; simp [g1]) (by rfl)
    simp -implicitDefEqProofs [g1, h0, h1, h5, hlt', hget, Peer.row]
    refine zal (fun g2 => ?_) (fun g2 => ?_)
    ·simp -implicitDefEqProofs [g2, h0, h1, h5]
     exact hQ2 _ _ (by rw [← hm]; simp at g2; simp [g2]) (by rfl)
    simp -implicitDefEqProofs [g2, h0, h1, h5, hlt', hget, Peer.row]
    refine zah (fun g3 => ?_) (fun g3 => ?_)
    ·simp -implicitDefEqProofs [g3, h0, h1, h5]
     exact hQ2 _ _ (by rw [← hm]; simp; intros; omega) (by rfl)
    simp -implicitDefEqProofs [g3, h0, h1, h5, hlt', hget, Peer.row]
    refine zah (fun g4 => ?_) (fun g4 => ?_)
    ·simp -implicitDefEqProofs [g4, h0, h1, h5]
     exact hQ2 _ _ (by rw [← hm]; simp; intros; omega) (by rfl)
    simp -implicitDefEqProofs [g4, h0, h1, h5, hlt', hget, Peer.row]
    have g2' : decide (p.id ≠ base) = true := by simp at g2; simp [g2]
    rw [g1, g2', decide_eq_true (show 0 ≤ p.missed by omega), decide_eq_true (show p.missed < 3 by omega)] at hm
    by_cases hi0 : i = 0
    ·simp -implicitDefEqProofs [hi0, h0, h1, h5]
     rw [hi0] at hw
     simp -implicitDefEqProofs at hw
     simp -implicitDefEqProofs [hw]
     refine ih 1 _ (by rw [← hd, hi0]) (by omega) (by simp [h0, h1, h5]) (by simp [h0, h1, h5]) (by simp) ?_
     rw [hi0] at hprev hm
     rw [← hm]
     simp at hprev ⊢
     rw [hprev]
    ·have hpos : 0 < i := by omega
     have hwp : IntKind.wrap .i64 ((i : Int) - 1) = ((i - 1 : Nat) : Int) := by unfold cap at hl; rw [zaw (by omega) (by omega)]; omega
     have hlt2 : ((i - 1 : Nat) : Int) < ps.length := by omega
     obtain ⟨q, hq⟩ : ∃ q, ps[i - 1]? = some q := ⟨ps[i - 1], by simp⟩
     rw [if_neg hi0, hq] at hm
     simp -implicitDefEqProofs [hpos, h0, h1, h5, hwp, hlt2, hq, Peer.row]
     refine zaa (z3g base q.id) ?_
     simp -implicitDefEqProofs [h0, h1, h5, hlt', hget, Peer.row]
     refine zaa (z3g base p.id) ?_
     simp -implicitDefEqProofs [h0, h1, h5]
     refine zae (fun h2 => ?_) (fun h2 => ?_)
     all_goals simp -implicitDefEqProofs [h2, h0, h1, h5, hw]
     ·exact hQ2 _ _ (by rw [← hm]; simp; intros; omega) (by rfl)
     ·refine ih (i + 1) _ hd (by omega) (by simp [h0, h1, h5]) (by simp [h0, h1, h5]) (by simp) ?_
      rw [hprev, ← hm]
      simp [show far base q.id < far base p.id by omega]
 refine key _ (zhe base none ps) (fun fr h h0 h1 => ?_) (fun fr bs h h4 => ?_) ps 0 _ rfl (Nat.zero_le _) rfl rfl rfl rfl
 ·simp -implicitDefEqProofs [h, h0, h1]
  refine zaa (zdj base) ?_
  simp -implicitDefEqProofs [h0, h1]
  refine zac (fun h2 => ?_) (fun h2 => ?_)
  all_goals simp -implicitDefEqProofs [h2, h, h0, h1, zf9]
  omega
 ·simp -implicitDefEqProofs [h, h4, zf9]
end Go.AM
/- AM: contracts: the document's answers about views. -/
namespace Go.AM
end Go.AM
/- Plain law: places put in their row, taken out. -/
namespace Go.AM

theorem z91 : ∀ {xs ys : List Int}, xs.Pairwise (· < ·) → ys.Pairwise (· < ·) → (∀ a, a ∈ xs ↔ a ∈ ys) → xs = ys := by
 intro xs
 induction xs with
 | nil =>
   intro ys _ _ h
   cases ys with
   | nil => rfl
   | cons y ys => exact absurd ((h y).2 (by simp)) (by simp)
 | cons x xs ih =>
   intro ys hx hy h
   cases ys with
   | nil => exact absurd ((h x).1 (by simp)) (by simp)
   | cons y ys =>
     rw [List.pairwise_cons] at hx hy
     have hxy : x = y := by
      have h1 := (h x).1 (by simp)
      have h2 := (h y).2 (by simp)
      rcases List.mem_cons.1 h1 with h1 | h1
      ·exact h1
      ·rcases List.mem_cons.1 h2 with h2 | h2
       ·exact h2.symm
       ·have := hy.1 _ h1
        have := hx.1 _ h2
        omega
     subst hxy
     congr 1
     refine ih hx.2 hy.2 fun a => ?_
     have := h a
     simp only [List.mem_cons] at this
     constructor
     ·intro ha
      rcases this.1 (.inr ha) with h' | h'
      ·subst h'; exact absurd (hx.1 _ ha) (by omega)
      ·exact h'
     ·intro ha
      rcases this.2 (.inr ha) with h' | h'
      ·subst h'; exact absurd (hy.1 _ ha) (by omega)
      ·exact h'
theorem qdx : ∀ xs : List Int, incr xs = true ↔ xs.Pairwise (· < ·) := by
 intro xs
 induction xs with
 | nil => simp [incr]
 | cons x xs ih =>
   cases xs with
   | nil => simp [incr]
   | cons y ys =>
     simp only [incr, Bool.and_eq_true, decide_eq_true_eq, ih, List.pairwise_cons, List.mem_cons]
     constructor
     ·rintro ⟨h1, h2, h3⟩
      refine ⟨?_, h2, h3⟩
      rintro a (rfl | ha)
      ·exact h1
      ·have := h2 a ha
       omega
     ·rintro ⟨h1, h2, h3⟩
      exact ⟨h1 y (.inl rfl), h2, h3⟩
theorem zcy (xs : List Int) : zbr xs = true ↔ xs.Pairwise (· < ·) ∧ (∀ x ∈ xs, place x = true) ∧ xs.length ≤ 16 := by
 rw [← zl8]
 simp only [zd4, Bool.and_eq_true, qdx, decide_eq_true_eq, List.all_eq_true]
 constructor
 ·rintro ⟨⟨h1, h2⟩, h3⟩; exact ⟨h1, h2, h3⟩
 ·rintro ⟨h1, h2, h3⟩; exact ⟨⟨h1, h2⟩, h3⟩

def posI (xs : List Int) (id : Int) : Nat := (xs.takeWhile fun x => decide (x < id)).length
theorem qar (xs : List Int) (id : Int) : posI xs id ≤ xs.length := (List.takeWhile_prefix _).length_le
def insU (id : Int) : List Int → List Int
 | [] => [id]
 | x :: xs => if x < id then x :: insU id xs else id :: x :: xs
theorem z27 (id : Int) : ∀ xs : List Int, insL xs (posI xs id) id = insU id xs := by
 intro xs
 induction xs with
 | nil => rfl
 | cons x xs ih =>
   unfold insU
   by_cases h : x < id
   ·rw [if_pos h, ← ih]
    simp [posI, insL, List.takeWhile_cons, h]
   ·rw [if_neg h]
    simp [posI, insL, List.takeWhile_cons, h]
theorem zqj {id a : Int} : ∀ {xs : List Int}, a ∈ insU id xs ↔ a = id ∨ a ∈ xs := by
 intro xs
 induction xs with
 | nil => simp [insU]
 | cons x xs ih =>
   unfold insU
   split
   ·simp only [List.mem_cons, ih]
    constructor
    ·rintro (h | h | h)
     ·exact .inr (.inl h)
     ·exact .inl h
     ·exact .inr (.inr h)
    ·rintro (h | h | h)
     ·exact .inr (.inl h)
     ·exact .inl h
     ·exact .inr (.inr h)
   ·simp
theorem zjg (id : Int) (xs : List Int) : (insU id xs).length = xs.length + 1 := by rw [← z27, zv7]
theorem zv2 {id : Int} : ∀ {xs : List Int}, xs.Pairwise (· < ·) → id ∉ xs → (insU id xs).Pairwise (· < ·) := by
 intro xs
 induction xs with
 | nil => intro _ _; simp [insU]
 | cons x xs ih =>
   intro h hn
   rw [List.pairwise_cons] at h
   simp only [List.mem_cons, not_or] at hn
   unfold insU
   split
   ·rename_i hlt
    rw [List.pairwise_cons]
    refine ⟨fun a ha => ?_, ih h.2 hn.2⟩
    rcases zqj.1 ha with rfl | ha
    ·exact hlt
    ·exact h.1 a ha
   ·rename_i hge
    rw [List.pairwise_cons, List.pairwise_cons]
    refine ⟨?_, h⟩
    intro a ha
    rcases List.mem_cons.1 ha with rfl | ha
    ·omega
    ·have := h.1 a ha
     omega
theorem qc2 {xs : List Int} {id : Int} (i : Nat) (x : Int) (h : i < posI xs id) (hx : xs[i]? = some x) : x < id := by simpa using zqi _ xs i x h hx
theorem zxf {xs : List Int} (h : xs.Pairwise (· < ·)) {i j : Nat} {x y : Int} (hij : i < j) (hx : xs[i]? = some x) (hy : xs[j]? = some y) : x < y := by
 obtain ⟨hi, rfl⟩ := List.getElem?_eq_some_iff.1 hx
 obtain ⟨hj, rfl⟩ := List.getElem?_eq_some_iff.1 hy
 exact List.pairwise_iff_getElem.1 h i j hi hj hij
theorem qb6 {xs : List Int} {id : Int} (h : xs.Pairwise (· < ·)) (i : Nat) (x : Int) (hi : posI xs id ≤ i) (hx : xs[i]? = some x) : id ≤ x := by
 have hlt : posI xs id < xs.length := by
  have := (List.getElem?_eq_some_iff.1 hx).1
  omega
 have hq : xs[posI xs id]? = some xs[posI xs id] := by simp [hlt]
 have h1 := zrk _ xs _ hq
 simp at h1
 rcases Nat.lt_or_ge (posI xs id) i with h2 | h2
 ·have := zxf h h2 hq hx
  omega
 ·have : i = posI xs id := by omega
  subst this
  rw [hq] at hx
  cases hx
  exact h1
theorem z6s {xs : List Int} {id : Int} (h : xs.Pairwise (· < ·)) : xs[posI xs id]? = some id ↔ id ∈ xs := by
 constructor
 ·intro h'
  exact List.mem_of_getElem? h'
 ·intro h'
  obtain ⟨j, hj⟩ := List.getElem?_of_mem h'
  rcases Nat.lt_trichotomy j (posI xs id) with h1 | h1 | h1
  ·have := qc2 j id h1 hj
   omega
  ·rw [← h1]; exact hj
  ·have hlt := (List.getElem?_eq_some_iff.1 hj).1
   have hq : xs[posI xs id]? = some (xs[posI xs id]'(by omega)) := by simp
   have h2 := zxf h h1 hq hj
   have h3 := qb6 h (posI xs id) _ (Nat.le_refl _) hq
   omega

def zqb (xs : List Int) (id : Int) : List Int × Int :=
 if zbr xs && place id then (if id ∈ xs then (xs, 0) else if xs.length = 16 then ([], 801) else (insU id xs, 0)) else ([], 800)
def zj7 (xs : List Int) (id : Int) : List Int × Int := if zbr xs && place id then (xs.filter (fun y => !decide (y = id)), 0) else ([], 800)
theorem zsp {xs : List Int} {p : Int → Bool} (h : zbr xs = true) : zbr (xs.filter p) = true := by
 obtain ⟨h1, h2, h3⟩ := (zcy xs).1 h
 refine (zcy _).2 ⟨h1.filter _, fun x hx => h2 x (List.mem_filter.1 hx).1, Nat.le_trans (List.length_filter_le _ _) h3⟩
theorem zvl {xs : List Int} {id : Int} (h : zbr xs = true) (hp : place id = true) (hn : id ∉ xs) (hl : xs.length ≠ 16) : zbr (insU id xs) = true := by
 obtain ⟨h1, h2, h3⟩ := (zcy xs).1 h
 refine (zcy _).2 ⟨zv2 h1 hn, fun x hx => ?_, by rw [zjg]; omega⟩
 rcases zqj.1 hx with rfl | hx
 ·exact hp
 ·exact h2 x hx
theorem z87 {xs : List Int} {id : Int} (h : id ∉ xs) : xs.filter (fun y => !decide (y = id)) = xs := by
 rw [List.filter_eq_self]
 intro a ha
 simp
 rintro rfl
 exact h ha
theorem z90 {xs : List Int} {id : Int} (h : xs.Pairwise (· < ·)) (hm : id ∈ xs) : xs.length = (xs.filter (fun y => !decide (y = id))).length + 1 := by
 have : xs = insU id (xs.filter (fun y => !decide (y = id))) := by
  refine z91 h (zv2 (h.filter _) (by simp)) fun a => ?_
  rw [zqj, List.mem_filter]
  simp
  constructor
  ·intro ha
   by_cases h' : a = id
   ·exact .inl h'
   ·exact .inr ⟨ha, h'⟩
  ·rintro (rfl | ⟨ha, _⟩)
   ·exact hm
   ·exact ha
 have h2 := congrArg List.length this
 rw [zjg] at h2
 exact h2
theorem qa8 (xs : List Int) (id : Int) : (zqb xs id).1.length ≤ 16 := by
 unfold zqb
 split
 ·rename_i h
  rw [Bool.and_eq_true] at h
  have hl := ((zcy xs).1 h.1).2.2
  split
  ·exact hl
  ·split
   ·simp
   ·rw [zjg]; omega
 ·simp
theorem z8n (p : Int → Bool) : ∀ (xs : List Int) (i : Nat), (fIdx p i xs = -1 ∧ xs.filter (fun x => !p x) = xs) ∨ ∃ f, fIdx p i xs = ((i + f : Nat) : Int) ∧ f < xs.length ∧ (xs.take (f + 1)).filter (fun x => !p x) = xs.take f := by
 intro xs
 induction xs with
 | nil => intro i; exact .inl ⟨rfl, rfl⟩
 | cons x xs ih =>
   intro i
   simp only [fIdx]
   by_cases h : p x = true
   ·right
    exact ⟨0, by simp [h], by simp, by simp [h]⟩
   ·have h' : p x = false := by simpa using h
    rw [if_neg h]
    rcases ih (i + 1) with ⟨h1, h2⟩ | ⟨f, h1, h2, h3⟩
    ·left
     refine ⟨h1, ?_⟩
     rw [List.filter_cons]
     simp [h', h2]
    ·right
     refine ⟨f + 1, by rw [h1]; congr 1; omega, by simpa using h2, ?_⟩
     rw [List.take_succ_cons, List.filter_cons, h3]
     simp [h']
theorem qaj (p : Int → Bool) (xs : List Int) : (fIdx p 0 xs = -1 ∧ xs.filter (fun x => !p x) = xs) ∨ ∃ f : Nat, fIdx p 0 xs = (f : Int) ∧ f < xs.length ∧ (xs.take (f + 1)).filter (fun x => !p x) = xs.take f := by
 rcases z8n p xs 0 with h | ⟨f, h⟩
 ·exact .inl h
 ·exact .inr ⟨f, by simpa using h⟩
end Go.AM
/- Plain law: where a search by a comparison ends; stores by it. -/
namespace Go.AM

def posC {α : Type} (c : α → Int) (xs : List α) : Nat := (xs.takeWhile fun x => decide (c x < 0)).length
def atC {α : Type} (c : α → Int) (xs : List α) : Bool := (xs[posC c xs]?).any fun x => decide (c x = 0)
def zkk {α : Type} (c : α → Int) (xs : List α) : Prop := ∀ (i j : Nat) (x y : α), i ≤ j → xs[i]? = some x → xs[j]? = some y → c y < 0 → c x < 0
theorem zk4 {α : Type} (c : α → Int) (a : α) (xs : List α) : posC c (a :: xs) = if c a < 0 then posC c xs + 1 else 0 := by
 unfold posC
 rw [List.takeWhile_cons]
 by_cases h : c a < 0 <;> simp [h]
theorem qap {α : Type} (c : α → Int) : atC c [] = false := rfl
theorem zzm {α : Type} (c : α → Int) (a : α) (xs : List α) : atC c (a :: xs) = if c a < 0 then atC c xs else decide (c a = 0) := by
 unfold atC
 rw [zk4]
 by_cases h : c a < 0 <;> simp [h]
theorem zyt {α : Type} (c : α → Int) (xs : List α) : posC c xs ≤ xs.length := by
 induction xs with
 | nil => simp [posC]
 | cons a xs ih => rw [zk4]; split <;> simp <;> omega
theorem zy0 {α : Type} (c : α → Int) (xs : List α) : ∀ (i : Nat) (x : α), i < posC c xs → xs[i]? = some x → c x < 0 := by
 induction xs with
 | nil => intro i x h; simp [posC] at h
 | cons a xs ih =>
   intro i x h hx
   rw [zk4] at h
   by_cases ha : c a < 0
   ·rw [if_pos ha] at h
    cases i with
    | zero => simp at hx; subst hx; exact ha
    | succ i => exact ih i x (by omega) (by simpa using hx)
   ·rw [if_neg ha] at h; omega
theorem qa3 {α : Type} (c : α → Int) (xs : List α) : ∀ x, xs[posC c xs]? = some x → 0 ≤ c x := by
 induction xs with
 | nil => intro x h; simp [posC] at h
 | cons a xs ih =>
   intro x hx
   rw [zk4] at hx
   by_cases ha : c a < 0
   ·rw [if_pos ha] at hx
    exact ih x (by simpa using hx)
   ·rw [if_neg ha] at hx
    simp at hx
    subst hx
    omega
theorem z3i {α : Type} {c : α → Int} {xs : List α} (hm : zkk c xs) : ∀ (i : Nat) (x : α), posC c xs ≤ i → xs[i]? = some x → 0 ≤ c x := by
 intro i x hi hx
 apply Classical.byContradiction
 intro hc
 have hlt : posC c xs < xs.length := by
  have := (List.getElem?_eq_some_iff.1 hx).1
  omega
 have h1 : xs[posC c xs]? = some xs[posC c xs] := by simp
 have h2 := hm _ _ _ _ hi h1 hx (by omega)
 have h3 := qa3 c xs _ h1
 omega
theorem ztx {α : Type} {c : α → Int} {xs : List α} (h : atC c xs = true) : posC c xs < xs.length ∧ ∃ x, xs[posC c xs]? = some x ∧ c x = 0 := by
 unfold atC at h
 cases hx : xs[posC c xs]? with
 | none => rw [hx] at h; cases h
 | some x =>
   rw [hx] at h
   exact ⟨(List.getElem?_eq_some_iff.1 hx).1, x, rfl, by simpa using h⟩

def keyC (k : Int) (i : Item) : Int := cmpI i.key k
theorem zut (a b : Int) : cmpI a b < 0 ↔ a < b := by unfold cmpI; split <;> (try split) <;> omega
theorem znx (a b : Int) : cmpI a b = 0 ↔ a = b := by unfold cmpI; split <;> (try split) <;> omega
theorem z3o : ∀ {is : List Item}, zfa is → ∀ (i j : Nat) (x y : Item), i < j → is[i]? = some x → is[j]? = some y → x.key < y.key := by
 intro is
 induction is with
 | nil => intro _ i j x y _ h; simp at h
 | cons a is ih =>
   intro h i j x y hij hx hy
   rw [zc9] at h
   cases j with
   | zero => omega
   | succ j =>
     simp at hy
     cases i with
     | zero =>
       simp at hx
       subst hx
       exact h.1 y (List.mem_of_getElem? hy)
     | succ i => exact ih h.2 i j x y (by omega) (by simpa using hx) hy
theorem z6x {is : List Item} (h : zfa is) (k : Int) : zkk (keyC k) is := by
 intro i j x y hij hx hy hc
 unfold keyC at hc ⊢
 rw [zut] at hc ⊢
 by_cases e : i = j
 ·subst e
  rw [hx] at hy
  cases hy
  exact hc
 ·have := z3o h i j x y (by omega) hx hy
  omega
theorem qa6 : ∀ {is : List Item}, zfa is → ∀ k, getS is k = if atC (keyC k) is then is[posC (keyC k) is]? else none := by
 intro is
 induction is with
 | nil => intro _ k; simp [getS, qap]
 | cons a is ih =>
   intro h k
   rw [zc9] at h
   rw [zfu, zk4, zzm]
   simp only [keyC, zut, znx]
   by_cases h1 : a.key < k
   ·rw [if_neg (by omega), if_pos h1, if_pos h1, ih h.2 k]
    simp [keyC]
   ·by_cases h2 : a.key = k
    ·simp [h1, h2]
    ·simp [h1, h2]
     exact zop h.1 (by omega)
theorem qgu (x : Item) : ∀ (is : List Item), (∀ a, is[posC (keyC x.key) is]? = some a → atC (keyC x.key) is = true → putS x is = is.set (posC (keyC x.key) is) (ze6 a x)) ∧ (atC (keyC x.key) is = false → putS x is = insL is (posC (keyC x.key) is) x) := by
 intro is
 induction is with
 | nil => exact ⟨fun a h => by simp at h, fun _ => by simp [putS, insL, posC]⟩
 | cons b is ih =>
   rw [zk4, zzm]
   simp only [keyC, zut, znx]
   by_cases h1 : b.key < x.key
   ·simp only [if_pos h1]
    have e : putS x (b :: is) = b :: putS x is := by
     unfold putS
     rw [if_neg (by omega), if_neg (by omega)]
     cases is <;> simp [putS]
    rw [e]
    exact ⟨fun a ha ht => by rw [ih.1 a (by simpa using ha) ht]; rfl, fun ht => by rw [ih.2 ht]; simp [insL, keyC]⟩
   ·simp only [if_neg h1]
    by_cases h2 : b.key = x.key
    ·refine ⟨fun a ha _ => ?_, fun ht => by simp [h2] at ht⟩
     simp at ha
     subst ha
     simp [putS, h2]
    ·refine ⟨fun a ha ht => by simp [h2] at ht, fun _ => ?_⟩
     have h3 : x.key < b.key := by omega
     simp [putS, h3, insL]
def getR (is : List Item) (k : Int) : Item × Bool := if zbu is then (match getS is k with | some i => (i, true) | none => (zeroItem, false)) else (zeroItem, false)
end Go.AM
/- AM: contracts: binary search by a comparison. -/
namespace Go.AM
theorem zs7 (xs : List Item) (g : Nat) (key : Int) (c : Item → Int) (hc : ∀ x ∈ xs, Den PP g [.agg x.row, .int .i64 key] [] (.int .i64 (c x)) []) (hl : xs.length ≤ cap) (hr : zkk c xs) :
 Den PP 125 [.sl (xs.map Item.row) xs.length, .int .i64 key, .fn g [] []] [] (.tup [.int .i64 (posC c xs), .bool (atC c xs)]) [] := by
 have hlo := zy0 c xs
 have hhi := z3i hr
 have hat := zyt c xs
 have hac : atC c xs = (xs[posC c xs]?).any fun x => decide (c x = 0) := rfl
 rw [hac]
 clear hac
 generalize posC c xs = at_ at *
 refine zak [] [] zd2 ?_
 simp -implicitDefEqProofs [zcd]
 refine zgj xs.length (fun m ⟨fr, bs⟩ => ∃ lo hi : Nat, bs = [] ∧ hi - lo ≤ m ∧ lo ≤ at_ ∧ at_ ≤ hi ∧ hi ≤ xs.length ∧ fr 0 = .sl (xs.map Item.row) xs.length ∧ fr 1 = .int .i64 key ∧ fr 2 = .fn g [] [] ∧ fr 8 = .int .i64 xs.length ∧ fr 9 = .int .i64 lo ∧ fr 10 = .int .i64 hi)
  (fun ⟨fr, bs⟩ => bs = [] ∧ fr 0 = .sl (xs.map Item.row) xs.length ∧ fr 1 = .int .i64 key ∧ fr 2 = .fn g [] [] ∧ fr 8 = .int .i64 xs.length ∧ fr 9 = .int .i64 at_) (fun _ => False) zb2.eq_1 ?_ ?_ ?_ ?_ ?_
 ·exact ⟨0, xs.length, rfl, by omega, by omega, hat, by omega, rfl, rfl, rfl, rfl, rfl, rfl⟩
 ·rintro ⟨fr, bs⟩ ⟨lo, hi, rfl, h1, h2, h3, h4, h0, h5, h9, h6, h7, h8⟩
  have e1 : lo = at_ := by omega
  have e2 : hi = at_ := by omega
  simp -implicitDefEqProofs [h0, h5, h9, h6, h7, h8, e1, e2]
 ·rintro m ⟨fr, bs⟩ ⟨lo, hi, rfl, h1, h2, h3, h4, h0, h5, h9, h6, h7, h8⟩
  by_cases hlt : lo < hi
  ·have hlt' : (lo : Int) < hi := by omega
   have hm := z21 (lo := lo) (hi := hi) (by omega) (by omega)
   have hml : (lo + hi) / 2 < xs.length := by omega
   have hml' : (((lo + hi) / 2 : Nat) : Int) < xs.length := by omega
   have hw := za5 (n := (lo + hi) / 2) (by unfold cap at hl; omega)
   have hb1 : lo ≤ (lo + hi) / 2 := by omega
   have hb2 : (lo + hi) / 2 < hi := by omega
   generalize (lo + hi) / 2 = mid at *
   obtain ⟨x, hx⟩ : ∃ x, xs[mid] = x := ⟨_, rfl⟩
   have hx' : xs[mid]? = some x := by simp [hml, hx]
   have hcx := hc x (List.mem_of_getElem? hx')
   simp only [Item.row] at hcx
   simp -implicitDefEqProofs [h0, h5, h9, h6, h7, h8, hlt', hlt, hm, hml, hml', hx, Item.row]
   refine zaa hcx ?_
   simp -implicitDefEqProofs
   refine zae (fun hc => ?_) (fun hc => ?_)
   all_goals simp -implicitDefEqProofs [h0, h5, h9, h6, h7, h8, hc, hw]
   ·have : mid < at_ := by
     apply Classical.byContradiction
     intro hx2
     have := hhi mid x (by omega) hx'
     omega
    exact ⟨mid + 1, hi, by omega, by omega, by omega, by omega, by simp, by simp⟩
   ·have : at_ ≤ mid := by
     apply Classical.byContradiction
     intro hx2
     have := hlo mid x (by omega) hx'
     omega
    exact ⟨lo, mid, by omega, by omega, by omega, by omega, by simp, by simp⟩
  ·have e1 : lo = at_ := by omega
   have e2 : hi = at_ := by omega
   simp -implicitDefEqProofs [h0, h5, h9, h6, h7, h8, e1, e2]
 ·rintro ⟨fr, bs⟩ ⟨rfl, h0, h1, h2, h6, h7⟩
  simp -implicitDefEqProofs [h0, h1, h2, h6, h7]
  refine zaj (fun hc2 => ?_) (fun hc2 => ?_)
  ·obtain ⟨x, hx⟩ : ∃ x, xs[at_]'(by omega) = x := ⟨_, rfl⟩
   have hal : at_ < xs.length := by omega
   have hx' : xs[at_]? = some x := by simp [hx, hal]
   have hcx := hc x (List.mem_of_getElem? hx')
   simp only [Item.row] at hcx
   simp -implicitDefEqProofs [h0, h1, h2, h6, h7, hc2, hx, hal, Item.row]
   refine zaa hcx ?_
   simp -implicitDefEqProofs [h0, h1, h2, h6, h7, hc2, hx, hal, hx', Item.row]
  ·have hp : xs[at_]? = none := by rw [List.getElem?_eq_none]; omega
   simp -implicitDefEqProofs [h0, h1, h2, h6, h7, hc2, hp]
 ·rintro ⟨fr, bs⟩ h
  exact h.elim
theorem z33 (xs : List Cut) (g : Nat) (key : Cut) (c : Cut → Int) (hc : ∀ x ∈ xs, Den PP g [.agg x.row, .agg [.int .i64 key.a, .int .i64 key.b]] [] (.int .i64 (c x)) []) (hl : xs.length ≤ cap) (hr : zkk c xs) :
 Den PP 237 [.sl (xs.map Cut.row) xs.length, .agg [.int .i64 key.a, .int .i64 key.b], .fn g [] []] [] (.tup [.int .i64 (posC c xs), .bool (atC c xs)]) [] := by
 have hlo := zy0 c xs
 have hhi := z3i hr
 have hat := zyt c xs
 have hac : atC c xs = (xs[posC c xs]?).any fun x => decide (c x = 0) := rfl
 rw [hac]
 clear hac
 generalize posC c xs = at_ at *
 refine zak [] [] zds ?_
 simp -implicitDefEqProofs [zb6]
 refine zgj xs.length (fun m ⟨fr, bs⟩ => ∃ lo hi : Nat, bs = [⟨[[.int .i64 key.a, .int .i64 key.b]], 2, .box⟩] ∧ hi - lo ≤ m ∧ lo ≤ at_ ∧ at_ ≤ hi ∧ hi ≤ xs.length ∧ fr 0 = .sl (xs.map Cut.row) xs.length ∧ fr 4 = .ptr 0 0 0 ∧ fr 2 = .fn g [] [] ∧ fr 8 = .int .i64 xs.length ∧ fr 9 = .int .i64 lo ∧ fr 10 = .int .i64 hi)
  (fun ⟨fr, bs⟩ => bs = [⟨[[.int .i64 key.a, .int .i64 key.b]], 2, .box⟩] ∧ fr 0 = .sl (xs.map Cut.row) xs.length ∧ fr 4 = .ptr 0 0 0 ∧ fr 2 = .fn g [] [] ∧ fr 8 = .int .i64 xs.length ∧ fr 9 = .int .i64 at_) (fun _ => False) zbv.eq_1 ?_ ?_ ?_ ?_ ?_
 ·exact ⟨0, xs.length, rfl, by omega, by omega, hat, by omega, rfl, rfl, rfl, rfl, rfl, rfl⟩
 ·rintro ⟨fr, bs⟩ ⟨lo, hi, rfl, h1, h2, h3, h4, h0, h5, h9, h6, h7, h8⟩
  have e1 : lo = at_ := by omega
  have e2 : hi = at_ := by omega
  simp -implicitDefEqProofs [h0, h5, h9, h6, h7, h8, e1, e2]
 ·rintro m ⟨fr, bs⟩ ⟨lo, hi, rfl, h1, h2, h3, h4, h0, h5, h9, h6, h7, h8⟩
  by_cases hlt : lo < hi
  ·have hlt' : (lo : Int) < hi := by omega
   have hm := z21 (lo := lo) (hi := hi) (by omega) (by omega)
   have hml : (lo + hi) / 2 < xs.length := by omega
   have hml' : (((lo + hi) / 2 : Nat) : Int) < xs.length := by omega
   have hw := za5 (n := (lo + hi) / 2) (by unfold cap at hl; omega)
   have hb1 : lo ≤ (lo + hi) / 2 := by omega
   have hb2 : (lo + hi) / 2 < hi := by omega
   generalize (lo + hi) / 2 = mid at *
   obtain ⟨x, hx⟩ : ∃ x, xs[mid] = x := ⟨_, rfl⟩
   have hx' : xs[mid]? = some x := by simp [hml, hx]
   have hcx := hc x (List.mem_of_getElem? hx')
   simp only [Cut.row] at hcx
   simp -implicitDefEqProofs [h0, h5, h9, h6, h7, h8, hlt', hlt, hm, hml, hml', hx, Cut.row]
   refine zaa hcx ?_
   simp -implicitDefEqProofs
   refine zae (fun hc => ?_) (fun hc => ?_)
   all_goals simp -implicitDefEqProofs [h0, h5, h9, h6, h7, h8, hc, hw]
   ·have : mid < at_ := by
     apply Classical.byContradiction
     intro hx2
     have := hhi mid x (by omega) hx'
     omega
    exact ⟨mid + 1, hi, by omega, by omega, by omega, by omega, by simp, by simp⟩
   ·have : at_ ≤ mid := by
     apply Classical.byContradiction
     intro hx2
     have := hlo mid x (by omega) hx'
     omega
    exact ⟨lo, mid, by omega, by omega, by omega, by omega, by simp, by simp⟩
  ·have e1 : lo = at_ := by omega
   have e2 : hi = at_ := by omega
   simp -implicitDefEqProofs [h0, h5, h9, h6, h7, h8, e1, e2]
 ·rintro ⟨fr, bs⟩ ⟨rfl, h0, h1, h2, h6, h7⟩
  simp -implicitDefEqProofs [h0, h1, h2, h6, h7]
  refine zaj (fun hc2 => ?_) (fun hc2 => ?_)
  ·obtain ⟨x, hx⟩ : ∃ x, xs[at_]'(by omega) = x := ⟨_, rfl⟩
   have hal : at_ < xs.length := by omega
   have hx' : xs[at_]? = some x := by simp [hx, hal]
   have hcx := hc x (List.mem_of_getElem? hx')
   simp only [Cut.row] at hcx
   simp -implicitDefEqProofs [h0, h1, h2, h6, h7, hc2, hx, hal, Cut.row]
   refine zaa hcx ?_
   simp -implicitDefEqProofs [h0, h1, h2, h6, h7, hc2, hx, hal, hx', Cut.row]
  ·have hp : xs[at_]? = none := by rw [List.getElem?_eq_none]; omega
   simp -implicitDefEqProofs [h0, h1, h2, h6, h7, hc2, hp]
 ·rintro ⟨fr, bs⟩ h
  exact h.elim
end Go.AM
/- AM: contracts: slices.Delete of one. -/
namespace Go.AM
end Go.AM
/- Plain law: stores: put twice, in another row. -/
namespace Go.AM

end Go.AM
namespace Go.AM
end Go.AM
/- Plain law: peers: one is heard, all age. -/
namespace Go.AM

def PeerOk (base last : Int) (p : Peer) : Prop := place p.id = true ∧ 0 ≤ p.missed ∧ p.missed < 3 ∧ last < far base p.id
theorem z44 {base : Int} : ∀ (ps : List Peer) (last : Int), zev base last ps = true ↔ (∀ p ∈ ps, PeerOk base last p) ∧ ps.Pairwise (fun p q => far base p.id < far base q.id) := by
 intro ps
 induction ps with
 | nil => intro last; simp [zev]
 | cons p ps ih =>
   intro last
   simp only [zev, Bool.and_eq_true, decide_eq_true_eq, ih, List.mem_cons, List.pairwise_cons, PeerOk]
   constructor
   ·rintro ⟨⟨⟨⟨h1, h2⟩, h3⟩, h4⟩, h5, h6⟩
    refine ⟨?_, fun q hq => (h5 q hq).2.2.2, h6⟩
    rintro q (rfl | hq)
    ·exact ⟨h1, h2, h3, h4⟩
    ·obtain ⟨a, b, c, d⟩ := h5 q hq
     exact ⟨a, b, c, by omega⟩
   ·rintro ⟨h1, h2, h3⟩
    obtain ⟨a, b, c, d⟩ := h1 p (.inl rfl)
    refine ⟨⟨⟨⟨a, b⟩, c⟩, d⟩, fun q hq => ?_, h3⟩
    obtain ⟨a', b', c', d'⟩ := h1 q (.inr hq)
    exact ⟨a', b', c', h2 q hq⟩
theorem zb9 {base : Int} {ps : List Peer} : zbn base ps = true ↔ place base = true ∧ ps.length ≤ 16 ∧ (∀ p ∈ ps, PeerOk base 0 p) ∧ ps.Pairwise (fun p q => far base p.id < far base q.id) := by
 simp only [zbn, Bool.and_eq_true, decide_eq_true_eq, z44]
 constructor
 ·rintro ⟨⟨a, b⟩, c⟩; exact ⟨a, b, c⟩
 ·rintro ⟨a, b, c⟩; exact ⟨⟨a, b⟩, c⟩

theorem z7u (base id : Int) : ∀ ps : List Peer, ze8 base id true ps = ps.filter fun p => !decide (p.id = id) := by
 intro ps
 induction ps with
 | nil => rfl
 | cons p ps ih =>
   simp only [ze8, Bool.true_or, ih]
   by_cases h : p.id = id <;> simp [h]
theorem zkz (base id : Int) (p : Peer) (ps : List Peer) (h : far base id ≤ far base p.id) : ze8 base id false (p :: ps) = ⟨id, 0⟩ :: (p :: ps).filter fun p => !decide (p.id = id) := by
 simp only [ze8, h, decide_true, Bool.or_true, z7u]
 by_cases h2 : p.id = id <;> simp [h2]
theorem zi0 (base id : Int) (p : Peer) (ps : List Peer) (h : ¬ far base id ≤ far base p.id) : ze8 base id false (p :: ps) = p :: ze8 base id false ps := by
 have : p.id ≠ id := by intro e; rw [e] at h; omega
 simp [ze8, h, this]
theorem z1l (base id : Int) : ∀ ps : List Peer, (ze8 base id false ps).filter (fun p => !decide (p.id = id)) = ps.filter fun p => !decide (p.id = id) := by
 intro ps
 induction ps with
 | nil => simp [ze8]
 | cons p ps ih =>
   by_cases h : far base id ≤ far base p.id
   ·rw [zkz _ _ _ _ h]
    simp
   ·rw [zi0 _ _ _ _ h]
    have : p.id ≠ id := by intro e; rw [e] at h; omega
    simp [this, ih]
theorem zx4 (base id : Int) : ∀ (ps : List Peer) (q : Peer), q ∈ ze8 base id false ps → q.id = id → q = ⟨id, 0⟩ := by
 intro ps
 induction ps with
 | nil => intro q hq _; simpa [ze8] using hq
 | cons p ps ih =>
   intro q hq e
   by_cases h : far base id ≤ far base p.id
   ·rw [zkz _ _ _ _ h] at hq
    rcases List.mem_cons.1 hq with h1 | h1
    ·exact h1
    ·have := (List.mem_filter.1 h1).2
     simp [e] at this
   ·rw [zi0 _ _ _ _ h] at hq
    rcases List.mem_cons.1 hq with h1 | h1
    ·subst h1
     rw [e] at h
     omega
    ·exact ih q h1 e
theorem z6o (base id : Int) : ∀ (ps : List Peer) (q : Peer), q ∈ ze8 base id false ps → q = ⟨id, 0⟩ ∨ q ∈ ps := by
 intro ps
 induction ps with
 | nil => intro q hq; exact .inl (by simpa [ze8] using hq)
 | cons p ps ih =>
   intro q hq
   by_cases h : far base id ≤ far base p.id
   ·rw [zkz _ _ _ _ h] at hq
    rcases List.mem_cons.1 hq with h1 | h1
    ·exact .inl h1
    ·exact .inr (List.mem_filter.1 h1).1
   ·rw [zi0 _ _ _ _ h] at hq
    rcases List.mem_cons.1 hq with h1 | h1
    ·exact .inr (by simp [h1])
    ·rcases ih q h1 with h2 | h2
     ·exact .inl h2
     ·exact .inr (List.mem_cons_of_mem _ h2)
theorem zth (base id : Int) : ∀ ps : List Peer, (ze8 base id false ps).length = (ps.filter fun p => !decide (p.id = id)).length + 1 := by
 intro ps
 induction ps with
 | nil => rfl
 | cons p ps ih =>
   by_cases h : far base id ≤ far base p.id
   ·rw [zkz _ _ _ _ h]
    simp
   ·rw [zi0 _ _ _ _ h]
    have : p.id ≠ id := by intro e; rw [e] at h; omega
    simp [this, ih]
theorem qcl (base id : Int) (ps : List Peer) : ∃ q ∈ ze8 base id false ps, q.id = id := by
 have h := (qb4 base id ps false id).2 (.inr ⟨rfl, rfl⟩)
 simpa using h
theorem z85 {base id : Int} (hb : place base = true) (hid : place id = true) : ∀ ps : List Peer, (∀ p ∈ ps, place p.id = true) → ps.Pairwise (fun p q => far base p.id < far base q.id) → (ze8 base id false ps).Pairwise (fun p q => far base p.id < far base q.id) := by
 intro ps
 induction ps with
 | nil => intro _ _; simp [ze8]
 | cons p ps ih =>
   intro hp hr
   by_cases h : far base id ≤ far base p.id
   ·rw [zkz _ _ _ _ h, List.pairwise_cons]
    refine ⟨fun q hq => ?_, hr.filter _⟩
    obtain ⟨h1, h2⟩ := List.mem_filter.1 hq
    have h3 : far base p.id ≤ far base q.id := by
     rcases List.mem_cons.1 h1 with h4 | h4
     ·subst h4; omega
     ·have := (List.pairwise_cons.1 hr).1 q h4
      omega
    have h5 : far base q.id ≠ far base id := by
     intro e
     have := (zvo hb (hp q h1) hid).1 e
     simp [this] at h2
    show far base id < far base q.id
    omega
   ·rw [zi0 _ _ _ _ h, List.pairwise_cons]
    refine ⟨fun q hq => ?_, ih (fun q hq => hp q (List.mem_cons_of_mem _ hq)) (List.pairwise_cons.1 hr).2⟩
    rcases z6o base id ps q hq with h1 | h1
    ·subst h1
     show far base p.id < far base id
     omega
    ·exact (List.pairwise_cons.1 hr).1 q h1
theorem zvg (base : Int) (p : Peer) (ps : List Peer) (id : Int) : zeb base (p :: ps) id = if far base p.id < far base id then zeb base ps id + 1 else 0 := by
 unfold zeb
 rw [List.takeWhile_cons]
 by_cases h : far base p.id < far base id <;> simp [h]
theorem z5b (base : Int) (p : Peer) (ps : List Peer) (id : Int) : zle base (p :: ps) id = if far base p.id < far base id then zle base ps id else decide (far base p.id = far base id) := by
 unfold zle
 rw [zvg]
 by_cases h : far base p.id < far base id <;> simp [h, isFar]
theorem qdy {base id : Int} (hb : place base = true) (hid : place id = true) : ∀ ps : List Peer, (∀ p ∈ ps, place p.id = true) → ps.Pairwise (fun p q => far base p.id < far base q.id) →
 (zle base ps id = true → zeb base ps id < ps.length ∧ (∃ m, ps[zeb base ps id]? = some ⟨id, m⟩) ∧ ze8 base id false ps = ps.set (zeb base ps id) ⟨id, 0⟩) ∧ (zle base ps id = false → ze8 base id false ps = insL ps (zeb base ps id) ⟨id, 0⟩) := by
 intro ps
 induction ps with
 | nil => intro _ _; exact ⟨fun h => by simp [zle, zeb, isFar] at h, fun _ => rfl⟩
 | cons p ps ih =>
   intro hp hr
   have hr' := (List.pairwise_cons.1 hr).2
   obtain ⟨i1, i2⟩ := ih (fun q hq => hp q (List.mem_cons_of_mem _ hq)) hr'
   rw [z5b, zvg]
   have hno : ∀ q ∈ ps, far base id ≤ far base p.id → q.id ≠ id := by
    intro q hq h e
    have := (List.pairwise_cons.1 hr).1 q hq
    rw [e] at this
    omega
   by_cases h : far base p.id < far base id
   ·rw [if_pos h, if_pos h, zi0 _ _ _ _ (by omega)]
    refine ⟨fun h1 => ?_, fun h1 => ?_⟩
    ·obtain ⟨a, b, c⟩ := i1 h1
     exact ⟨by simp; omega, by simpa using b, by simp [c]⟩
    ·rw [i2 h1]
     simp [insL]
   ·rw [if_neg h, if_neg h, zkz _ _ _ _ (by omega)]
    have hf : ps.filter (fun p => !decide (p.id = id)) = ps := by
     rw [List.filter_eq_self]
     intro q hq
     have := hno q hq (by omega)
     simp [this]
    refine ⟨fun h1 => ?_, fun h1 => ?_⟩
    ·have e : p.id = id := (zvo hb (hp p (by simp)) hid).1 (by simpa using h1)
     obtain ⟨pi, pm⟩ := p
     simp only at e
     subst e
     refine ⟨by simp, ⟨pm, rfl⟩, ?_⟩
     simp [hf]
    ·have e : p.id ≠ id := by
      intro e
      rw [e] at h1
      simp at h1
     simp [e, hf, insL]
def ageL (ps : List Peer) : List Peer := (ps.filter fun p => !decide (p.missed + 1 = 3)).map fun p => ⟨p.id, p.missed + 1⟩
def zgi (ps : List Peer) : List Int := (ps.filter fun p => decide (p.missed + 1 = 3)).map Peer.id
def ageR (base : Int) (ps : List Peer) : List Peer × List Int × Int := if zbn base ps then (ageL ps, zgi ps, 0) else ([], [], 700)
theorem qcr (ps : List Peer) (p : Peer) : ageL (ps ++ [p]) = if p.missed + 1 = 3 then ageL ps else ageL ps ++ [⟨p.id, p.missed + 1⟩] := by
 by_cases h : p.missed + 1 = 3 <;> simp [ageL, h]
theorem z7x (ps : List Peer) (p : Peer) : zgi (ps ++ [p]) = if p.missed + 1 = 3 then zgi ps ++ [p.id] else zgi ps := by
 by_cases h : p.missed + 1 = 3 <;> simp [zgi, h]
theorem zov (ps : List Peer) : (ageL ps).length + (zgi ps).length = ps.length := by
 induction ps with
 | nil => rfl
 | cons p ps ih =>
   by_cases h : p.missed + 1 = 3 <;> simp [ageL, zgi, h] at ih ⊢ <;> omega
theorem qen {base : Int} {ps : List Peer} (h : zbn base ps = true) : zbn base (ageL ps) = true := by
 obtain ⟨a, b, c, d⟩ := zb9.1 h
 have hl := zov ps
 refine zb9.2 ⟨a, by omega, fun q hq => ?_, ?_⟩
 ·obtain ⟨p, hp, rfl⟩ := List.mem_map.1 hq
  obtain ⟨h1, h2⟩ := List.mem_filter.1 hp
  obtain ⟨e, f, g, k⟩ := c p h1
  simp at h2
  exact ⟨e, by simp; omega, by simp; omega, k⟩
 ·unfold ageL
  rw [List.pairwise_map]
  exact d.filter _
end Go.AM
/- Plain law: peers heard in a row stand in the row of distances. -/
namespace Go.AM

end Go.AM
/- Plain law: cuts put in their row, taken out. -/
namespace Go.AM

def numC (c : Cut) : Int := c.a * 256 + c.b
def zjv (c : Cut) : Bool := place c.a && place c.b && decide (c.a < c.b)
def zlk : Option Cut → List Cut → Bool
 | _, [] => true
 | q, c :: cs => zjv c && (match q with | none => true | some q => decide (numC q < numC c)) && zlk (some c) cs
def zec (cs : List Cut) : Bool := zlk none cs && decide (cs.length ≤ 32)
def ordC (x y : Cut) : Int := if cmpI x.a y.a = 0 then cmpI x.b y.b else cmpI x.a y.a
theorem zn2 (c : Cut) : zjv c = true ↔ (0 ≤ c.a ∧ c.a < 256) ∧ (0 ≤ c.b ∧ c.b < 256) ∧ c.a < c.b := by
 simp [zjv, place, and_assoc]
theorem zzf {x y : Cut} (hx : zjv x = true) (hy : zjv y = true) : ordC x y < 0 ↔ numC x < numC y := by
 rw [zn2] at hx hy
 unfold ordC numC
 by_cases h : cmpI x.a y.a = 0
 ·rw [if_pos h, zut]
  rw [znx] at h
  omega
 ·rw [if_neg h, zut]
  rw [znx] at h
  omega
theorem qhc {x y : Cut} : ordC x y = 0 ↔ x = y := by
 obtain ⟨xa, xb⟩ := x
 obtain ⟨ya, yb⟩ := y
 unfold ordC
 by_cases h : cmpI xa ya = 0
 ·rw [if_pos h, znx]
  rw [znx] at h
  simp [h]
 ·rw [if_neg h]
  constructor
  ·intro e; exact absurd e h
  ·intro e
   have : xa = ya := by injection e
   exact absurd ((znx _ _).2 this) h
theorem z9a : ∀ (cs : List Cut) (q : Option Cut), zlk q cs = true ↔ (∀ c ∈ cs, zjv c = true) ∧ cs.Pairwise (fun x y => numC x < numC y) ∧ (∀ k, q = some k → ∀ c ∈ cs, numC k < numC c) := by
 intro cs
 induction cs with
 | nil => intro q; simp [zlk]
 | cons c cs ih =>
   intro q
   simp only [zlk, Bool.and_eq_true, ih, List.mem_cons, List.pairwise_cons]
   constructor
   ·rintro ⟨⟨h1, h2⟩, h3, h4, h5⟩
    refine ⟨?_, ⟨fun d hd => h5 c rfl d hd, h4⟩, ?_⟩
    ·rintro d (rfl | hd)
     ·exact h1
     ·exact h3 d hd
    ·rintro k rfl d hd
     simp only [decide_eq_true_eq] at h2
     rcases hd with rfl | hd
     ·exact h2
     ·exact Int.lt_trans h2 (h5 c rfl d hd)
   ·rintro ⟨h1, ⟨h2, h3⟩, h4⟩
    refine ⟨⟨h1 c (.inl rfl), ?_⟩, fun d hd => h1 d (.inr hd), h3, ?_⟩
    ·cases q with
     | none => rfl
     | some q => simpa using h4 q rfl c (.inl rfl)
    ·rintro k hk d hd
     cases hk
     exact h2 d hd
theorem z3e {cs : List Cut} : zec cs = true ↔ (∀ c ∈ cs, zjv c = true) ∧ cs.Pairwise (fun x y => numC x < numC y) ∧ cs.length ≤ 32 := by
 simp only [zec, Bool.and_eq_true, decide_eq_true_eq, z9a]
 constructor
 ·rintro ⟨⟨a, b, _⟩, c⟩; exact ⟨a, b, c⟩
 ·rintro ⟨a, b, c⟩; exact ⟨⟨a, b, by simp⟩, c⟩
def znf (a b : Int) : Cut := ⟨min a b, max a b⟩
theorem qdv {a b : Int} (ha : place a = true) (hb : place b = true) (h : a ≠ b) : zjv (znf a b) = true := by
 rw [zgm] at ha hb
 rw [zn2]
 simp only [znf]
 omega
theorem qet {c : Cut} (hc : zjv c = true) {cs : List Cut} (h : ∀ d ∈ cs, zjv d = true) (hp : cs.Pairwise (fun x y => numC x < numC y)) : zkk (fun x => ordC x c) cs := by
 intro i j x y hij hx hy hlt
 simp only at hlt ⊢
 rw [zzf (h y (List.mem_of_getElem? hy)) hc] at hlt
 rw [zzf (h x (List.mem_of_getElem? hx)) hc]
 by_cases e : i = j
 ·subst e
  rw [hx] at hy
  cases hy
  exact hlt
 ·obtain ⟨hi, rfl⟩ := List.getElem?_eq_some_iff.1 hx
  obtain ⟨hj, rfl⟩ := List.getElem?_eq_some_iff.1 hy
  have := List.pairwise_iff_getElem.1 hp i j hi hj (by omega)
  omega
theorem qja {c : Cut} (hc : zjv c = true) : ∀ {cs : List Cut}, (∀ d ∈ cs, zjv d = true) → cs.Pairwise (fun x y => numC x < numC y) → atC (fun x => ordC x c) cs = decide (c ∈ cs) := by
 intro cs
 induction cs with
 | nil => intro _ _; simp [qap]
 | cons x xs ih =>
   intro h hp
   rw [List.pairwise_cons] at hp
   rw [zzm]
   have h1 := zzf (h x (by simp)) hc
   by_cases h2 : numC x < numC c
   ·rw [if_pos (h1.2 h2), ih (fun d hd => h d (List.mem_cons_of_mem _ hd)) hp.2]
    have : c ≠ x := by rintro rfl; omega
    simp [this]
   ·rw [if_neg (fun e => h2 (h1.1 e))]
    rw [Bool.eq_iff_iff]
    simp only [decide_eq_true_eq, qhc, List.mem_cons]
    constructor
    ·rintro rfl; exact .inl rfl
    ·rintro (rfl | hc2)
     ·rfl
     ·have := hp.1 c hc2
      omega
def zwd (cs : List Cut) (a b : Int) : Bool := zec cs && place a && place b && !decide (a = b)
def isC (cs : List Cut) (a b : Int) : Bool × Int := if zwd cs a b then (decide (znf a b ∈ cs), 0) else (false, 1500)
theorem z96 {cs : List Cut} {a b : Int} : zwd cs a b = true ↔ zec cs = true ∧ place a = true ∧ place b = true ∧ a ≠ b := by simp [zwd, and_assoc]
end Go.AM
/- AM: contracts: may a row of cuts be. -/
namespace Go.AM
def orL : List Int → Int
 | [] => 0
 | v :: vs => if v = 0 then orL vs else v
theorem qil (xs : List Int) (hl : xs.length ≤ cap) : Den PP 214 [zap xs] [] (.int .i64 (orL xs)) [] := by
 obtain ⟨r, hr⟩ : ∃ r, orL xs = r := ⟨_, rfl⟩
 rw [hr]
 unfold cap at hl
 refine zak [] [] zyv ?_
 simp -implicitDefEqProofs [zsu, zap]
 refine za3 xs (fun i rest => fun ⟨fr, bs⟩ => bs = [] ∧ fr 3 = .int .i64 0 ∧ fr 6 = zap xs ∧ fr 7 = .int .i64 xs.length ∧ fr 8 = .int .i64 i ∧ orL rest = r)
  (fun ⟨fr, bs⟩ => bs = [] ∧ fr 3 = .int .i64 0 ∧ r = 0) (fun ⟨fr, bs⟩ => fr 2 = .int .i64 r) zn6.eq_1 ?_ ?_ ?_ ?_ ?_
 ·exact ⟨rfl, rfl, rfl, rfl, rfl, hr⟩
 ·rintro i ⟨fr, bs⟩ hi ⟨rfl, h3, h6, h7, h8, he⟩
  simp -implicitDefEqProofs [h3, h6, h7, h8, hi, zap]
  simpa [orL] using he.symm
 ·rintro i a rest ⟨fr, bs⟩ hlt hget hg hd hd2 ⟨rfl, h3, h6, h7, h8, he⟩
  have hlt' : (i : Int) < xs.length := by omega
  have hw := za5 (n := i) (by omega)
  simp only [orL] at he
  clear hr
  by_cases ha : a = 0
  ·rw [if_pos ha] at he
   simp -implicitDefEqProofs [h3, h6, h7, h8, hlt, hlt', hget, hg, ha, hw, zap, irow]
   exact he
  ·rw [if_neg ha] at he
   simp -implicitDefEqProofs [h3, h6, h7, h8, hlt, hlt', hget, hg, ha, hw, zap, irow]
   rw [he]
 ·rintro ⟨fr, bs⟩ ⟨rfl, h3, he⟩
  simp -implicitDefEqProofs [h3, he]
 ·rintro ⟨fr, bs⟩ h
  simp -implicitDefEqProofs [h]
theorem zw5 (x y : Cut) : Den PP 162 [.agg x.row, .agg y.row] [] (.int .i64 (ordC x y)) [] := by
 have c1 := qil [cmpI x.a y.a, cmpI x.b y.b] (by unfold cap; simp)
 have e : orL [cmpI x.a y.a, cmpI x.b y.b] = ordC x y := by
  unfold ordC orL orL orL
  split
  ·split
   ·rename_i h; exact h.symm
   ·rfl
  ·rfl
 rw [e] at c1
 simp [zap, irow] at c1
 clear e
 refine zak [] [] zzp ?_
 simp -implicitDefEqProofs [zsx, Cut.row]
 refine zaa (zhb _ _) ?_
 simp -implicitDefEqProofs
 refine zaa (zhb _ _) ?_
 simp -implicitDefEqProofs
 refine zaa c1 ?_
 simp -implicitDefEqProofs
def zo3 (cs : List Cut) (i : Nat) : Option Cut := if i = 0 then none else cs[i - 1]?
theorem zyu (cs : List Cut) (hl : cs.length ≤ cap) : Den PP 77 [zbc cs] [] (.bool (zec cs)) [] := by
 obtain ⟨A, hA⟩ : ∃ A, zlk none cs = A := ⟨_, rfl⟩
 unfold cap at hl
 refine zak [] [] z5l ?_
 simp -implicitDefEqProofs [zxi, zbc]
 refine za3 cs (fun i rest => fun ⟨fr, bs⟩ => bs = [] ∧ fr 0 = zbc cs ∧ fr 5 = zbc cs ∧ fr 6 = .int .i64 cs.length ∧ fr 7 = .int .i64 i ∧ zlk (zo3 cs i) rest = A ∧ (∀ q, zo3 cs i = some q → zjv q = true))
  (fun ⟨fr, bs⟩ => bs = [] ∧ fr 0 = zbc cs ∧ A = true) (fun ⟨fr, bs⟩ => fr 2 = .bool false ∧ A = false) zrl.eq_1 ?_ ?_ ?_ ?_ ?_
 ·exact ⟨rfl, rfl, rfl, rfl, rfl, hA, by simp [zo3]⟩
 ·rintro i ⟨fr, bs⟩ hi ⟨rfl, h0, h5, h6, h7, he, _⟩
  simp -implicitDefEqProofs [h0, h5, h6, h7, hi]
  simpa [zlk] using he.symm
 ·rintro i a rest ⟨fr, bs⟩ hlt hget hg hd hd2 ⟨rfl, h0, h5, h6, h7, he, hq⟩
  have hlt' : (i : Int) < cs.length := by omega
  have hw := za5 (n := i) (by omega)
  simp only [zlk] at he
  have hp : zo3 cs (i + 1) = some a := by simp [zo3, hget]
  rw [hp]
  by_cases ha : zjv a = true
  ·have ha' := (zn2 a).1 ha
   have p1 : place a.a = true := by rw [zgm]; omega
   have p2 : place a.b = true := by rw [zgm]; omega
   have p3 : ¬ a.b ≤ a.a := by omega
   have c1 := zaz a.a
   have c2 := zaz a.b
   rw [p1] at c1
   rw [p2] at c2
   rw [ha] at he
   have hqa : ∀ q, some a = some q → zjv q = true := by rintro q ⟨⟩; exact ha
   clear hA
   cases i with
   | zero =>
     simp [zo3] at he
     simp -implicitDefEqProofs [h0, h5, h6, h7, hlt, hlt', hget, hg, zbc, Cut.row]
     repeat' ((first | refine zaa (by first | exact c1 | exact c2) ?_ | ((with_reducible first | refine zaj ?_ ?_ | refine zah ?_ ?_ | refine zae ?_ ?_ | refine zad ?_ ?_) <;> intro _) | ((with_reducible first | refine zao ?_ ?_ | refine zaq ?_ ?_ | refine zal ?_ ?_ | refine zac ?_ ?_ | refine zai ?_ ?_ | refine zan ?_ ?_ | refine zaf ?_ ?_ | refine zab ?_ ?_) <;> intro hq <;> (try simp at hq)) | refine zag (by omega) ?_ | refine zam (by omega) ?_) <;> simp -implicitDefEqProofs [*, zbc, Cut.row, hw, p3])
     exact zaw (by omega) (by omega)
   | succ j =>
     have hj : j < cs.length := by omega
     have hj' : (j : Int) < cs.length := by omega
     have hjw : IntKind.wrap .i64 (j : Int) = j := zaw (by omega) (by omega)
     obtain ⟨q, hqj⟩ : ∃ q, cs[j] = q := ⟨_, rfl⟩
     have hpj : zo3 cs (j + 1) = some q := by simp [zo3, hj, hqj]
     rw [hpj] at he hq
     have hqo := zzf (hq q rfl) ha
     have c3 := zw5 q a
     simp only [Cut.row] at c3
     simp at he
     clear hq
     by_cases hn : numC q < numC a
     ·have ho : ¬ 0 ≤ ordC q a := by have := hqo.2 hn; omega
      simp [hn] at he
      generalize ordC q a = o at *
      clear hqo
      simp -implicitDefEqProofs [h0, h5, h6, h7, hlt, hlt', hget, hg, zbc, Cut.row]
      repeat' ((first | refine zaa (by first | exact c1 | exact c2 | exact c3) ?_ | ((with_reducible first | refine zaj ?_ ?_ | refine zah ?_ ?_ | refine zae ?_ ?_ | refine zad ?_ ?_) <;> intro _) | ((with_reducible first | refine zao ?_ ?_ | refine zaq ?_ ?_ | refine zal ?_ ?_ | refine zac ?_ ?_ | refine zai ?_ ?_ | refine zan ?_ ?_ | refine zaf ?_ ?_ | refine zab ?_ ?_) <;> intro hq <;> (try simp at hq)) | refine zag (by omega) ?_ | refine zam (by omega) ?_) <;> simp -implicitDefEqProofs [*, zbc, Cut.row, hw, p3, hjw, hj, hj', hqj, ho])
      all_goals first | exact he | exact hw | exact ⟨hw, he⟩ | omega
     ·have ho : 0 ≤ ordC q a := by have : ¬ ordC q a < 0 := fun e => hn (hqo.1 e); omega
      simp [hn] at he
      generalize ordC q a = o at *
      clear hqo
      simp -implicitDefEqProofs [h0, h5, h6, h7, hlt, hlt', hget, hg, zbc, Cut.row]
      repeat' ((first | refine zaa (by first | exact c1 | exact c2 | exact c3) ?_ | ((with_reducible first | refine zaj ?_ ?_ | refine zah ?_ ?_ | refine zae ?_ ?_ | refine zad ?_ ?_) <;> intro _) | ((with_reducible first | refine zao ?_ ?_ | refine zaq ?_ ?_ | refine zal ?_ ?_ | refine zac ?_ ?_ | refine zai ?_ ?_ | refine zan ?_ ?_ | refine zaf ?_ ?_ | refine zab ?_ ?_) <;> intro hq <;> (try simp at hq)) | refine zag (by omega) ?_ | refine zam (by omega) ?_) <;> simp -implicitDefEqProofs [*, zbc, Cut.row, hw, p3, hjw, hj, hj', hqj, ho])
      all_goals omega
  ·have ha' : zjv a = false := by simpa using ha
   rw [ha'] at he
   simp at he
   have c1 := zaz a.a
   have c2 := zaz a.b
   have hor : place a.a = false ∨ (place a.a = true ∧ (place a.b = false ∨ (place a.b = true ∧ a.b ≤ a.a))) := by
    simp only [zjv] at ha'
    generalize place a.a = X at *
    generalize place a.b = Y at *
    cases X <;> cases Y <;> simp at ha' ⊢ <;> omega
   clear ha ha' hq hp hA
   rcases hor with h | ⟨h, h2 | ⟨h2, h3⟩⟩
   ·rw [h] at c1
    simp -implicitDefEqProofs [h0, h5, h6, h7, hlt, hlt', hget, hg, zbc, Cut.row]
    repeat' ((first | refine zaa (by first | exact c1 | exact c2) ?_ | ((with_reducible first | refine zaj ?_ ?_ | refine zah ?_ ?_ | refine zae ?_ ?_ | refine zad ?_ ?_) <;> intro _) | ((with_reducible first | refine zao ?_ ?_ | refine zaq ?_ ?_ | refine zal ?_ ?_ | refine zac ?_ ?_ | refine zai ?_ ?_ | refine zan ?_ ?_ | refine zaf ?_ ?_ | refine zab ?_ ?_) <;> intro hq <;> (try simp at hq)) | refine zag (by omega) ?_ | refine zam (by omega) ?_) <;> simp -implicitDefEqProofs [*, zbc, Cut.row, hw])
   ·rw [h] at c1
    rw [h2] at c2
    simp -implicitDefEqProofs [h0, h5, h6, h7, hlt, hlt', hget, hg, zbc, Cut.row]
    repeat' ((first | refine zaa (by first | exact c1 | exact c2) ?_ | ((with_reducible first | refine zaj ?_ ?_ | refine zah ?_ ?_ | refine zae ?_ ?_ | refine zad ?_ ?_) <;> intro _) | ((with_reducible first | refine zao ?_ ?_ | refine zaq ?_ ?_ | refine zal ?_ ?_ | refine zac ?_ ?_ | refine zai ?_ ?_ | refine zan ?_ ?_ | refine zaf ?_ ?_ | refine zab ?_ ?_) <;> intro hq <;> (try simp at hq)) | refine zag (by omega) ?_ | refine zam (by omega) ?_) <;> simp -implicitDefEqProofs [*, zbc, Cut.row, hw])
   ·rw [h] at c1
    rw [h2] at c2
    simp -implicitDefEqProofs [h0, h5, h6, h7, hlt, hlt', hget, hg, zbc, Cut.row]
    repeat' ((first | refine zaa (by first | exact c1 | exact c2) ?_ | ((with_reducible first | refine zaj ?_ ?_ | refine zah ?_ ?_ | refine zae ?_ ?_ | refine zad ?_ ?_) <;> intro _) | ((with_reducible first | refine zao ?_ ?_ | refine zaq ?_ ?_ | refine zal ?_ ?_ | refine zac ?_ ?_ | refine zai ?_ ?_ | refine zan ?_ ?_ | refine zaf ?_ ?_ | refine zab ?_ ?_) <;> intro hq <;> (try simp at hq)) | refine zag (by omega) ?_ | refine zam (by omega) ?_) <;> simp -implicitDefEqProofs [*, zbc, Cut.row, hw])
 ·rintro ⟨fr, bs⟩ ⟨rfl, h0, h1⟩
  simp -implicitDefEqProofs [h0, zbc, zec, hA, h1]
  omega
 ·rintro ⟨fr, bs⟩ h
  simp -implicitDefEqProofs [h.1, h.2, zec, hA]
theorem z5x (cs : List Cut) (hl : cs.length ≤ cap) : Den PP 74 [zbc cs] [] (.bool (zec cs)) [] := by
 obtain ⟨A, hA⟩ : ∃ A, zlk none cs = A := ⟨_, rfl⟩
 unfold cap at hl
 refine zak [] [] znv ?_
 simp -implicitDefEqProofs [zic, zbc]
 refine za3 cs (fun i rest => fun ⟨fr, bs⟩ => bs = [] ∧ fr 0 = zbc cs ∧ fr 3 = .int .i64 i ∧ zlk (zo3 cs i) rest = A ∧ (∀ q, zo3 cs i = some q → zjv q = true))
  (fun ⟨fr, bs⟩ => bs = [] ∧ fr 0 = zbc cs ∧ A = true) (fun ⟨fr, bs⟩ => fr 2 = .bool false ∧ A = false) zgt.eq_1 ?_ ?_ ?_ ?_ ?_
 ·exact ⟨rfl, rfl, rfl, hA, by simp [zo3]⟩
 ·rintro i ⟨fr, bs⟩ hi ⟨rfl, h0, h3, he, _⟩
  simp -implicitDefEqProofs [h0, h3, hi, zbc]
  simpa [zlk] using he.symm
 ·rintro i a rest ⟨fr, bs⟩ hlt hget hg hd hd2 ⟨rfl, h0, h3, he, hq⟩
  have hlt' : (i : Int) < cs.length := by omega
  have hw := za5 (n := i) (by omega)
  simp only [zlk] at he
  have hp : zo3 cs (i + 1) = some a := by simp [zo3, hget]
  rw [hp]
  have c1 := zdj a.a
  have c2 := zdj a.b
  by_cases ha : zjv a = true
  ·have ha' := (zn2 a).1 ha
   have p1 : place a.a = true := by rw [zgm]; omega
   have p2 : place a.b = true := by rw [zgm]; omega
   have p3 : ¬ a.b ≤ a.a := by omega
   rw [p1] at c1
   rw [p2] at c2
   rw [ha] at he
   have hqa : ∀ q, some a = some q → zjv q = true := by rintro q ⟨⟩; exact ha
   have wa1 : IntKind.wrap .i64 (a.a * 256) = a.a * 256 := zaw (by omega) (by omega)
   have wa2 : IntKind.wrap .i64 (a.a * 256 + a.b) = a.a * 256 + a.b := zaw (by omega) (by omega)
   clear hA
   cases i with
   | zero =>
     simp [zo3] at he
     simp -implicitDefEqProofs [h0, h3, hlt, hlt', hget, hg, zbc, Cut.row]
     repeat' ((first | refine zaa (by first | exact c1 | exact c2) ?_ | ((with_reducible first | refine zaj ?_ ?_ | refine zah ?_ ?_ | refine zae ?_ ?_ | refine zad ?_ ?_) <;> intro _) | ((with_reducible first | refine zao ?_ ?_ | refine zaq ?_ ?_ | refine zal ?_ ?_ | refine zac ?_ ?_ | refine zai ?_ ?_ | refine zan ?_ ?_ | refine zaf ?_ ?_ | refine zab ?_ ?_) <;> intro hq <;> (try simp at hq)) | refine zag (by omega) ?_ | refine zam (by omega) ?_) <;> simp -implicitDefEqProofs [*, zbc, Cut.row, hw, p3])
     all_goals first | exact he | exact hw | exact ⟨hw, he⟩ | exact zaw (by omega) (by omega) | omega
   | succ j =>
     have hj : j < cs.length := by omega
     have hj' : (j : Int) < cs.length := by omega
     have hjw : IntKind.wrap .i64 (j : Int) = j := zaw (by omega) (by omega)
     obtain ⟨q, hqj⟩ : ∃ q, cs[j] = q := ⟨_, rfl⟩
     have hpj : zo3 cs (j + 1) = some q := by simp [zo3, hj, hqj]
     rw [hpj] at he hq
     have hqc := (zn2 q).1 (hq q rfl)
     have wq1 : IntKind.wrap .i64 (q.a * 256) = q.a * 256 := zaw (by omega) (by omega)
     have wq2 : IntKind.wrap .i64 (q.a * 256 + q.b) = q.a * 256 + q.b := zaw (by omega) (by omega)
     simp at he
     clear hq
     by_cases hn : numC q < numC a
     ·have hn2 : ¬ a.a * 256 + a.b ≤ q.a * 256 + q.b := by unfold numC at hn; omega
      simp [hn] at he
      clear hn
      simp -implicitDefEqProofs [h0, h3, hlt, hlt', hget, hg, zbc, Cut.row]
      repeat' ((first | refine zaa (by first | exact c1 | exact c2) ?_ | ((with_reducible first | refine zaj ?_ ?_ | refine zah ?_ ?_ | refine zae ?_ ?_ | refine zad ?_ ?_) <;> intro _) | ((with_reducible first | refine zao ?_ ?_ | refine zaq ?_ ?_ | refine zal ?_ ?_ | refine zac ?_ ?_ | refine zai ?_ ?_ | refine zan ?_ ?_ | refine zaf ?_ ?_ | refine zab ?_ ?_) <;> intro hq <;> (try simp at hq)) | refine zag (by omega) ?_ | refine zam (by omega) ?_) <;> simp -implicitDefEqProofs [*, zbc, Cut.row, hw, p3, hjw, hj, hj', hqj, wa1, wa2, wq1, wq2, hn2])
      all_goals first | exact he | exact hw | exact ⟨hw, he⟩ | omega
     ·have hn2 : a.a * 256 + a.b ≤ q.a * 256 + q.b := by unfold numC at hn; omega
      simp [hn] at he
      clear hn
      simp -implicitDefEqProofs [h0, h3, hlt, hlt', hget, hg, zbc, Cut.row]
      repeat' ((first | refine zaa (by first | exact c1 | exact c2) ?_ | ((with_reducible first | refine zaj ?_ ?_ | refine zah ?_ ?_ | refine zae ?_ ?_ | refine zad ?_ ?_) <;> intro _) | ((with_reducible first | refine zao ?_ ?_ | refine zaq ?_ ?_ | refine zal ?_ ?_ | refine zac ?_ ?_ | refine zai ?_ ?_ | refine zan ?_ ?_ | refine zaf ?_ ?_ | refine zab ?_ ?_) <;> intro hq <;> (try simp at hq)) | refine zag (by omega) ?_ | refine zam (by omega) ?_) <;> simp -implicitDefEqProofs [*, zbc, Cut.row, hw, p3, hjw, hj, hj', hqj, wa1, wa2, wq1, wq2, hn2])
      all_goals omega
  ·have ha' : zjv a = false := by simpa using ha
   rw [ha'] at he
   simp at he
   have hor : place a.a = false ∨ (place a.a = true ∧ (place a.b = false ∨ (place a.b = true ∧ a.b ≤ a.a))) := by
    simp only [zjv] at ha'
    generalize place a.a = X at *
    generalize place a.b = Y at *
    cases X <;> cases Y <;> simp at ha' ⊢ <;> omega
   clear ha ha' hq hp hA
   rcases hor with h | ⟨h, h2 | ⟨h2, h3⟩⟩
   ·rw [h] at c1
    simp -implicitDefEqProofs [h0, h3, hlt, hlt', hget, hg, zbc, Cut.row]
    repeat' ((first | refine zaa (by first | exact c1 | exact c2) ?_ | ((with_reducible first | refine zaj ?_ ?_ | refine zah ?_ ?_ | refine zae ?_ ?_ | refine zad ?_ ?_) <;> intro _) | ((with_reducible first | refine zao ?_ ?_ | refine zaq ?_ ?_ | refine zal ?_ ?_ | refine zac ?_ ?_ | refine zai ?_ ?_ | refine zan ?_ ?_ | refine zaf ?_ ?_ | refine zab ?_ ?_) <;> intro hq <;> (try simp at hq)) | refine zag (by omega) ?_ | refine zam (by omega) ?_) <;> simp -implicitDefEqProofs [*, zbc, Cut.row, hw])
   ·rw [h] at c1
    rw [h2] at c2
    simp -implicitDefEqProofs [h0, h3, hlt, hlt', hget, hg, zbc, Cut.row]
    repeat' ((first | refine zaa (by first | exact c1 | exact c2) ?_ | ((with_reducible first | refine zaj ?_ ?_ | refine zah ?_ ?_ | refine zae ?_ ?_ | refine zad ?_ ?_) <;> intro _) | ((with_reducible first | refine zao ?_ ?_ | refine zaq ?_ ?_ | refine zal ?_ ?_ | refine zac ?_ ?_ | refine zai ?_ ?_ | refine zan ?_ ?_ | refine zaf ?_ ?_ | refine zab ?_ ?_) <;> intro hq <;> (try simp at hq)) | refine zag (by omega) ?_ | refine zam (by omega) ?_) <;> simp -implicitDefEqProofs [*, zbc, Cut.row, hw])
   ·rename_i h33
    rw [h] at c1
    rw [h2] at c2
    simp -implicitDefEqProofs [h0, h33, hlt, hlt', hget, hg, zbc, Cut.row]
    repeat' ((first | refine zaa (by first | exact c1 | exact c2) ?_ | ((with_reducible first | refine zaj ?_ ?_ | refine zah ?_ ?_ | refine zae ?_ ?_ | refine zad ?_ ?_) <;> intro _) | ((with_reducible first | refine zao ?_ ?_ | refine zaq ?_ ?_ | refine zal ?_ ?_ | refine zac ?_ ?_ | refine zai ?_ ?_ | refine zan ?_ ?_ | refine zaf ?_ ?_ | refine zab ?_ ?_) <;> intro hq <;> (try simp at hq)) | refine zag (by omega) ?_ | refine zam (by omega) ?_) <;> simp -implicitDefEqProofs [*, zbc, Cut.row, hw])
 ·rintro ⟨fr, bs⟩ ⟨rfl, h0, h1⟩
  simp -implicitDefEqProofs [h0, zbc, zec, hA, h1]
  omega
 ·rintro ⟨fr, bs⟩ h
  simp -implicitDefEqProofs [h.1, h.2, zec, hA]
end Go.AM
/- AM: contracts: binary search, places put and taken out. -/
namespace Go.AM
theorem z2n (a : Int) : Den PP 220 [.int .i64 a] [] (.bool false) [] := by
 refine zak [] [] zp8 ?_
 simp -implicitDefEqProofs [zjx]
theorem qd1 (a b : Int) : Den PP 219 [.int .i64 a, .int .i64 b] [] (.bool (decide (a < b))) [] := by
 refine zak [] [] zt6 ?_
 simp -implicitDefEqProofs [zpf]
 repeat' ((first | refine zaa (by first | exact zvh _) ?_ | ((with_reducible first | refine zaj ?_ ?_ | refine zah ?_ ?_ | refine zae ?_ ?_ | refine zad ?_ ?_) <;> intro _) | ((with_reducible first | refine zao ?_ ?_ | refine zaq ?_ ?_ | refine zal ?_ ?_ | refine zac ?_ ?_ | refine zai ?_ ?_ | refine zan ?_ ?_ | refine zaf ?_ ?_ | refine zab ?_ ?_) <;> intro hq <;> (try simp at hq)) | refine zag (by omega) ?_ | refine zam (by omega) ?_) <;> simp -implicitDefEqProofs [*])
theorem z32 (xs : List Int) (id : Int) (hl : xs.length ≤ cap) (hr : xs.Pairwise (· < ·)) :
 Den PP 185 [zap xs, .int .i64 id] [] (.tup [.int .i64 (posI xs id), .bool (decide (xs[posI xs id]? = some id))]) [] := by
 have hlo := fun i x => qc2 (xs := xs) (id := id) i x
 have hhi := fun i x => qb6 (id := id) hr i x
 have hat := qar xs id
 generalize posI xs id = at_ at *
 refine zak [] [] zhn ?_
 simp -implicitDefEqProofs [zer, zap]
 refine zgj xs.length (fun m ⟨fr, bs⟩ => ∃ lo hi : Nat, bs = [] ∧ hi - lo ≤ m ∧ lo ≤ at_ ∧ at_ ≤ hi ∧ hi ≤ xs.length ∧ fr 0 = zap xs ∧ fr 1 = .int .i64 id ∧ fr 6 = .int .i64 xs.length ∧ fr 7 = .int .i64 lo ∧ fr 8 = .int .i64 hi)
  (fun ⟨fr, bs⟩ => bs = [] ∧ fr 0 = zap xs ∧ fr 1 = .int .i64 id ∧ fr 6 = .int .i64 xs.length ∧ fr 7 = .int .i64 at_) (fun _ => False) zd5.eq_1 ?_ ?_ ?_ ?_ ?_
 ·exact ⟨0, xs.length, rfl, by omega, by omega, hat, by omega, rfl, rfl, rfl, rfl, rfl⟩
 ·rintro ⟨fr, bs⟩ ⟨lo, hi, rfl, h1, h2, h3, h4, h0, h5, h6, h7, h8⟩
  have e1 : lo = at_ := by omega
  have e2 : hi = at_ := by omega
  simp -implicitDefEqProofs [h0, h5, h6, h7, h8, e1, e2]
 ·rintro m ⟨fr, bs⟩ ⟨lo, hi, rfl, h1, h2, h3, h4, h0, h5, h6, h7, h8⟩
  by_cases hlt : lo < hi
  ·have hlt' : (lo : Int) < hi := by omega
   have hm := z21 (lo := lo) (hi := hi) (by omega) (by omega)
   have hml : (lo + hi) / 2 < xs.length := by omega
   have hml' : (((lo + hi) / 2 : Nat) : Int) < xs.length := by omega
   have hw := za5 (n := (lo + hi) / 2) (by unfold cap at hl; omega)
   have hb1 : lo ≤ (lo + hi) / 2 := by omega
   have hb2 : (lo + hi) / 2 < hi := by omega
   generalize (lo + hi) / 2 = mid at *
   obtain ⟨x, hx⟩ : ∃ x, xs[mid] = x := ⟨_, rfl⟩
   have hx' : xs[mid]? = some x := by simp [hml, hx]
   simp -implicitDefEqProofs [h0, h5, h6, h7, h8, hlt', hlt, hm, hml, hml', irow, hx, zap]
   refine zaa (qd1 x id) ?_
   simp -implicitDefEqProofs
   refine zae (fun hc => ?_) (fun hc => ?_)
   all_goals simp -implicitDefEqProofs [h0, h5, h6, h7, h8, hc, hw, zap]
   ·have : mid < at_ := by
     apply Classical.byContradiction
     intro hx2
     have := hhi mid x (by omega) hx'
     omega
    exact ⟨mid + 1, hi, by omega, by omega, by omega, by omega, by simp, by simp⟩
   ·have : at_ ≤ mid := by
     apply Classical.byContradiction
     intro hx2
     have := hlo mid x (by omega) hx'
     omega
    exact ⟨lo, mid, by omega, by omega, by omega, by omega, by simp, by simp⟩
  ·have e1 : lo = at_ := by omega
   have e2 : hi = at_ := by omega
   simp -implicitDefEqProofs [h0, h5, h6, h7, h8, e1, e2]
 ·rintro ⟨fr, bs⟩ ⟨rfl, h0, h1, h6, h7⟩
  simp -implicitDefEqProofs [h0, h1, h6, h7]
  refine zaj (fun hc => ?_) (fun hc => ?_)
  ·obtain ⟨x, hx⟩ : ∃ x, xs[at_] = x := ⟨_, rfl⟩
   simp -implicitDefEqProofs [h0, h1, h6, h7, hc, irow, hx, zap]
   repeat' ((first | refine zaa (by first | exact z2n _) ?_ | ((with_reducible first | refine zaj ?_ ?_ | refine zah ?_ ?_ | refine zae ?_ ?_ | refine zad ?_ ?_) <;> intro _) | ((with_reducible first | refine zao ?_ ?_ | refine zaq ?_ ?_ | refine zal ?_ ?_ | refine zac ?_ ?_ | refine zai ?_ ?_ | refine zan ?_ ?_ | refine zaf ?_ ?_ | refine zab ?_ ?_) <;> intro hq <;> (try simp at hq)) | refine zag (by omega) ?_ | refine zam (by omega) ?_) <;> simp -implicitDefEqProofs [*, h0, h1, h6, h7, hc, irow, hx, zap])
  ·have hp : xs[at_]? = none := by rw [List.getElem?_eq_none]; omega
   simp -implicitDefEqProofs [h0, h1, h6, h7, hc, hp, zap]
 ·rintro ⟨fr, bs⟩ h
  exact h.elim
theorem zkf (xs : List Int) (g : Nat) (caps : List D) (p : Int → Bool) (hp : TellsI g caps p xs) (hl : xs.length ≤ 1000000) :
 zgz (DenF PP [0]) 225 (xs.map irow) 1 [.fn g [] caps] ((xs.filter fun x => !p x).map irow) := by
 refine zre (fun r hr => by obtain ⟨a, _, rfl⟩ := List.mem_map.1 hr; rfl) (StillR.map _ _ fun a _ d hd => by rw [List.mem_singleton.1 hd]; rfl) fun fl hfl hrow hfs htake hget => ?_
 have hi0 := zh8 xs (by unfold cap; omega) g caps p hp
 have hi1 : Den PP 165 [.sl fl xs.length, .fn g [] caps] [] (.int .i64 (fIdx p 0 xs)) [] := qc5 (by
  simp only [List.map_cons, List.map_nil, D.cut]
  rw [List.length_map] at htake
  rw [htake]
  exact hi0)
 simp only [List.length_map] at *
 rcases qaj p xs with ⟨he, hf⟩ | ⟨f, he, hf, hff⟩
 ·rw [he] at hi1
  refine ⟨.ref 0 0 xs.length, [⟨fl, 1, .mut⟩], ?_, ?_⟩
  ·refine zf7 [] [] [] [] (by simp) (fun _ h => absurd h List.not_mem_nil) zew ?_
   simp -implicitDefEqProofs [-zax, zdn, hp.2.1]
   refine zaa hi1 ?_
   simp -implicitDefEqProofs [-zax, hp.2.1]
   rw [zeu (by omega) (by simpa using hfs)]
   rfl
  ·rw [hf]
   exact zcx rfl rfl rfl (by simpa using hfl) (by simpa using htake.symm) (.inl rfl)
 ·rw [he] at hi1
  have hfl' : f < fl.length := by omega
  have hw := za5 (n := f) (by omega)
  have hne : ¬ (f : Int) = -1 := by omega
  have hm1 := List.length_filter_le (fun x => !p x) xs
  obtain ⟨m, hm⟩ : ∃ m, (xs.filter fun x => !p x).length = m := ⟨_, rfl⟩
  rw [hm] at hm1
  have hcells : ∀ k, k < xs.length → fl[k]? = (xs[k]?).map irow := by
   intro k hk
   rw [hget k hk, List.getElem?_map]
  refine ⟨.ref 0 0 m, [⟨(xs.filter fun x => !p x).map irow ++ List.replicate (xs.length - m) [.int .i64 0] ++ fl.drop xs.length, 1, .mut⟩], ?_, ?_⟩
  ·refine zf7 [] [] [] [] (by simp) (fun _ h => absurd h List.not_mem_nil) zew ?_
   simp -implicitDefEqProofs [-zax, zdn, hp.2.1]
   refine zaa hi1 ?_
   simp -implicitDefEqProofs [-zax, hp.2.1, hne, hw]
   refine zgj (xs.length - (f + 1)) (fun q ⟨fr, bs⟩ => ∃ (i j : Nat) (cur : List (List D)), bs = [⟨cur, 1, .mut⟩, ⟨[], 1, .mut⟩] ∧ xs.length - j ≤ q ∧ j ≤ xs.length ∧ i < j ∧ cur.length = fl.length ∧ StillR cur ∧
    (∀ r ∈ cur, r.length = 1) ∧ cur.take i = ((xs.take j).filter fun x => !p x).map irow ∧ cur.drop j = fl.drop j ∧ fr 0 = .ref 0 0 xs.length ∧ fr 1 = .fn g [] caps ∧ fr 5 = .int .i64 i ∧ fr 6 = .int .i64 j)
    (fun ⟨fr, bs⟩ => ∃ cur : List (List D), bs = [⟨cur, 1, .mut⟩, ⟨[], 1, .mut⟩] ∧ m < xs.length ∧ cur.length = fl.length ∧ StillR cur ∧ cur.take m = (xs.filter fun x => !p x).map irow ∧ cur.drop xs.length = fl.drop xs.length ∧ fr 0 = .ref 0 0 xs.length ∧ fr 5 = .int .i64 m)
    (fun _ => False) zed.eq_1 ?_ ?_ ?_ ?_ ?_
   ·refine ⟨f, f + 1, fl, rfl, by omega, by omega, by omega, rfl, hfs, hrow, ?_, rfl, rfl, rfl, rfl, rfl⟩
    rw [hff, List.map_take, ← htake, List.take_take]
    congr 1
    omega
   ·rintro ⟨fr, bs⟩ ⟨i, j, cur, rfl, hq, hj, hij, hcl, hcs, hcr, hct, hcd, h0, h1, h5, h6⟩
    have hje : j = xs.length := by omega
    subst hje
    rw [List.take_length] at hct
    have him : i = m := by
     have := congrArg List.length hct
     simp at this
     omega
    subst him
    simp -implicitDefEqProofs [-zax, h0, h1, h5, h6]
    exact ⟨hij, hcl, hcs, hct, hcd⟩
   ·rintro q ⟨fr, bs⟩ ⟨i, j, cur, rfl, hq, hj, hij, hcl, hcs, hcr, hct, hcd, h0, h1, h5, h6⟩
    by_cases hjx : j = xs.length
    ·subst hjx
     rw [List.take_length] at hct
     have him : i = m := by
      have := congrArg List.length hct
      simp at this
      omega
     subst him
     simp -implicitDefEqProofs [-zax, h0, h1, h5, h6]
     exact ⟨hij, hcl, hcs, hct, hcd⟩
    ·have hjl : j < xs.length := by omega
     have hjl' : (j : Int) < xs.length := by omega
     obtain ⟨x, hx⟩ : ∃ x, xs[j] = x := ⟨_, rfl⟩
     have hx' : xs[j]? = some x := by simp [hjl, hx]
     have hcj : cur[j]? = some [.int .i64 x] := by
      have h7 : (cur.drop j)[0]? = (fl.drop j)[0]? := by rw [hcd]
      rw [List.getElem?_drop, List.getElem?_drop, Nat.add_zero, hcells j hjl, hx'] at h7
      exact h7
     have hwj := za5 (n := j) (by omega)
     have hwi := za5 (n := i) (by omega)
     have hil' : (i : Int) < xs.length := by omega
     obtain ⟨r0, hr0⟩ : ∃ r0, cur[i]? = some r0 := ⟨cur[i]'(by omega), by simp⟩
     have hr0l : r0.length = 1 := hcr r0 (List.mem_of_getElem? hr0)
     obtain ⟨d0, rfl⟩ := List.length_eq_one_iff.1 hr0l
     have hsw := hcs.sweep
     have hicl : i < cur.length := by omega
     have htk : xs.take (j + 1) = xs.take j ++ [x] := by rw [List.take_add_one, hx']; rfl
     simp -implicitDefEqProofs [-zax, h0, h1, h5, h6, hjl', hcj, hp.1, hp.2.1]
     refine zaa (hp.2.2 x (List.mem_of_getElem? hx')) ?_
     simp -implicitDefEqProofs [-zax]
     refine zaf (fun hpx => ?_) (fun hpx => ?_)
     all_goals simp -implicitDefEqProofs [-zax, h0, h1, h5, h6, hwi, hwj, hil', hr0, hp.1, hp.2.1, hsw]
     ·refine ⟨i, j + 1, ?_⟩
      simp
      refine ⟨by omega, by omega, by omega, hcl, hcs, hcr, ?_, ?_⟩
      ·rw [htk, List.filter_append, hct]
       simp [hpx]
      ·rw [← List.drop_drop, ← List.drop_drop, hcd]
     ·refine ⟨i + 1, j + 1, ?_⟩
      simp
      refine ⟨by omega, by omega, by omega, hcl, hcs.set (by simp [D.still]) i, ?_, ?_, ?_⟩
      ·intro r hr
       rcases List.mem_or_eq_of_mem_set hr with h | h
       ·exact hcr r h
       ·rw [h]; rfl
      ·rw [htk, List.filter_append, List.map_append, ← hct, List.take_add_one]
       simp [hpx, irow, List.take_set, hicl]
       rw [List.set_eq_of_length_le (by simp; omega)]
      ·rw [List.drop_set_of_lt (by omega), ← List.drop_drop, ← List.drop_drop, hcd]
   ·rintro ⟨fr, bs⟩ ⟨cur, rfl, hlt, hcl, hcs, hct, hcd, h0, h5⟩
    simp -implicitDefEqProofs [-zax, h0, h5]
    refine zk6 (m) (xs.length) (by simp; rfl) rfl (by first | rfl | omega | (simp [za8]; done) | (simp [za8]; omega) | (simp; done) | (simp; omega)) (by first | rfl | omega | (simp [za8]; done) | (simp [za8]; omega) | (simp; done) | (simp; omega)) (by omega) (by first | rfl | omega | (simp [za8]; done) | (simp [za8]; omega) | (simp; done) | (simp; omega)) rfl (by first | rfl | omega | (simp [za8]; done) | (simp [za8]; omega) | (simp; done) | (simp; omega)) ?_
    simp -implicitDefEqProofs [-zax, h0, h5]
    try refine zem (by first | omega | (simp; done) | (simp; omega)) ?_
    try simp -implicitDefEqProofs [-zax, h0, h5]
    have hov := za6 (rows := cur) (p := m) (ys := List.replicate (xs.length - m) [D.int IntKind.i64 0]) (by simp; omega)
    refine zk6 (0) (m) (by simp; rfl) rfl (by first | rfl | omega | (simp [za8]; done) | (simp [za8]; omega) | (simp; done) | (simp; omega)) (by first | rfl | omega | (simp [za8]; done) | (simp [za8]; omega) | (simp; done) | (simp; omega)) (by omega) (by first | rfl | omega | (simp [za8]; done) | (simp [za8]; omega) | (simp; done) | (simp; omega)) rfl (by first | rfl | omega | (simp [za8]; done) | (simp [za8]; omega) | (simp; done) | (simp; omega)) ?_
    simp -implicitDefEqProofs [-zax, h0, h5]
    rw [zeu (by omega) (by simpa using hcs.ovr (b := List.replicate (xs.length - m) [D.int IntKind.i64 0]) (fun r hr d hd => by rw [(List.mem_replicate.1 hr).2] at hd; rw [List.mem_singleton.1 hd]; rfl) m)]
    simp only [List.take_succ_cons, List.take_zero, ovr, List.length_replicate, hct, show m + (xs.length - m) = xs.length by omega, hcd, List.append_assoc]
   ·rintro ⟨fr, bs⟩ h
    exact h.elim
  ·refine zcx rfl rfl rfl ?_ ?_ (.inl rfl)
   ·simp; omega
   ·rw [List.drop_zero, List.append_assoc, List.take_left' (by simpa using hm)]
theorem z1w (xs : List Int) (id : Int) (hl : xs.length ≤ cap) : Den PP 112 [zap xs, .int .i64 id] [] (.tup [.ref 0 0 (zqb xs id).1.length, .int .i64 (zqb xs id).2]) [⟨(zqb xs id).1.map irow, 1, .mut⟩] := by
 have c1 := zpt xs hl
 have c2 := fun h : xs.length ≤ 16 => zqn (xs.map irow) (by simp) (by simp; omega)
 have c3 := fun h => z32 xs id hl h
 simp only [zap, List.length_map] at c1 c2 c3
 refine zpy [25, 31] [31] [31] [] (fun _ h => absurd h List.not_mem_nil) zvb ?_
 simp -implicitDefEqProofs [zpi, zap]
 refine zaa c1 ?_
 simp -implicitDefEqProofs
 refine zac (fun h1 => ?_) (fun h1 => ?_)
 rotate_left
 ·simp -implicitDefEqProofs [h1, zqb]
 obtain ⟨hr, hp, h16⟩ := (zcy xs).1 h1
 simp -implicitDefEqProofs [h1]
 refine zaa (zaz id) ?_
 simp -implicitDefEqProofs
 refine zaf (fun h2 => ?_) (fun h2 => ?_)
 rotate_left
 ·simp -implicitDefEqProofs [h1, h2, zqb]
 simp -implicitDefEqProofs [h1, h2]
 refine zaa (c3 hr) ?_
 simp -implicitDefEqProofs
 refine zae (fun h3 => ?_) (fun h3 => ?_)
 ·have h4 := (z6s hr).1 h3
  simp -implicitDefEqProofs
  refine zaa (c2 h16) ?_
  simp -implicitDefEqProofs [h1, h2, h4, zqb]
 ·have h4 : ¬ id ∈ xs := fun h => h3 ((z6s hr).2 h)
  simp -implicitDefEqProofs
  refine zae (fun h5 => ?_) (fun h5 => ?_)
  ·have h5' : xs.length = 16 := by omega
   simp -implicitDefEqProofs [h1, h2, h4, h5', zqb]
  ·have h5' : ¬ xs.length = 16 := by omega
   simp -implicitDefEqProofs
   refine zaa (c2 h16) ?_
   simp -implicitDefEqProofs
   refine zjf rfl (by simp) (by simp) (by simp) (z7l (xs.map irow) (irow id) (posI xs id) (by simp) (StillR.map _ _ fun a _ d hd => by rw [List.mem_singleton.1 hd]; rfl) (by intro r hr; rw [List.mem_singleton.1 hr]; exact ⟨rfl, rfl⟩) (by intro d hd; rw [List.mem_singleton.1 hd]; rfl) (by simpa using qar xs id) (by simp; omega)) ?_
   rw [← zzy, z27]
   simp -implicitDefEqProofs [zar, h1, h2, h4, h5', zqb]
theorem zg9 (id a : Int) : Den PP 224 [.int .i64 a, .mem [.int .i64 id]] [] (.bool (decide (a = id))) [] := by
 refine zak [] [] zo1 ?_
 simp -implicitDefEqProofs [zi9]
theorem zuv (xs : List Int) (id : Int) (hl : xs.length ≤ cap) : Den PP 191 [zap xs, .int .i64 id] [] (.tup [.ref 0 0 (zj7 xs id).1.length, .int .i64 (zj7 xs id).2]) [⟨(zj7 xs id).1.map irow, 1, .mut⟩] := by
 have c1 := zpt xs hl
 have c2 := fun h : xs.length ≤ 16 => zqn (xs.map irow) (by simp) (by simp; omega)
 have c3 := fun h : xs.length ≤ 16 => zkf xs 224 [.mem [.int .i64 id]] (fun a => decide (a = id)) ⟨fun _ => rfl, fun _ _ => rfl, fun a _ => zg9 id a⟩ (by omega)
 simp only [zap, List.length_map] at c1 c2
 refine zpy [17] [17] [17] [] (fun _ h => absurd h List.not_mem_nil) zqt ?_
 simp -implicitDefEqProofs [zkm, zap]
 refine zaa c1 ?_
 simp -implicitDefEqProofs
 refine zac (fun h1 => ?_) (fun h1 => ?_)
 rotate_left
 ·simp -implicitDefEqProofs [h1, zj7]
 obtain ⟨hr, hp, h16⟩ := (zcy xs).1 h1
 simp -implicitDefEqProofs [h1]
 refine zaa (zaz id) ?_
 simp -implicitDefEqProofs
 refine zaf (fun h2 => ?_) (fun h2 => ?_)
 rotate_left
 ·simp -implicitDefEqProofs [h1, h2, zj7]
 simp -implicitDefEqProofs [h1, h2]
 refine zaa (c2 h16) ?_
 simp -implicitDefEqProofs
 refine zjf rfl (by simp) (by simp) (by simp) (c3 h16) ?_
 simp -implicitDefEqProofs [zar, h1, h2, zj7]
end Go.AM
/- AM: contracts: the document's answers about views, more. -/
namespace Go.AM
theorem z3r (v : View) (hs : v.small) : Den PP 160 [zd6 v] [] (.bool (zld v)) [] := by
 have c1 := zt7 v.peers hs.1
 have c2 := qgr (v.peers.map Peer.id)
 have c3 := z2f v.id v.peers (zvy hs.1)
 have c4 := zw3 v.passive hs.2
 simp [zat, zap, irow] at c1 c2 c3 c4
 have hw : IntKind.wrap .i64 ((v.peers.length : Int) + v.passive.length) = v.peers.length + v.passive.length := by
  obtain ⟨a, b⟩ := hs
  unfold zbo at a
  unfold cap at b
  exact zaw (by omega) (by omega)
 obtain ⟨A, hA⟩ : ∃ A, v.passive.any (zwe v) = A := ⟨_, rfl⟩
 refine zak [] [] zns ?_
 simp -implicitDefEqProofs [zig, zd6, View.cells, zat, zap]
 refine zaa c1 ?_
 simp -implicitDefEqProofs
 refine za3 v.passive (fun i rest => fun ⟨fr, bs⟩ => bs = [⟨[v.cells], 3, .box⟩] ∧ fr 1 = .ptr 0 0 0 ∧ fr 3 = .sl (v.peers.map fun p => irow p.id) v.peers.length ∧ fr 4 = .int .i64 i ∧ rest.any (zwe v) = A)
  (fun ⟨fr, bs⟩ => bs = [⟨[v.cells], 3, .box⟩] ∧ fr 1 = .ptr 0 0 0 ∧ A = false) (fun ⟨fr, bs⟩ => fr 2 = .bool false ∧ A = true) zgo.eq_1 ?_ ?_ ?_ ?_ ?_
 ·exact ⟨rfl, rfl, rfl, rfl, hA⟩
 ·rintro i ⟨fr, bs⟩ hi ⟨rfl, h1, h3, h4, he⟩
  simp -implicitDefEqProofs [h1, h3, h4, hi, View.cells, zap]
  simpa using he.symm
 ·rintro i a rest ⟨fr, bs⟩ hlt hget hg hd hd2 ⟨rfl, h1, h3, h4, he⟩
  have hlt' : (i : Int) < v.passive.length := by omega
  have hw2 := za5 (n := i) (by have := hs.2; unfold cap at this; omega)
  have c2' := c2 a (zvy hs.1)
  simp -implicitDefEqProofs [h1, h3, h4, hlt, hlt', hget, hg, hw2, View.cells, zap, irow]
  repeat' ((first | refine zaa (by first | exact c2') ?_ | ((with_reducible first | refine zaj ?_ ?_ | refine zah ?_ ?_ | refine zae ?_ ?_ | refine zad ?_ ?_) <;> intro _) | ((with_reducible first | refine zao ?_ ?_ | refine zaq ?_ ?_ | refine zal ?_ ?_ | refine zac ?_ ?_ | refine zai ?_ ?_ | refine zan ?_ ?_ | refine zaf ?_ ?_ | refine zab ?_ ?_) <;> intro hq <;> (try simp at hq)) | refine zag (by omega) ?_ | refine zam (by omega) ?_) <;> simp -implicitDefEqProofs [*, View.cells, zat])
  all_goals grind [zwe, irow]
 ·rintro ⟨fr, bs⟩ ⟨rfl, h1, he⟩
  simp -implicitDefEqProofs [h1, he, hA, View.cells, zap, zat]
  repeat' ((first | refine zaa (by first | exact c3 | exact c4) ?_ | ((with_reducible first | refine zaj ?_ ?_ | refine zah ?_ ?_ | refine zae ?_ ?_ | refine zad ?_ ?_) <;> intro _) | ((with_reducible first | refine zao ?_ ?_ | refine zaq ?_ ?_ | refine zal ?_ ?_ | refine zac ?_ ?_ | refine zai ?_ ?_ | refine zan ?_ ?_ | refine zaf ?_ ?_ | refine zab ?_ ?_) <;> intro hq <;> (try simp at hq)) | refine zag (by omega) ?_ | refine zam (by omega) ?_) <;> simp -implicitDefEqProofs [*, zld, hw])
  omega
 ·rintro ⟨fr, bs⟩ h
  simp -implicitDefEqProofs [h.1, h.2, hA, zld]
theorem z02 (v : View) (hs : v.small) : Den PP 160 [zd6 v] [] (.bool (zbd v)) [] := by
 rw [← z7n]
 exact z3r v hs
theorem z52 (ids : List Int) (key : Int) (hl : ids.length ≤ cap) : Den PP 17 [zap ids, .int .i64 key] [] (zng (zfj ids key)) [] := by
 have c1 := zlz ids hl
 simp [zap] at c1
 obtain ⟨A, hA⟩ : ∃ A, ids.all place = A := ⟨_, rfl⟩
 rw [hA] at c1
 refine zak [] [] zn4 ?_
 simp -implicitDefEqProofs [zid, zap, zng]
 cases ids with
 | nil =>
   simp at c1 hA
   subst hA
   simp -implicitDefEqProofs
   repeat' ((first | refine zaa (by first | exact c1 | exact zdj _) ?_ | ((with_reducible first | refine zaj ?_ ?_ | refine zah ?_ ?_ | refine zae ?_ ?_ | refine zad ?_ ?_) <;> intro _) | ((with_reducible first | refine zao ?_ ?_ | refine zaq ?_ ?_ | refine zal ?_ ?_ | refine zac ?_ ?_ | refine zai ?_ ?_ | refine zan ?_ ?_ | refine zaf ?_ ?_ | refine zab ?_ ?_) <;> intro hq <;> (try simp at hq)) | refine zag (by omega) ?_ | refine zam (by omega) ?_) <;> simp -implicitDefEqProofs [*, zfj])
 | cons x xs =>
   simp at c1
   unfold cap at hl
   simp at hl
   obtain ⟨R, hR⟩ : ∃ R, zfj (x :: xs) key = R := ⟨_, rfl⟩
   unfold zfj at hR
   rw [hA] at hR
   simp -implicitDefEqProofs
   repeat' ((first | refine zaa (by first | exact c1 | exact zdj _) ?_ | ((with_reducible first | refine zaj ?_ ?_ | refine zah ?_ ?_ | refine zae ?_ ?_ | refine zad ?_ ?_) <;> intro _) | ((with_reducible first | refine zao ?_ ?_ | refine zaq ?_ ?_ | refine zal ?_ ?_ | refine zac ?_ ?_ | refine zai ?_ ?_ | refine zan ?_ ?_ | refine zaf ?_ ?_ | refine zab ?_ ?_) <;> intro hq <;> (try simp at hq)) | refine zag (by omega) ?_ | refine zam (by omega) ?_) <;> simp -implicitDefEqProofs [*, irow])
   rotate_left
   all_goals try grind [zfj]
   refine za3 xs (fun i rest => fun ⟨fr, bs⟩ => ∃ m, bs = [] ∧ fr 0 = .sl ((x :: xs).map irow) (xs.length + 1) ∧ fr 1 = .int .i64 key ∧ fr 6 = .int .i64 m ∧ fr 7 = .int .i64 (i + 1 : Nat) ∧ zdv key m rest = zdv key x xs)
    (fun ⟨fr, bs⟩ => bs = [] ∧ fr 6 = .int .i64 (zdv key x xs)) (fun ⟨fr, bs⟩ => False) zgs.eq_1 ?_ ?_ ?_ ?_ ?_
   ·exact ⟨x, rfl, rfl, rfl, rfl, rfl, rfl⟩
   ·rintro i ⟨fr, bs⟩ hi ⟨m, rfl, h0, h1, h6, h7, he⟩
    simp -implicitDefEqProofs [h0, h1, h6, h7, hi]
    simpa [zdv] using he
   ·rintro i a rest ⟨fr, bs⟩ hlt hget hg hd hd2 ⟨m, rfl, h0, h1, h6, h7, he⟩
    have hlt' : (i : Int) < xs.length := by omega
    have hlt2 : (i : Int) + 1 < xs.length + 1 := by omega
    have hw2 : IntKind.wrap .i64 ((i : Int) + 1 + 1) = (i : Int) + 1 + 1 := zaw (by omega) (by omega)
    have e1 : ((i : Int) + 1).toNat = i + 1 := by omega
    have e2 : (0 : Int) ≤ i + 1 := by omega
    simp -implicitDefEqProofs [h0, h1, h6, h7, hlt, hlt', hlt2, e1, e2, hget, hg, hw2, irow]
    repeat' ((first | refine zaa (by first | exact z3g _ _) ?_ | ((with_reducible first | refine zaj ?_ ?_ | refine zah ?_ ?_ | refine zae ?_ ?_ | refine zad ?_ ?_) <;> intro _) | ((with_reducible first | refine zao ?_ ?_ | refine zaq ?_ ?_ | refine zal ?_ ?_ | refine zac ?_ ?_ | refine zai ?_ ?_ | refine zan ?_ ?_ | refine zaf ?_ ?_ | refine zab ?_ ?_) <;> intro hq <;> (try simp at hq)) | refine zag (by omega) ?_ | refine zam (by omega) ?_) <;> simp -implicitDefEqProofs [*, irow])
    all_goals grind [zdv]
   ·rintro ⟨fr, bs⟩ ⟨rfl, h1⟩
    simp -implicitDefEqProofs [h1]
    grind [zfj]
   ·rintro ⟨fr, bs⟩ h
    exact h.elim
end Go.AM
/- AM: contracts: items, stores, nodes. -/
namespace Go.AM
theorem zue (c w : Int) : Den PP 195 [.agg [.int .i64 c, .int .i64 w]] [] (.bool (zoe c w)) [] := by
 refine zak [] [] zwx ?_
 simp -implicitDefEqProofs [zqu]
 repeat' ((first | refine zaa (by first | exact zaz _) ?_ | ((with_reducible first | refine zaj ?_ ?_ | refine zah ?_ ?_ | refine zae ?_ ?_ | refine zad ?_ ?_) <;> intro _) | ((with_reducible first | refine zao ?_ ?_ | refine zaq ?_ ?_ | refine zal ?_ ?_ | refine zac ?_ ?_ | refine zai ?_ ?_ | refine zan ?_ ?_ | refine zaf ?_ ?_ | refine zab ?_ ?_) <;> intro hq <;> (try simp at hq)) | refine zag (by omega) ?_ | refine zam (by omega) ?_) <;> simp -implicitDefEqProofs [*, zoe])
theorem zpb (c w : Int) : Den PP 180 [.agg [.int .i64 c, .int .i64 w]] [] (.bool (zoe c w)) [] := by
 refine zak [] [] zkl ?_
 simp -implicitDefEqProofs [zgr]
 repeat' ((first | refine zaa (by first | exact zdj _) ?_ | ((with_reducible first | refine zaj ?_ ?_ | refine zah ?_ ?_ | refine zae ?_ ?_ | refine zad ?_ ?_) <;> intro _) | ((with_reducible first | refine zao ?_ ?_ | refine zaq ?_ ?_ | refine zal ?_ ?_ | refine zac ?_ ?_ | refine zai ?_ ?_ | refine zan ?_ ?_ | refine zaf ?_ ?_ | refine zab ?_ ?_) <;> intro hq <;> (try simp at hq)) | refine zag (by omega) ?_ | refine zam (by omega) ?_) <;> simp -implicitDefEqProofs [*, zoe])
theorem zrf (x : Int) : Den PP 149 [.int .i64 x] [] (.bool (byte x)) [] := by
 refine zak [] [] z19 ?_
 simp -implicitDefEqProofs [zu9]
 repeat' ((first | ((with_reducible first | refine zaj ?_ ?_ | refine zah ?_ ?_ | refine zae ?_ ?_ | refine zad ?_ ?_) <;> intro _) | ((with_reducible first | refine zao ?_ ?_ | refine zaq ?_ ?_ | refine zal ?_ ?_ | refine zac ?_ ?_ | refine zai ?_ ?_ | refine zan ?_ ?_ | refine zaf ?_ ?_ | refine zab ?_ ?_) <;> intro hq <;> (try simp at hq)) | refine zag (by omega) ?_ | refine zam (by omega) ?_) <;> simp -implicitDefEqProofs [*, byte])
theorem z4f (x : Int) : Den PP 179 [.int .i64 x] [] (.bool (byte x)) [] := by
 refine zak [] [] znu ?_
 simp -implicitDefEqProofs [zie]
 repeat' ((first | ((with_reducible first | refine zaj ?_ ?_ | refine zah ?_ ?_ | refine zae ?_ ?_ | refine zad ?_ ?_) <;> intro _) | ((with_reducible first | refine zao ?_ ?_ | refine zaq ?_ ?_ | refine zal ?_ ?_ | refine zac ?_ ?_ | refine zai ?_ ?_ | refine zan ?_ ?_ | refine zaf ?_ ?_ | refine zab ?_ ?_) <;> intro hq <;> (try simp at hq)) | refine zag (by omega) ?_ | refine zam (by omega) ?_) <;> simp -implicitDefEqProofs [*, byte])
 all_goals omega
theorem zzc (x : Int) : Den PP 159 [.int .i64 x] [] (.bool (byte x)) [] := by
 refine zak [] [] znb ?_
 simp -implicitDefEqProofs [zhm]
 repeat' ((first | ((with_reducible first | refine zaj ?_ ?_ | refine zah ?_ ?_ | refine zae ?_ ?_ | refine zad ?_ ?_) <;> intro _) | ((with_reducible first | refine zao ?_ ?_ | refine zaq ?_ ?_ | refine zal ?_ ?_ | refine zac ?_ ?_ | refine zai ?_ ?_ | refine zan ?_ ?_ | refine zaf ?_ ?_ | refine zab ?_ ?_) <;> intro hq <;> (try simp at hq)) | refine zag (by omega) ?_ | refine zam (by omega) ?_) <;> simp -implicitDefEqProofs [*, byte])
 all_goals omega
theorem zos (i : Item) : Den PP 123 [.agg i.row] [] (.bool (zba i)) [] := by
 refine zak [] [] z3x ?_
 simp -implicitDefEqProofs [zxj, Item.row]
 repeat' ((first | refine zaa (by first | exact zrf _ | exact zue _ _) ?_ | ((with_reducible first | refine zaj ?_ ?_ | refine zah ?_ ?_ | refine zae ?_ ?_ | refine zad ?_ ?_) <;> intro _) | ((with_reducible first | refine zao ?_ ?_ | refine zaq ?_ ?_ | refine zal ?_ ?_ | refine zac ?_ ?_ | refine zai ?_ ?_ | refine zan ?_ ?_ | refine zaf ?_ ?_ | refine zab ?_ ?_) <;> intro hq <;> (try simp at hq)) | refine zag (by omega) ?_ | refine zam (by omega) ?_) <;> simp -implicitDefEqProofs [*, zba])
theorem zly (i : Item) : Den PP 106 [.agg i.row] [] (.bool (zba i)) [] := by
 refine zak [] [] znp ?_
 simp -implicitDefEqProofs [zih, Item.row]
 repeat' ((first | refine zaa (by first | exact z4f _ | exact zpb _ _) ?_ | ((with_reducible first | refine zaj ?_ ?_ | refine zah ?_ ?_ | refine zae ?_ ?_ | refine zad ?_ ?_) <;> intro _) | ((with_reducible first | refine zao ?_ ?_ | refine zaq ?_ ?_ | refine zal ?_ ?_ | refine zac ?_ ?_ | refine zai ?_ ?_ | refine zan ?_ ?_ | refine zaf ?_ ?_ | refine zab ?_ ?_) <;> intro hq <;> (try simp at hq)) | refine zag (by omega) ?_ | refine zam (by omega) ?_) <;> simp -implicitDefEqProofs [*, zba])
theorem zv4 (k c w v : Int) (g : Bool) : Den PP 106 [.agg [.int .i64 k, .int .i64 c, .int .i64 w, .int .i64 v, .bool g]] [] (.bool (zba ⟨k, c, w, v, g⟩)) [] := zly ⟨k, c, w, v, g⟩
theorem z00 (k c w v : Int) (g : Bool) : Den PP 123 [.agg [.int .i64 k, .int .i64 c, .int .i64 w, .int .i64 v, .bool g]] [] (.bool (zba ⟨k, c, w, v, g⟩)) [] := zos ⟨k, c, w, v, g⟩
def zh5 (is : List Item) (i : Nat) : Option Int := if i = 0 then none else (is[i - 1]?).map Item.key
theorem zv8 (is : List Item) (hl : is.length ≤ zbo) : Den PP 115 [zav is] [] (.bool (zbu is)) [] := by
 obtain ⟨A, hA⟩ : ∃ A, zgy none is = A := ⟨_, rfl⟩
 unfold zbo at hl
 refine zak [] [] z23 ?_
 simp -implicitDefEqProofs [zvw, zav]
 refine za3 is (fun i rest => fun ⟨fr, bs⟩ => bs = [] ∧ fr 0 = zav is ∧ fr 5 = zav is ∧ fr 6 = .int .i64 is.length ∧ fr 7 = .int .i64 i ∧ zgy (zh5 is i) rest = A)
  (fun ⟨fr, bs⟩ => bs = [] ∧ fr 0 = zav is ∧ A = true) (fun ⟨fr, bs⟩ => fr 2 = .bool false ∧ A = false) zpe.eq_1 ?_ ?_ ?_ ?_ ?_
 ·exact ⟨rfl, rfl, rfl, rfl, rfl, hA⟩
 ·rintro i ⟨fr, bs⟩ hi ⟨rfl, h0, h5, h6, h7, he⟩
  simp -implicitDefEqProofs [h0, h5, h6, h7, hi]
  simpa [zgy] using he.symm
 ·rintro i a rest ⟨fr, bs⟩ hlt hget hg hd hd2 ⟨rfl, h0, h5, h6, h7, he⟩
  have hlt' : (i : Int) < is.length := by omega
  have hw := za5 (n := i) (by omega)
  have c1 := zos a
  simp [Item.row] at c1
  simp only [zgy] at he
  have hp : zh5 is (i + 1) = some a.key := by simp [zh5, hget]
  cases i with
  | zero =>
    simp [zh5] at he
    simp -implicitDefEqProofs [h0, h5, h6, h7, hlt, hlt', hget, hg, zav, Item.row]
    repeat' ((first | refine zaa (by first | exact c1) ?_ | ((with_reducible first | refine zaj ?_ ?_ | refine zah ?_ ?_ | refine zae ?_ ?_ | refine zad ?_ ?_) <;> intro _) | ((with_reducible first | refine zao ?_ ?_ | refine zaq ?_ ?_ | refine zal ?_ ?_ | refine zac ?_ ?_ | refine zai ?_ ?_ | refine zan ?_ ?_ | refine zaf ?_ ?_ | refine zab ?_ ?_) <;> intro hq <;> (try simp at hq)) | refine zag (by omega) ?_ | refine zam (by omega) ?_) <;> simp -implicitDefEqProofs [*, zav, Item.row, hw])
    all_goals grind
  | succ j =>
    have hj : j < is.length := by omega
    have hj' : (j : Int) < is.length := by omega
    have hjw : IntKind.wrap .i64 (j : Int) = j := zaw (by omega) (by omega)
    obtain ⟨b, hb⟩ : ∃ b, is[j] = b := ⟨_, rfl⟩
    have hpj : zh5 is (j + 1) = some b.key := by simp [zh5, hj, hb]
    rw [hpj] at he
    simp -implicitDefEqProofs [h0, h5, h6, h7, hlt, hlt', hget, hg, zav, Item.row]
    repeat' ((first | refine zaa (by first | exact c1) ?_ | ((with_reducible first | refine zaj ?_ ?_ | refine zah ?_ ?_ | refine zae ?_ ?_ | refine zad ?_ ?_) <;> intro _) | ((with_reducible first | refine zao ?_ ?_ | refine zaq ?_ ?_ | refine zal ?_ ?_ | refine zac ?_ ?_ | refine zai ?_ ?_ | refine zan ?_ ?_ | refine zaf ?_ ?_ | refine zab ?_ ?_) <;> intro hq <;> (try simp at hq)) | refine zag (by omega) ?_ | refine zam (by omega) ?_) <;> simp -implicitDefEqProofs [*, zav, Item.row, hw, hb])
    all_goals grind
 ·rintro ⟨fr, bs⟩ ⟨rfl, h0, h1⟩
  simp -implicitDefEqProofs [h0, zav, zbu, hA, h1]
  omega
 ·rintro ⟨fr, bs⟩ h
  simp -implicitDefEqProofs [h.1, h.2, zbu, hA]
theorem zs3 (is : List Item) (hl : is.length ≤ zbo) : Den PP 56 [zav is] [] (.bool (zbu is)) [] := by
 obtain ⟨A, hA⟩ : ∃ A, zgy none is = A := ⟨_, rfl⟩
 unfold zbo at hl
 refine zak [] [] zm3 ?_
 simp -implicitDefEqProofs [zhp, zav]
 refine za3 is (fun i rest => fun ⟨fr, bs⟩ => bs = [] ∧ fr 0 = zav is ∧ fr 3 = .int .i64 i ∧ zgy (zh5 is i) rest = A)
  (fun ⟨fr, bs⟩ => bs = [] ∧ fr 0 = zav is ∧ A = true) (fun ⟨fr, bs⟩ => fr 2 = .bool false ∧ A = false) zgb.eq_1 ?_ ?_ ?_ ?_ ?_
 ·exact ⟨rfl, rfl, rfl, hA⟩
 ·rintro i ⟨fr, bs⟩ hi ⟨rfl, h0, h3, he⟩
  simp -implicitDefEqProofs [h0, h3, hi, zav]
  simpa [zgy] using he.symm
 ·rintro i a rest ⟨fr, bs⟩ hlt hget hg hd hd2 ⟨rfl, h0, h3, he⟩
  have hlt' : (i : Int) < is.length := by omega
  have hw := za5 (n := i) (by omega)
  have c1 := zly a
  simp [Item.row] at c1
  simp only [zgy] at he
  have hp : zh5 is (i + 1) = some a.key := by simp [zh5, hget]
  cases i with
  | zero =>
    simp [zh5] at he
    simp -implicitDefEqProofs [h0, h3, hlt, hlt', hget, hg, zav, Item.row]
    repeat' ((first | refine zaa (by first | exact c1) ?_ | ((with_reducible first | refine zaj ?_ ?_ | refine zah ?_ ?_ | refine zae ?_ ?_ | refine zad ?_ ?_) <;> intro _) | ((with_reducible first | refine zao ?_ ?_ | refine zaq ?_ ?_ | refine zal ?_ ?_ | refine zac ?_ ?_ | refine zai ?_ ?_ | refine zan ?_ ?_ | refine zaf ?_ ?_ | refine zab ?_ ?_) <;> intro hq <;> (try simp at hq)) | refine zag (by omega) ?_ | refine zam (by omega) ?_) <;> simp -implicitDefEqProofs [*, zav, Item.row, hw])
    all_goals grind
  | succ j =>
    have hj : j < is.length := by omega
    have hj' : (j : Int) < is.length := by omega
    have hjw : IntKind.wrap .i64 (j : Int) = j := zaw (by omega) (by omega)
    obtain ⟨b, hb⟩ : ∃ b, is[j] = b := ⟨_, rfl⟩
    have hpj : zh5 is (j + 1) = some b.key := by simp [zh5, hj, hb]
    rw [hpj] at he
    simp -implicitDefEqProofs [h0, h3, hlt, hlt', hget, hg, zav, Item.row]
    repeat' ((first | refine zaa (by first | exact c1) ?_ | ((with_reducible first | refine zaj ?_ ?_ | refine zah ?_ ?_ | refine zae ?_ ?_ | refine zad ?_ ?_) <;> intro _) | ((with_reducible first | refine zao ?_ ?_ | refine zaq ?_ ?_ | refine zal ?_ ?_ | refine zac ?_ ?_ | refine zai ?_ ?_ | refine zan ?_ ?_ | refine zaf ?_ ?_ | refine zab ?_ ?_) <;> intro hq <;> (try simp at hq)) | refine zag (by omega) ?_ | refine zam (by omega) ?_) <;> simp -implicitDefEqProofs [*, zav, Item.row, hw, hb])
    all_goals grind
 ·rintro ⟨fr, bs⟩ ⟨rfl, h0, h1⟩
  simp -implicitDefEqProofs [h0, zav, zbu, hA, h1]
  omega
 ·rintro ⟨fr, bs⟩ h
  simp -implicitDefEqProofs [h.1, h.2, zbu, hA]
theorem qd6 (t : Told) : Den PP 117 [.agg t.row] [] (.bool (zdf t)) [] := by
 refine zak [] [] z3q ?_
 simp -implicitDefEqProofs [zxc, Told.row]
 repeat' ((first | refine zaa (by first | exact zrf _) ?_ | ((with_reducible first | refine zaj ?_ ?_ | refine zah ?_ ?_ | refine zae ?_ ?_ | refine zad ?_ ?_) <;> intro _) | ((with_reducible first | refine zao ?_ ?_ | refine zaq ?_ ?_ | refine zal ?_ ?_ | refine zac ?_ ?_ | refine zai ?_ ?_ | refine zan ?_ ?_ | refine zaf ?_ ?_ | refine zab ?_ ?_) <;> intro hq <;> (try simp at hq)) | refine zag (by omega) ?_ | refine zam (by omega) ?_) <;> simp -implicitDefEqProofs [*, zdf])
end Go.AM
/- AM: contracts: nodes, sharing. -/
namespace Go.AM
theorem zn8 (xs : List Told) (hl : xs.length ≤ cap) : Den PP 189 [zay xs, .fn 117 [] []] [] (.int .i64 (gIdx zdf 0 xs)) [] := by
 obtain ⟨A, hA⟩ : ∃ A, gIdx zdf 0 xs = A := ⟨_, rfl⟩
 unfold cap at hl
 refine zak [] [] zfq ?_
 simp -implicitDefEqProofs [zdh, zay, hA]
 refine za3 xs (fun i rest => fun ⟨fr, bs⟩ => bs = [] ∧ fr 0 = zay xs ∧ fr 1 = .fn 117 [] [] ∧ fr 7 = .int .i64 xs.length ∧ fr 8 = .int .i64 i ∧ gIdx zdf i rest = A)
  (fun ⟨fr, bs⟩ => bs = [] ∧ A = -1) (fun ⟨fr, bs⟩ => fr 4 = .int .i64 A) zc4.eq_1 ?_ ?_ ?_ ?_ ?_
 ·exact ⟨rfl, rfl, rfl, rfl, rfl, hA⟩
 ·rintro i ⟨fr, bs⟩ hi ⟨rfl, h0, h1, h7, h8, he⟩
  simp -implicitDefEqProofs [h0, h1, h7, h8, hi]
  simpa [gIdx] using he.symm
 ·rintro i a rest ⟨fr, bs⟩ hlt hget hg hd hd2 ⟨rfl, h0, h1, h7, h8, he⟩
  have hlt' : (i : Int) < xs.length := by omega
  have hw := za5 (n := i) (by omega)
  have c1 := qd6 a
  simp [Told.row] at c1
  simp only [gIdx] at he
  simp -implicitDefEqProofs [h0, h1, h7, h8, hlt, hlt', hget, hg, zay, Told.row]
  repeat' ((first | refine zaa (by first | exact c1) ?_ | ((with_reducible first | refine zaj ?_ ?_ | refine zah ?_ ?_ | refine zae ?_ ?_ | refine zad ?_ ?_) <;> intro _) | ((with_reducible first | refine zao ?_ ?_ | refine zaq ?_ ?_ | refine zal ?_ ?_ | refine zac ?_ ?_ | refine zai ?_ ?_ | refine zan ?_ ?_ | refine zaf ?_ ?_ | refine zab ?_ ?_) <;> intro hq <;> (try simp at hq)) | refine zag (by omega) ?_ | refine zam (by omega) ?_) <;> simp -implicitDefEqProofs [*, zay, Told.row, hw])
  all_goals grind
 ·rintro ⟨fr, bs⟩ ⟨rfl, h1⟩
  simp -implicitDefEqProofs [h1]
 ·rintro ⟨fr, bs⟩ h
  simp -implicitDefEqProofs [h]
theorem zk0 (xs : List Told) (hl : xs.length ≤ cap) : Den PP 116 [zay xs, .fn 117 [] []] [] (.bool (xs.any zdf)) [] := by
 have c1 := zn8 xs hl
 have h1 := zy3 zdf xs 0
 obtain ⟨A, hA⟩ : ∃ A, xs.any zdf = A := ⟨_, rfl⟩
 rw [hA] at h1
 simp [zay] at c1
 refine zak [] [] zez ?_
 simp -implicitDefEqProofs [zc3, zay]
 refine zaa c1 ?_
 simp -implicitDefEqProofs [h1, hA]
theorem z7e (x : Node) (hs : x.small) : Den PP 40 [zc2 x] [] (.bool (zcg x)) [] := by
 obtain ⟨h1, h2, h3⟩ := hs
 have c1 := zoi x.view h1
 have c2 := zv8 x.items (by unfold zbo; omega)
 have c3 := zk0 x.log (by unfold cap; omega)
 obtain ⟨A, hA⟩ : ∃ A, x.log.any zdf = A := ⟨_, rfl⟩
 rw [hA] at c3
 simp [zd6, View.cells, zat, zap, zav, zay] at c1 c2 c3
 obtain ⟨hp, hq⟩ := h1
 unfold zbo at hp
 unfold cap at hq
 have w1 : IntKind.wrap .i64 ((x.view.peers.length : Int) + x.view.passive.length) = x.view.peers.length + x.view.passive.length := zaw (by omega) (by omega)
 have w2 : IntKind.wrap .i64 ((x.view.peers.length : Int) + x.view.passive.length + x.items.length) = x.view.peers.length + x.view.passive.length + x.items.length := zaw (by omega) (by omega)
 have w3 : IntKind.wrap .i64 ((x.view.peers.length : Int) + x.view.passive.length + x.items.length + x.log.length) = x.view.peers.length + x.view.passive.length + x.items.length + x.log.length := zaw (by omega) (by omega)
 refine zak [] [] z4r ?_
 simp -implicitDefEqProofs [zx8, zc2, Node.cells, zat, zap, zav, zay]
 repeat' ((first | refine zaa (by first | exact c1 | exact c2 | exact c3) ?_ | ((with_reducible first | refine zaj ?_ ?_ | refine zah ?_ ?_ | refine zae ?_ ?_ | refine zad ?_ ?_) <;> intro _) | ((with_reducible first | refine zao ?_ ?_ | refine zaq ?_ ?_ | refine zal ?_ ?_ | refine zac ?_ ?_ | refine zai ?_ ?_ | refine zan ?_ ?_ | refine zaf ?_ ?_ | refine zab ?_ ?_) <;> intro hq <;> (try simp at hq)) | refine zag (by omega) ?_ | refine zam (by omega) ?_) <;> simp -implicitDefEqProofs [*, w1, w2, w3])
 all_goals simp only [zcg, ztl, hA]
 all_goals grind
theorem zke (x : Node) (hs : x.small) : Den PP 84 [zc2 x] [] (.bool (zcj x)) [] := by
 have c1 := z7e x hs
 simp only [zc2, Node.cells, zat, zap, zav, zay] at c1
 refine zak [] [] z7r ?_
 cases hu : x.up
 all_goals
  rw [hu] at c1
  simp -implicitDefEqProofs [z1b, zc2, Node.cells, zat, zap, zav, zay, hu]
  repeat' ((first | refine zaa (by first | exact c1) ?_ | ((with_reducible first | refine zaj ?_ ?_ | refine zah ?_ ?_ | refine zae ?_ ?_ | refine zad ?_ ?_) <;> intro _) | ((with_reducible first | refine zao ?_ ?_ | refine zaq ?_ ?_ | refine zal ?_ ?_ | refine zac ?_ ?_ | refine zai ?_ ?_ | refine zan ?_ ?_ | refine zaf ?_ ?_ | refine zab ?_ ?_) <;> intro hq <;> (try simp at hq)) | refine zag (by omega) ?_ | refine zam (by omega) ?_) <;> simp -implicitDefEqProofs [*])
  all_goals simp [zcj, hu]
theorem qdd (x : Node) (hs : x.small) : Den PP 39 [zc2 x] [] (.tup [.ref 0 0 (zb5 x).1.length, .int .i64 (zb5 x).2]) [⟨(zb5 x).1.map Msg.row0, 11, .mut⟩] := by
 have c1 := zke x hs
 have c2 := qce x.view hs.1
 have c3 := fun k => zsa x.view k hs.1
 simp only [zc2, Node.cells, zd6, View.cells, zat, zap, zav, zay, zng] at c1 c2 c3
 obtain ⟨h1, h2, h3⟩ := hs
 refine zak [] [] z4w ?_
 simp -implicitDefEqProofs [zx7, zc2, Node.cells, zat, zap, zav, zay]
 repeat' ((first | refine zaa (by first | exact c1 | exact c2) ?_ | ((with_reducible first | refine zaj ?_ ?_ | refine zah ?_ ?_ | refine zae ?_ ?_ | refine zad ?_ ?_) <;> intro _) | ((with_reducible first | refine zao ?_ ?_ | refine zaq ?_ ?_ | refine zal ?_ ?_ | refine zac ?_ ?_ | refine zai ?_ ?_ | refine zan ?_ ?_ | refine zaf ?_ ?_ | refine zab ?_ ?_) <;> intro hq <;> (try simp at hq)) | refine zag (by omega) ?_ | refine zam (by omega) ?_) <;> simp -implicitDefEqProofs [*, zb5])
 have hu : x.items.length ≤ 16 := by
  have := ‹zcj x = true›
  simp only [zcj, zcg, zbu, Bool.and_eq_true, decide_eq_true_eq] at this
  exact this.2.1.1.2.2
 have hf : ∀ i, ((x.items.take i).filterMap (zf3 x)).length ≤ 16 := fun i => Nat.le_trans (List.length_filterMap_le _ _) (by simp; omega)
 refine za3 x.items (fun i rest => fun ⟨fr, bs⟩ => bs = [⟨[x.cells], 6, .box⟩, ⟨[], 11, .mut⟩, ⟨((x.items.take i).filterMap (zf3 x)).map Msg.row0, 11, .mut⟩] ∧ fr 1 = .ptr 0 0 0 ∧ fr 4 = .ref 2 0 ((x.items.take i).filterMap (zf3 x)).length ∧ fr 5 = .int .i64 (zn9 x.view).1 ∧ fr 21 = zav x.items ∧ fr 22 = .int .i64 x.items.length ∧ fr 23 = .int .i64 i)
  (fun ⟨fr, bs⟩ => bs = [⟨[x.cells], 6, .box⟩, ⟨[], 11, .mut⟩, ⟨(x.items.filterMap (zf3 x)).map Msg.row0, 11, .mut⟩] ∧ fr 4 = .ref 2 0 (x.items.filterMap (zf3 x)).length) (fun ⟨fr, bs⟩ => False) zrj.eq_1 ?_ ?_ ?_ ?_ ?_
 ·exact ⟨rfl, rfl, rfl, rfl, rfl, rfl, rfl⟩
 ·rintro i ⟨fr, bs⟩ hi ⟨rfl, h1', h4, h5, h21, h22, h23⟩
  simp -implicitDefEqProofs [h1', h4, h5, h21, h22, h23, hi]
 ·rintro i a rest ⟨fr, bs⟩ hlt hget hg hd hd2 ⟨rfl, h1', h4, h5, h21, h22, h23⟩
  have hlt' : (i : Int) < x.items.length := by omega
  have hw := za5 (n := i) (by omega)
  have htk : x.items.take (i + 1) = x.items.take i ++ [a] := by rw [List.take_add_one, hget]; rfl
  have c4 := c3 a.key
  have hfi := hf i
  generalize hacc : (x.items.take i).filterMap (zf3 x) = acc at *
  clear c3 hf
  simp -implicitDefEqProofs [h1', h4, h5, h21, h22, h23, hlt, hlt', hget, hg, Node.cells, zat, zap, zav, zay, Item.row]
  repeat' ((first | refine zaa (by first | exact c4) ?_ | ((with_reducible first | refine zaj ?_ ?_ | refine zah ?_ ?_ | refine zae ?_ ?_ | refine zad ?_ ?_) <;> intro _) | ((with_reducible first | refine zao ?_ ?_ | refine zaq ?_ ?_ | refine zal ?_ ?_ | refine zac ?_ ?_ | refine zai ?_ ?_ | refine zan ?_ ?_ | refine zaf ?_ ?_ | refine zab ?_ ?_) <;> intro hq <;> (try simp at hq)) | refine zag (by omega) ?_ | refine zam (by omega) ?_) <;> simp -implicitDefEqProofs [*, Node.cells, zat, zap, zav, zay, Item.row, hw, htk, hacc, Fits, zf3, Msg.row0])
 ·rintro ⟨fr, bs⟩ ⟨rfl, h1⟩
  simp -implicitDefEqProofs [h1]
 ·rintro ⟨fr, bs⟩ h
  exact h.elim
end Go.AM
/- AM: contracts: what the statements' own helpers do with items, messages, nodes. -/
namespace Go.AM
end Go.AM
/- AM: contracts: what the statements' helpers do with slices. -/
namespace Go.AM
end Go.AM
/- AM: contracts: the document's best, its put; what a node takes. -/
namespace Go.AM
def zpl (a b : Item) : Bool × Int := if zoe a.count a.writer && zoe b.count b.writer then (decide (b.count < a.count) || decide (a.count = b.count) && decide (b.writer < a.writer), 0) else (false, 300)
theorem qbq (a b : Item) : Den PP 107 [.agg [.int .i64 a.count, .int .i64 a.writer], .agg [.int .i64 b.count, .int .i64 b.writer]] [] (.tup [.bool (zpl a b).1, .int .i64 (zpl a b).2]) [] := by
 refine zak [] [] zp2 ?_
 simp -implicitDefEqProofs [zj5]
 repeat' ((first | refine zaa (by first | exact zpb _ _) ?_ | ((with_reducible first | refine zaj ?_ ?_ | refine zah ?_ ?_ | refine zae ?_ ?_ | refine zad ?_ ?_) <;> intro _) | ((with_reducible first | refine zao ?_ ?_ | refine zaq ?_ ?_ | refine zal ?_ ?_ | refine zac ?_ ?_ | refine zai ?_ ?_ | refine zan ?_ ?_ | refine zaf ?_ ?_ | refine zab ?_ ?_) <;> intro hq <;> (try simp at hq)) | refine zag (by omega) ?_ | refine zam (by omega) ?_) <;> simp -implicitDefEqProofs [*, zpl])
def zrw (a b : Item) : Item × Int := if zba a && (zba b && decide (a.key = b.key)) then (ze6 a b, 0) else (zeroItem, 400)
theorem qex (a b : Item) : Den PP 36 [.agg a.row, .agg b.row] [] (.tup [.agg (zrw a b).1.row, .int .i64 (zrw a b).2]) [] := by
 have c1 := zly a
 have c2 := zly b
 have c3 := qbq a b
 have hv : zba a = true → zba b = true → zpl a b = (decide (b.count < a.count) || decide (a.count = b.count) && decide (b.writer < a.writer), 0) := by
  intro h1 h2
  simp only [zba, Bool.and_eq_true] at h1 h2
  simp [zpl, h1.1.2, h2.1.2]
 have hg1 : zba a = true → a.gone = true → a.value = 0 := by
  intro h1 h2
  simp [zba, h2] at h1
  exact h1.2
 have hg2 : zba b = true → b.gone = true → b.value = 0 := by
  intro h1 h2
  simp [zba, h2] at h1
  exact h1.2
 have hbr : zrw a b = if zba a && (zba b && decide (a.key = b.key)) then (ze6 a b, 0) else (zeroItem, 400) := rfl
 obtain ⟨A, hA⟩ : ∃ A, zba a = A := ⟨_, rfl⟩
 obtain ⟨B, hB⟩ : ∃ B, zba b = B := ⟨_, rfl⟩
 rw [hA] at c1 hv hg1 hbr
 rw [hB] at c2 hv hg2 hbr
 obtain ⟨r, hr⟩ : ∃ r, zrw a b = r := ⟨_, rfl⟩
 obtain ⟨nr, hnr⟩ : ∃ nr, zpl a b = nr := ⟨_, rfl⟩
 rw [hr] at hbr ⊢
 rw [hnr] at hv c3
 obtain ⟨ak, ac, aw, av, ag⟩ := a
 obtain ⟨bk, bc, bw, bv, bg⟩ := b
 simp only [Item.row] at c1 c2 c3 hv hg1 hg2 hbr ⊢
 clear hA hB hr hnr
 refine zak [] [] zqp ?_
 cases ag <;> cases bg
 all_goals
  simp -implicitDefEqProofs [zla, EQS]
  repeat' (first | (refine zaa (by first | exact c1 | exact c2 | exact c3) ?_; simp -implicitDefEqProofs [*, EQS]) | (with_reducible refine zaj (fun _ => ?_) (fun _ => ?_) <;> simp -implicitDefEqProofs [*, EQS]) | (with_reducible refine zah (fun _ => ?_) (fun _ => ?_) <;> simp -implicitDefEqProofs [*, EQS]) | (with_reducible refine zao (fun hq => ?_) (fun hq => ?_) <;> (try simp at hq) <;> simp -implicitDefEqProofs [*, EQS]) | (with_reducible refine zaq (fun hq => ?_) (fun hq => ?_) <;> (try simp at hq) <;> simp -implicitDefEqProofs [*, EQS]) | (with_reducible refine zal (fun hq => ?_) (fun hq => ?_) <;> (try simp at hq) <;> simp -implicitDefEqProofs [*, EQS]) | (with_reducible refine zac (fun hq => ?_) (fun hq => ?_) <;> (try simp at hq) <;> simp -implicitDefEqProofs [*, EQS]) | (with_reducible refine zae (fun _ => ?_) (fun _ => ?_) <;> simp -implicitDefEqProofs [*, EQS]) | (with_reducible refine zad (fun _ => ?_) (fun _ => ?_) <;> simp -implicitDefEqProofs [*, EQS]) | (with_reducible refine zai (fun hq => ?_) (fun hq => ?_) <;> (try simp at hq) <;> simp -implicitDefEqProofs [*, EQS]) | (with_reducible refine zan (fun hq => ?_) (fun hq => ?_) <;> (try simp at hq) <;> simp -implicitDefEqProofs [*, EQS]) | (with_reducible refine zaf (fun hq => ?_) (fun hq => ?_) <;> (try simp at hq) <;> simp -implicitDefEqProofs [*, EQS]) | (with_reducible refine zab (fun hq => ?_) (fun hq => ?_) <;> (try simp at hq) <;> simp -implicitDefEqProofs [*, EQS]) | (refine zag (by omega) ?_; simp -implicitDefEqProofs [*, EQS]) | (refine zam (by omega) ?_; simp -implicitDefEqProofs [*, EQS]))
  all_goals (subst hbr; simp [ze6, zfn, zeroItem] <;> grind)
end Go.AM
/- AM: contracts: the best of two, a store's item, its put. -/
namespace Go.AM
theorem zzk (a b : Item) : Den PP 230 [.agg [.int .i64 a.count, .int .i64 a.writer], .agg [.int .i64 b.count, .int .i64 b.writer]] [] (.tup [.bool (zpl a b).1, .int .i64 (zpl a b).2]) [] := by
 refine zak [] [] zto ?_
 simp -implicitDefEqProofs [znk]
 repeat' ((first | refine zaa (by first | exact zue _ _) ?_ | ((with_reducible first | refine zaj ?_ ?_ | refine zah ?_ ?_ | refine zae ?_ ?_ | refine zad ?_ ?_) <;> intro _) | ((with_reducible first | refine zao ?_ ?_ | refine zaq ?_ ?_ | refine zal ?_ ?_ | refine zac ?_ ?_ | refine zai ?_ ?_ | refine zan ?_ ?_ | refine zaf ?_ ?_ | refine zab ?_ ?_) <;> intro hq <;> (try simp at hq)) | refine zag (by omega) ?_ | refine zam (by omega) ?_) <;> simp -implicitDefEqProofs [*, zpl])
theorem z48 (a b : Item) (ha : zoe a.count a.writer = true) (hb : zoe b.count b.writer = true) : Den PP 196 [.mem a.row, .mem b.row] [] (.bool (zfn a b)) [] := by
 have c1 := zzk a b
 simp only [zpl, ha, hb, Bool.and_self, if_true] at c1
 obtain ⟨ak, ac, aw, av, ag⟩ := a
 obtain ⟨bk, bc, bw, bv, bg⟩ := b
 simp only [Item.row, zfn] at c1 ⊢
 clear ha hb
 refine zak [] [] zwn ?_
 by_cases h1 : ac = bc
 ·subst h1
  by_cases h2 : aw = bw
  ·subst h2
   clear c1
   cases ag <;> cases bg
   all_goals simp -implicitDefEqProofs [zim, EQS]
  ·have h3 : decide (bw < aw) = (decide (bw < aw) || false) := by simp
   simp -implicitDefEqProofs [zim, EQS, h2]
   simp at c1
   refine zaa c1 ?_
   simp -implicitDefEqProofs [EQS, h2]
 ·simp -implicitDefEqProofs [zim, EQS, h1]
  simp [h1] at c1
  refine zaa c1 ?_
  simp -implicitDefEqProofs [EQS, h1]
theorem qbe (a b : Item) : Den PP 127 [.agg a.row, .agg b.row] [] (.tup [.agg (zrw a b).1.row, .int .i64 (zrw a b).2]) [] := by
 have c1 := zos a
 have c2 := zos b
 have c3 := fun h1 h2 => z48 a b h1 h2
 have hv : zba a = true → zoe a.count a.writer = true := by
  intro h; simp only [zba, Bool.and_eq_true] at h; exact h.1.2
 have hw : zba b = true → zoe b.count b.writer = true := by
  intro h; simp only [zba, Bool.and_eq_true] at h; exact h.1.2
 have hbr : zrw a b = if zba a && (zba b && decide (a.key = b.key)) then (ze6 a b, 0) else (zeroItem, 400) := rfl
 obtain ⟨A, hA⟩ : ∃ A, zba a = A := ⟨_, rfl⟩
 obtain ⟨B, hB⟩ : ∃ B, zba b = B := ⟨_, rfl⟩
 rw [hA] at c1 hv hbr
 rw [hB] at c2 hw hbr
 obtain ⟨r, hr⟩ : ∃ r, zrw a b = r := ⟨_, rfl⟩
 rw [hr] at hbr ⊢
 unfold ze6 at hbr
 obtain ⟨q, hq⟩ : ∃ q, zfn a b = q := ⟨_, rfl⟩
 rw [hq] at c3 hbr
 obtain ⟨ak, ac, aw, av, ag⟩ := a
 obtain ⟨bk, bc, bw, bv, bg⟩ := b
 simp only [Item.row] at c1 c2 c3 hv hw hbr ⊢
 clear hA hB hr hq
 refine zak [] [] z1m ?_
 cases A <;> cases B
 case true.true =>
  have c3' := c3 (hv rfl) (hw rfl)
  clear c3 hv hw
  by_cases hk : ak = bk
  ·subst hk
   cases q
   all_goals
    simp at hbr
    subst hbr
    simp -implicitDefEqProofs [zlv]
    repeat' ((first | refine zaa (by first | exact c1 | exact c2 | exact c3') ?_ | ((with_reducible first | refine zaj ?_ ?_ | refine zah ?_ ?_ | refine zae ?_ ?_ | refine zad ?_ ?_) <;> intro _) | ((with_reducible first | refine zao ?_ ?_ | refine zaq ?_ ?_ | refine zal ?_ ?_ | refine zac ?_ ?_ | refine zai ?_ ?_ | refine zan ?_ ?_ | refine zaf ?_ ?_ | refine zab ?_ ?_) <;> intro hq <;> (try simp at hq)) | refine zag (by omega) ?_ | refine zam (by omega) ?_) <;> simp -implicitDefEqProofs [*])
  ·simp [hk] at hbr
   subst hbr
   simp -implicitDefEqProofs [zlv, zeroItem]
   repeat' ((first | refine zaa (by first | exact c1 | exact c2) ?_ | ((with_reducible first | refine zaj ?_ ?_ | refine zah ?_ ?_ | refine zae ?_ ?_ | refine zad ?_ ?_) <;> intro _) | ((with_reducible first | refine zao ?_ ?_ | refine zaq ?_ ?_ | refine zal ?_ ?_ | refine zac ?_ ?_ | refine zai ?_ ?_ | refine zan ?_ ?_ | refine zaf ?_ ?_ | refine zab ?_ ?_) <;> intro hq <;> (try simp at hq)) | refine zag (by omega) ?_ | refine zam (by omega) ?_) <;> simp -implicitDefEqProofs [*, hk])
 all_goals
  clear c3 hv hw
  simp at hbr
  subst hbr
  simp -implicitDefEqProofs [zlv, zeroItem]
  repeat' ((first | refine zaa (by first | exact c1 | exact c2) ?_ | ((with_reducible first | refine zaj ?_ ?_ | refine zah ?_ ?_ | refine zae ?_ ?_ | refine zad ?_ ?_) <;> intro _) | ((with_reducible first | refine zao ?_ ?_ | refine zaq ?_ ?_ | refine zal ?_ ?_ | refine zac ?_ ?_ | refine zai ?_ ?_ | refine zan ?_ ?_ | refine zaf ?_ ?_ | refine zab ?_ ?_) <;> intro hq <;> (try simp at hq)) | refine zag (by omega) ?_ | refine zam (by omega) ?_) <;> simp -implicitDefEqProofs [*])
theorem zuf (x : Item) (k : Int) : Den PP 126 [.agg x.row, .int .i64 k] [] (.int .i64 (keyC k x)) [] := by
 refine zak [] [] zwu ?_
 simp -implicitDefEqProofs [zqr, Item.row, keyC]
 repeat' ((first | refine zaa (by first | exact zhb _ _) ?_ | ((with_reducible first | refine zaj ?_ ?_ | refine zah ?_ ?_ | refine zae ?_ ?_ | refine zad ?_ ?_) <;> intro _) | ((with_reducible first | refine zao ?_ ?_ | refine zaq ?_ ?_ | refine zal ?_ ?_ | refine zac ?_ ?_ | refine zai ?_ ?_ | refine zan ?_ ?_ | refine zaf ?_ ?_ | refine zab ?_ ?_) <;> intro hq <;> (try simp at hq)) | refine zag (by omega) ?_ | refine zam (by omega) ?_) <;> simp -implicitDefEqProofs [*])
theorem z1s (is : List Item) (k : Int) (hl : is.length ≤ zbo) : Den PP 130 [zav is, .int .i64 k] [] (.tup [.agg (getR is k).1.row, .bool (getR is k).2]) [] := by
 have c1 := zv8 is hl
 have c2 := fun h => zs7 is 126 k (keyC k) (fun x _ => zuf x k) (by unfold cap; unfold zbo at hl; omega) h
 simp only [zav] at c1
 refine zak [] [] z3c ?_
 simp -implicitDefEqProofs [zvp, zav]
 refine zaa c1 ?_
 simp -implicitDefEqProofs
 refine zaf (fun h1 => ?_) (fun h1 => ?_)
 rotate_left
 ·simp -implicitDefEqProofs [h1, getR, zeroItem, Item.row]
 obtain ⟨hm, hr, h16⟩ := (zca is).1 h1
 have hg := qa6 hr k
 have hat := fun h => ztx (c := keyC k) (xs := is) h
 have c3 := c2 (z6x hr k)
 clear c2 c1
 generalize atC (keyC k) is = A at *
 generalize posC (keyC k) is = p at *
 simp -implicitDefEqProofs [h1]
 refine zaa c3 ?_
 cases A with
 | false =>
   simp -implicitDefEqProofs [h1, hg, getR, zeroItem, Item.row]
 | true =>
   obtain ⟨hlt, x, hx, hx0⟩ := hat rfl
   have hlt' : (p : Int) < is.length := by omega
   simp at hg
   rw [hx] at hg
   have hxr : (is.map Item.row)[p]? = some x.row := by simp [hx]
   have hx2 : is[p] = x := by simpa [hlt] using hx
   simp -implicitDefEqProofs [h1, hg, getR, hlt', hlt, hx2, Item.row]
theorem zs6 (is : List Item) (k : Int) (hl : is.length ≤ zbo) : Den PP 19 [zav is, .int .i64 k] [] (.tup [.agg (getR is k).1.row, .bool (getR is k).2]) [] := by
 have c1 := zs3 is hl
 simp only [zav] at c1
 unfold zbo at hl
 refine zak [] [] zna ?_
 simp -implicitDefEqProofs [zhx, zav]
 obtain ⟨r, hr⟩ : ∃ r, getR is k = r := ⟨_, rfl⟩
 rw [hr]
 unfold getR at hr
 obtain ⟨S, hS⟩ : ∃ S, zbu is = S := ⟨_, rfl⟩
 rw [hS] at hr c1
 refine za3 is (fun i rest => fun ⟨fr, bs⟩ => bs = [⟨[zeroItem.row], 5, .box⟩] ∧ fr 0 = zav is ∧ fr 1 = .int .i64 k ∧ fr 4 = .ptr 0 0 0 ∧ fr 6 = .int .i64 i ∧ (S = true → getS is k = getS rest k))
  (fun ⟨fr, bs⟩ => bs = [⟨[zeroItem.row], 5, .box⟩] ∧ fr 4 = .ptr 0 0 0 ∧ (S = true → getS is k = none)) (fun ⟨fr, bs⟩ => bs = [⟨[r.1.row], 5, .box⟩] ∧ fr 4 = .ptr 0 0 0 ∧ fr 5 = .bool r.2) zga.eq_1 ?_ ?_ ?_ ?_ ?_
 ·exact ⟨by simp [zeroItem, Item.row], rfl, rfl, rfl, rfl, fun _ => rfl⟩
 ·rintro i ⟨fr, bs⟩ hi ⟨rfl, h0, h1, h4, h6, he⟩
  simp -implicitDefEqProofs [h0, h1, h4, h6, hi, zav]
  simpa [getS] using he
 ·rintro i a rest ⟨fr, bs⟩ hlt hget hg hd hd2 ⟨rfl, h0, h1, h4, h6, he⟩
  have hlt' : (i : Int) < is.length := by omega
  have hw := za5 (n := i) (by omega)
  rw [zfu] at he
  simp -implicitDefEqProofs [h0, h1, h4, h6, hlt', zav]
  refine zaa c1 ?_
  cases S with
  | false =>
    simp -implicitDefEqProofs [h0, h1, h4, h6]
  | true =>
    simp only [forall_const] at he
    by_cases hk : a.key = k
    ·rw [if_pos hk] at he
     rw [he] at hr
     simp at hr
     subst hr
     simp -implicitDefEqProofs [h0, h1, h4, h6, hlt, hlt', hget, hg, zav, hk, Item.row]
    ·rw [if_neg hk] at he
     clear hr
     simp -implicitDefEqProofs [h0, h1, h4, h6, hlt, hlt', hget, hg, zav, hk, Item.row]
     exact ⟨hw, he⟩
 ·rintro ⟨fr, bs⟩ ⟨rfl, h4, he⟩
  simp -implicitDefEqProofs [h4]
  cases S with
  | false => simp at hr; subst hr; simp [zeroItem, Item.row]
  | true => rw [he rfl] at hr; simp at hr; subst hr; simp [zeroItem, Item.row]
 ·rintro ⟨fr, bs⟩ ⟨rfl, h4, h5⟩
  simp -implicitDefEqProofs [h4, h5, Item.row]
end Go.AM
/- AM: contracts: a store's put. -/
namespace Go.AM
theorem z13 (i : Item) : ∀ d ∈ i.row, d.still = true := by
 intro d hd
 simp [Item.row] at hd
 rcases hd with rfl | rfl | rfl | rfl | rfl <;> rfl
theorem qam (is : List Item) (x : Item) (hl : is.length ≤ zbo) : Den PP 43 [zav is, .agg x.row] [] (.tup [.ref 0 0 (putR is x).1.length, .int .i64 (putR is x).2]) [⟨(putR is x).1.map Item.row, 5, .mut⟩] := by
 have c1 := zv8 is hl
 have c0 := zos x
 have c2 := fun h : is.length ≤ 16 => zw7 (is.map Item.row) (by intro r hr; obtain ⟨a, _, rfl⟩ := List.mem_map.1 hr; exact ⟨rfl, rfl⟩) (by simp; omega)
 have c3 := fun h => zs7 is 126 x.key (keyC x.key) (fun y _ => zuf y x.key) (by unfold cap; unfold zbo at hl; omega) h
 obtain ⟨r, hr⟩ : ∃ r, putR is x = r := ⟨_, rfl⟩
 have hr' := hr
 unfold putR at hr'
 rw [hr]
 clear hr
 simp only [zav, Item.row, List.length_map] at c0 c1 c2
 refine zpy [18, 26] [26] [26] [] (fun _ h => absurd h List.not_mem_nil) z1f ?_
 simp -implicitDefEqProofs [zva, zav, Item.row]
 refine zaa c1 ?_
 simp -implicitDefEqProofs
 cases h1 : zbu is with
 | false =>
   rw [h1] at hr'
   simp at hr'
   subst hr'
   simp -implicitDefEqProofs
 | true =>
 cases h2 : zba x with
 | false =>
   rw [h2] at hr' c0
   simp at hr'
   subst hr'
   simp -implicitDefEqProofs
   repeat' ((first | refine zaa (by first | exact c0) ?_ | ((with_reducible first | refine zaj ?_ ?_ | refine zah ?_ ?_ | refine zae ?_ ?_ | refine zad ?_ ?_) <;> intro _) | ((with_reducible first | refine zao ?_ ?_ | refine zaq ?_ ?_ | refine zal ?_ ?_ | refine zac ?_ ?_ | refine zai ?_ ?_ | refine zan ?_ ?_ | refine zaf ?_ ?_ | refine zab ?_ ?_) <;> intro hq <;> (try simp at hq)) | refine zag (by omega) ?_ | refine zam (by omega) ?_) <;> simp -implicitDefEqProofs [*])
 | true =>
 obtain ⟨hm, hri, h16⟩ := (zca is).1 h1
 rw [h1, h2] at hr'
 rw [h2] at c0
 have hlen := zv0 x is hri
 have hg := qa6 hri x.key
 obtain ⟨hp1, hp2⟩ := qgu x is
 have hat := fun h => ztx (c := keyC x.key) (xs := is) h
 have hple := zyt (keyC x.key) is
 have c4 := c3 (z6x hri x.key)
 clear c3
 generalize atC (keyC x.key) is = A at *
 generalize posC (keyC x.key) is = p at *
 simp -implicitDefEqProofs
 refine zaa c0 ?_
 simp -implicitDefEqProofs
 refine zaa (c2 h16) ?_
 simp -implicitDefEqProofs [zar]
 refine zaa c4 ?_
 simp -implicitDefEqProofs [zar]
 cases A with
 | true =>
   obtain ⟨hlt, y, hy, hy0⟩ := hat rfl
   have hmy := hm y (List.mem_of_getElem? hy)
   have hky : y.key = x.key := by simpa [keyC, znx] using hy0
   have c5 := qbe y x
   have hbr : zrw y x = (ze6 y x, 0) := by simp [zrw, hmy, h2, hky]
   have hput := hp1 y hy rfl
   rw [hbr] at c5
   have hr2 : r = (is.set p (ze6 y x), 0) := by
    rw [← hr', hput]
    simp [h16]
   subst hr2
   have hlt' : (p : Int) < is.length := by omega
   have hy2 : is[p] = y := by simpa [hlt] using hy
   generalize ze6 y x = b at *
   simp only [Item.row] at c5
   clear hr' hput hbr hg hp1 hp2 hat hlen c4 hm hri
   simp -implicitDefEqProofs [hlt, hlt', hy2, Item.row]
   refine zaa c5 ?_
   simp -implicitDefEqProofs [hlt, hlt', hy2, Item.row]
 | false =>
   have hput := hp2 rfl
   simp at hg
   rw [hg] at hlen
   simp at hlen
   rw [hput] at hr' hlen
   by_cases h5 : is.length = 16
   ·have hr2 : r = ([], 501) := by
     rw [← hr']
     simp [h5]
    subst hr2
    clear hr' hput hg hp1 hp2 hat hlen c4 hm hri
    simp -implicitDefEqProofs [h5]
   ·have hr2 : r = (insL is p x, 0) := by
     rw [← hr']
     simp
     omega
    subst hr2
    clear hr' hput hg hp1 hp2 hat hlen c4 hm hri
    have h5' : ¬ (is.length : Int) = 16 := by omega
    simp -implicitDefEqProofs [h5']
    refine zjf rfl (by simp) (by simp) (by simp) (z40 (is.map Item.row) x.row p (by simp [Item.row]) (StillR.map _ _ fun a _ => z13 a) (by intro r hr; rw [List.mem_singleton.1 hr]; exact ⟨rfl, rfl⟩) (z13 x) (by simpa using hple) (by simp; omega)) ?_
    rw [← zzy]
    simp -implicitDefEqProofs [zar]
end Go.AM
/- AM: contracts: what chapter 9's statements build on. -/
namespace Go.AM
end Go.AM
/- AM: contracts: the document's nodes and sharing; chapter 18's helpers. -/
namespace Go.AM
theorem z5g (x : Node) (hs : x.small) : Den PP 71 [zc2 x] [] (.bool (zcg x)) [] := by
 obtain ⟨h1, h2, h3⟩ := hs
 have c1 := z02 x.view h1
 have c2 := zs3 x.items (by unfold zbo; omega)
 obtain ⟨A, hA⟩ : ∃ A, x.log.any zdf = A := ⟨_, rfl⟩
 simp only [zd6, View.cells, zat, zap, zav, zay] at c1 c2
 obtain ⟨hp, hq⟩ := h1
 unfold zbo at hp
 unfold cap at hq
 have w1 : IntKind.wrap .i64 ((x.view.peers.length : Int) + x.view.passive.length) = x.view.peers.length + x.view.passive.length := zaw (by omega) (by omega)
 have w2 : IntKind.wrap .i64 ((x.view.peers.length : Int) + x.view.passive.length + x.items.length) = x.view.peers.length + x.view.passive.length + x.items.length := zaw (by omega) (by omega)
 have w3 : IntKind.wrap .i64 ((x.view.peers.length : Int) + x.view.passive.length + x.items.length + x.log.length) = x.view.peers.length + x.view.passive.length + x.items.length + x.log.length := zaw (by omega) (by omega)
 refine zak [] [] zm6 ?_
 cases hu : x.up with
 | false =>
   have hm : zcg x = (ztl x && place x.view.id) := by
    cases he : ztl x with
    | false => simp [zcg, hu, he]
    | true =>
      simp only [ztl, decide_eq_true_eq] at he
      have e1 : x.view.peers = [] := List.eq_nil_of_length_eq_zero (by omega)
      have e2 : x.view.passive = [] := List.eq_nil_of_length_eq_zero (by omega)
      have e3 : x.items = [] := List.eq_nil_of_length_eq_zero (by omega)
      have e4 : x.log = [] := List.eq_nil_of_length_eq_zero (by omega)
      simp [zcg, ztl, hu, e1, e2, e3, e4, zbd, zbn, zev, zbr, ups, zbu, zgy]
   simp -implicitDefEqProofs [ze2, zc2, Node.cells, zat, zap, zav, zay, hu]
   repeat' ((first | refine zaa (by first | exact zdj _) ?_ | ((with_reducible first | refine zaj ?_ ?_ | refine zah ?_ ?_ | refine zae ?_ ?_ | refine zad ?_ ?_) <;> intro _) | ((with_reducible first | refine zao ?_ ?_ | refine zaq ?_ ?_ | refine zal ?_ ?_ | refine zac ?_ ?_ | refine zai ?_ ?_ | refine zan ?_ ?_ | refine zaf ?_ ?_ | refine zab ?_ ?_) <;> intro hq <;> (try simp at hq)) | refine zag (by omega) ?_ | refine zam (by omega) ?_) <;> simp -implicitDefEqProofs [*, w1, w2, w3])
   all_goals grind [ztl]
 | true =>
   simp -implicitDefEqProofs [ze2, zc2, Node.cells, zat, zap, zav, zay, hu]
   refine za3 x.log (fun i rest => fun ⟨fr, bs⟩ => bs = [⟨[x.cells], 6, .box⟩] ∧ fr 1 = .ptr 0 0 0 ∧ fr 3 = .int .i64 i ∧ rest.any zdf = A)
    (fun ⟨fr, bs⟩ => bs = [⟨[x.cells], 6, .box⟩] ∧ fr 1 = .ptr 0 0 0 ∧ A = false) (fun ⟨fr, bs⟩ => fr 2 = .bool false ∧ A = true) zgd.eq_1 ?_ ?_ ?_ ?_ ?_
   ·refine ⟨?_, rfl, rfl, hA⟩
    simp [Node.cells, hu, zat, zap, zav, zay]
   ·rintro i ⟨fr, bs⟩ hi ⟨rfl, h1, h3, he⟩
    simp -implicitDefEqProofs [h1, h3, hi, Node.cells, zay]
    simpa using he.symm
   ·rintro i a rest ⟨fr, bs⟩ hlt hget hg hd hd2 ⟨rfl, h1, h3, he⟩
    have hlt' : (i : Int) < x.log.length := by omega
    have hw := za5 (n := i) (by omega)
    have hodd : zdf a = (!byte a.key || !byte a.value || (!a.has && !decide (a.value = 0))) := rfl
    simp -implicitDefEqProofs [h1, h3, hlt, hlt', hget, hg, Node.cells, zat, zap, zav, zay, Told.row]
    repeat' ((first | refine zaa (by first | exact zzc _) ?_ | ((with_reducible first | refine zaj ?_ ?_ | refine zah ?_ ?_ | refine zae ?_ ?_ | refine zad ?_ ?_) <;> intro _) | ((with_reducible first | refine zao ?_ ?_ | refine zaq ?_ ?_ | refine zal ?_ ?_ | refine zac ?_ ?_ | refine zai ?_ ?_ | refine zan ?_ ?_ | refine zaf ?_ ?_ | refine zab ?_ ?_) <;> intro hq <;> (try simp at hq)) | refine zag (by omega) ?_ | refine zam (by omega) ?_) <;> simp -implicitDefEqProofs [*, Node.cells, zat, zap, zav, zay, Told.row, hw])
    all_goals grind
   ·rintro ⟨fr, bs⟩ ⟨rfl, h1, he⟩
    simp -implicitDefEqProofs [h1, he, Node.cells, zat, zap, zav, zay]
    repeat' ((first | refine zaa (by first | exact c1 | exact c2) ?_ | ((with_reducible first | refine zaj ?_ ?_ | refine zah ?_ ?_ | refine zae ?_ ?_ | refine zad ?_ ?_) <;> intro _) | ((with_reducible first | refine zao ?_ ?_ | refine zaq ?_ ?_ | refine zal ?_ ?_ | refine zac ?_ ?_ | refine zai ?_ ?_ | refine zan ?_ ?_ | refine zaf ?_ ?_ | refine zab ?_ ?_) <;> intro hq <;> (try simp at hq)) | refine zag (by omega) ?_ | refine zam (by omega) ?_) <;> simp -implicitDefEqProofs [*])
    all_goals simp only [zcg, hA, he, hu]
    all_goals grind
   ·rintro ⟨fr, bs⟩ h
    simp -implicitDefEqProofs [h.1, h.2, zcg, hA]
end Go.AM
/- AM: contracts: messages that may be. -/
namespace Go.AM
theorem z9t (m : Msg) (hl : m.ids.length ≤ cap) : Den PP 92 [msgD m] [] (.bool (zbs m)) [] := by
 obtain ⟨kind, from_, to, ids, key, ⟨ik, ic, iw, iv, ig⟩, has⟩ := m
 have c1 := zlz ids hl
 obtain ⟨A, hA⟩ : ∃ A, ids.all place = A := ⟨_, rfl⟩
 rw [hA] at c1
 simp only [zap] at c1
 refine zak [] [] zo2 ?_
 simp -implicitDefEqProofs [zi6, msgD, Msg.row, zap, EQS]
 repeat' ((first | refine zaa (by first | exact c1 | exact zv4 _ _ _ _ _ | exact zdj _) ?_ | ((with_reducible first | refine zaj ?_ ?_ | refine zah ?_ ?_ | refine zae ?_ ?_ | refine zad ?_ ?_) <;> intro _) | ((with_reducible first | refine zao ?_ ?_ | refine zaq ?_ ?_ | refine zal ?_ ?_ | refine zac ?_ ?_ | refine zai ?_ ?_ | refine zan ?_ ?_ | refine zaf ?_ ?_ | refine zab ?_ ?_) <;> intro hq <;> (try simp at hq)) | refine zag (by omega) ?_ | refine zam (by omega) ?_) <;> simp -implicitDefEqProofs [*, EQS])
 all_goals (simp only [zbs, hA, zeroItem, Item.mk.injEq]; first | (simp [*]; done) | (simp [*]; grind) | grind)
def noneM (ids : List Int) (key : Int) (i : Item) (has : Bool) : Bool := decide (ids.length = 0) && decide (key = 0) && decide (i = zeroItem) && !has
theorem z2o (kind f t key ik ic iw iv : Int) (ig has : Bool) (ids : List Int) : Den PP 169 [.agg [.int .i64 kind, .int .i64 f, .int .i64 t, .sl (ids.map irow) ids.length, .int .i64 key, .int .i64 ik, .int .i64 ic, .int .i64 iw, .int .i64 iv, .bool ig, .bool has]] [] (.bool (noneM ids key ⟨ik, ic, iw, iv, ig⟩ has)) [] := by
 refine zak [] [] zvi ?_
 simp -implicitDefEqProofs [zr8, EQS]
 repeat' ((first | ((with_reducible first | refine zaj ?_ ?_ | refine zah ?_ ?_ | refine zae ?_ ?_ | refine zad ?_ ?_) <;> intro _) | ((with_reducible first | refine zao ?_ ?_ | refine zaq ?_ ?_ | refine zal ?_ ?_ | refine zac ?_ ?_ | refine zai ?_ ?_ | refine zan ?_ ?_ | refine zaf ?_ ?_ | refine zab ?_ ?_) <;> intro hq <;> (try simp at hq)) | refine zag (by omega) ?_ | refine zam (by omega) ?_) <;> simp -implicitDefEqProofs [*, EQS])
 all_goals (simp only [noneM, zeroItem, Item.mk.injEq]; first | (simp [*]; done) | (simp [*]; grind) | grind)
theorem znl (kind f t key ik ic iw iv : Int) (ig has : Bool) : Den PP 169 [.agg [.int .i64 kind, .int .i64 f, .int .i64 t, .nil, .int .i64 key, .int .i64 ik, .int .i64 ic, .int .i64 iw, .int .i64 iv, .bool ig, .bool has]] [] (.bool (noneM [] key ⟨ik, ic, iw, iv, ig⟩ has)) [] := by
 refine zak [] [] zvi ?_
 simp -implicitDefEqProofs [zr8, EQS]
 repeat' ((first | ((with_reducible first | refine zaj ?_ ?_ | refine zah ?_ ?_ | refine zae ?_ ?_ | refine zad ?_ ?_) <;> intro _) | ((with_reducible first | refine zao ?_ ?_ | refine zaq ?_ ?_ | refine zal ?_ ?_ | refine zac ?_ ?_ | refine zai ?_ ?_ | refine zan ?_ ?_ | refine zaf ?_ ?_ | refine zab ?_ ?_) <;> intro hq <;> (try simp at hq)) | refine zag (by omega) ?_ | refine zam (by omega) ?_) <;> simp -implicitDefEqProofs [*, EQS])
 all_goals (simp only [noneM, zeroItem, Item.mk.injEq]; first | (simp [*]; done) | (simp [*]; grind) | grind)
theorem zsl (m : Msg) (hl : m.ids.length ≤ cap) : Den PP 85 [msgD m] [] (.bool (zbs m)) [] := by
 obtain ⟨kind, from_, to, ids, key, ⟨ik, ic, iw, iv, ig⟩, has⟩ := m
 have c1 := zl4 ids hl
 obtain ⟨A, hA⟩ : ∃ A, ids.all place = A := ⟨_, rfl⟩
 rw [hA] at c1
 simp only [zap] at c1
 refine zak [] [] z95 ?_
 simp -implicitDefEqProofs [z1i, msgD, Msg.row, zap, EQS]
 repeat' ((first | refine zaa (by first | exact c1 | exact z00 _ _ _ _ _ | exact zaz _ | exact z2o _ _ _ _ _ _ _ _ _ _ _ | exact znl _ _ _ _ _ _ _ _ _ _ | exact ze4 (znl _ _ _ _ _ _ _ _ _ _) | exact ze4 (by simpa using znl _ _ _ _ _ _ _ _ _ _)) ?_ | ((with_reducible first | refine zaj ?_ ?_ | refine zah ?_ ?_ | refine zae ?_ ?_ | refine zad ?_ ?_) <;> intro _) | ((with_reducible first | refine zao ?_ ?_ | refine zaq ?_ ?_ | refine zal ?_ ?_ | refine zac ?_ ?_ | refine zai ?_ ?_ | refine zan ?_ ?_ | refine zaf ?_ ?_ | refine zab ?_ ?_) <;> intro hq <;> (try simp at hq)) | refine zag (by omega) ?_ | refine zam (by omega) ?_) <;> simp -implicitDefEqProofs [*, EQS])
 all_goals (try simp only [noneM, zeroItem, Item.mk.injEq] at *)
 all_goals (simp only [zbs, hA, zeroItem, Item.mk.injEq]; first | (simp [*]; done) | (simp [*]; grind) | grind)
end Go.AM
/- AM: contracts: slices.Delete of one. -/
namespace Go.AM
theorem zoq (rows : List (List D)) (p : Nat) (hf : Fits 11 rows) (hst : StillR rows) (hp : p < rows.length) (hl : rows.length ≤ 1000000) :
 zgz (DenF PP [0]) 236 rows 11 [.int .i64 p, .int .i64 ((p : Int) + 1)] (rows.take p ++ rows.drop (p + 1)) := by
 refine zre (fun r hr => (hf r hr).1) hst fun fl hfl hrow hfs htake hget => ?_
 have hzs : StillR [([D.int IntKind.i64 0, D.int IntKind.i64 0, D.int IntKind.i64 0, D.nil, D.int IntKind.i64 0, D.int IntKind.i64 0, D.int IntKind.i64 0, D.int IntKind.i64 0, D.int IntKind.i64 0, D.bool false, D.bool false] : List D)] := by intro r hr d hd; rw [List.mem_singleton.1 hr] at hd; exact List.all_eq_true.1 (rfl : ([D.int IntKind.i64 0, D.int IntKind.i64 0, D.int IntKind.i64 0, D.nil, D.int IntKind.i64 0, D.int IntKind.i64 0, D.int IntKind.i64 0, D.int IntKind.i64 0, D.int IntKind.i64 0, D.bool false, D.bool false] : List D).all D.still = true) d hd
 generalize hn : rows.length = n at *
 have hfit : Fits 11 (List.take (n - (p + 1)) (List.drop (p + 1) fl)) := by
  intro r hr
  have : r ∈ rows := by
   rw [← htake]
   have h1 : List.take (n - (p + 1)) (List.drop (p + 1) fl) = List.drop (p + 1) (List.take n fl) := by rw [List.drop_take]
   rw [h1] at hr
   exact List.mem_of_mem_drop hr
  exact hf r this
 have hyl : (List.take (n - (p + 1)) (List.drop (p + 1) fl)).length = n - (p + 1) := by simp; omega
 have hne : ¬ (p : Int) = (p : Int) + 1 := by omega
 have hcl : (fl.take p ++ (List.take (n - (p + 1)) (List.drop (p + 1) fl) ++ fl.drop (n - 1))).length = fl.length := by simp; omega
 have hmin : p + min (n - (p + 1)) (fl.length - (p + 1)) = n - 1 := by omega
 have hmin2 : (p : Int) + ((min (n - (p + 1)) (fl.length - (p + 1)) : Nat) : Int) = ((n - 1 : Nat) : Int) := by omega
 have hpn : p + (n - (p + 1)) = n - 1 := by omega
 have hcS : StillR (fl.take p ++ (List.take (n - (p + 1)) (List.drop (p + 1) fl) ++ fl.drop (n - 1))) := (hfs.take _).append (((hfs.drop _).take _).append (hfs.drop _))
 refine ⟨.ref 0 0 (n - 1), [⟨ovr (fl.take p ++ (List.take (n - (p + 1)) (List.drop (p + 1) fl) ++ fl.drop (n - 1))) (n - 1) [[D.int IntKind.i64 0, D.int IntKind.i64 0, D.int IntKind.i64 0, D.nil, D.int IntKind.i64 0, D.int IntKind.i64 0, D.int IntKind.i64 0, D.int IntKind.i64 0, D.int IntKind.i64 0, D.bool false, D.bool false]], 11, .mut⟩], ?_, ?_⟩
 ·refine zf7 [] [] [] [] (by simp) (fun _ h => absurd h List.not_mem_nil) zg2 ?_
  simp -implicitDefEqProofs [-zax, zd8]
  refine zam (by simp [za8]; omega) ?_
  simp -implicitDefEqProofs [-zax, hne]
  refine zbk (0) (p) ?_
  simp -implicitDefEqProofs [-zax, hne]
  by_cases hE : p + 1 < fl.length
  ·refine zbk (p + 1) (n) ?_
   simp -implicitDefEqProofs [-zax, hne, hfit]
   repeat' (first | (refine zag (by omega) ?_) | (refine zcw (by omega) ?_))
   simp -implicitDefEqProofs [-zax, hne, hyl, hpn, hmin, hmin2]
   generalize (fl.take p ++ (List.take (n - (p + 1)) (List.drop (p + 1) fl) ++ fl.drop (n - 1))) = B at *
   refine zbk (n - 1) (n) ?_
   simp -implicitDefEqProofs [-zax, hne]
   try refine zem (by first | omega | (simp; done) | (simp; omega)) ?_
   have hnn : n - (n - 1) = 1 := by omega
   try simp -implicitDefEqProofs [-zax, hne, hnn]
   rw [zeu (by omega) (by simpa [hnn] using hcS.ovr hzs (n - 1))]
   simp [hnn]
  ·obtain rfl : n = p + 1 := by omega
   have hB : fl.take p ++ (List.take (p + 1 - (p + 1)) (List.drop (p + 1) fl) ++ fl.drop (p + 1 - 1)) = fl := by simp
   rw [hB] at *
   refine ztw (p + 1) ?_
   try simp -implicitDefEqProofs [-zax, hne]
   refine ⟨by simp [Fits], ?_⟩
   repeat' (first | (refine zag (by omega) ?_) | (refine zcw (by omega) ?_))
   try simp -implicitDefEqProofs [-zax, hne]
   refine zbk (p) (p + 1) ?_
   simp -implicitDefEqProofs [-zax, hne]
   try refine zem (by first | omega | (simp; done) | (simp; omega)) ?_
   try simp -implicitDefEqProofs [-zax, hne]
   rw [zeu (by omega) (by simpa using hcS.ovr hzs p)]
   simp [Fits]
 ·refine zcx rfl rfl rfl ?_ ?_ (.inl rfl)
  ·rw [za6 (by rw [hcl]; simp; omega), hcl]
   omega
  ·rw [List.drop_zero, ← htake]
   have h1 : (ovr (fl.take p ++ (List.take (n - (p + 1)) (List.drop (p + 1) fl) ++ fl.drop (n - 1))) (n - 1) [[D.int IntKind.i64 0, D.int IntKind.i64 0, D.int IntKind.i64 0, D.nil, D.int IntKind.i64 0, D.int IntKind.i64 0, D.int IntKind.i64 0, D.int IntKind.i64 0, D.int IntKind.i64 0, D.bool false, D.bool false]]).take (n - 1) = fl.take p ++ List.take (n - (p + 1)) (List.drop (p + 1) fl) := by
    unfold ovr
    rw [List.append_assoc, List.take_append_of_le_length (by simp; omega), List.take_take, Nat.min_self, ← List.append_assoc, List.take_left' (by simp; omega)]
   rw [h1, List.take_take, List.drop_take, Nat.min_eq_left (by omega)]
end Go.AM
/- Plain law: greetings. -/
namespace Go.AM

def zm1 (v : View) (x : Int) : Bool := (v.peers.map Peer.id).contains x || v.passive.contains x
def zh0 (v : View) (x : Int) : Bool := zm1 v x || decide (v.peers.length + v.passive.length < 16)
def zdl (v : View) (x : Int) : View := if zh0 v x then ⟨v.id, ze8 v.id x false v.peers, v.passive.filter fun y => !decide (y = x)⟩ else v
def zep (v : View) (x : Int) : View := if !decide (x = v.id) && !zm1 v x then zdl v x else v
def zci (v : View) (a : Int) (ids : List Int) : View := ids.foldl zep (zdl v a)
def zmf (v : View) (a : Int) (ids : List Int) : Bool := zbd v && (place a && (!decide (a = v.id) && (decide (ids.length ≤ 16) && ids.all place)))

theorem zx9 {v : View} (h1 : zbn v.id v.peers = true) (h2 : zbr v.passive = true) (h3 : v.peers.length + v.passive.length ≤ 16) (h4 : ∀ x ∈ v.passive, x ≠ v.id ∧ x ∉ v.peers.map Peer.id) : zbd v = true := by
 simp only [zbd, Bool.and_eq_true, decide_eq_true_eq, Bool.not_eq_true']
 refine ⟨⟨⟨h1, h2⟩, h3⟩, ?_⟩
 rw [List.any_eq_false]
 intro x hx
 simp only [oddIn, Bool.or_eq_true, not_or]
 rw [zhd h1 (zd7 h2 x hx)]
 have := h4 x hx
 simpa using this
theorem zx2 (v : View) (x : Int) : zm1 v x = true ↔ (∃ q ∈ v.peers, q.id = x) ∨ x ∈ v.passive := by
 simp [zm1]
theorem zqo {b x : Int} {ps : List Peer} (q : Peer) : q ∈ ze8 b x false ps ↔ q = ⟨x, 0⟩ ∨ (q ∈ ps ∧ q.id ≠ x) := by
 have hf := z1l b x ps
 constructor
 ·intro h
  by_cases he : q.id = x
  ·exact .inl (zx4 b x ps q h he)
  ·rcases z6o b x ps q h with h' | h'
   ·exact .inl h'
   ·exact .inr ⟨h', he⟩
 ·rintro (rfl | ⟨h, he⟩)
  ·obtain ⟨q, hq, hi⟩ := qcl b x ps
   rw [← zx4 b x ps q hq hi]
   exact hq
  ·have : q ∈ (ze8 b x false ps).filter fun p => !decide (p.id = x) := by rw [hf]; simp [h, he]
   exact (List.mem_filter.1 this).1
theorem zi1 (v : View) (x : Int) : (zdl v x).id = v.id := by
 unfold zdl; split <;> rfl
theorem zkn {v : View} {x : Int} (h : zh0 v x = false) : zdl v x = v := by
 unfold zdl; rw [if_neg (by simp [h])]
theorem zdy {v : View} {x : Int} (h : zh0 v x = true) (q : Peer) : q ∈ (zdl v x).peers ↔ q = ⟨x, 0⟩ ∨ (q ∈ v.peers ∧ q.id ≠ x) := by
 unfold zdl; rw [if_pos h]; exact zqo q
theorem zkc {v : View} {x : Int} (h : zh0 v x = true) (y : Int) : y ∈ (zdl v x).passive ↔ y ∈ v.passive ∧ y ≠ x := by
 unfold zdl; rw [if_pos h]; simp
theorem z6y (v : View) (x : Int) : (zep v x).id = v.id := by
 unfold zep; split
 ·exact zi1 v x
 ·rfl

def sizeV (v : View) : Nat := v.peers.length + v.passive.length
theorem ztp {b : Int} {ps : List Peer} (h : zbn b ps = true) {x : Int} : (ps.filter fun p => !decide (p.id = x)).length + (if (∃ q ∈ ps, q.id = x) then 1 else 0) = ps.length := by
 obtain ⟨hb, _, h1, h2⟩ := zb9.1 h
 clear h h1
 induction ps with
 | nil => simp
 | cons p ps ih =>
   have hp := (List.pairwise_cons.1 h2).1
   have ih := ih (by first | assumption | (rename_i hlen; simp at hlen; omega)) (List.pairwise_cons.1 h2).2
   by_cases he : p.id = x
   ·have hno : ¬ ∃ q ∈ ps, q.id = x := by
     rintro ⟨q, hq, hqx⟩
     have := hp q hq
     rw [he, hqx] at this
     omega
    rw [if_neg hno] at ih
    rw [if_pos ⟨p, by simp, he⟩]
    simp [he]
    simpa using ih
   ·have : (∃ q ∈ p :: ps, q.id = x) ↔ ∃ q ∈ ps, q.id = x := by simp [he]
    simp only [this]
    simp [he]
    omega
theorem z38 {xs : List Int} (h : zbr xs = true) (x : Int) : (xs.filter fun y => !decide (y = x)).length + (if x ∈ xs then 1 else 0) = xs.length := by
 by_cases hx : x ∈ xs
 ·rw [if_pos hx, ← z90 ((zcy xs).1 h).1 hx]
 ·rw [if_neg hx, z87 hx]; rfl
theorem z4b {v : View} {x : Int} (hv : zbd v = true) (h : zh0 v x = true) : sizeV (zdl v x) = if zm1 v x then sizeV v else sizeV v + 1 := by
 obtain ⟨h1, h2, h3, h4⟩ := za1 hv
 have e1 := ztp h1 (x := x)
 have e2 := z38 h2 x
 have e3 := zth v.id x v.peers
 have hk := zx2 v x
 unfold sizeV zdl
 rw [if_pos h]
 simp only
 by_cases hp : ∃ q ∈ v.peers, q.id = x
 ·have hnx : x ∉ v.passive := by
   intro hx
   obtain ⟨q, hq, hqx⟩ := hp
   exact (h4 x hx).2 (List.mem_map.2 ⟨q, hq, hqx⟩)
  rw [if_pos hp] at e1
  rw [if_neg hnx] at e2
  rw [if_pos (hk.2 (.inl hp))]
  omega
 ·rw [if_neg hp] at e1
  by_cases hx : x ∈ v.passive
  ·rw [if_pos hx] at e2
   rw [if_pos (hk.2 (.inr hx))]
   omega
  ·rw [if_neg hx] at e2
   have : ¬ zm1 v x = true := by rw [hk]; simp [hp, hx]
   rw [if_neg this]
   omega
theorem zk2 {v : View} {x : Int} (hv : zbd v = true) (hx : place x = true) (hn : x ≠ v.id) : zbd (zdl v x) = true ∧ (zh0 v x = true → zme v.id v.peers x = (ze8 v.id x false v.peers, 0)) := by
 cases hr : zh0 v x with
 | false => rw [zkn hr]; exact ⟨hv, by simp⟩
 | true =>
   have hsz := z4b hv hr
   obtain ⟨h1, h2, h3, h4⟩ := za1 hv
   obtain ⟨hb, _, hok, hpw⟩ := zb9.1 h1
   have hle : sizeV (zdl v x) ≤ 16 := by
    rw [hsz]
    unfold zh0 at hr
    split
    ·exact h3
    ·rename_i hk
     simp [hk] at hr
     unfold sizeV
     omega
   have hpm : zbn v.id (ze8 v.id x false v.peers) = true := by
    rw [zb9]
    refine ⟨hb, ?_, ?_, z85 hb hx v.peers (fun p hp => (hok p hp).1) hpw⟩
    ·have : (zdl v x).peers = ze8 v.id x false v.peers := by unfold zdl; rw [if_pos hr]
     unfold sizeV at hle
     rw [this] at hle
     omega
    ·intro p hp
     rcases zqo (b := v.id) p |>.1 hp with rfl | ⟨hp, _⟩
     ·refine ⟨hx, by simp, by simp, ?_⟩
      have := zve hb hx
      have := mt (zyq hb hx).1 hn
      simp only
      omega
     ·exact hok p hp
   have hpeers : (zdl v x).peers = ze8 v.id x false v.peers := by unfold zdl; rw [if_pos hr]
   refine ⟨zx9 ?_ ?_ hle ?_, fun _ => ?_⟩
   ·rw [hpeers, zi1]; exact hpm
   ·unfold zdl; rw [if_pos hr]; exact zsp h2
   ·intro y hy
    rw [zkc hr] at hy
    have := h4 y hy.1
    refine ⟨by rw [zi1]; exact this.1, ?_⟩
    intro hm
    obtain ⟨q, hq, hqy⟩ := List.mem_map.1 hm
    rw [zdy hr] at hq
    rcases hq with rfl | ⟨hq, _⟩
    ·exact hy.2 hqy.symm
    ·exact this.2 (List.mem_map.2 ⟨q, hq, hqy⟩)
   ·have hl : (ze8 v.id x false v.peers).length ≤ 16 := (zb9.1 hpm).2.1
    unfold zme
    rw [zp0, h1, hx]
    simp [hn, hl]
theorem z2a {v : View} {x : Int} (hv : zbd v = true) (hx : place x = true) : zbd (zep v x) = true := by
 unfold zep
 split
 ·rename_i h
  simp only [Bool.and_eq_true, Bool.not_eq_true', decide_eq_false_iff_not] at h
  exact (zk2 hv hx h.1).1
 ·exact hv
theorem z0k : ∀ (ids : List Int) (v : View), zbd v = true → (∀ x ∈ ids, place x = true) → zbd (ids.foldl zep v) = true ∧ (ids.foldl zep v).id = v.id := by
 intro ids
 induction ids with
 | nil => intro v hv _; exact ⟨hv, rfl⟩
 | cons x ids ih =>
   intro v hv hp
   obtain ⟨a, b⟩ := ih (zep v x) (z2a hv (hp x (by simp))) (fun y hy => hp y (by simp [hy]))
   exact ⟨a, by rw [List.foldl_cons, b, z6y]⟩
theorem zl2 {v : View} {a : Int} {ids : List Int} (h : zmf v a ids = true) : zbd v = true ∧ place a = true ∧ a ≠ v.id ∧ ids.length ≤ 16 ∧ ∀ x ∈ ids, place x = true := by
 simp only [zmf, Bool.and_eq_true, Bool.not_eq_true', decide_eq_false_iff_not, decide_eq_true_eq, List.all_eq_true] at h
 exact ⟨h.1, h.2.1, h.2.2.1, h.2.2.2.1, h.2.2.2.2⟩
theorem zr1 {v : View} {a : Int} {ids : List Int} (h : zmf v a ids = true) : zbd (zci v a ids) = true ∧ (zci v a ids).id = v.id := by
 obtain ⟨h1, h2, h3, h4, h5⟩ := zl2 h
 obtain ⟨a, b⟩ := z0k ids _ (zk2 h1 h2 h3).1 h5
 exact ⟨a, by unfold zci; rw [b, zi1]⟩

end Go.AM
/- AM: plain: time that goes by, for a view. -/
namespace Go.AM
def zjs (lost : List Int) (p : List Int) : List Int := lost.foldl (fun p x => (zqb p x).1) p
def ageV (v : View) : View := ⟨v.id, ageL v.peers, zjs (zgi v.peers) v.passive⟩
theorem qbv : ∀ (lost p : List Int), zbr p = true → (∀ x ∈ lost, place x = true ∧ x ∉ p) → lost.Nodup → p.length + lost.length ≤ 16 →
 zbr (zjs lost p) = true ∧ (zjs lost p).length = p.length + lost.length ∧ ∀ y, y ∈ zjs lost p ↔ y ∈ p ∨ y ∈ lost := by
 intro lost
 induction lost with
 | nil => intro p hp _ _ _; exact ⟨hp, by simp [zjs], by simp [zjs]⟩
 | cons x lost ih =>
   intro p hp hl hn hk
   obtain ⟨hx, hxp⟩ := hl x (by simp)
   have hne : p.length ≠ 16 := by simp at hk; omega
   have e : zqb p x = (insU x p, 0) := by simp [zqb, hp, hx, hxp, hne]
   have e2 : zjs (x :: lost) p = zjs lost (insU x p) := by simp [zjs, e]
   rw [List.nodup_cons] at hn
   obtain ⟨h1, h2, h3⟩ := ih (insU x p) (zvl hp hx hxp hne) (fun y hy => ⟨(hl y (by simp [hy])).1, fun hm => by
    rcases zqj.1 hm with rfl | hm
    ·exact hn.1 hy
    ·exact (hl y (by simp [hy])).2 hm⟩) hn.2 (by rw [zjg]; simp at hk; omega)
   rw [e2]
   refine ⟨h1, by rw [h2, zjg]; simp; omega, fun y => ?_⟩
   rw [h3, zqj]
   simp only [List.mem_cons]
   constructor
   ·rintro ((h | h) | h)
    ·exact .inr (.inl h)
    ·exact .inl h
    ·exact .inr (.inr h)
   ·rintro (h | h | h)
    ·exact .inl (.inr h)
    ·exact .inl (.inl h)
    ·exact .inr h
theorem zuk {x : Int} {ps : List Peer} (h : x ∈ zgi ps) : ∃ p ∈ ps, p.missed + 1 = 3 ∧ p.id = x := by
 obtain ⟨p, hp, rfl⟩ := List.mem_map.1 h
 obtain ⟨h1, h2⟩ := List.mem_filter.1 hp
 exact ⟨p, h1, by simpa using h2, rfl⟩
theorem zt5 {q : Peer} {ps : List Peer} (h : q ∈ ageL ps) : ∃ p ∈ ps, p.missed + 1 ≠ 3 ∧ q = ⟨p.id, p.missed + 1⟩ := by
 obtain ⟨p, hp, rfl⟩ := List.mem_map.1 h
 obtain ⟨h1, h2⟩ := List.mem_filter.1 hp
 exact ⟨p, h1, by simpa using h2, rfl⟩
theorem z51 {base : Int} {ps : List Peer} (h : zbn base ps = true) : (zgi ps).Nodup := by
 have hp := (zb9.1 h).2.2.2
 unfold zgi List.Nodup
 rw [List.pairwise_map]
 refine (hp.filter _).imp ?_
 intro a b hab he
 rw [he] at hab
 omega
theorem z86 {base : Int} {ps : List Peer} (h : zbn base ps = true) {p q : Peer} (hp : p ∈ ps) (hq : q ∈ ps) (he : p.id = q.id) : p = q := by
 have hw := (zb9.1 h).2.2.2
 induction ps with
 | nil => cases hp
 | cons a ps ih =>
   have hh := zb9.1 h
   rw [List.pairwise_cons] at hw
   have key : ∀ b ∈ ps, far base a.id < far base b.id := hw.1
   rcases List.mem_cons.1 hp with rfl | hp' <;> rcases List.mem_cons.1 hq with rfl | hq'
   ·rfl
   ·have := key q hq'; rw [he] at this; omega
   ·have := key p hp'; rw [he] at this; omega
   ·refine ih (zb9.2 ⟨hh.1, by have := hh.2.1; simp at this; omega, fun x hx => hh.2.2.1 x (by simp [hx]), hw.2⟩) hp' hq' hw.2
theorem zjd {v : View} (h : zbd v = true) : zbd (ageV v) = true ∧ (ageV v).peers.length + (ageV v).passive.length = v.peers.length + v.passive.length ∧ (∀ y, y ∈ (ageV v).passive ↔ y ∈ v.passive ∨ y ∈ zgi v.peers) := by
 obtain ⟨h1, h2, h3, h4⟩ := za1 h
 have hlen := zov v.peers
 have hpl := zdo h1
 have hlost : ∀ x ∈ zgi v.peers, place x = true ∧ x ∉ v.passive := by
  intro x hx
  obtain ⟨p, hp, hm, rfl⟩ := zuk hx
  exact ⟨(hpl p hp).1, fun hm => (h4 _ hm).2 (List.mem_map.2 ⟨p, hp, rfl⟩)⟩
 obtain ⟨a1, a2, a3⟩ := qbv (zgi v.peers) v.passive h2 hlost (z51 h1) (by omega)
 refine ⟨zx9 (qen h1) a1 ?_ ?_, ?_, a3⟩
 ·show (ageL v.peers).length + (zjs (zgi v.peers) v.passive).length ≤ 16
  rw [a2]; omega
 ·intro x hx
  show x ≠ v.id ∧ x ∉ (ageL v.peers).map Peer.id
  have hx' : x ∈ v.passive ∨ x ∈ zgi v.peers := (a3 x).1 hx
  rcases hx' with hx' | hx'
  ·refine ⟨(h4 x hx').1, fun hm => ?_⟩
   obtain ⟨q, hq, rfl⟩ := List.mem_map.1 hm
   obtain ⟨p, hp, -, rfl⟩ := zt5 hq
   exact (h4 _ hx').2 (List.mem_map.2 ⟨p, hp, rfl⟩)
  ·obtain ⟨p, hp, hm, rfl⟩ := zuk hx'
   refine ⟨z4k h hp, fun hm' => ?_⟩
   obtain ⟨q, hq, he⟩ := List.mem_map.1 hm'
   obtain ⟨p', hp', hm2, rfl⟩ := zt5 hq
   have := z86 h1 hp' hp he
   rw [this] at hm2
   exact hm2 hm
 ·show (ageL v.peers).length + (zjs (zgi v.peers) v.passive).length = _
  rw [a2]; omega
def zgx (w : View) : List Int := w.peers.map Peer.id ++ w.passive
def zrn (w : View) (to : Int) : Msg := ⟨0, w.id, to, w.peers.map Peer.id, 0, zeroItem, false⟩
end Go.AM
/- AM: plain: worlds, acts. -/
namespace Go.AM
structure Wld where
 nodes : List Node
 cuts : List Cut
 packets : List Msg
 deriving DecidableEq, Inhabited
def za2 (xs : List Node) : D := .sl (xs.map Node.cells) xs.length
@[simp] theorem qfs (S : Nat → Bool) (x : Node) : x.cells.map (D.sweep S) = x.cells := rfl
@[simp] theorem qf8 (fr fp : Nat → Nat → Nat → D) (x : Node) : x.cells.map (D.mapR fr fp) = x.cells := rfl
@[simp] theorem qh0 (x : Node) : idsL x.cells = [] := rfl
@[simp] theorem qha (x : Node) : zju x.cells = [] := rfl
@[simp] theorem qg5 (x : Node) : x.cells.take 6 = x.cells := rfl
@[simp] theorem qhf (x : Node) : x.cells.drop 6 = [] := rfl
theorem zi3 (x : Node) : x.cells = [.bool x.up, .int .i64 x.view.id, .sl (x.view.peers.map Peer.row) x.view.peers.length, .sl (x.view.passive.map irow) x.view.passive.length, .sl (x.items.map Item.row) x.items.length, .sl (x.log.map Told.row) x.log.length] := rfl
@[simp] theorem qd3 (x : Node) : x.cells.length = 6 := rfl
def Wld.cells (w : Wld) : List D := [za2 w.nodes, zbc w.cuts, zbl w.packets]
def wldD (w : Wld) : D := .agg w.cells
structure Wld.small (w : Wld) : Prop where
 nodes : w.nodes.length ≤ zbo
 node : ∀ x ∈ w.nodes, x.small
 cuts : w.cuts.length ≤ cap
 packets : w.packets.length ≤ zbo
 packet : ∀ m ∈ w.packets, m.ids.length ≤ cap
def zhg : Option Int → List Node → Bool
 | _, [] => true
 | q, x :: xs => zcg x && (q.all (fun y => decide (y < x.view.id)) && zhg (some x.view.id) xs)
def zdr (xs : List Node) : Bool := zhg none xs && (decide (1 ≤ xs.length) && decide (xs.length ≤ 8))
def oddM (m : Msg) : Bool := !zbs m
def zfi (ms : List Msg) : Bool := decide (ms.length ≤ 512) && !ms.any oddM
def zee (x : Node) : List Int := x.view.peers.map Peer.id ++ x.view.passive
def zey (c : Cut) : List Int := [c.a, c.b]
def zb7 (m : Msg) : List Int := m.from_ :: m.to :: m.ids
def zjo (w : Wld) : List Int := w.nodes.flatMap zee ++ w.cuts.flatMap zey ++ w.packets.flatMap zb7
def cmpN (id : Int) (x : Node) : Int := cmpI x.view.id id
def posN (id : Int) (xs : List Node) : Nat := posC (cmpN id) xs
def isN (id : Int) (xs : List Node) : Bool := atC (cmpN id) xs
def za9 (w : Wld) : Bool := zdr w.nodes && (zec w.cuts && (zfi w.packets && !(zjo w).any fun id => !isN id w.nodes))
def zss (w : Wld) : Prop := w.nodes.length ≤ 8 ∧ (∀ x ∈ w.nodes, x.view.peers.length ≤ 16 ∧ x.view.passive.length ≤ 16) ∧ w.cuts.length ≤ 32 ∧ w.packets.length ≤ 512 ∧ ∀ m ∈ w.packets, m.ids.length ≤ 16
theorem zlr {α β : Type} {f : α → List β} {n : Nat} : ∀ (xs : List α), (∀ x ∈ xs, (f x).length ≤ n) → (xs.flatMap f).length ≤ xs.length * n := by
 intro xs
 induction xs with
 | nil => intro _; simp
 | cons x xs ih =>
   intro h
   have h1 := ih fun y hy => h y (by simp [hy])
   have h2 := h x (by simp)
   simp only [List.flatMap_cons, List.length_append, List.length_cons]
   rw [Nat.succ_mul]
   omega
theorem qbm {w : Wld} (h : zss w) : (zjo w).length ≤ 16384 := by
 obtain ⟨h1, h2, h3, h4, h5⟩ := h
 have a := zlr (f := zee) (n := 32) w.nodes (fun x hx => by have := h2 x hx; simp [zee]; omega)
 have b := zlr (f := zey) (n := 2) w.cuts (fun x hx => by simp [zey])
 have c := zlr (f := zb7) (n := 18) w.packets (fun x hx => by have := h5 x hx; simp [zb7]; omega)
 unfold zjo
 simp only [List.length_append]
 omega
theorem z36 : ∀ (xs : List Node) (q : Option Int), zhg q xs = true → (∀ x ∈ xs, zcg x = true ∧ ∀ y, q = some y → y < x.view.id) ∧ xs.Pairwise (fun x y => x.view.id < y.view.id) := by
 intro xs
 induction xs with
 | nil => intro q _; exact ⟨by simp, List.Pairwise.nil⟩
 | cons x xs ih =>
   intro q h
   simp only [zhg, Bool.and_eq_true] at h
   obtain ⟨h1, h2, h3⟩ := h
   obtain ⟨i1, i2⟩ := ih _ h3
   have hq : ∀ y, q = some y → y < x.view.id := by
    rintro y rfl
    simpa using h2
   refine ⟨?_, List.pairwise_cons.2 ⟨fun y hy => (i1 y hy).2 _ rfl, i2⟩⟩
   intro y hy
   rcases List.mem_cons.1 hy with rfl | hy
   ·exact ⟨h1, hq⟩
   ·refine ⟨(i1 y hy).1, fun z hz => ?_⟩
    have := hq z hz
    have := (i1 y hy).2 _ rfl
    omega
theorem zb1 {xs : List Node} (h : zdr xs = true) : (∀ x ∈ xs, zcg x = true) ∧ xs.Pairwise (fun x y => x.view.id < y.view.id) ∧ 1 ≤ xs.length ∧ xs.length ≤ 8 := by
 simp only [zdr, Bool.and_eq_true, decide_eq_true_eq] at h
 obtain ⟨h1, h2, h3⟩ := h
 obtain ⟨a, b⟩ := z36 _ _ h1
 exact ⟨fun x hx => (a x hx).1, b, h2, h3⟩
theorem zfc {x : Node} (h : zcg x = true) : (x.up = true ∨ ztl x = true) ∧ zbd x.view = true ∧ zbu x.items = true ∧ x.log.length ≤ 64 ∧ x.log.any zdf = false := by
 simp only [zcg, Bool.and_eq_true, Bool.or_eq_true, decide_eq_true_eq, Bool.not_eq_true'] at h
 obtain ⟨⟨⟨⟨h1, h2⟩, h3⟩, h4⟩, h5⟩ := h
 exact ⟨h1, h2, h3, h4, h5⟩
theorem zha {xs : List Node} (h : zdr xs = true) (id : Int) : zkk (cmpN id) xs := by
 have hp := (zb1 h).2.1
 intro i j x y hij hx hy hc
 rcases Nat.lt_or_ge i j with h1 | h1
 ·obtain ⟨hi, rfl⟩ := List.getElem?_eq_some_iff.1 hx
  obtain ⟨hj, rfl⟩ := List.getElem?_eq_some_iff.1 hy
  have := List.pairwise_iff_getElem.1 hp i j hi hj h1
  unfold cmpN at *
  rw [zt1] at *
  omega
 ·obtain rfl : i = j := by omega
  rw [hx] at hy
  cases hy
  exact hc
theorem z88 {m : Msg} (h : zbs m = true) : m.ids.length ≤ 16 := by
 simp only [zbs, Bool.and_eq_true] at h
 obtain ⟨_, _, _, h⟩ := h
 split at h
 ·simp only [Bool.and_eq_true, decide_eq_true_eq] at h; exact h.2
 ·split at h
  ·simp only [Bool.and_eq_true, decide_eq_true_eq] at h; omega
  ·split at h
   ·simp only [Bool.and_eq_true, decide_eq_true_eq] at h; omega
   ·split at h
    ·simp only [Bool.and_eq_true, decide_eq_true_eq] at h; omega
    ·cases h
theorem zo9 {ms : List Msg} (h : zfi ms = true) : ms.length ≤ 512 ∧ ∀ m ∈ ms, zbs m = true := by
 simp only [zfi, Bool.and_eq_true, decide_eq_true_eq, Bool.not_eq_true'] at h
 refine ⟨h.1, fun m hm => ?_⟩
 have := List.any_eq_false.1 h.2 m hm
 simpa [oddM] using this
theorem zua {w : Wld} (h1 : zdr w.nodes = true) (h2 : zec w.cuts = true) (h3 : zfi w.packets = true) : zss w := by
 obtain ⟨a1, a2, a3, a4⟩ := zb1 h1
 obtain ⟨b1, b2⟩ := zo9 h3
 refine ⟨a4, fun x hx => ?_, ?_, b1, fun m hm => z88 (b2 m hm)⟩
 ·obtain ⟨p1, p2, p3, _⟩ := za1 (zfc (a1 x hx)).2.1
  omega
 ·simp only [zec, Bool.and_eq_true, decide_eq_true_eq] at h2
  exact h2.2
theorem zc1 {w : Wld} (h : za9 w = true) : zdr w.nodes = true ∧ zec w.cuts = true ∧ zfi w.packets = true ∧ ∀ id ∈ zjo w, isN id w.nodes = true := by
 simp only [za9, Bool.and_eq_true, Bool.not_eq_true'] at h
 obtain ⟨h1, h2, h3, h4⟩ := h
 exact ⟨h1, h2, h3, fun id hid => by simpa using List.any_eq_false.1 h4 id hid⟩
theorem zy6 {x : Node} (h : zcg x = true) : x.view.peers.length ≤ 16 ∧ x.view.passive.length ≤ 16 ∧ x.items.length ≤ 16 ∧ x.log.length ≤ 64 := by
 obtain ⟨_, h2, h3, h4, _⟩ := zfc h
 obtain ⟨p1, p2, p3, _⟩ := za1 h2
 simp only [zbu, Bool.and_eq_true, decide_eq_true_eq] at h3
 omega
theorem zdi {x : Node} (h : zcg x = true) : x.small := by
 obtain ⟨h1, h2, h3, h4⟩ := zy6 h
 refine ⟨⟨?_, ?_⟩, ?_, ?_⟩ <;> (try unfold zbo) <;> (try unfold cap) <;> omega
structure Wld.tiny (w : Wld) : Prop where
 nodes : w.nodes.length ≤ 8
 node : ∀ x ∈ w.nodes, zcg x = true
 cuts : w.cuts.length ≤ 32
 packets : w.packets.length ≤ 512
 packet : ∀ m ∈ w.packets, m.ids.length ≤ 16
theorem zck {w : Wld} (h : za9 w = true) : w.tiny := by
 obtain ⟨h1, h2, h3, h4⟩ := zc1 h
 obtain ⟨n1, n2, n3, n4, n5⟩ := zua h1 h2 h3
 exact ⟨n1, (zb1 h1).1, n3, n4, n5⟩
theorem Wld.tiny.small {w : Wld} (h : w.tiny) : w.small :=
 ⟨by have := h.nodes; unfold zbo; omega, fun x hx => zdi (h.node x hx), by have := h.cuts; unfold cap; omega, by have := h.packets; unfold zbo; omega, fun m hm => by have := h.packet m hm; unfold cap; omega⟩
def zc5 (w : Wld) (ms : List Msg) : Wld := { w with packets := w.packets ++ ms.take (512 - w.packets.length) }
theorem Rep.mem_less {w : World} {M : Foot} {ρ : Nat → Loc} {v : Value} {cs more : List D} (h : Rep w M ρ v (.mem (cs ++ more))) : Rep w M ρ v (.mem cs) := by
 have hi := h.mem_inv
 cases hi with
 | mem g off _ vals hc hv =>
   refine .imm _ _ (.mem g off cs vals (fun j hj => hc j (by simp; omega)) fun j d hd => hv j d ?_)
   rw [List.getElem?_append_left (List.getElem?_eq_some_iff.1 hd).1]
   exact hd
theorem zon {P : Program} {f : Nat} {args : List D} {r : D} {nbs : List Blk} (h : Den P f args [] r nbs) : Den P f args [] (r.freeze nbs) [] := by
 refine ⟨h.1, fun w M0 ρ vals hM hS hs ha => (h.2 w M0 ρ vals hM hS hs ha).mono ?_⟩
 rintro e w' ⟨v, ρ'', rfl, hr, hS2, _, _, hp2, har⟩
 have hbel := har.below
 refine ⟨v, ρ, rfl, ?_, hS.below hbel, Nat.le_refl _, fun _ _ => rfl, zk3 hbel _, hbel.size, hbel.os, hbel.tape, hbel.output, fun g hg _ => hbel.block g hg, fun i g base n rl esz _ hi => by rw [hS.out i (Nat.zero_le _)] at hi; cases hi⟩
 rw [z3k]
 have h1 : Rep w' M0 zry v (r.freeze nbs) := hS2.freeze (Ext.refl _) (M' := M0) (Pres.sub fun g o h => .inl h) hr (by
  intro x hx g base n rl esz hat o ho hm
  have := har.fresh x g _ _ _ _ (Nat.zero_le _) hat
  have := hM g o hm
  omega)
 exact h1.move (Pres.refl _ _) fun b hb => absurd rfl hb
theorem qds {P : Program} {f : Nat} {pre post : List D} {bs : List Blk} {r : D} {bs' : List Blk} {cs more : List D} (h : Den P f (pre ++ .mem cs :: post) bs r bs') : Den P f (pre ++ .mem (cs ++ more) :: post) bs r bs' := by
 refine ⟨h.1, fun w M0 ρ vals hM hS hs ha => h.2 w M0 ρ vals hM hS (by rw [hs]; simp) ?_⟩
 intro i v d hv hd
 by_cases hi : i = pre.length
 ·subst hi
  simp at hd
  subst hd
  exact (ha pre.length v (.mem (cs ++ more)) hv (by simp)).mem_less
 ·refine ha i v d hv ?_
  rw [← hd]
  rcases Nat.lt_or_gt_of_ne hi with h | h
  ·rw [List.getElem?_append_left h, List.getElem?_append_left h]
  ·rw [List.getElem?_append_right (by omega), List.getElem?_append_right (by omega)]
   obtain ⟨m, hm⟩ : ∃ m, i - pre.length = m + 1 := ⟨i - pre.length - 1, by omega⟩
   rw [hm]
   rfl
end Go.AM
/- AM: contracts: nodes and messages cloned; queues. -/
namespace Go.AM
theorem z8w (rows : List (List D)) (hf : Fits 6 rows) (hl : rows.length * 112 ≤ 140737488355328) : Den PP 144 [.sl rows rows.length] [] (.ref 0 0 rows.length) [⟨rows, 6, .mut⟩] := by
 cases hr : rows with
 | nil =>
   refine zs1 (pre := []) (post := []) ?_ ?_
   ·refine zak [] [] zcr ?_
    simp -implicitDefEqProofs [zbx]
   ·refine zak [] [] zcr ?_
    simp -implicitDefEqProofs [zbx, Fits]
 | cons r rs =>
   rw [hr] at hf hl
   have h63 : (r :: rs).length ≤ 9223372036854775807 := by omega
   have hlen : 0 < (r :: rs).length := by simp
   generalize hn : (r :: rs).length = n at *
   generalize r :: rs = rows at *
   refine zak [] [] zcr ?_
   simp -implicitDefEqProofs [zbx, hlen, List.take_of_length_le (Nat.le_of_eq hn), hf, hn, hl, h63]
theorem z5z (m : Msg) (hl : m.ids.length ≤ cap) : Den PP 163 [msgD m] [] (.bool (oddM m)) [] := by
 have c1 := zsl m hl
 unfold oddM
 simp only [msgD, Msg.row, zap] at c1 ⊢
 refine zak [] [] zwp ?_
 simp -implicitDefEqProofs [zqw]
 refine zaa c1 ?_
 simp -implicitDefEqProofs
theorem qad (xs : List Msg) (hl : xs.length ≤ zbo) (hi : ∀ m ∈ xs, m.ids.length ≤ cap) : Den PP 215 [zbl xs, .fn 163 [] []] [] (.int .i64 (gIdx oddM 0 xs)) [] := by
 obtain ⟨A, hA⟩ : ∃ A, gIdx oddM 0 xs = A := ⟨_, rfl⟩
 unfold zbo at hl
 refine zak [] [] zf5 ?_
 simp -implicitDefEqProofs [zdu, zbl, hA]
 refine za3 xs (fun i rest => fun ⟨fr, bs⟩ => bs = [] ∧ fr 0 = zbl xs ∧ fr 1 = .fn 163 [] [] ∧ fr 7 = .int .i64 xs.length ∧ fr 8 = .int .i64 i ∧ gIdx oddM i rest = A)
  (fun ⟨fr, bs⟩ => bs = [] ∧ A = -1) (fun ⟨fr, bs⟩ => fr 4 = .int .i64 A) zdd.eq_1 ?_ ?_ ?_ ?_ ?_
 ·exact ⟨rfl, rfl, rfl, rfl, rfl, hA⟩
 ·rintro i ⟨fr, bs⟩ hi ⟨rfl, h0, h1, h7, h8, he⟩
  simp -implicitDefEqProofs [h0, h1, h7, h8, hi]
  simpa [gIdx] using he.symm
 ·rintro i a rest ⟨fr, bs⟩ hlt hget hg hd hd2 ⟨rfl, h0, h1, h7, h8, he⟩
  have hlt' : (i : Int) < xs.length := by omega
  have hw := za5 (n := i) (by omega)
  have c1 := z5z a (hi a (List.mem_of_getElem? hget))
  clear hi
  simp only [msgD, Msg.row, zap] at c1
  simp only [gIdx] at he
  generalize oddM a = B at *
  simp -implicitDefEqProofs [h0, h1, h7, h8, hlt, hlt', hget, hg, zbl, Msg.row, zap]
  repeat' ((first | refine zaa (by first | exact c1) ?_ | ((with_reducible first | refine zaj ?_ ?_ | refine zah ?_ ?_ | refine zae ?_ ?_ | refine zad ?_ ?_) <;> intro _) | ((with_reducible first | refine zao ?_ ?_ | refine zaq ?_ ?_ | refine zal ?_ ?_ | refine zac ?_ ?_ | refine zai ?_ ?_ | refine zan ?_ ?_ | refine zaf ?_ ?_ | refine zab ?_ ?_) <;> intro hq <;> (try simp at hq)) | refine zag (by omega) ?_ | refine zam (by omega) ?_) <;> simp -implicitDefEqProofs [*, zbl, Msg.row, hw])
  all_goals grind
 ·rintro ⟨fr, bs⟩ ⟨rfl, h1⟩
  simp -implicitDefEqProofs [h1]
 ·rintro ⟨fr, bs⟩ h
  simp -implicitDefEqProofs [h]
theorem z24 (xs : List Msg) (hl : xs.length ≤ zbo) (hi : ∀ m ∈ xs, m.ids.length ≤ cap) : Den PP 164 [zbl xs, .fn 163 [] []] [] (.bool (xs.any oddM)) [] := by
 have c1 := qad xs hl hi
 have h1 := zy3 oddM xs 0
 obtain ⟨A, hA⟩ : ∃ A, (xs.any oddM) = A := ⟨_, rfl⟩
 rw [hA] at h1
 rw [hA]
 clear hA
 generalize gIdx oddM 0 xs = G at *
 simp only [zbl] at c1 ⊢
 refine zak [] [] zfe ?_
 simp -implicitDefEqProofs [zdc]
 refine zaa c1 ?_
 simp -implicitDefEqProofs [h1]
theorem z16 (xs : List Msg) (hl : xs.length ≤ zbo) (hi : ∀ m ∈ xs, m.ids.length ≤ cap) : Den PP 78 [zbl xs] [] (.bool (zfi xs)) [] := by
 have c1 := z24 xs hl hi
 unfold zfi
 generalize (xs.any oddM) = A at *
 simp only [zbl] at c1 ⊢
 refine zak [] [] z20 ?_
 clear hi
 simp -implicitDefEqProofs [zvz]
 repeat' ((first | refine zaa (by first | exact c1) ?_ | ((with_reducible first | refine zaj ?_ ?_ | refine zah ?_ ?_ | refine zae ?_ ?_ | refine zad ?_ ?_) <;> intro _) | ((with_reducible first | refine zao ?_ ?_ | refine zaq ?_ ?_ | refine zal ?_ ?_ | refine zac ?_ ?_ | refine zai ?_ ?_ | refine zan ?_ ?_ | refine zaf ?_ ?_ | refine zab ?_ ?_) <;> intro hq <;> (try simp at hq)) | refine zag (by omega) ?_ | refine zam (by omega) ?_) <;> simp -implicitDefEqProofs [*])
 all_goals grind
end Go.AM
/- AM: contracts: may nodes be. -/
namespace Go.AM
def prevN (xs : List Node) (i : Nat) : Option Int := if i = 0 then none else (xs[i - 1]?).map fun x => x.view.id
theorem z47 (xs : List Node) (hl : xs.length ≤ cap) (hs : ∀ x ∈ xs, x.small) : Den PP 76 [za2 xs] [] (.bool (zdr xs)) [] := by
 unfold zdr
 obtain ⟨A, hA⟩ : ∃ A, zhg none xs = A := ⟨_, rfl⟩
 rw [hA]
 unfold cap at hl
 refine zak [] [] zw1 ?_
 simp -implicitDefEqProofs [zqd, za2]
 refine za3 xs (fun i rest => fun ⟨fr, bs⟩ => bs = [] ∧ fr 0 = za2 xs ∧ fr 5 = za2 xs ∧ fr 6 = .int .i64 xs.length ∧ fr 7 = .int .i64 i ∧ zhg (prevN xs i) rest = A)
  (fun ⟨fr, bs⟩ => bs = [] ∧ fr 0 = za2 xs ∧ A = true) (fun ⟨fr, bs⟩ => fr 2 = .bool false ∧ A = false) zmk.eq_1 ?_ ?_ ?_ ?_ ?_
 ·exact ⟨rfl, rfl, rfl, rfl, rfl, hA⟩
 ·rintro i ⟨fr, bs⟩ hi ⟨rfl, h0, h5, h6, h7, he⟩
  simp -implicitDefEqProofs [h0, h5, h6, h7, hi]
  simpa [zhg] using he.symm
 ·rintro i a rest ⟨fr, bs⟩ hlt hget hg hd hd2 ⟨rfl, h0, h5, h6, h7, he⟩
  have hlt' : (i : Int) < xs.length := by omega
  have hw := za5 (n := i) (by omega)
  have c1 := z7e a (hs a (List.mem_of_getElem? hget))
  simp only [zhg] at he
  have hp : prevN xs (i + 1) = some a.view.id := by simp [prevN, hget]
  rw [hp]
  simp only [zc2, Node.cells, zat, zap, zav, zay] at c1
  clear hs hA hp
  generalize zcg a = M at *
  cases i with
  | zero =>
    simp [prevN] at he
    simp -implicitDefEqProofs [h0, h5, h6, h7, hlt, hlt', hget, hg, za2, Node.cells, zat, zap, zav, zay]
    repeat' ((first | refine zaa (by first | exact c1) ?_ | ((with_reducible first | refine zaj ?_ ?_ | refine zah ?_ ?_ | refine zae ?_ ?_ | refine zad ?_ ?_) <;> intro _) | ((with_reducible first | refine zao ?_ ?_ | refine zaq ?_ ?_ | refine zal ?_ ?_ | refine zac ?_ ?_ | refine zai ?_ ?_ | refine zan ?_ ?_ | refine zaf ?_ ?_ | refine zab ?_ ?_) <;> intro hq <;> (try simp at hq)) | refine zag (by omega) ?_ | refine zam (by omega) ?_) <;> simp -implicitDefEqProofs [*, za2, Node.cells, zat, zap, zav, zay, hw])
    all_goals grind
  | succ j =>
    have hj : j < xs.length := by omega
    have hj' : (j : Int) < xs.length := by omega
    have hjw : IntKind.wrap .i64 (j : Int) = j := zaw (by omega) (by omega)
    obtain ⟨q, hqj⟩ : ∃ q, xs[j] = q := ⟨_, rfl⟩
    have hpj : prevN xs (j + 1) = some q.view.id := by simp [prevN, hj, hqj]
    rw [hpj] at he
    simp at he
    simp -implicitDefEqProofs [h0, h5, h6, h7, hlt, hlt', hget, hg, za2, Node.cells, zat, zap, zav, zay]
    repeat' ((first | refine zaa (by first | exact c1) ?_ | ((with_reducible first | refine zaj ?_ ?_ | refine zah ?_ ?_ | refine zae ?_ ?_ | refine zad ?_ ?_) <;> intro _) | ((with_reducible first | refine zao ?_ ?_ | refine zaq ?_ ?_ | refine zal ?_ ?_ | refine zac ?_ ?_ | refine zai ?_ ?_ | refine zan ?_ ?_ | refine zaf ?_ ?_ | refine zab ?_ ?_) <;> intro hq <;> (try simp at hq)) | refine zag (by omega) ?_ | refine zam (by omega) ?_) <;> simp -implicitDefEqProofs [*, za2, Node.cells, zat, zap, zav, zay, hw, hj, hj', hjw, hqj])
    all_goals grind
 ·rintro ⟨fr, bs⟩ ⟨rfl, h0, h1⟩
  clear hs hA
  simp -implicitDefEqProofs [h0, h1, za2]
  repeat' ((first | ((with_reducible first | refine zaj ?_ ?_ | refine zah ?_ ?_ | refine zae ?_ ?_ | refine zad ?_ ?_) <;> intro _) | ((with_reducible first | refine zao ?_ ?_ | refine zaq ?_ ?_ | refine zal ?_ ?_ | refine zac ?_ ?_ | refine zai ?_ ?_ | refine zan ?_ ?_ | refine zaf ?_ ?_ | refine zab ?_ ?_) <;> intro hq <;> (try simp at hq)) | refine zag (by omega) ?_ | refine zam (by omega) ?_) <;> simp -implicitDefEqProofs [*, za2])
  all_goals grind
 ·rintro ⟨fr, bs⟩ ⟨h2, h1⟩
  simp -implicitDefEqProofs [h1, h2]
end Go.AM
/- AM: contracts: all that a world names. -/
namespace Go.AM
theorem znj {α β : Type} {f : α → List β} {xs : List α} {i : Nat} {a : α} (h : xs[i]? = some a) : (xs.take (i + 1)).flatMap f = (xs.take i).flatMap f ++ f a := by
 have e1 : xs.take (i + 1) = xs.take i ++ [a] := by rw [List.take_add_one, h]; rfl
 rw [e1]; simp
def fmap (f : Node → List Int) (xs : List Node) : List Int := xs.flatMap f
def zqc (f : Cut → List Int) (xs : List Cut) : List Int := xs.flatMap f
def fmapM (f : Msg → List Int) (xs : List Msg) : List Int := xs.flatMap f
theorem z5y (w : Wld) (h : zss w) : Den PP 80 [.mem w.cells] [] (.ref 0 0 (zjo w).length) [⟨(zjo w).map irow, 1, .mut⟩] := by
 obtain ⟨ns, cs, ps⟩ := w
 obtain ⟨h1, h2, h3, h4, h5⟩ := h
 simp only at h1 h2 h3 h4 h5
 have e0 : zjo ⟨ns, cs, ps⟩ = fmap zee ns ++ zqc zey cs ++ fmapM zb7 ps := rfl
 rw [e0]
 simp only [Wld.cells, za2, zbc, zbl]
 have bN : ∀ i, (fmap zee (ns.take i)).length ≤ 512 := fun i => by
  have := zlr (f := zee) (n := 32) (ns.take i) (fun x hx => by have := h2 x (List.mem_of_mem_take hx); simp [zee]; omega)
  simp only [List.length_take] at this
  unfold fmap
  omega
 have bC : ∀ i, (zqc zey (cs.take i)).length ≤ 512 := fun i => by
  have := zlr (f := zey) (n := 2) (cs.take i) (fun x hx => by simp [zey])
  simp only [List.length_take] at this
  unfold zqc
  omega
 have bM : ∀ i, (fmapM zb7 (ps.take i)).length ≤ 16384 := fun i => by
  have := zlr (f := zb7) (n := 18) (ps.take i) (fun x hx => by have := h5 x (List.mem_of_mem_take hx); simp [zb7]; omega)
  simp only [List.length_take] at this
  unfold fmapM
  omega
 refine zak [] [] zwk ?_
 simp -implicitDefEqProofs [zri]
 refine za3 ns (fun i rest => fun ⟨fr, bs⟩ => bs = [⟨[], 1, .mut⟩, ⟨(fmap zee (ns.take i)).map irow, 1, .mut⟩] ∧ fr 0 = .mem [.sl (ns.map Node.cells) ns.length, .sl (cs.map Cut.row) cs.length, .sl (ps.map Msg.row) ps.length] ∧ fr 3 = .ref 1 0 (fmap zee (ns.take i)).length ∧ fr 13 = .int .i64 ns.length ∧ fr 14 = .int .i64 i)
  (fun ⟨fr, bs⟩ => bs = [⟨[], 1, .mut⟩, ⟨(fmap zee ns).map irow, 1, .mut⟩] ∧ fr 0 = .mem [.sl (ns.map Node.cells) ns.length, .sl (cs.map Cut.row) cs.length, .sl (ps.map Msg.row) ps.length] ∧ fr 3 = .ref 1 0 (fmap zee ns).length) (fun _ => False) zmj.eq_1 ?_ ?_ ?_ ?_ ?_
 ·exact ⟨rfl, rfl, rfl, rfl, rfl⟩
 ·rintro i ⟨fr, bs⟩ hi ⟨rfl, h0, h3, h13, h14⟩
  subst hi
  rw [List.take_length] at *
  simp -implicitDefEqProofs [h0, h3, h13, h14]
 ·rintro i a rest ⟨fr, bs⟩ hlt hget hg hd hd2 ⟨rfl, h0, h3, h13, h14⟩
  have hlt' : (i : Int) < ns.length := by omega
  have c1 := zrh a.view (by have := (h2 a (List.mem_of_getElem? hget)).1; unfold zbo; omega)
  have b1 := bN i
  have b2 := bN (i + 1)
  have e1 : fmap zee (ns.take (i + 1)) = fmap zee (ns.take i) ++ zee a := znj hget
  rw [e1] at b2 ⊢
  clear e1 h2 h5 bN bC bM e0
  generalize fmap zee (ns.take i) = L at *
  simp only [View.cells, zat, zap] at c1
  have c1 := qds (pre := []) (post := []) (more := [.sl (a.items.map Item.row) a.items.length, .sl (a.log.map Told.row) a.log.length]) c1
  simp only [List.nil_append, List.cons_append] at c1
  simp only [zee, List.length_append, List.length_map] at b2 ⊢
  simp -implicitDefEqProofs [h0, h3, h13, h14, hlt, hlt', hget, hg, Node.cells, zat, zap, zav, zay]
  repeat' ((first | refine zaa (by first | exact c1) ?_ | ((with_reducible first | refine zaj ?_ ?_ | refine zah ?_ ?_ | refine zae ?_ ?_ | refine zad ?_ ?_) <;> intro _) | ((with_reducible first | refine zao ?_ ?_ | refine zaq ?_ ?_ | refine zal ?_ ?_ | refine zac ?_ ?_ | refine zai ?_ ?_ | refine zan ?_ ?_ | refine zaf ?_ ?_ | refine zab ?_ ?_) <;> intro hq <;> (try simp at hq)) | refine zag (by omega) ?_ | refine zam (by omega) ?_) <;> simp -implicitDefEqProofs [*, h0, h3, h13, h14, hlt, hlt', hget, hg, Node.cells, zat, zap, zav, zay, zar])
  refine ⟨by intro r hr; obtain ⟨p, _, rfl⟩ := List.mem_map.1 hr; exact ⟨rfl, rfl⟩, ?_⟩
  refine zag ⟨by omega, by omega⟩ ?_
  simp -implicitDefEqProofs [h0, h3, h13, h14, hlt, hlt', hget, hg, Node.cells, zat, zap, zav, zay, zar, Function.comp_def]
  refine zag ⟨by omega, by omega⟩ ?_
  simp -implicitDefEqProofs [h0, h3, h13, h14, hlt, hlt', hget, hg, Node.cells, zat, zap, zav, zay, zar, Function.comp_def]
  exact ⟨Nat.add_assoc .., zaw (by omega) (by omega)⟩
 ·rintro ⟨fr, bs⟩ ⟨rfl, h0, h3⟩
  have bN0 := bN ns.length
  rw [List.take_length] at bN0
  clear bN h2 e0
  generalize fmap zee ns = LN at *
  simp -implicitDefEqProofs [h0, h3]
  refine za3 cs (fun i rest => fun ⟨fr, bs⟩ => bs = [⟨[], 1, .mut⟩, ⟨(LN ++ zqc zey (cs.take i)).map irow, 1, .mut⟩] ∧ fr 0 = .mem [.sl (ns.map Node.cells) ns.length, .sl (cs.map Cut.row) cs.length, .sl (ps.map Msg.row) ps.length] ∧ fr 3 = .ref 1 0 (LN ++ zqc zey (cs.take i)).length ∧ fr 42 = .sl (cs.map Cut.row) cs.length ∧ fr 43 = .int .i64 cs.length ∧ fr 44 = .int .i64 i)
   (fun ⟨fr, bs⟩ => bs = [⟨[], 1, .mut⟩, ⟨(LN ++ zqc zey cs).map irow, 1, .mut⟩] ∧ fr 0 = .mem [.sl (ns.map Node.cells) ns.length, .sl (cs.map Cut.row) cs.length, .sl (ps.map Msg.row) ps.length] ∧ fr 3 = .ref 1 0 (LN ++ zqc zey cs).length) (fun _ => False) zmu.eq_1 ?_ ?_ ?_ ?_ ?_
  ·exact ⟨by simp [zqc], by simp [h0], by simp [zqc, h3], rfl, rfl, rfl⟩
  ·rintro i ⟨fr, bs⟩ hi ⟨rfl, h0, h3, h13, h43, h14⟩
   subst hi
   rw [List.take_length] at *
   simp -implicitDefEqProofs [h0, h3, h13, h14, h43]
  ·rintro i a rest ⟨fr, bs⟩ hlt hget hg hd hd2 ⟨rfl, h0, h3, h42, h43, h44⟩
   have hlt' : (i : Int) < cs.length := by omega
   have b1 := bC i
   have e1 : zqc zey (cs.take (i + 1)) = zqc zey (cs.take i) ++ zey a := znj hget
   rw [e1, ← List.append_assoc]
   have b2 : (LN ++ zqc zey (cs.take i)).length ≤ 1024 := by simp; omega
   clear e1 h5 bC bM b1
   generalize LN ++ zqc zey (cs.take i) = L at *
   simp -implicitDefEqProofs [h0, h3, h42, h43, h44, hlt, hlt', hget, hg, Cut.row, zey]
   refine ⟨by simp [Fits], ?_⟩
   refine zag ⟨by omega, by omega⟩ ?_
   simp -implicitDefEqProofs [h0, h3, h42, h43, h44, hlt, hlt', hget, hg, Cut.row, zar, Function.comp_def]
   exact ⟨⟨rfl, rfl⟩, zaw (by omega) (by omega)⟩
  ·rintro ⟨fr, bs⟩ ⟨rfl, h0, h3⟩
   have bC0 := bC cs.length
   rw [List.take_length] at bC0
   have bL : (LN ++ zqc zey cs).length ≤ 1024 := by simp; omega
   clear bC
   rw [← List.append_assoc]
   generalize hLC : LN ++ zqc zey cs = LC at *
   simp -implicitDefEqProofs [h0, h3]
   refine za3 ps (fun i rest => fun ⟨fr, bs⟩ => bs = [⟨[], 1, .mut⟩, ⟨(LC ++ fmapM zb7 (ps.take i)).map irow, 1, .mut⟩] ∧ fr 3 = .ref 1 0 (LC ++ fmapM zb7 (ps.take i)).length ∧ fr 59 = .sl (ps.map Msg.row) ps.length ∧ fr 60 = .int .i64 ps.length ∧ fr 61 = .int .i64 i)
    (fun ⟨fr, bs⟩ => bs = [⟨[], 1, .mut⟩, ⟨(LC ++ fmapM zb7 ps).map irow, 1, .mut⟩] ∧ fr 3 = .ref 1 0 (LC ++ fmapM zb7 ps).length) (fun _ => False) zmt.eq_1 ?_ ?_ ?_ ?_ ?_
   ·exact ⟨by simp [fmapM], by simp [fmapM, h3], rfl, rfl, rfl⟩
   ·rintro i ⟨fr, bs⟩ hi ⟨rfl, h3, h13, h43, h14⟩
    subst hi
    rw [List.take_length] at *
    simp -implicitDefEqProofs [h3, h13, h14, h43]
   ·rintro i a rest ⟨fr, bs⟩ hlt hget hg hd hd2 ⟨rfl, h3, h59, h60, h61⟩
    have hlt' : (i : Int) < ps.length := by omega
    have b1 := bM i
    have b5 := h5 a (List.mem_of_getElem? hget)
    have e1 : fmapM zb7 (ps.take (i + 1)) = fmapM zb7 (ps.take i) ++ zb7 a := znj hget
    rw [e1, ← List.append_assoc]
    have b2 : (LC ++ fmapM zb7 (ps.take i)).length ≤ 65536 := by simp; omega
    clear e1 h5 bM b1
    generalize LC ++ fmapM zb7 (ps.take i) = L at *
    simp -implicitDefEqProofs [h3, h59, h60, h61, hlt, hlt', hget, hg, Msg.row, zap, zb7]
    refine ⟨by simp [Fits], ?_⟩
    refine zag ⟨by omega, by omega⟩ ?_
    simp -implicitDefEqProofs [h3, h59, h60, h61, hlt, hlt', hget, hg, Msg.row, zap, zar, Function.comp_def]
    refine zag ⟨by omega, by omega⟩ ?_
    simp -implicitDefEqProofs [h3, h59, h60, h61, hlt, hlt', hget, hg, Msg.row, zap, zar, Function.comp_def]
    exact ⟨⟨rfl, rfl⟩, by omega, zaw (by omega) (by omega)⟩
   ·rintro ⟨fr, bs⟩ ⟨rfl, h3⟩
    simp -implicitDefEqProofs [h3]
    rw [← hLC]
    simp [Nat.add_assoc]
   ·rintro ⟨fr, bs⟩ h
    exact h.elim
  ·rintro ⟨fr, bs⟩ h
   exact h.elim
 ·rintro ⟨fr, bs⟩ h
  exact h.elim
end Go.AM
/- AM: contracts: nodes found; may a world be. -/
namespace Go.AM
theorem z08 (xs : List Node) (g : Nat) (key : Int) (c : Node → Int) (hc : ∀ x ∈ xs, Den PP g [.agg x.cells, .int .i64 key] [] (.int .i64 (c x)) []) (hl : xs.length ≤ cap) (hr : zkk c xs) :
 Den PP 166 [.sl (xs.map Node.cells) xs.length, .int .i64 key, .fn g [] []] [] (.tup [.int .i64 (posC c xs), .bool (atC c xs)]) [] := by
 have hlo := zy0 c xs
 have hhi := z3i hr
 have hat := zyt c xs
 have hac : atC c xs = (xs[posC c xs]?).any fun x => decide (c x = 0) := rfl
 rw [hac]
 clear hac
 generalize posC c xs = at_ at *
 refine zak [] [] zd1 ?_
 simp -implicitDefEqProofs [zce]
 refine zgj xs.length (fun m ⟨fr, bs⟩ => ∃ lo hi : Nat, bs = [] ∧ hi - lo ≤ m ∧ lo ≤ at_ ∧ at_ ≤ hi ∧ hi ≤ xs.length ∧ fr 0 = .sl (xs.map Node.cells) xs.length ∧ fr 1 = .int .i64 key ∧ fr 2 = .fn g [] [] ∧ fr 8 = .int .i64 xs.length ∧ fr 9 = .int .i64 lo ∧ fr 10 = .int .i64 hi)
  (fun ⟨fr, bs⟩ => bs = [] ∧ fr 0 = .sl (xs.map Node.cells) xs.length ∧ fr 1 = .int .i64 key ∧ fr 2 = .fn g [] [] ∧ fr 8 = .int .i64 xs.length ∧ fr 9 = .int .i64 at_) (fun _ => False) zb3.eq_1 ?_ ?_ ?_ ?_ ?_
 ·exact ⟨0, xs.length, rfl, by omega, by omega, hat, by omega, rfl, rfl, rfl, rfl, rfl, rfl⟩
 ·rintro ⟨fr, bs⟩ ⟨lo, hi, rfl, h1, h2, h3, h4, h0, h5, h9, h6, h7, h8⟩
  have e1 : lo = at_ := by omega
  have e2 : hi = at_ := by omega
  simp -implicitDefEqProofs [h0, h5, h9, h6, h7, h8, e1, e2]
 ·rintro m ⟨fr, bs⟩ ⟨lo, hi, rfl, h1, h2, h3, h4, h0, h5, h9, h6, h7, h8⟩
  by_cases hlt : lo < hi
  ·have hlt' : (lo : Int) < hi := by omega
   have hm := z21 (lo := lo) (hi := hi) (by omega) (by omega)
   have hml : (lo + hi) / 2 < xs.length := by omega
   have hml' : (((lo + hi) / 2 : Nat) : Int) < xs.length := by omega
   have hw := za5 (n := (lo + hi) / 2) (by unfold cap at hl; omega)
   have hb1 : lo ≤ (lo + hi) / 2 := by omega
   have hb2 : (lo + hi) / 2 < hi := by omega
   generalize (lo + hi) / 2 = mid at *
   obtain ⟨x, hx⟩ : ∃ x, xs[mid] = x := ⟨_, rfl⟩
   have hx' : xs[mid]? = some x := by simp [hml, hx]
   have hcx := hc x (List.mem_of_getElem? hx')
   simp only [Node.cells, zat, zap, zav, zay] at hcx
   simp -implicitDefEqProofs [h0, h5, h9, h6, h7, h8, hlt', hlt, hm, hml, hml', hx, Node.cells, zat, zap, zav, zay]
   refine zaa hcx ?_
   simp -implicitDefEqProofs
   refine zae (fun hc => ?_) (fun hc => ?_)
   all_goals simp -implicitDefEqProofs [h0, h5, h9, h6, h7, h8, hc, hw]
   ·have : mid < at_ := by
     apply Classical.byContradiction
     intro hx2
     have := hhi mid x (by omega) hx'
     omega
    exact ⟨mid + 1, hi, by omega, by omega, by omega, by omega, by simp, by simp⟩
   ·have : at_ ≤ mid := by
     apply Classical.byContradiction
     intro hx2
     have := hlo mid x (by omega) hx'
     omega
    exact ⟨lo, mid, by omega, by omega, by omega, by omega, by simp, by simp⟩
  ·have e1 : lo = at_ := by omega
   have e2 : hi = at_ := by omega
   simp -implicitDefEqProofs [h0, h5, h9, h6, h7, h8, e1, e2]
 ·rintro ⟨fr, bs⟩ ⟨rfl, h0, h1, h2, h6, h7⟩
  simp -implicitDefEqProofs [h0, h1, h2, h6, h7]
  refine zaj (fun hc2 => ?_) (fun hc2 => ?_)
  ·obtain ⟨x, hx⟩ : ∃ x, xs[at_]'(by omega) = x := ⟨_, rfl⟩
   have hal : at_ < xs.length := by omega
   have hx' : xs[at_]? = some x := by simp [hx, hal]
   have hcx := hc x (List.mem_of_getElem? hx')
   simp only [Node.cells, zat, zap, zav, zay] at hcx
   simp -implicitDefEqProofs [h0, h1, h2, h6, h7, hc2, hx, hal, Node.cells, zat, zap, zav, zay]
   refine zaa hcx ?_
   simp -implicitDefEqProofs [h0, h1, h2, h6, h7, hc2, hx, hal, hx', Node.cells, zat, zap, zav, zay]
  ·have hp : xs[at_]? = none := by rw [List.getElem?_eq_none]; omega
   simp -implicitDefEqProofs [h0, h1, h2, h6, h7, hc2, hp]
 ·rintro ⟨fr, bs⟩ h
  exact h.elim
theorem z1q (x : Node) (id : Int) : Den PP 167 [.agg x.cells, .int .i64 id] [] (.int .i64 (cmpN id x)) [] := by
 simp only [Node.cells, zat, zap, zav, zay, cmpN]
 refine zak [] [] zvn ?_
 simp -implicitDefEqProofs [zpa]
 refine zaa (zhb _ _) ?_
 simp -implicitDefEqProofs
theorem zoj (w : Wld) (id : Int) (hl : w.nodes.length ≤ cap) (hr : zkk (cmpN id) w.nodes) : Den PP 82 [.mem w.cells, .int .i64 id] [] (.tup [.int .i64 (posN id w.nodes), .bool (isN id w.nodes)]) [] := by
 have c1 := z08 w.nodes 167 id (cmpN id) (fun x _ => z1q x id) hl hr
 unfold posN isN
 generalize posC (cmpN id) w.nodes = P at *
 generalize atC (cmpN id) w.nodes = A at *
 simp only [Wld.cells, za2, zbc, zbl]
 clear hr
 refine zak [] [] zz0 ?_
 simp -implicitDefEqProofs [zs9]
 refine zaa c1 ?_
 simp -implicitDefEqProofs
theorem z5c (w : Wld) (id : Int) (hl : w.nodes.length ≤ cap) (hr : zkk (cmpN id) w.nodes) : Den PP 81 [.int .i64 id, .mem w.cells] [] (.bool (!isN id w.nodes)) [] := by
 have c1 := zoj w id hl hr
 generalize posN id w.nodes = P at *
 generalize isN id w.nodes = A at *
 simp only [Wld.cells, za2, zbc, zbl] at c1 ⊢
 clear hr
 refine zak [] [] zwi ?_
 simp -implicitDefEqProofs [zq2]
 refine zaa c1 ?_
 simp -implicitDefEqProofs
theorem zku (w : Wld) (hs : w.small) : Den PP 23 [wldD w] [] (.bool (za9 w)) [] := by
 have c1 := z47 w.nodes (by have := hs.nodes; unfold zbo at this; unfold cap; omega) hs.node
 have c2 := zyu w.cuts hs.cuts
 have c3 := z16 w.packets hs.packets hs.packet
 unfold za9
 cases h1 : zdr w.nodes with
 | false =>
   rw [h1] at c1
   clear h1 hs c2 c3
   simp only [wldD, Wld.cells, za2, zbc, zbl] at c1 ⊢
   refine zak [] [] zjz ?_
   simp -implicitDefEqProofs [zja]
   refine zaa c1 ?_
   simp -implicitDefEqProofs
 | true =>
   cases h2 : zec w.cuts with
   | false =>
     rw [h1] at c1
     rw [h2] at c2
     clear h1 h2 hs c3
     simp only [wldD, Wld.cells, za2, zbc, zbl] at c1 c2 ⊢
     refine zak [] [] zjz ?_
     simp -implicitDefEqProofs [zja]
     refine zaa c1 ?_
     simp -implicitDefEqProofs
     refine zaa c2 ?_
     simp -implicitDefEqProofs
   | true =>
     cases h3 : zfi w.packets with
     | false =>
       rw [h1] at c1
       rw [h2] at c2
       rw [h3] at c3
       clear h1 h2 h3 hs
       simp only [wldD, Wld.cells, za2, zbc, zbl] at c1 c2 c3 ⊢
       refine zak [] [] zjz ?_
       simp -implicitDefEqProofs [zja]
       refine zaa c1 ?_
       simp -implicitDefEqProofs
       refine zaa c2 ?_
       simp -implicitDefEqProofs
       refine zaa c3 ?_
       simp -implicitDefEqProofs
     | true =>
       have hn := zua h1 h2 h3
       have hl := qbm hn
       have c4 := z5y w hn
       have hm := fun id => zha h1 id
       have c5 := zej (zjo w) (by unfold cap; omega) 81 [.mem w.cells] (fun id => !isN id w.nodes) ⟨fun _ => rfl, fun _ _ => rfl, fun id _ => z5c w id (by have := hn.1; unfold cap; omega) (hm id)⟩
       rw [h1] at c1
       rw [h2] at c2
       rw [h3] at c3
       generalize (zjo w).any (fun id => !isN id w.nodes) = A at *
       generalize zjo w = L at *
       clear h1 h2 h3 hs hn hl hm
       simp only [wldD, Wld.cells, za2, zbc, zbl, zap] at c1 c2 c3 c4 c5 ⊢
       refine zak [] [] zjz ?_
       simp -implicitDefEqProofs [zja]
       refine zaa c1 ?_
       simp -implicitDefEqProofs
       refine zaa c2 ?_
       simp -implicitDefEqProofs
       refine zaa c3 ?_
       simp -implicitDefEqProofs
       refine zaa c4 ?_
       simp -implicitDefEqProofs [zar]
       refine zaa c5 ?_
       simp -implicitDefEqProofs
end Go.AM
/- AM: contracts: a queue copied; one taken out. -/
namespace Go.AM
theorem z28 (xs : List Msg) : Fits 11 (xs.map Msg.row) := by
 intro r hr
 obtain ⟨m, _, rfl⟩ := List.mem_map.1 hr
 exact ⟨rfl, rfl⟩
theorem z61 {α β : Type} {f : α → β} {xs : List α} {i : Nat} {a : α} (h : xs[i]? = some a) : (xs.map f).set i (f a) = xs.map f := by
 apply List.ext_getElem?
 intro j
 rw [List.getElem?_set]
 split
 ·rename_i hij
  subst hij
  have hlt := (List.getElem?_eq_some_iff.1 h).1
  rw [List.getElem?_eq_getElem hlt] at h
  simp [hlt, Option.some.inj h]
 ·rfl
theorem zr6 (xs : List Msg) (hl : xs.length ≤ zbo) (hl2 : xs.length * 104 ≤ 140737488355328) (hi : ∀ m ∈ xs, m.ids.length ≤ cap) : Den PP 146 [zbl xs] [] (.ref 0 0 xs.length) [⟨xs.map Msg.row, 11, .mut⟩] := by
 have c1 := qa4 (xs.map Msg.row) (z28 xs) (by simpa using hl2)
 unfold zbo at hl
 simp only [List.length_map, zbl] at c1 ⊢
 refine zak [6] [] zze ?_
 simp -implicitDefEqProofs [zs4]
 refine zaa c1 ?_
 simp -implicitDefEqProofs
 refine za3 xs (fun i rest => fun ⟨fr, bs⟩ => bs = [⟨[], 11, .mut⟩, ⟨xs.map Msg.row, 11, .mut⟩] ∧ fr 3 = .ref 1 0 xs.length ∧ fr 8 = .int .i64 xs.length ∧ fr 9 = .int .i64 i)
  (fun ⟨fr, bs⟩ => bs = [⟨[], 11, .mut⟩, ⟨xs.map Msg.row, 11, .mut⟩] ∧ fr 3 = .ref 1 0 xs.length) (fun _ => False) zn0.eq_1 ?_ ?_ ?_ ?_ ?_
 ·exact ⟨rfl, rfl, rfl, rfl⟩
 ·rintro i ⟨fr, bs⟩ hi ⟨rfl, h3, h8, h9⟩
  simp -implicitDefEqProofs [h3, h8, h9, hi]
 ·rintro i a rest ⟨fr, bs⟩ hlt hget hg hd hd2 ⟨rfl, h3, h8, h9⟩
  have hlt' : (i : Int) < xs.length := by omega
  have hw := za5 (n := i) (by omega)
  have c2 := zqn (a.ids.map irow) (by simp) (by have := hi a (List.mem_of_getElem? hget); unfold cap at this; simp; omega)
  clear hi
  simp only [List.length_map] at c2
  simp -implicitDefEqProofs [h3, h8, h9, hlt, hlt', hget, hg, Msg.row, zap]
  refine zaa c2 ?_
  simp -implicitDefEqProofs [h3, h8, h9, hlt, hlt', hget, hg, Msg.row, zap]
  exact ⟨z61 (f := Msg.row) hget, zaw (by omega) (by omega)⟩
 ·rintro ⟨fr, bs⟩ ⟨rfl, h3⟩
  simp -implicitDefEqProofs [h3]
 ·rintro ⟨fr, bs⟩ h
  exact h.elim
theorem z8f (xs : List Msg) (p : Nat) (m : Msg) (hi : ∀ m ∈ xs, m.ids.length ≤ cap) (hq : zfi xs = true) (hm : xs[p]? = some m) :
 Den PP 207 [zbl xs, .int .i64 p] [] (.tup [msgD m, .ref 0 0 (xs.take p ++ xs.drop (p + 1)).length, .int .i64 0]) [⟨(xs.take p ++ xs.drop (p + 1)).map Msg.row, 11, .mut⟩] := by
 have hlt := (List.getElem?_eq_some_iff.1 hm).1
 have hg : ∀ h : p < xs.length, xs[p] = m := fun h => by rw [List.getElem?_eq_getElem h] at hm; exact Option.some.inj hm
 have h512 : xs.length ≤ 512 := by
  unfold zfi at hq
  simp only [Bool.and_eq_true, decide_eq_true_eq] at hq
  exact hq.1
 have c1 := z16 xs (by unfold zbo; omega) hi
 have c2 := zr6 xs (by unfold zbo; omega) (by omega) hi
 have c3 := zoq (xs.map Msg.row) p (z28 xs) (by
  intro r hr d hd
  obtain ⟨y, _, rfl⟩ := List.mem_map.1 hr
  simp only [Msg.row, zap] at hd
  exact List.all_eq_true.1 (rfl : (List.all _ D.still) = true) d hd) (by simpa using hlt) (by simp; omega)
 rw [← List.map_take, ← List.map_drop, ← List.map_append] at c3
 rw [hq] at c1
 have hlen : (xs.take p ++ xs.drop (p + 1)).length = xs.length - 1 := by simp; omega
 have hw : IntKind.wrap .i64 ((p : Int) + 1) = (p : Int) + 1 := zaw (by omega) (by omega)
 have hp' : (p : Int) < xs.length := by omega
 have hp0 : ¬ (p : Int) < 0 := by omega
 have hp1 : ¬ (xs.length : Int) ≤ p := by omega
 generalize (xs.take p ++ xs.drop (p + 1)) = ys at *
 clear hi hq
 simp only [zbl, msgD] at c1 c2 ⊢
 refine zpy [24, 34] [30] [30] [] (fun _ h => absurd h List.not_mem_nil) zzx ?_
 simp -implicitDefEqProofs [zs8]
 refine zaa c1 ?_
 simp -implicitDefEqProofs [hp0, hp1]
 refine zaa c2 ?_
 simp -implicitDefEqProofs [hlt, hp', hm, hg, Msg.row, zap, hw]
 refine ⟨?_, ?_⟩
 all_goals
  refine zjf rfl (by simp) (by simp) (by simp) c3 ?_
  simp -implicitDefEqProofs [zar, hlen]
end Go.AM
/- AM: what is handed in, told. -/
namespace Go.AM
theorem zd0 {n : Nat} {cs : List D} (h : Tell TT (n + 1) 3 cs) : ∃ x, cs = [.int .i64 x] ∧ in64 x := by
 simp [Tell] at h
 obtain ⟨x, rfl, hx⟩ := h
 exact ⟨x, rfl, wf64 hx⟩
theorem znz {n : Nat} {cs : List D} (h : Tell TT (n + 1) 4 cs) : ∃ x, cs = [.bool x] := by
 simpa [Tell] using h
theorem zv1 {n : Nat} {cs : List D} (h : Tell TT (n + 2) 36 cs) : ∃ xs : List Int, cs = [zap xs] ∧ xs.length * 8 ≤ 140737488351232 ∧ ∀ x ∈ xs, in64 x := by
 unfold Tell at h
 simp at h
 obtain ⟨rows, rfl, hl, hr⟩ := h
 obtain ⟨xs, rfl, hx⟩ := zps (f := irow) (Q := in64) rows fun r h => by
  obtain ⟨x, rfl, hx⟩ := zd0 (hr r h)
  exact ⟨x, rfl, hx⟩
 exact ⟨xs, by simp [zap], by simpa using hl, hx⟩
theorem qc9 {n : Nat} {cs : List D} (h : Tell TT (n + 2) 204 cs) : ∃ p : Peer, cs = p.row ∧ in64 p.id ∧ in64 p.missed := by
 unfold Tell at h
 simp [Tell.TellFs] at h
 obtain ⟨a, b, rfl, h1, h2⟩ := h
 obtain ⟨x, rfl, hx⟩ := zd0 h1
 obtain ⟨y, rfl, hy⟩ := zd0 h2
 exact ⟨⟨x, y⟩, rfl, hx, hy⟩
theorem zxb {n : Nat} {cs : List D} (h : Tell TT (n + 3) 35 cs) : ∃ ps : List Peer, cs = [zat ps] ∧ ps.length * 16 ≤ 140737488351232 ∧ ∀ p ∈ ps, in64 p.id ∧ in64 p.missed := by
 unfold Tell at h
 simp at h
 obtain ⟨rows, rfl, hl, hr⟩ := h
 obtain ⟨xs, rfl, hx⟩ := zps (f := Peer.row) (Q := fun p => in64 p.id ∧ in64 p.missed) rows fun r h => qc9 (hr r h)
 exact ⟨xs, by simp [zat], by simpa using hl, hx⟩
def View.tame (v : View) : Prop := v.peers.length * 16 ≤ 140737488351232 ∧ v.passive.length * 8 ≤ 140737488351232 ∧ in64 v.id ∧ (∀ p ∈ v.peers, in64 p.id ∧ in64 p.missed) ∧ ∀ x ∈ v.passive, in64 x
theorem View.tame.small {v : View} (h : v.tame) : v.small := by
 obtain ⟨h1, h2, _⟩ := h
 unfold View.small zbo cap
 omega
theorem z1y {n : Nat} {cs : List D} (h : Tell TT (n + 4) 38 cs) : ∃ v : View, cs = v.cells ∧ v.tame := by
 unfold Tell at h
 simp [Tell.TellFs] at h
 obtain ⟨a, r, rfl, h1, b, c, rfl, h2, h3⟩ := h
 obtain ⟨x, rfl, hx⟩ := zd0 h1
 obtain ⟨ps, rfl, hp, hp2⟩ := zxb h2
 obtain ⟨xs, rfl, hq, hq2⟩ := zv1 h3
 exact ⟨⟨x, ps, xs⟩, rfl, hp, hq, hx, hp2, hq2⟩
theorem z03 {n : Nat} {cs : List D} (h : Tell TT (n + 2) 44 cs) : ∃ c w : Int, cs = [.int .i64 c, .int .i64 w] ∧ in64 c ∧ in64 w := by
 unfold Tell at h
 simp [Tell.TellFs] at h
 obtain ⟨a, b, rfl, h1, h2⟩ := h
 obtain ⟨x, rfl, hx⟩ := zd0 h1
 obtain ⟨y, rfl, hy⟩ := zd0 h2
 exact ⟨x, y, rfl, hx, hy⟩
def Item.tame (i : Item) : Prop := in64 i.key ∧ in64 i.count ∧ in64 i.writer ∧ in64 i.value
theorem zuz {n : Nat} {cs : List D} (h : Tell TT (n + 3) 46 cs) : ∃ i : Item, cs = i.row ∧ i.tame := by
 unfold Tell at h
 simp [Tell.TellFs] at h
 obtain ⟨a, r1, rfl, h1, b, r2, rfl, h2, c, d, rfl, h3, h4⟩ := h
 obtain ⟨x, rfl, hx⟩ := zd0 h1
 obtain ⟨y, z, rfl, hy, hz⟩ := z03 h2
 obtain ⟨u, rfl, hu⟩ := zd0 h3
 obtain ⟨g, rfl⟩ := znz h4
 exact ⟨⟨x, y, z, u, g⟩, rfl, hx, hy, hz, hu⟩
theorem zyb {n : Nat} {cs : List D} (h : Tell TT (n + 4) 39 cs) : ∃ is : List Item, cs = [zav is] ∧ is.length * 40 ≤ 140737488351232 ∧ ∀ i ∈ is, i.tame := by
 unfold Tell at h
 simp at h
 obtain ⟨rows, rfl, hl, hr⟩ := h
 obtain ⟨xs, rfl, hx⟩ := zps (f := Item.row) (Q := Item.tame) rows fun r h => zuz (hr r h)
 exact ⟨xs, by simp [zav], by simpa using hl, hx⟩
theorem qck {n : Nat} {cs : List D} (h : Tell TT (n + 2) 61 cs) : ∃ t : Told, cs = t.row ∧ in64 t.key ∧ in64 t.value := by
 unfold Tell at h
 simp [Tell.TellFs] at h
 obtain ⟨a, r1, rfl, h1, b, c, rfl, h2, h3⟩ := h
 obtain ⟨x, rfl, hx⟩ := zd0 h1
 obtain ⟨g, rfl⟩ := znz h2
 obtain ⟨u, rfl, hu⟩ := zd0 h3
 exact ⟨⟨x, g, u⟩, rfl, hx, hu⟩
theorem z8h {n : Nat} {cs : List D} (h : Tell TT (n + 3) 40 cs) : ∃ ts : List Told, cs = [zay ts] ∧ ts.length * 24 ≤ 140737488351232 ∧ ∀ t ∈ ts, in64 t.key ∧ in64 t.value := by
 unfold Tell at h
 simp at h
 obtain ⟨rows, rfl, hl, hr⟩ := h
 obtain ⟨xs, rfl, hx⟩ := zps (f := Told.row) (Q := fun t => in64 t.key ∧ in64 t.value) rows fun r h => qck (hr r h)
 exact ⟨xs, by simp [zay], by simpa using hl, hx⟩
def Node.tame (x : Node) : Prop := x.view.tame ∧ x.items.length * 40 ≤ 140737488351232 ∧ (∀ i ∈ x.items, i.tame) ∧ x.log.length * 24 ≤ 140737488351232 ∧ ∀ t ∈ x.log, in64 t.key ∧ in64 t.value
theorem Node.tame.small {x : Node} (h : x.tame) : x.small := ⟨h.1.small, h.2.1, h.2.2.2.1⟩
theorem z1r {n : Nat} {cs : List D} (h : Tell TT (n + 5) 42 cs) : ∃ x : Node, cs = x.cells ∧ x.tame := by
 unfold Tell at h
 simp [Tell.TellFs] at h
 obtain ⟨a, r1, rfl, h1, b, r2, rfl, h2, c, d, rfl, h3, h4⟩ := h
 obtain ⟨u, rfl⟩ := znz h1
 obtain ⟨v, rfl, hv⟩ := z1y h2
 obtain ⟨is, rfl, h5, h6⟩ := zyb h3
 obtain ⟨ts, rfl, h7, h8⟩ := z8h h4
 exact ⟨⟨u, v, is, ts⟩, rfl, hv, h5, h6, h7, h8⟩
theorem qjy {n : Nat} {d : D} (h : zda TT (n + 5) 42 d) : ∃ x : Node, d = zc2 x ∧ x.tame := by
 simp [zda] at h
 obtain ⟨cs, rfl, h⟩ := h
 obtain ⟨v, rfl, hv⟩ := z1r h
 exact ⟨v, rfl, hv⟩
theorem qjv {n : Nat} {d : D} (h : zda TT (n + 3) 46 d) : ∃ x : Item, d = .agg x.row ∧ x.tame := by
 simp [zda] at h
 obtain ⟨cs, rfl, h⟩ := h
 obtain ⟨v, rfl, hv⟩ := zuz h
 exact ⟨v, rfl, hv⟩
theorem qiz {n : Nat} {d : D} (h : zda TT (n + 4) 39 d) : ∃ x : List Item, d = zav x ∧ x.length * 40 ≤ 140737488351232 ∧ ∀ i ∈ x, i.tame := by
 simp [zda] at h
 obtain ⟨xs, hx, h2⟩ := zyb h
 simp at hx
 exact ⟨xs, hx, h2⟩
theorem qjn {n : Nat} {d : D} (h : zda TT (n + 2) 36 d) : ∃ x : List Int, d = zap x ∧ x.length * 8 ≤ 140737488351232 ∧ ∀ i ∈ x, in64 i := by
 simp [zda] at h
 obtain ⟨xs, hx, h2⟩ := zv1 h
 simp at hx
 exact ⟨xs, hx, h2⟩
theorem qia {n : Nat} {d : D} (h : zda TT (n + 3) 35 d) : ∃ x : List Peer, d = zat x ∧ x.length * 16 ≤ 140737488351232 ∧ ∀ p ∈ x, in64 p.id ∧ in64 p.missed := by
 simp [zda] at h
 obtain ⟨xs, hx, h2⟩ := zxb h
 simp at hx
 exact ⟨xs, hx, h2⟩
theorem qjr {n : Nat} {d : D} (h : zda TT (n + 1) 4 d) : ∃ x, d = .bool x ∧ True := by
 simp [zda] at h
 obtain ⟨x, hx⟩ := znz h
 simp at hx
 exact ⟨x, hx, trivial⟩
theorem qbh {n : Nat} {d : D} (h : zda TT (n + 1) 3 d) : ∃ x, d = .int .i64 x ∧ in64 x := by
 simp [zda] at h
 obtain ⟨x, hx, h2⟩ := zd0 h
 simp at hx
 exact ⟨x, hx, h2⟩
theorem qjx {n : Nat} {d : D} (h : zda TT (n + 4) 38 d) : ∃ v : View, d = zd6 v ∧ v.tame := by
 simp [zda] at h
 obtain ⟨cs, rfl, h⟩ := h
 obtain ⟨v, rfl, hv⟩ := z1y h
 exact ⟨v, rfl, hv⟩
end Go.AM
/- AM: contracts: a node is copied, takes an item. -/
namespace Go.AM
theorem z68 {α : Type} {f : α → List D} {n : Nat} (h : ∀ a, (f a).length = n ∧ (f a).all D.isCell = true) (xs : List α) : Fits n (xs.map f) := by
 intro r hr
 obtain ⟨a, _, rfl⟩ := List.mem_map.1 hr
 exact h a
theorem zq6 (v : View) (hs : v.small) : Den PP 110 [zd6 v] [] (.agg [.int .i64 v.id, .ref 0 0 v.peers.length, .ref 1 0 v.passive.length]) [⟨v.peers.map Peer.row, 2, .mut⟩, ⟨v.passive.map irow, 1, .mut⟩] := by
 obtain ⟨h1, h2⟩ := hs
 unfold zbo at h1
 unfold cap at h2
 have c1 := zxr (v.peers.map Peer.row) (z68 (f := Peer.row) (n := 2) (fun _ => ⟨rfl, rfl⟩) _) (by simp; omega)
 have c2 := zqn (v.passive.map irow) (z68 (f := irow) (n := 1) (fun _ => ⟨rfl, rfl⟩) _) (by simp; omega)
 simp only [List.length_map] at c1 c2
 refine zak [5, 8] [] z14 ?_
 simp -implicitDefEqProofs [zv5, zd6, View.cells, zat, zap]
 refine zaa c1 ?_
 simp -implicitDefEqProofs [zar]
 refine zaa c2 ?_
 simp -implicitDefEqProofs [zar]
def zh1 (x : Node) : D := .agg [.bool x.up, .int .i64 x.view.id, .ref 0 0 x.view.peers.length, .ref 1 0 x.view.passive.length, .ref 2 0 x.items.length, .ref 3 0 x.log.length]
def zix (x : Node) : List Blk := [⟨x.view.peers.map Peer.row, 2, .mut⟩, ⟨x.view.passive.map irow, 1, .mut⟩, ⟨x.items.map Item.row, 5, .mut⟩, ⟨x.log.map Told.row, 3, .mut⟩]
theorem zgv (x : Node) (hs : x.small) : Den PP 86 [zc2 x] [] (zh1 x) (zix x) := by
 have c1 := zq6 x.view hs.1
 obtain ⟨⟨h1, h2⟩, h3, h4⟩ := hs
 unfold zbo at h1
 unfold cap at h2
 have c2 := zw7 (x.items.map Item.row) (z68 (f := Item.row) (n := 5) (fun _ => ⟨rfl, rfl⟩) _) (by simp; omega)
 have c3 := z9p (x.log.map Told.row) (z68 (f := Told.row) (n := 3) (fun _ => ⟨rfl, rfl⟩) _) (by simp; omega)
 simp only [List.length_map, zd6, View.cells, zat, zap] at c1 c2 c3
 unfold zh1 zix
 refine zak [5, 8, 11] [] z29 ?_
 simp -implicitDefEqProofs [zul, zc2, Node.cells, zat, zap, zav, zay]
 refine zaa c1 ?_
 simp -implicitDefEqProofs [zar]
 refine zaa c2 ?_
 simp -implicitDefEqProofs [zar]
 refine zaa c3 ?_
 simp -implicitDefEqProofs [zar]
def ze5 (x : Node) (i : Item) : Node := if (putR x.items i).2 = 0 then { x with items := (putR x.items i).1 } else x
theorem qcu (x : Node) (i : Item) (hs : x.small) (h : (zcj x && zba i) = true) : Den PP 42 [zc2 x, .agg i.row] [] (.tup [zh1 (ze5 x i), .int .i64 0]) (zix (ze5 x i)) := by
 have c1 := zke x hs
 have c2 := zos i
 have c3 := zgv x hs
 have c4 := qam x.items i (by have := hs.2.1; unfold zbo; omega)
 rw [Bool.and_eq_true] at h
 obtain ⟨h1, h2⟩ := h
 rw [h1] at c1
 rw [h2] at c2
 unfold ze5
 generalize putR x.items i = r at *
 obtain ⟨is, e⟩ := r
 simp only [zc2, Node.cells, zat, zap, zav, zay, Item.row, zh1, zix] at c1 c2 c3 c4 ⊢
 clear h1 h2
 refine zak [19, 24] [] z2d ?_
 by_cases he : e = 0
 ·subst he
  simp -implicitDefEqProofs [zp7, zc2, Node.cells, zat, zap, zav, zay, Item.row]
  refine zaa c1 ?_
  simp -implicitDefEqProofs
  refine zaa c2 ?_
  simp -implicitDefEqProofs
  refine zaa c3 ?_
  simp -implicitDefEqProofs [zar]
  refine zaa c4 ?_
  simp -implicitDefEqProofs [zar]
 ·simp -implicitDefEqProofs [zp7, zc2, Node.cells, zat, zap, zav, zay, Item.row]
  refine zaa c1 ?_
  simp -implicitDefEqProofs
  refine zaa c2 ?_
  simp -implicitDefEqProofs
  refine zaa c3 ?_
  simp -implicitDefEqProofs [zar]
  refine zaa c4 ?_
  simp -implicitDefEqProofs [zar, he]
end Go.AM
/- AM: contracts: a world copied, messages sent in it. -/
namespace Go.AM
theorem z77 (xs : List Node) : Fits 6 (xs.map Node.cells) := by
 intro r hr
 obtain ⟨m, _, rfl⟩ := List.mem_map.1 hr
 exact ⟨rfl, rfl⟩
theorem qbb (xs : List Cut) : Fits 2 (xs.map Cut.row) := by
 intro r hr
 obtain ⟨m, _, rfl⟩ := List.mem_map.1 hr
 exact ⟨rfl, rfl⟩
def wldR (w : Wld) (i j k : Nat) : List D := [.ref i 0 w.nodes.length, .ref j 0 w.cuts.length, .ref k 0 w.packets.length]
def wldB (w : Wld) : List Blk := [⟨w.nodes.map Node.cells, 6, .mut⟩, ⟨w.cuts.map Cut.row, 2, .mut⟩, ⟨w.packets.map Msg.row, 11, .mut⟩]
theorem zk8 (w : Wld) (h : w.tiny) : Den PP 57 [wldD w] [] (.agg (wldR w 0 1 2)) (wldB w) := by
 obtain ⟨ns, cs, ps⟩ := w
 obtain ⟨h1, h2, h3, h4, h5⟩ := h
 simp only at h1 h2 h3 h4 h5
 have c1 := z8w (ns.map Node.cells) (z77 ns) (by simp; omega)
 have c2 := z1u (cs.map Cut.row) (qbb cs) (by simp; omega)
 have c3 := zr6 ps (by unfold zbo; omega) (by omega) (fun m hm => by have := h5 m hm; unfold cap; omega)
 simp only [wldD, Wld.cells, za2, zbc, zbl, List.length_map, wldR, wldB] at c1 c2 c3 ⊢
 refine zak [6, 9, 12] [] zzv ?_
 simp -implicitDefEqProofs [zsv]
 refine zaa c1 ?_
 simp -implicitDefEqProofs
 refine zaa c2 ?_
 simp -implicitDefEqProofs
 refine zaa c3 ?_
 simp -implicitDefEqProofs
 refine za3 ns (fun i rest => fun ⟨fr, bs⟩ => bs = [⟨[[.ref 2 0 ns.length, .ref 3 0 cs.length, .ref 4 0 ps.length]], 3, .box⟩, ⟨[[.nil, .nil, .nil]], 3, .box⟩, ⟨ns.map Node.cells, 6, .mut⟩, ⟨cs.map Cut.row, 2, .mut⟩, ⟨ps.map Msg.row, 11, .mut⟩] ∧ fr 1 = .ptr 0 0 0 ∧ fr 2 = .ptr 1 0 0 ∧ fr 18 = .int .i64 ns.length ∧ fr 19 = .int .i64 i)
  (fun ⟨fr, bs⟩ => bs = [⟨[[.ref 2 0 ns.length, .ref 3 0 cs.length, .ref 4 0 ps.length]], 3, .box⟩, ⟨[[.nil, .nil, .nil]], 3, .box⟩, ⟨ns.map Node.cells, 6, .mut⟩, ⟨cs.map Cut.row, 2, .mut⟩, ⟨ps.map Msg.row, 11, .mut⟩] ∧ fr 1 = .ptr 0 0 0 ∧ fr 2 = .ptr 1 0 0) (fun _ => False) zn5.eq_1 ?_ ?_ ?_ ?_ ?_
 ·exact ⟨rfl, rfl, rfl, rfl, rfl⟩
 ·rintro i ⟨fr, bs⟩ hi ⟨rfl, h1, h2, h18, h19⟩
  simp -implicitDefEqProofs [h1, h2, h18, h19, hi]
 ·rintro i a rest ⟨fr, bs⟩ hlt hget hg hd hd2 ⟨rfl, k1, k2, h18, h19⟩
  have hlt' : (i : Int) < ns.length := by omega
  have c4 := zgv a (zdi (h2 a (List.mem_of_getElem? hget)))
  clear h2 h5
  simp only [zc2, Node.cells, zat, zap, zav, zay, zh1, zix] at c4
  simp -implicitDefEqProofs [k1, k2, h18, h19, hlt, hlt', hget, hg, Node.cells, zat, zap, zav, zay]
  refine zaa c4 ?_
  simp -implicitDefEqProofs [k1, k2, h18, h19, hlt, hlt', hget, hg, Node.cells, zat, zap, zav, zay]
  exact ⟨z61 (f := Node.cells) hget, zaw (by omega) (by omega)⟩
 ·rintro ⟨fr, bs⟩ ⟨rfl, h1, h2⟩
  simp -implicitDefEqProofs [h1, h2]
 ·rintro ⟨fr, bs⟩ h
  exact h.elim
theorem qek (m : Msg) : m.row.length = 11 := rfl
theorem zyh (w : Wld) (ms : List Msg) (hw : za9 w = true) (hm : za9 { w with packets := ms } = true) : Den PP 206 [wldD w, zbl ms] [] (.tup [.agg (wldR (zc5 w ms) 0 1 2), .int .i64 0]) (wldB (zc5 w ms)) := by
 have t1 := zck hw
 have t2 := zck hm
 have c1 := zku w t1.small
 have c2 := zku _ t2.small
 have c3 := zk8 w t1
 have h1 := t1.packets
 have h2 := t2.packets
 simp only at h2
 have hk : (min ms.length (512 - w.packets.length)) ≤ ms.length := Nat.min_le_left ..
 have c4 := zr6 (ms.take (512 - w.packets.length)) (by simp; unfold zbo; omega) (by simp; omega) (fun m hm' => by have := t2.packet m (List.mem_of_mem_take hm'); unfold cap; omega)
 rw [hw] at c1
 rw [hm] at c2
 have hmi : (if (512 : Int) - w.packets.length < ms.length then (512 : Int) - w.packets.length else ms.length) = ((ms.take (512 - w.packets.length)).length : Nat) := by simp only [List.length_take]; split <;> omega
 have hle : (ms.take (512 - w.packets.length)).length ≤ ms.length := by simp; omega
 have hpk : w.packets.length + (ms.take (512 - w.packets.length)).length ≤ 512 := by simp; omega
 have htk : (ms.map Msg.row).take (ms.take (512 - w.packets.length)).length = (ms.take (512 - w.packets.length)).map Msg.row := by
  rw [← List.map_take]; congr 1; simp
 unfold zc5
 generalize (ms.take (512 - w.packets.length)) = ks at *
 obtain ⟨ns, cs, ps⟩ := w
 clear hw hm t1 t2 hk
 simp only [wldD, Wld.cells, za2, zbc, zbl, List.length_map, wldR, wldB] at *
 have w1 : IntKind.wrap .i64 (512 - (ps.length : Int)) = 512 - (ps.length : Int) := zaw (by omega) (by omega)
 have c4 : Den PP 146 [.sl (ms.map Msg.row) ks.length] [] (.ref 0 0 ks.length) [⟨ks.map Msg.row, 11, .mut⟩] := qc5 (by simp only [List.map_cons, List.map_nil, D.cut, htk]; exact c4)
 refine zak [22] [] zzn ?_
 simp -implicitDefEqProofs [ztd]
 refine zaa c1 ?_
 simp -implicitDefEqProofs
 refine zaa c2 ?_
 simp -implicitDefEqProofs
 refine zaa c3 ?_
 have hle' : (ks.length : Int) ≤ ms.length := by omega
 simp -implicitDefEqProofs [w1, minL, minF, hmi, zjm, za8, qek, hle, hle']
 refine zaa c4 ?_
 simp -implicitDefEqProofs
 refine zag ⟨by omega, by omega⟩ ?_
 simp -implicitDefEqProofs
end Go.AM
/- AM: plain: acts. -/
namespace Go.AM
structure Act where
 kind : Int
 node : Int
 other : Int
 pick : Int
 ids : List Int
 key : Int
 value : Int
 deriving DecidableEq, Inhabited
def Act.cells (a : Act) : List D := [.int .i64 a.kind, .int .i64 a.node, .int .i64 a.other, .int .i64 a.pick, zap a.ids, .int .i64 a.key, .int .i64 a.value]
def actD (a : Act) : D := .agg a.cells
@[simp] theorem qfw (S : Nat → Bool) (x : Act) : x.cells.map (D.sweep S) = x.cells := rfl
@[simp] theorem qgj (fr fp : Nat → Nat → Nat → D) (x : Act) : x.cells.map (D.mapR fr fp) = x.cells := rfl
@[simp] theorem qh4 (x : Act) : idsL x.cells = [] := rfl
@[simp] theorem qgx (x : Act) : zju x.cells = [] := rfl
@[simp] theorem qfc (x : Act) : x.cells.length = 7 := rfl
def mayA (w : Wld) (a : Act) : Bool :=
 if a.kind = 1 ∨ a.kind = 2 ∨ a.kind = 3 then decide (0 ≤ a.pick) && decide (a.pick ≤ 65535)
 else if a.kind < 0 ∨ 10 < a.kind ∨ isN a.node w.nodes = false then false
 else if a.kind = 4 ∨ a.kind = 5 then isN a.other w.nodes && !decide (a.node = a.other)
 else if a.kind = 7 then decide (a.ids.length ≤ 16) && !a.ids.any fun id => !isN id w.nodes
 else if a.kind = 8 then byte a.key && byte a.value
 else if a.kind = 9 ∨ a.kind = 10 then byte a.key
 else true
def lowD (n0 : Nat) : D → Bool
 | .ref b _ _ => decide (b < n0)
 | .int _ _ => true
 | .bool _ => true
 | .nil => true
 | .zs _ => true
 | .sl _ _ => true
 | .mem _ => true
 | _ => false
theorem qeq {n0 : Nat} {d : D} (h : lowD n0 d = true) : ∀ b ∈ d.rids, b < n0 := by
 cases d <;> simp [lowD, D.rids] at h ⊢
 exact h
theorem qem {n0 : Nat} {d : D} (h : lowD n0 d = true) (L : List Nat) (bs : List Blk) : d.mapR (zik n0 L) (zll n0 bs) = d := by
 cases d with
 | ref b o l =>
   simp [lowD] at h
   show zik n0 L b o l = _
   simp [zik, h]
 | _ => first | rfl | cases h
theorem z0r {b : Nat} : ∀ {cs : List D}, b ∈ zju cs → ∃ d ∈ cs, b ∈ d.rids
 | [], h => by simp [zju] at h
 | d :: ds, h => by
   simp only [zju, List.mem_append] at h
   rcases h with h | h
   ·exact ⟨d, by simp, h⟩
   ·obtain ⟨e, he, hb⟩ := z0r h
    exact ⟨e, by simp [he], hb⟩
theorem qc6 {n0 : Nat} {st : St} (h : ∀ k ∈ st.bs.take n0, ∀ r ∈ k.rows, ∀ d ∈ r, lowD n0 d = true) : zax n0 st (.tup []) = some (.tup [], st.bs.take n0) := by
 have h1 : (zmg (st.bs.take n0)).filter (fun b => decide (n0 ≤ b)) = [] := by
  rw [List.filter_eq_nil_iff]
  intro b hb
  unfold zmg at hb
  obtain ⟨k, hk, hb⟩ := List.mem_flatMap.1 hb
  obtain ⟨r, hr, hb⟩ := List.mem_flatMap.1 hb
  obtain ⟨d, hd, hb⟩ := z0r hb
  have := qeq (h k hk r hr d hd) b hb
  simp; omega
 have h2 : (st.bs.take n0).map (Blk.mapR (zik n0 []) (zll n0 st.bs)) = st.bs.take n0 := by
  rw [List.map_congr_left (g := id), List.map_id]
  intro k hk
  show { k with rows := _ } = k
  have : k.rows.map (fun r => r.map (D.mapR (zik n0 []) (zll n0 st.bs))) = k.rows := by
   rw [List.map_congr_left (g := id), List.map_id]
   intro r hr
   rw [List.map_congr_left (g := id), List.map_id]
   ·rfl
   ·intro d hd
    exact qem (h k hk r hr d hd) _ _
  rw [this]
 unfold zax
 simp only [D.rids, zju, List.nil_append, h1, h2]
 simp [D.mapR, zoc]
def lowR (n0 : Nat) (rows : List (List D)) : Prop := ∀ r ∈ rows, ∀ d ∈ r, lowD n0 d = true
theorem z6e {α : Type} (n0 : Nat) (f : α → List D) (xs : List α) (h : ∀ x, ∀ d ∈ f x, lowD n0 d = true) : lowR n0 (xs.map f) := by
 intro r hr
 obtain ⟨x, _, rfl⟩ := List.mem_map.1 hr
 exact h x
theorem z8b (n0 : Nat) (x : Node) : ∀ d ∈ x.cells, lowD n0 d = true := List.all_eq_true.1 (rfl : (x.cells.all fun d => lowD n0 d) = true)
theorem zi5 (n0 : Nat) (xs : List Node) : lowR n0 (xs.map Node.cells) := z6e n0 _ xs (z8b n0)
theorem zl5 (n0 : Nat) (xs : List Cut) : lowR n0 (xs.map Cut.row) := z6e n0 _ xs fun x => List.all_eq_true.1 (rfl : (x.row.all fun d => lowD n0 d) = true)
theorem zlq (n0 : Nat) (xs : List Msg) : lowR n0 (xs.map Msg.row) := z6e n0 _ xs fun x => List.all_eq_true.1 (rfl : (x.row.all fun d => lowD n0 d) = true)
theorem zpx {n0 : Nat} {rows : List (List D)} {P : Nat} {cs : List D} (h : lowR n0 rows) (hc : ∀ d ∈ cs, lowD n0 d = true) : lowR n0 (rows.set P cs) := by
 intro r hr
 rcases List.mem_or_eq_of_mem_set hr with h1 | rfl
 ·exact h r h1
 ·exact hc
theorem zgn {n0 : Nat} {cs : List D} (h : (cs.all fun d => lowD n0 d) = true) : lowR n0 [cs] := by
 intro r hr
 rw [List.mem_singleton.1 hr]
 exact List.all_eq_true.1 h
theorem low5 {n0 : Nat} {a b c d e : Blk} (ha : lowR n0 a.rows) (hb : lowR n0 b.rows) (hc : lowR n0 c.rows) (hd : lowR n0 d.rows) (he : lowR n0 e.rows) : ∀ k ∈ [a, b, c, d, e], ∀ r ∈ k.rows, ∀ x ∈ r, lowD n0 x = true := by
 intro k hk
 simp only [List.mem_cons, List.not_mem_nil, or_false] at hk
 rcases hk with rfl | rfl | rfl | rfl | rfl
 ·exact ha
 ·exact hb
 ·exact hc
 ·exact hd
 ·exact he
theorem zwf {fr : Nat → D} {a b c d e : Blk} {news : List Blk} (ha : lowR 5 a.rows) (hb : lowR 5 b.rows) (hc : lowR 5 c.rows) (hd : lowR 5 d.rows) (he : lowR 5 e.rows) : zax 5 ⟨fr, a :: b :: c :: d :: e :: news⟩ (.tup []) = some (.tup [], [a, b, c, d, e]) :=
 qc6 (st := ⟨fr, a :: b :: c :: d :: e :: news⟩) (low5 ha hb hc hd he)
def actB (w : Wld) (a : Act) : List Blk := [⟨[[.ref 1 0 w.nodes.length, .ref 2 0 w.cuts.length, .ref 3 0 w.packets.length]], 3, .box⟩, ⟨w.nodes.map Node.cells, 6, .mut⟩, ⟨w.cuts.map Cut.row, 2, .mut⟩, ⟨w.packets.map Msg.row, 11, .mut⟩, ⟨[a.cells], 7, .box⟩]
end Go.AM
/- AM: contracts: what an act's doer asks. -/
namespace Go.AM
theorem zr4 (w : Wld) (id : Int) (hl : w.nodes.length ≤ cap) (hr : zkk (cmpN id) w.nodes) : Den PP 147 [.mem w.cells, .int .i64 id] [] (.bool (isN id w.nodes)) [] := by
 have c1 := zoj w id hl hr
 generalize posN id w.nodes = P at *
 generalize isN id w.nodes = A at *
 simp only [Wld.cells, za2, zbc, zbl] at c1 ⊢
 clear hr
 refine zak [] [] zsg ?_
 simp -implicitDefEqProofs [zmr]
 refine zaa c1 ?_
 simp -implicitDefEqProofs
theorem z8k (w : Wld) (id : Int) (hl : w.nodes.length ≤ cap) (hr : zkk (cmpN id) w.nodes) : Den PP 148 [.int .i64 id, .mem [.mem w.cells]] [] (.bool (!isN id w.nodes)) [] := by
 have c1 := zr4 w id hl hr
 generalize isN id w.nodes = A at *
 simp only [Wld.cells, za2, zbc, zbl] at c1 ⊢
 clear hr
 refine zak [] [] zr0 ?_
 simp -implicitDefEqProofs [zms]
 refine zaa c1 ?_
 simp -implicitDefEqProofs
theorem zyw (w : Wld) (a : Act) (hl : w.nodes.length ≤ cap) (hr : ∀ id, zkk (cmpN id) w.nodes) (hi : a.ids.length ≤ cap) : Den PP 58 [.mem w.cells, .mem a.cells] [] (.bool (mayA w a)) [] := by
 have c1 := zr4 w a.node hl (hr a.node)
 have c2 := zr4 w a.other hl (hr a.other)
 have c3 := zej a.ids hi 148 [.mem [.mem w.cells]] (fun id => !isN id w.nodes) ⟨fun _ => rfl, fun _ _ => rfl, fun id _ => z8k w id hl (hr id)⟩
 have c4 := zrf a.key
 have c5 := zrf a.value
 unfold mayA
 generalize (a.ids.any fun id => !isN id w.nodes) = X at *
 generalize isN a.node w.nodes = A at *
 generalize isN a.other w.nodes = B at *
 generalize byte a.key = K at *
 generalize byte a.value = V at *
 clear hr
 simp only [Wld.cells, Act.cells, za2, zbc, zbl, zap] at c1 c2 c3 ⊢
 obtain ⟨k, n, o, p, ids, key, value⟩ := a
 simp only at *
 by_cases hk : k < 0 ∨ 10 < k
 ·have e : ∀ i : Int, 0 ≤ i → i ≤ 10 → ¬ k = i := fun i h1 h2 => by omega
  have e1 := e 1 (by omega) (by omega)
  have e2 := e 2 (by omega) (by omega)
  have e3 := e 3 (by omega) (by omega)
  clear e
  refine zak [] [] znn ?_
  simp -implicitDefEqProofs [zkb, e1, e2, e3]
  rcases hk with hk | hk
  ·simp -implicitDefEqProofs [hk, e1, e2, e3]
  ·have h2 : ¬ k < 0 := by omega
   simp -implicitDefEqProofs [hk, h2, e1, e2, e3]
 ·have hk2 : k = 1 ∨ k = 2 ∨ k = 3 ∨ k = 0 ∨ k = 4 ∨ k = 5 ∨ k = 6 ∨ k = 7 ∨ k = 8 ∨ k = 9 ∨ k = 10 := by omega
  clear hk
  rcases hk2 with rfl | rfl | rfl | rfl | rfl | rfl | rfl | rfl | rfl | rfl | rfl
  all_goals
   refine zak [] [] znn ?_
   simp -implicitDefEqProofs [zkb]
   repeat' ((first | refine zaa (by first | exact c1 | exact c2 | exact c3 | exact c4 | exact c5) ?_ | ((with_reducible first | refine zaj ?_ ?_ | refine zah ?_ ?_ | refine zae ?_ ?_ | refine zad ?_ ?_) <;> intro _) | ((with_reducible first | refine zao ?_ ?_ | refine zaq ?_ ?_ | refine zal ?_ ?_ | refine zac ?_ ?_ | refine zai ?_ ?_ | refine zan ?_ ?_ | refine zaf ?_ ?_ | refine zab ?_ ?_) <;> intro hq <;> (try simp at hq)) | refine zag (by omega) ?_ | refine zam (by omega) ?_) <;> simp -implicitDefEqProofs [*])
  all_goals grind
end Go.AM
