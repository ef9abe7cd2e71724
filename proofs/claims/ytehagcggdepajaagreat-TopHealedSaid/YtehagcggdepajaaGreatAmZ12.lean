/- What the proof of this claim stands on, part 12. -/
import Derived.Test.YtehagcggdepajaaGreatAmZ11
/- AM: contracts: packets lost, doubled; cuts made, healed. -/
namespace Go.AM
set_option linter.unusedSimpArgs false
set_option linter.unusedVariables false
set_option maxRecDepth 8000
set_option maxHeartbeats 0
def doC (w : Wld) (a : Act) (ls : List Msg) : List Blk := [⟨[[.ref 1 0 w.nodes.length, .ref 2 0 w.cuts.length, .sl (ls.map Msg.row) ls.length]], 3, .box⟩, ⟨w.nodes.map Node.cells, 6, .mut⟩, ⟨w.cuts.map Cut.row, 2, .mut⟩, ⟨w.packets.map Msg.row, 11, .app⟩, ⟨[a.cells], 7, .box⟩]
def doS (w v : Wld) (qs : List Msg) (a : Act) : List Blk := [⟨[v.cells], 3, .box⟩, ⟨w.nodes.map Node.cells, 6, .app⟩, ⟨w.cuts.map Cut.row, 2, .app⟩, ⟨qs.map Msg.row, 11, .app⟩, ⟨[a.cells], 7, .box⟩]
end Go.AM
/- AM: contracts: slices.Grow of nothing, slices.Concat. -/
namespace Go.AM
set_option linter.unusedSimpArgs false
set_option linter.unusedVariables false
set_option maxRecDepth 8000
set_option maxHeartbeats 0
theorem z6b (n : Nat) (h0 : 0 < n) (hn : n ≤ cap16) : Den PP 187 [.nil, .int .i64 n] [] (.ref 0 0 0) [⟨List.replicate n [.int .i64 0], 1, .mut⟩] := by
 unfold cap16 at hn
 have w1 : IntKind.wrap .i64 (n : Int) = n := zaq (by omega) (by omega)
 have h1 : ¬ (n : Int) < 0 := by omega
 have h2 : (0 : Int) < n := by omega
 refine zaj [] [] zi1 ?_
 have w0 : IntKind.wrap .i64 0 = 0 := zaq (by omega) (by omega)
 simp -implicitDefEqProofs [zfh, w0, w1, h1, h2, h0, sliceD, boundD]
 refine ztx ⟨by omega, by omega⟩ ?_
 rw [zt3]
 refine ⟨fun r hr => by rw [(List.mem_replicate.1 hr).2]; exact ⟨rfl, rfl⟩, ?_⟩
 simp -implicitDefEqProofs [appendD]
 refine zag ⟨by omega, by omega⟩ ?_
 simp -implicitDefEqProofs [w0, w1, sliceD, boundD]
def lrow (xs : List Int) : List D := [.sl (xs.map irow) xs.length]
theorem zv9 {L : List (List Int)} {i : Nat} {a : List Int} (h : L[i]? = some a) : (L.take (i + 1)).flatten = (L.take i).flatten ++ a := by
 have e1 : L.take (i + 1) = L.take i ++ [a] := by rw [List.take_add_one, h]; rfl
 rw [e1]; simp
def tot (L : List (List Int)) : Nat := L.flatten.length
theorem zzv {L : List (List Int)} {i : Nat} {a : List Int} (h : L[i]? = some a) : tot (L.take (i + 1)) = tot (L.take i) + a.length ∧ tot (L.take i) + a.length ≤ tot L := by
 have e : L.flatten = (L.take (i + 1)).flatten ++ (L.drop (i + 1)).flatten := by rw [← List.flatten_append, List.take_append_drop]
 unfold tot
 rw [e, zv9 h]
 simp
def frow (L : List (List Int)) : List (List D) := L.flatten.map irow
theorem zp8 (L : List (List Int)) : (frow L).length = tot L := by simp [frow, tot]
theorem z38 {L : List (List Int)} {i : Nat} {a : List Int} (h : L[i]? = some a) : frow (L.take (i + 1)) = frow (L.take i) ++ a.map irow := by
 unfold frow
 rw [zv9 h, List.map_append]
theorem z5g (A ys : List (List D)) (z : List D) (n s k : Nat) (hA : A.length = s) (hk : ys.length = k) (h : s + k ≤ n) :
 (A ++ List.replicate (n - s) z).take s ++ ys ++ (A ++ List.replicate (n - s) z).drop (s + k) = (A ++ ys) ++ List.replicate (n - (s + k)) z := by
 subst hA hk
 rw [List.take_left, List.drop_append, List.drop_eq_nil_of_le (by omega), List.nil_append, List.drop_replicate]
 congr 2
 omega
theorem z1t (L : List (List Int)) : StillR (frow L) := StillR.map _ _ fun a _ d hd => by rw [List.mem_singleton.1 hd]; rfl
theorem z2c (L : List (List Int)) (S : Nat → Bool) : (frow L).map (fun r => r.map (D.sweep S)) = frow L := (z1t L).mapR _ _
theorem zx8 (L : List (List Int)) (hl : L.length ≤ cap16) (h0 : 0 < tot L) (hn : tot L ≤ cap16) : Den PP 113 [.sl (L.map lrow) L.length] [] (.ref 0 0 (tot L)) [⟨frow L, 1, .mut⟩] := by
 have c1 := z6b (tot L) h0 hn
 unfold cap16 at hl hn
 refine zaj [24] [] zht ?_
 simp -implicitDefEqProofs [zep]
 refine zax L (fun i rest => fun ⟨fr, bs⟩ => bs = [⟨[], 1, .mut⟩] ∧ fr 0 = .sl (L.map lrow) L.length ∧ fr 3 = .int .i64 (tot (L.take i)) ∧ fr 9 = .sl (L.map lrow) L.length ∧ fr 10 = .int .i64 L.length ∧ fr 11 = .int .i64 i)
  (fun ⟨fr, bs⟩ => bs = [⟨[], 1, .mut⟩] ∧ fr 0 = .sl (L.map lrow) L.length ∧ fr 3 = .int .i64 (tot L)) (fun _ => False) zdz.eq_1 ?_ ?_ ?_ ?_ ?_
 ·exact ⟨rfl, rfl, rfl, rfl, rfl, rfl⟩
 ·rintro i ⟨fr, bs⟩ hi ⟨rfl, h0, h3, h9, h10, h11⟩
  subst hi
  rw [List.take_length] at *
  simp -implicitDefEqProofs [h0, h3, h9, h10, h11]
 ·rintro i a rest ⟨fr, bs⟩ hlt hget hg hd hd2 ⟨rfl, h0, h3, h9, h10, h11⟩
  have hlt' : (i : Int) < L.length := by omega
  have hw := zav (n := i) (by omega)
  obtain ⟨e1, e2⟩ := zzv hget
  rw [e1]
  clear e1
  generalize tot (L.take i) = s at *
  have w1 : IntKind.wrap .i64 ((s : Int) + a.length) = (s : Int) + a.length := zaq (by omega) (by omega)
  have h1 : ¬ (s : Int) + a.length < 0 := by omega
  simp -implicitDefEqProofs [h0, h3, h9, h10, h11, hlt, hlt', hget, hg, lrow, w1, h1]
  repeat' ((first | ((with_reducible first | refine zak ?_ ?_ | refine zah ?_ ?_ | refine zad ?_ ?_ | refine zae ?_ ?_) <;> intro _) | ((with_reducible first | refine zan ?_ ?_ | refine zap ?_ ?_ | refine zal ?_ ?_ | refine zac ?_ ?_ | refine zai ?_ ?_ | refine zao ?_ ?_ | refine zaf ?_ ?_ | refine zab ?_ ?_) <;> intro hq <;> (try simp at hq)) | refine zag (by omega) ?_ | refine zam (by omega) ?_) <;> simp -implicitDefEqProofs [*, h0, h3, h9, h10, h11, hlt, hlt', hget, hg, lrow, w1, h1, hw])
  exact zaq (by omega) (by omega)
 ·rintro ⟨fr, bs⟩ ⟨rfl, h0, h3⟩
  simp -implicitDefEqProofs [h0, h3]
  refine zaa c1 ?_
  simp -implicitDefEqProofs [h0, h3]
  refine zax L (fun i rest => fun ⟨fr, bs⟩ => bs = [⟨[], 1, .mut⟩, ⟨frow (L.take i) ++ List.replicate (tot L - tot (L.take i)) [.int .i64 0], 1, .mut⟩] ∧ fr 6 = .ref 1 0 (tot (L.take i)) ∧ fr 25 = .sl (L.map lrow) L.length ∧ fr 26 = .int .i64 L.length ∧ fr 27 = .int .i64 i)
   (fun ⟨fr, bs⟩ => bs = [⟨[], 1, .mut⟩, ⟨frow L, 1, .mut⟩] ∧ fr 6 = .ref 1 0 (tot L)) (fun _ => False) zdx.eq_1 ?_ ?_ ?_ ?_ ?_
  ·exact ⟨by simp [tot, frow], by simp [tot], rfl, rfl, rfl⟩
  ·rintro i ⟨fr, bs⟩ hi ⟨rfl, h6, h25, h26, h27⟩
   subst hi
   rw [List.take_length, Nat.sub_self, List.replicate_zero, List.append_nil] at *
   simp -implicitDefEqProofs [h6, h25, h26, h27]
  ·rintro i a rest ⟨fr, bs⟩ hlt hget hg hd hd2 ⟨rfl, h6, h25, h26, h27⟩
   have hlt' : (i : Int) < L.length := by omega
   obtain ⟨e1, e2⟩ := zzv hget
   have e4 := z5g (frow (L.take i)) (a.map irow) [.int .i64 0] (tot L) (tot (L.take i)) a.length (zp8 _) (by simp) e2
   have e5 := zp8 (L.take i)
   rw [← z38 hget] at e4
   rw [e1]
   clear e1
   have hsw := z2c (L.take (i + 1))
   generalize frow (L.take (i + 1)) = B' at *
   generalize frow (L.take i) = B at *
   generalize tot (L.take i) = s at *
   generalize tot L = n at *
   have hB : (B ++ List.replicate (n - s) [D.int IntKind.i64 0]).length = n := by simp; omega
   generalize (B ++ List.replicate (n - s) [D.int IntKind.i64 0]) = R at *
   simp -implicitDefEqProofs [h6, h25, h26, h27, hlt, hlt', hget, hg, lrow, appendD]
   rw [List.append_assoc] at e4
   refine zag ⟨by omega, by omega⟩ ?_
   by_cases hs : s = n
   ·refine zag (by omega) ?_
    have ha : a = [] := List.length_eq_zero_iff.1 (by omega)
    subst ha
    have e6 : R = B' ++ List.replicate (n - (s + 0)) [D.int IntKind.i64 0] := by
     simpa using e4
    subst e6
    simp -implicitDefEqProofs [h6, h25, h26, h27, hsw]
    exact zaq (by omega) (by omega)
   ·refine zbw (by omega) ?_
    refine zag (by omega) ?_
    rw [e4]
    simp -implicitDefEqProofs [h6, h25, h26, h27, hsw]
    exact zaq (by omega) (by omega)
  ·rintro ⟨fr, bs⟩ ⟨rfl, h6⟩
   simp -implicitDefEqProofs [h6]
  ·rintro ⟨fr, bs⟩ h
   exact h.elim
 ·rintro ⟨fr, bs⟩ h
  exact h.elim
end Go.AM
