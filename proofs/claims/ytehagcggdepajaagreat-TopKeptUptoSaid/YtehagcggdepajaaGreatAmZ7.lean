/- What the proof of this claim stands on, part 7. -/
import Derived.Laws.StructEq
import Derived.Test.YtehagcggdepajaaGreatAmZ6
set_option linter.unusedVariables false
set_option linter.unusedSimpArgs false
set_option maxRecDepth 8000
set_option maxHeartbeats 0
/- AM: two structs of numbers and bools are held against each other. -/
namespace Go.AM

def kd : D → Option (Option IntKind)
 | .int k _ => some (some k)
 | .bool _ => some none
 | _ => none
def kdOk (l : List D) : Bool := l.all fun d => (kd d).isSome
def eqB : List D → List D → Bool
 | [], _ => true
 | .int _ a :: as, .int _ b :: bs => a == b && eqB as bs
 | .bool a :: as, .bool b :: bs => a == b && eqB as bs
 | _, _ => false
theorem zql : ∀ (as bs : List D) (z : Bool), zh3 as bs = some z → as.map kd = bs.map kd ∧ kdOk as = true ∧ kdOk bs = true ∧ z = eqB as bs := by
 intro as
 induction as with
 | nil => intro bs z h; cases bs <;> simp [zh3] at h; subst h; exact ⟨rfl, rfl, rfl, rfl⟩
 | cons a as ih =>
   intro bs z h
   cases bs with
   | nil => simp [zh3] at h
   | cons b bs =>
     simp only [zh3] at h
     split at h
     ·rename_i x y hx hy
      simp only [Option.some.injEq] at h
      obtain ⟨e1, e2, e3, e4⟩ := ih bs y hy
      cases a <;> cases b <;> simp [eqCell] at hx
      ·obtain ⟨hk, rfl⟩ := hx
       subst hk
       subst h
       exact ⟨by simp [kd, e1], by simpa [kdOk, kd] using e2, by simpa [kdOk, kd] using e3, by simp [eqB, e4]⟩
      ·subst hx
       subst h
       exact ⟨by simp [kd, e1], by simpa [kdOk, kd] using e2, by simpa [kdOk, kd] using e3, by simp [eqB, e4]⟩
     ·cases h
theorem z94 : ∀ (a1 b1 a2 b2 : List D), a1.map kd = b1.map kd → kdOk a1 = true → eqB (a1 ++ a2) (b1 ++ b2) = (eqB a1 b1 && eqB a2 b2) := by
 intro a1
 induction a1 with
 | nil => intro b1 a2 b2 h _; cases b1 <;> simp at h; simp [eqB]
 | cons a a1 ih =>
   intro b1 a2 b2 h hk
   cases b1 with
   | nil => simp at h
   | cons b b1 =>
     simp only [List.map_cons, List.cons.injEq] at h
     simp only [kdOk, List.all_cons, Bool.and_eq_true] at hk
     have := ih b1 a2 b2 h.2 (by simpa [kdOk] using hk.2)
     cases a <;> cases b <;> simp [kd] at h hk <;> simp [eqB, this, Bool.and_assoc]

def zm2 (T : Tab) : Nat → List (Nat × Nat) → Option Nat
 | o, [] => some o
 | o, f :: fs => if f.1 = o then zm2 T (o + (T f.2).size) fs else none
def eqChk (P : Program) (T : Tab) : Nat → Nat → Bool
 | 0, _ => false
 | n + 1, t => match (T t).d with
   | .int k => decide ((T t).zero.map kd = [some (some k)])
   | .bool => decide ((T t).zero.map kd = [some none])
   | .struct fs => !P.stoodInHeld t && ((P.fieldsOf t).toList.all fun f => f.name != "_") && (fs.all fun f => eqChk P T n f.2 && decide ((T f.2).zero.length = (T f.2).size)) &&
      decide (zm2 T 0 fs = some (T t).size) && decide ((T t).zero.map kd = fs.flatMap fun f => (T f.2).zero.map kd)
   | _ => false

def mkV (agg : Bool) (as : List D) : Value := if agg then .agg (as.map outV).toArray else (match as with | [a] => outV a | _ => Go.undef)

section
variable {P : Program} {T : Tab} {eqs : List Nat} (hT : TabOk P T eqs)
theorem zt9 {n t : Nat} (h : eqChk P T n t = true) : (T t).d.known = true := by
 cases n with
 | zero => cases h
 | succ n =>
   unfold eqChk at h
   revert h
   cases (T t).d <;> intro h <;> first | rfl | cases h

theorem zx5 {as bs : List D} (h : as.map kd = bs.map kd) : as.length = bs.length := by simpa using congrArg List.length h
include hT in
theorem zyf (w : World) {t : Nat} (hk : (T t).d.known = true) (l1 l2 l3 : List D) (hl : l2.length = (T t).size) (hz : (T t).d.agg = false → l2.length = 1) :
 (part t ((l1 ++ (l2 ++ l3)).map outV).toArray l1.length).run P w = .ok (mkV (T t).d.agg l2) w := by
 unfold part
 simp only [Sem.run_bind, zuo hT hk, Result.andThen_ok]
 cases ha : (T t).d.agg with
 | true =>
   simp only [if_true, zb4 hT hk, Sem.run_bind, Result.andThen_ok, Sem.run_pure, mkV]
   congr 2
   simp [← hl, List.extract_eq_take_drop]
 | false =>
   have h1 := hz ha
   match l2, h1 with
   | [a], _ => simp [mkV]

include hT in
theorem z7t : ∀ (n t : Nat), eqChk P T n t = true → ∀ (d : Nat), n ≤ d → ∀ (as bs : List D) (w : World), as.map kd = (T t).zero.map kd → bs.map kd = (T t).zero.map kd → kdOk as = true →
 (Op.equalIn d t (mkV (T t).d.agg as) (mkV (T t).d.agg bs)).run P w = .ok (eqB as bs) w := by
 intro n
 induction n with
 | zero => intro t h; cases h
 | succ n ih =>
   intro t h d hd as bs w ha hb hok
   obtain ⟨d, rfl⟩ : ∃ m, d = m + 1 := ⟨d - 1, by omega⟩
   have hkn := zt9 h
   obtain ⟨de, hde, hdo⟩ := zg8 hT hkn
   unfold eqChk at h
   cases hd' : (T t).d with
   | int k =>
     rw [hd'] at h hdo
     simp only [decide_eq_true_eq] at h
     rw [h] at ha hb
     match as, bs, ha, hb with
     | [.int _ a], [.int _ b], ha, hb =>
       simp [kd] at ha hb
       subst ha hb
       cases de <;> simp [za0] at hdo
       simp only [mkV, TD.agg, outV, eqB, Bool.false_eq_true, if_false]
       rw [run_equalIn_int w d t _ _ a b hde]
       simp
   | bool =>
     rw [hd'] at h hdo
     simp only [decide_eq_true_eq] at h
     rw [h] at ha hb
     match as, bs, ha, hb with
     | [.bool a], [.bool b], ha, hb =>
       cases de <;> simp [za0] at hdo
       simp only [mkV, TD.agg, outV, eqB, Bool.false_eq_true, if_false]
       rw [run_equalIn_bool' w d t a b hde]
       simp
   | struct fs =>
     rw [hd'] at h
     simp only [Bool.and_eq_true, Bool.not_eq_true', decide_eq_true_eq] at h
     obtain ⟨⟨⟨⟨hst, hnm⟩, hfs⟩, hcon⟩, hz⟩ := h
     rw [hz] at ha hb
     have hsz : as.length = bs.length := by
      have := congrArg List.length (ha.trans hb.symm)
      simpa using this
     have hunder : P.underlying t = some (.struct (P.fieldsOf t)) ∧ (P.fieldsOf t).toList.map (fun f => (f.offset, f.type)) = fs := by
      rw [hd'] at hdo
      cases de <;> simp [za0] at hdo
      unfold Program.fieldsOf
      simp only [hde]
      exact ⟨trivial, hdo⟩
     simp only [mkV, TD.agg, if_true]
     rw [run_equalIn_struct w d t _ _ hunder.1 hst]
     have hmap := hunder.2
     clear hunder hd' hz hde hdo
     have key : ∀ (fields : List Field) (fs : List (Nat × Nat)) (l1 k1 ra rb : List D), l1.length = k1.length → fields.map (fun f => (f.offset, f.type)) = fs → (fields.all fun f => f.name != "_") = true →
      (fs.all fun f => eqChk P T n f.2 && decide ((T f.2).zero.length = (T f.2).size)) = true → zm2 T l1.length fs = some (T t).size → ra.map kd = (fs.flatMap fun f => (T f.2).zero.map kd) → rb.map kd = (fs.flatMap fun f => (T f.2).zero.map kd) → kdOk ra = true →
      (Op.eqFields d ((l1 ++ ra).map outV).toArray ((k1 ++ rb).map outV).toArray fields).run P w = .ok (eqB ra rb) w := by
      intro fields
      induction fields with
      | nil =>
        intro fs l1 k1 ra rb hlk hm _ _ _ hra hrb _
        subst hm
        simp at hra hrb
        subst hra hrb
        simp [Op.eqFields, eqB]
      | cons f fields ihf =>
        intro fs l1 k1 ra rb hlk hm hnm hfs hcon hra hrb hkok
        subst hm
        simp only [List.map_cons, List.all_cons, Bool.and_eq_true, decide_eq_true_eq] at hnm hfs
        obtain ⟨hn1, hn2⟩ := hnm
        obtain ⟨⟨hc1, hc2⟩, hc3⟩ := hfs
        simp only [List.map_cons, zm2] at hcon
        split at hcon
        ·rename_i ho
         simp only [List.map_cons, List.flatMap_cons] at hra hrb
         have hla : (ra.take (T f.type).size).map kd = (T f.type).zero.map kd ∧ (ra.drop (T f.type).size).map kd = ((fields.map fun f => (f.offset, f.type)).flatMap fun f => (T f.2).zero.map kd) := by
          rw [List.map_take, List.map_drop, hra]
          exact ⟨by rw [List.take_append_of_le_length (by simp; omega), List.take_of_length_le (by simp; omega)], by rw [List.drop_append_of_le_length (by simp; omega), List.drop_of_length_le (by simp; omega), List.nil_append]⟩
         have hlb : (rb.take (T f.type).size).map kd = (T f.type).zero.map kd ∧ (rb.drop (T f.type).size).map kd = ((fields.map fun f => (f.offset, f.type)).flatMap fun f => (T f.2).zero.map kd) := by
          rw [List.map_take, List.map_drop, hrb]
          exact ⟨by rw [List.take_append_of_le_length (by simp; omega), List.take_of_length_le (by simp; omega)], by rw [List.drop_append_of_le_length (by simp; omega), List.drop_of_length_le (by simp; omega), List.nil_append]⟩
         have era : ra = ra.take (T f.type).size ++ ra.drop (T f.type).size := (List.take_append_drop _ _).symm
         have erb : rb = rb.take (T f.type).size ++ rb.drop (T f.type).size := (List.take_append_drop _ _).symm
         generalize ra.take (T f.type).size = a1 at *
         generalize ra.drop (T f.type).size = a2 at *
         generalize rb.take (T f.type).size = b1 at *
         generalize rb.drop (T f.type).size = b2 at *
         subst era erb
         have hkn := zt9 hc1
         have l1a : a1.length = (T f.type).size := by rw [zx5 hla.1, hc2]
         have l1b : b1.length = (T f.type).size := by rw [zx5 hlb.1, hc2]
         have hone : (T f.type).d.agg = false → (T f.type).size = 1 := by
          intro hag
          have := hc1
          cases n with
          | zero => cases this
          | succ n =>
            unfold eqChk at this
            rw [← hc2]
            revert this hag
            cases (T f.type).d <;> intro hag this <;> first | (cases this; done) | (cases hag; done) | (have h := of_decide_eq_true this; simpa using congrArg List.length h)
         have hka : kdOk a1 = true ∧ kdOk a2 = true := by simpa [kdOk] using hkok
         have hnm : f.name ≠ "_" := by simpa using hn1
         have ho' : f.offset = l1.length := ho
         have pa := zyf hT w hkn l1 a1 a2 l1a (fun h => by rw [l1a, hone h])
         have pb := zyf hT w hkn k1 b1 b2 l1b (fun h => by rw [l1b, hone h])
         have he := ih f.type hc1 d (by omega) a1 b1 w hla.1 hlb.1 hka.1
         simp only [Op.eqFields, if_pos hnm, Sem.run_bind, ho', pa, Result.andThen_ok]
         rw [hlk] 
         simp only [pb, Result.andThen_ok, he]
         rw [z94 _ _ _ _ (hla.1.trans hlb.1.symm) hka.1]
         cases hx : eqB a1 b1 with
         | false => simp
         | true =>
           simp only [Bool.not_true, Bool.false_eq_true, if_false, Bool.true_and]
           have := ihf _ (l1 ++ a1) (k1 ++ b1) a2 b2 (by simp [hlk, l1a, l1b]) rfl hn2 (by simpa using hc3) (by simpa [l1a] using hcon) hla.2 hlb.2 hka.2
           simpa [List.append_assoc] using this
        ·cases hcon
     exact key _ fs [] [] as bs rfl hmap hnm hfs hcon ha hb hok
   | slice => rw [hd'] at h; cases h
   | arr => rw [hd'] at h; cases h
   | ptr => rw [hd'] at h; cases h
   | fn => rw [hd'] at h; cases h
   | other => rw [hd'] at h; cases h

theorem qak {w : World} {M : Foot} {ρ : Nat → Loc} {v : Value} {d : D} (h : Rep w M ρ v d) (hk : (kd d).isSome = true) : v = outV d := by
 cases d <;> simp [kd] at hk
 ·exact h.int_inv
 ·exact h.bool_inv
theorem zxh {w : World} {M : Foot} {ρ : Nat → Loc} {xs : Array Value} {as : List D} (hs : xs.size = as.length) (h : ∀ (i : Nat) (v : Value) (d : D), xs[i]? = some v → as[i]? = some d → Rep w M ρ v d) (hk : kdOk as = true) : xs = (as.map outV).toArray := by
 apply Array.ext
 ·simp [hs]
 ·intro i h1 h2
  have := h i xs[i] (as[i]'(by omega)) (by simp [h1]) (by simp)
  simp only [kdOk, List.all_eq_true] at hk
  simpa using qak this (hk _ (List.getElem_mem _))

include hT in
theorem zsh {t : Nat} (n : Nat) (hn : n ≤ 10000) (hg : P.eqGuardType P.depth t = false) (hc : eqChk P T n t = true) (ha : (T t).d.agg = true) (hz : (T t).zero.length = (T t).size) : EqOk P T t := by
 refine ⟨hg, ?_⟩
 intro w M ρ xs ys as bs z x hxs hys hl hxr hyr hzz hx
 obtain ⟨h1, h2, h3, _⟩ := zql _ _ _ hzz
 obtain ⟨h4, _, h5, h6⟩ := zql _ _ _ hx
 rw [zxh hxs hxr h3, zxh hys hyr h5, h6]
 have := z7t hT n t hc Op.maxDepth (by unfold Op.maxDepth; exact hn) as bs w h1.symm (h4.symm.trans h1.symm) h3
 simp only [mkV, ha, if_true] at this
 exact this
end
end Go.AM
/- AM: a loop by its rounds: what holds at each round's begin, what holds where it is left. -/
namespace Go.AM

section
variable {c : Cfg} {K K' : St → Prop} (hK : ∀ st, K st → K' st)
include hK
theorem qag {st : St} {dst : Option Nat} {x : Option Out} (h : outK st dst x K) : outK st dst x K' := by
 unfold outK at h ⊢
 split at h
 ·exact ⟨h.1, hK _ h.2⟩
 ·exact h
theorem qbw {x : Option St} (h : optK x K) : optK x K' := by
 unfold optK at h ⊢
 split at h
 ·exact hK _ h
 ·exact h
theorem zym {st : St} {dst : Option Nat} {f : D} {args : List D} (h : zir c dst f args st K) : zir c dst f args st K' := by
 unfold zir at h ⊢
 split at h
 ·obtain ⟨r, bs', h1, h2⟩ := h
  exact ⟨r, bs', h1, hK _ h2⟩
 ·exact h
theorem qcp {st : St} {dst : Option Nat} {f : Operand} {args : Array Operand} (h : barV c dst f args st K) : barV c dst f args st K' := by
 unfold barV at h ⊢
 split at h
 ·rename_i hov; rw [if_pos hov]; exact ⟨h.1, hK _ h.2⟩
 rename_i hov
 rw [if_neg hov]
 split at h
 ·rename_i hgv
  rw [if_pos hgv]
  unfold zmb at h ⊢
  split at h
  ·obtain ⟨k, R, h1, h2, h3, h4, h5, h6, h7⟩ := h
   exact ⟨k, R, h1, h2, h3, h4, h5, h6, hK _ h7⟩
  ·cases h
 rename_i hgv
 rw [if_neg hgv]
 exact zym hK h
theorem zx3 {dst : Option Nat} {d : D} {x : Option St} (h : overK dst d x K) : overK dst d x K' := by
 unfold overK at h ⊢
 split at h
 ·exact hK _ h
 ·exact h
theorem z9j {st : St} {dst : Option Nat} {f : D} {args : List D} (h : callV c dst f args st K) : callV c dst f args st K' := by
 unfold callV at h ⊢
 split at h
 ·obtain ⟨r, nbs, h1, h2, h3, h4⟩ := h
  exact ⟨r, nbs, h1, h2, h3, hK _ h4⟩
 ·exact h
theorem qbz {st : St} {dst : Option Nat} {t0 t1 : TD} {s x : D} (h : appT c dst t0 t1 s x st K) : appT c dst t0 t1 s x st K' := by
 unfold appT at h ⊢
 split at h
 ·unfold appK at h ⊢
  split at h
  ·refine ⟨h.1, ?_⟩
   have h2 := h.2
   unfold appK2 at h2 ⊢
   split at h2
   ·exact hK _ h2
   ·exact h2
  ·exact h
 ·exact h
theorem z4o {o : Oper} {st : St} (h : zgh c o st K) : zgh c o st K' := by
 obtain ⟨dst, op, ty, pos, after, guard⟩ := o
 unfold zgh at h ⊢
 simp only at h ⊢
 split at h
 ·rename_i f args tys
  split at h
  ·rename_i hl; rw [if_pos hl]; exact qcp hK h
  ·rename_i hl; rw [if_neg hl]; exact z9j hK h
 ·split at h
  ·rename_i h1 h2
   exact qbz hK h
  ·cases h
 ·split at h
  ·unfold copyT at h ⊢
   split at h
   ·unfold copyK at h ⊢
    split at h
    ·exact ⟨h.1, h.2.1, zx3 hK h.2.2⟩
    ·exact h
   ·exact h
  ·cases h
 ·split at h
  ·unfold clearT at h ⊢
   split at h
   ·exact ⟨h.1, zx3 hK h.2⟩
   ·exact h
  ·cases h
 ·cases h
 ·exact qbw (fun st h => hK _ h) h
 ·exact qag hK h
theorem z67 {o : Oper} {st : St} (h : vOp c o st K) : vOp c o st K' := by
 unfold vOp at h ⊢
 split at h
 ·exact hK _ h
 ·exact z4o hK h
theorem z1z : ∀ (l : List SO) (st : St), sOps c l st K → sOps c l st K' := by
 intro l
 induction l with
 | nil => intro st h; exact hK _ h
 | cons o l ih =>
   intro st h
   unfold sOps at h ⊢
   split at h
   ·exact z67 (fun st' h' => ih st' h') h
   ·split at h
    ·split at h
     ·rename_i hw; rw [if_pos hw]; exact z67 (fun st' h' => ih st' h') h
     ·rename_i hw; rw [if_neg hw]; exact ih _ h
    ·exact ih _ h
    ·exact h
end

theorem z8a {c : Cfg} {K K' : St → Prop} (hK : ∀ st, K st → K' st) : ∀ (ls : List (List SO)) (st : St), sAlts c ls st K → sAlts c ls st K' := by
 intro ls
 induction ls with
 | nil => intro st h; trivial
 | cons l ls ih => intro st h; exact ⟨z1z hK l st h.1, ih st h.2⟩
theorem zhc {c : Cfg} : ∀ (x : SC) (st : St) (Q Q' : Ex → St → Prop), (∀ e st, Q e st → Q' e st) → zcl c x st Q → zcl c x st Q' := by
 intro x
 induction x with
 | skip => intro st Q Q' hQ h; exact hQ _ _ h
 | ops l => intro st Q Q' hQ h; exact z1z (fun st h => hQ _ st h) l st h
 | alts ls => intro st Q Q' hQ h; exact z8a (fun st h => hQ _ st h) ls st h
 | seq x y ihx ihy =>
   intro st Q Q' hQ h
   refine ihx _ _ _ ?_ h
   intro e st' h'
   cases e with
   | normal => exact ihy _ _ _ hQ h'
   | exit i => exact hQ _ _ h'
   | ret => exact hQ _ _ h'
 | cond t x y ihx ihy =>
   intro st Q Q' hQ h
   simp only [zcl] at h ⊢
   split at h
   ·split at h
    ·rename_i hb; rw [if_pos hb]; exact ihx _ _ _ hQ h
    ·rename_i hb; rw [if_neg hb]; exact ihy _ _ _ hQ h
   ·exact h
 | block id x ih =>
   intro st Q Q' hQ h
   refine ih _ _ _ ?_ h
   intro e st' h'
   cases e with
   | normal => exact hQ _ _ h'
   | exit i =>
     simp only [zdk] at h' ⊢
     split at h'
     ·rename_i hi; rw [if_pos hi]; exact hQ _ _ h'
     ·rename_i hi; rw [if_neg hi]; exact hQ _ _ h'
   | ret => exact hQ _ _ h'
 | loop x ih =>
   intro st Q Q' hQ h
   obtain ⟨n, h⟩ := h
   exact ⟨n, zni (b := fun st K => zcl c x st K) (b' := fun st K => zcl c x st K) (fun st R R' hR h => ih st R R' hR h) (fun e st h => hQ e st h) n st h⟩
 | exit id => intro st Q Q' hQ h; exact hQ _ _ h
 | ret => intro st Q Q' hQ h; exact hQ _ _ h

theorem zbe {c : Cfg} {k n : Nat} {x y : SC} {st : St} {Q : Ex → St → Prop} (h : x = y) (h2 : zcl c y st (seqQ (loopK c k x Q n) Q)) : zlf c k x Q (n + 1) st := by
 subst h
 rw [zkw]
 refine zhc _ _ _ _ ?_ h2
 intro e st' h'
 cases e with
 | normal => exact .inl h'
 | exit i => exact h'
 | ret => exact h'

def zil (go : St → Prop) (id : Nat) (N R : St → Prop) : Ex → St → Prop
 | .normal, st => go st
 | .exit i, st => if i = id then N st else False
 | .ret, st => R st
@[simp] theorem qee (go : St → Prop) (id : Nat) (N R : St → Prop) (st : St) : zil go id N R .normal st = go st := rfl
@[simp] theorem qdc (go : St → Prop) (id : Nat) (N R : St → Prop) : zil go id N R .normal = go := rfl
@[simp] theorem qgn (go : St → Prop) (id i : Nat) (N R : St → Prop) (st : St) : zil go id N R (.exit i) st = if i = id then N st else False := rfl
@[simp] theorem qhp (go : St → Prop) (id : Nat) (N R : St → Prop) (st : St) : zil go id N R .ret st = R st := rfl
def onK (P : St → Prop) (k : Nat) : St → Prop := fun st => P (trunc k st)
@[simp] theorem qj5 (P : St → Prop) (k : Nat) (st : St) : onK P k st = P (trunc k st) := rfl

theorem zgj {c : Cfg} {k id : Nat} {x y : SC} {Q : Ex → St → Prop} {st : St} (n : Nat) (P : Nat → St → Prop) (N R : St → Prop) (hx : x = y)
 (h0 : P n st) (hlast : ∀ st, P 0 st → zcl c y st (zil (fun _ => False) id N R)) (hstep : ∀ m st, P (m + 1) st → zcl c y st (zil (onK (P m) k) id N R))
 (hN : ∀ st, N st → Q .normal st) (hR : ∀ st, R st → Q .ret st) : zsr c k x (zdk id Q) st := by
 subst hx
 have key : ∀ n st, P n st → zlf c k x (zdk id Q) (n + 1) st := by
  intro n
  induction n with
  | zero =>
    intro st h
    rw [zkw]
    refine zhc _ _ _ _ ?_ (hlast st h)
    intro e st' h'
    cases e with
    | normal => exact h'.elim
    | exit i =>
      simp only [zil] at h'
      split at h'
      ·rename_i hi; subst hi; simpa [seqQ, zdk] using hN _ h'
      ·exact h'.elim
    | ret => exact hR _ h'
  | succ n ih =>
    intro st h
    rw [zkw]
    refine zhc _ _ _ _ ?_ (hstep n st h)
    intro e st' h'
    cases e with
    | normal => exact .inl (ih _ h')
    | exit i =>
      simp only [zil] at h'
      split at h'
      ·rename_i hi; subst hi; simpa [seqQ, zdk] using hN _ h'
      ·exact h'.elim
    | ret => exact hR _ h'
 exact ⟨n + 1, key n st h0⟩

def onKeep (P : St → Prop) (k : Nat) : St → Prop := fun st => ∃ ext, keepOk k ext st ∧ P (zij k ext st)
theorem qb2 {c : Cfg} {k id : Nat} {x y : SC} {Q : Ex → St → Prop} {st : St} (n : Nat) (P : Nat → St → Prop) (N R : St → Prop) (hx : x = y)
 (h0 : P n st) (hlast : ∀ st, P 0 st → zcl c y st (zil (fun _ => False) id N R)) (hstep : ∀ m st, P (m + 1) st → zcl c y st (zil (onKeep (P m) k) id N R))
 (hN : ∀ st, N st → Q .normal st) (hR : ∀ st, R st → Q .ret st) : zsr c k x (zdk id Q) st := by
 subst hx
 have key : ∀ n st, P n st → zlf c k x (zdk id Q) (n + 1) st := by
  intro n
  induction n with
  | zero =>
    intro st h
    rw [zkw]
    refine zhc _ _ _ _ ?_ (hlast st h)
    intro e st' h'
    cases e with
    | normal => exact h'.elim
    | exit i =>
      simp only [zil] at h'
      split at h'
      ·rename_i hi; subst hi; simpa [seqQ, zdk] using hN _ h'
      ·exact h'.elim
    | ret => exact hR _ h'
  | succ n ih =>
    intro st h
    rw [zkw]
    refine zhc _ _ _ _ ?_ (hstep n st h)
    intro e st' h'
    cases e with
    | normal =>
      obtain ⟨ext, h1, h2⟩ := h'
      exact .inr (.inl ⟨ext, h1, ih _ h2⟩)
    | exit i =>
      simp only [zil] at h'
      split at h'
      ·rename_i hi; subst hi; simpa [seqQ, zdk] using hN _ h'
      ·exact h'.elim
    | ret => exact hR _ h'
 exact ⟨n + 1, key n st h0⟩

theorem za3 {α : Type} {c : Cfg} {k id : Nat} {x y : SC} {Q : Ex → St → Prop} {st : St} (l : List α) (P : Nat → List α → St → Prop) (N R : St → Prop) (hx : x = y)
 (h0 : P 0 l st) (hlast : ∀ i st, i = l.length → P i [] st → zcl c y st (zil (fun _ => False) id N R))
 (hstep : ∀ i a rest st, i < l.length → l[i]? = some a → (∀ h : i < l.length, l[i] = a) → l.drop i = a :: rest → l.drop (i + 1) = rest → P i (a :: rest) st → zcl c y st (zil (onK (P (i + 1) rest) k) id N R))
 (hN : ∀ st, N st → Q .normal st) (hR : ∀ st, R st → Q .ret st) : zsr c k x (zdk id Q) st := by
 refine zgj l.length (fun m st => m ≤ l.length ∧ P (l.length - m) (l.drop (l.length - m)) st) N R hx ?_ ?_ ?_ hN hR
 ·simpa using h0
 ·intro st h
  simp only [Nat.sub_zero, List.drop_length] at h
  exact hlast _ st rfl h.2
 ·intro m st ⟨hm, h⟩
  have hlt : l.length - (m + 1) < l.length := by omega
  have hd := List.drop_eq_getElem_cons hlt
  have e : l.length - (m + 1) + 1 = l.length - m := by omega
  rw [hd] at h
  have := hstep _ _ _ st hlt (by simp [hlt]) (fun _ => rfl) hd rfl h
  rw [e] at this
  refine zhc _ _ _ _ ?_ this
  intro ex st' h'
  cases ex with
  | normal => exact ⟨by omega, h'⟩
  | exit i => exact h'
  | ret => exact h'

theorem z2k {α : Type} {c : Cfg} {k id : Nat} {x y : SC} {Q : Ex → St → Prop} {st : St} (l : List α) (P : Nat → List α → St → Prop) (N R : St → Prop) (hx : x = y)
 (h0 : P 0 l st) (hlast : ∀ i st, i = l.length → P i [] st → zcl c y st (zil (fun _ => False) id N R))
 (hstep : ∀ i a rest st, i < l.length → l[i]? = some a → (∀ h : i < l.length, l[i] = a) → l.drop i = a :: rest → l.drop (i + 1) = rest → P i (a :: rest) st → zcl c y st (zil (onKeep (P (i + 1) rest) k) id N R))
 (hN : ∀ st, N st → Q .normal st) (hR : ∀ st, R st → Q .ret st) : zsr c k x (zdk id Q) st := by
 refine qb2 l.length (fun m st => m ≤ l.length ∧ P (l.length - m) (l.drop (l.length - m)) st) N R hx ?_ ?_ ?_ hN hR
 ·simpa using h0
 ·intro st h
  simp only [Nat.sub_zero, List.drop_length] at h
  exact hlast _ st rfl h.2
 ·intro m st ⟨hm, h⟩
  have hlt : l.length - (m + 1) < l.length := by omega
  have hd := List.drop_eq_getElem_cons hlt
  have e : l.length - (m + 1) + 1 = l.length - m := by omega
  rw [hd] at h
  have := hstep _ _ _ st hlt (by simp [hlt]) (fun _ => rfl) hd rfl h
  rw [e] at this
  refine zhc _ _ _ _ ?_ this
  intro ex st' h'
  cases ex with
  | normal =>
    obtain ⟨ext, h1, h2⟩ := h'
    exact ⟨ext, h1, by omega, h2⟩
  | exit i => exact h'
  | ret => exact h'

section
variable {c : Cfg} {p : Prop} [Decidable p]
theorem zag {dst : Option Nat} {a b : Option (D × St)} {K : St → Prop} (hp : p) (h : appK2 dst a K) : appK2 dst (if p then a else b) K := by rw [if_pos hp]; exact h
theorem zam {a b : Option D} {o : SO} {st : St} {K : St → Prop} (hp : p) (h : pureV c a o st K) : pureV c (if p then a else b) o st K := by rw [if_pos hp]; exact h
end
section
variable {c : Cfg} {a b : Bool} {o : SO} {l : List SO} {st : St} {K : St → Prop} {x y : SC} {Q : Ex → St → Prop}
theorem zao (h1 : a = true → gOps c b o l st K) (h2 : a = false → gOps c false o l st K) : gOps c (a && b) o l st K := by
 cases a
 ·exact h2 rfl
 ·exact h1 rfl
theorem zaq (h1 : a = true → gOps c true o l st K) (h2 : a = false → gOps c b o l st K) : gOps c (a || b) o l st K := by
 cases a
 ·exact h2 rfl
 ·exact h1 rfl
theorem zai (h1 : a = true → zit c b x y st Q) (h2 : a = false → zit c false x y st Q) : zit c (a && b) x y st Q := by
 cases a
 ·exact h2 rfl
 ·exact h1 rfl
theorem zan (h1 : a = true → zit c true x y st Q) (h2 : a = false → zit c b x y st Q) : zit c (a || b) x y st Q := by
 cases a
 ·exact h2 rfl
 ·exact h1 rfl
end
end Go.AM
/- AM: a nil slice is an empty one: contracts that speak of empty slices serve for nil, too. -/
namespace Go.AM
mutual
def D.nrm : D → D
 | .nil => .sl [] 0
 | .zs _ => .sl [] 0
 | .sl rows len => .sl (nrmLL rows) len
 | .mem cs => .mem (nrmL cs)
 | .agg cs => .agg (nrmL cs)
 | .tup vs => .tup (nrmL vs)
 | .fn f a c => .fn f (nrmL a) (nrmL c)
 | .undef => .undef
 | .int k n => .int k n
 | .bool b => .bool b
 | .ref b o l => .ref b o l
 | .ptr b i j => .ptr b i j
def nrmL : List D → List D
 | [] => []
 | d :: ds => d.nrm :: nrmL ds
def nrmLL : List (List D) → List (List D)
 | [] => []
 | r :: rs => nrmL r :: nrmLL rs
end
theorem zsj : ∀ l : List D, nrmL l = l.map D.nrm
 | [] => rfl
 | d :: ds => by simp [nrmL, zsj ds]
theorem zf2 : ∀ l : List (List D), nrmLL l = l.map (List.map D.nrm)
 | [] => rfl
 | d :: ds => by simp [nrmLL, zsj, zf2 ds]
theorem RepI.nrm {w : World} {M : Foot} {v : Value} {d : D} (h : RepI w M v d) : RepI w M v d.nrm := by
 induction h with
 | undef v => exact .undef v
 | int k n => exact .int k n
 | bool b => exact .bool b
 | nil a => exact .sl a 0 0 [] 0 0 0 (fun _ _ => Go.undef) (by simp) (by simp) (by simp) (by simp) (fun i j h => (by simp at h)) (fun i j r d h => (by simp at h))
 | zs a cap => exact .sl a 0 cap [] 0 0 0 (fun _ _ => Go.undef) (by simp) (by simp) (by simp) (by simp) (fun i j h => (by simp at h)) (fun i j r d h => (by simp at h))
 | sl a len cap rows esz g off vals h1 h2 hr ha hc _ ih =>
   simp only [D.nrm, zf2]
   refine .sl a len cap _ esz g off vals (by simpa using h1) (by simpa using h2) ?_ (fun h => ha (by simpa using h)) (fun i j hi hj => hc i j (by simpa using hi) hj) ?_
   ·intro r hr'
    obtain ⟨r0, h0, rfl⟩ := List.mem_map.1 hr'
    simpa using hr r0 h0
   ·intro i j r d h h'
    rw [List.getElem?_map] at h
    cases hx : rows[i]? with
    | none => simp [hx] at h
    | some r0 =>
      simp [hx] at h
      subst h
      rw [List.getElem?_map] at h'
      cases hy : r0[j]? with
      | none => simp [hy] at h'
      | some d0 => simp [hy] at h'; subst h'; exact ih i j r0 d0 hx hy
 | mem g off cs vals hc _ ih =>
   simp only [D.nrm, zsj]
   refine .mem g off _ vals (fun j hj => hc j (by simpa using hj)) fun j d h => ?_
   rw [List.getElem?_map] at h
   cases hx : cs[j]? with
   | none => simp [hx] at h
   | some d0 => simp [hx] at h; subst h; exact ih j d0 hx
theorem Rep.nrm {w : World} {M : Foot} {ρ : Nat → Loc} {v : Value} {d : D} (h : Rep w M ρ v d) : Rep w M ρ v d.nrm := by
 have lift : ∀ (vs : Array Value) (cs : List D), (∀ (i : Nat) (v : Value) (d : D), vs[i]? = some v → cs[i]? = some d → Rep w M ρ v d.nrm) →
  ∀ (i : Nat) (v : Value) (d : D), vs[i]? = some v → (cs.map D.nrm)[i]? = some d → Rep w M ρ v d := by
  intro vs cs h i v d hv hd
  rw [List.getElem?_map] at hd
  cases hc : cs[i]? with
  | none => simp [hc] at hd
  | some d0 => simp [hc] at hd; subst hd; exact h i v d0 hv hc
 induction h with
 | imm v d h => exact .imm _ _ h.nrm
 | ref b off len cap g base n rl esz hρ h1 h2 h3 => exact .ref b off len cap g base n rl esz hρ h1 h2 h3
 | refV b a hρ => exact .refV b a hρ
 | ptr b i j g base n rl esz hρ => exact .ptr b i j g base n rl esz hρ
 | agg vs cs hs _ ih => simp only [D.nrm, zsj]; exact .agg vs _ (by simpa using hs) (lift _ _ ih)
 | tup vs cs hs _ ih => simp only [D.nrm, zsj]; exact .tup vs _ (by simpa using hs) (lift _ _ ih)
 | fn f va vc a c ha hc _ _ ih1 ih2 => simp only [D.nrm, zsj]; exact .fn f va vc _ _ (by simpa using ha) (by simpa using hc) (lift _ _ ih1) (lift _ _ ih2)
theorem ze4 {P : Program} {f : Nat} {args : List D} {bs : List Blk} {r : D} {bs' : List Blk} (h : Den P f (args.map D.nrm) bs r bs') : Den P f args bs r bs' := by
 refine ⟨h.1, fun w M0 ρ vals hM hS hs ha => h.2 w M0 ρ vals hM hS (by simpa using hs) ?_⟩
 intro i v d hv hd
 rw [List.getElem?_map] at hd
 cases hc : args[i]? with
 | none => simp [hc] at hd
 | some d0 => simp [hc] at hd; subst hd; exact (ha i v d0 hv hc).nrm
theorem Rep.zs_cases {w : World} {M : Foot} {ρ : Nat → Loc} {v : Value} (h : Rep w M ρ v (.sl [] 0)) : Rep w M ρ v (.zs true) ∨ Rep w M ρ v (.zs false) := by
 have hi := h.sl_inv
 cases hi with
 | sl a _ cap _ esz g off vals h1 h2 hr ha hc hv =>
   cases a with
   | none => exact .inl (.imm _ _ (.zs none cap))
   | some a => exact .inr (.imm _ _ (.zs (some a) cap))
theorem zs1 {P : Program} {f : Nat} {pre post : List D} {bs : List Blk} {r : D} {bs' : List Blk} (h1 : Den P f (pre ++ .zs true :: post) bs r bs') (h2 : Den P f (pre ++ .zs false :: post) bs r bs') :
 Den P f (pre ++ .sl [] 0 :: post) bs r bs' := by
 refine ⟨h1.1, fun w M0 ρ vals hM hS hs ha => ?_⟩
 have hl : pre.length < vals.size := by rw [hs]; simp
 have hz := ha pre.length vals[pre.length] (.sl [] 0) (by simp [hl]) (by simp)
 have key : ∀ z, Rep w (Mof M0 ρ bs) ρ vals[pre.length] z → ∀ (i : Nat) (v : Value) (d : D), vals[i]? = some v → (pre ++ z :: post)[i]? = some d → Rep w (Mof M0 ρ bs) ρ v d := by
  intro z hz i v d hv hd
  by_cases hi : i = pre.length
  ·subst hi
   simp at hd
   subst hd
   rw [Array.getElem?_eq_getElem hl] at hv
   cases hv
   exact hz
  ·refine ha i v d hv ?_
   rw [← hd]
   rcases Nat.lt_or_gt_of_ne hi with h | h
   ·rw [List.getElem?_append_left h, List.getElem?_append_left h]
   ·rw [List.getElem?_append_right (by omega), List.getElem?_append_right (by omega)]
    obtain ⟨m, hm⟩ : ∃ m, i - pre.length = m + 1 := ⟨i - pre.length - 1, by omega⟩
    rw [hm]
    rfl
 rcases hz.zs_cases with h | h
 ·exact h1.2 w M0 ρ vals hM hS (by rw [hs]; simp) (key _ h)
 ·exact h2.2 w M0 ρ vals hM hS (by rw [hs]; simp) (key _ h)
attribute [simp] D.nrm nrmL nrmLL
@[simp] theorem qig (ps : List Peer) : nrmLL (ps.map Peer.row) = ps.map Peer.row := by rw [zf2, List.map_map]; rfl
@[simp] theorem qhz (xs : List Int) : nrmLL (xs.map irow) = xs.map irow := by rw [zf2, List.map_map]; rfl
@[simp] theorem qgh (n : Nat) : ((n : Int) + 1 = 0) = False := by apply eq_false; omega
@[simp] theorem qfp {α β : Type} (f : α → β) (l : List α) : (l.map f).take l.length = l.map f := List.take_of_length_le (by simp)
@[simp] theorem qju (ps : List Peer) : Fits 2 (ps.map Peer.row) = True := by
  apply eq_true
  intro r hr
  obtain ⟨p, _, rfl⟩ := List.mem_map.1 hr
  exact ⟨rfl, rfl⟩
@[simp] theorem qie (ps : List Int) : Fits 1 (ps.map irow) = True := by
  apply eq_true
  intro r hr
  obtain ⟨p, _, rfl⟩ := List.mem_map.1 hr
  exact ⟨rfl, rfl⟩
attribute [simp] List.idxOf_cons
@[simp] theorem qji (p : Prop) [Decidable p] (a b : Bool) : (if p then D.bool a else D.bool b) = D.bool (if p then a else b) := by split <;> rfl
@[simp] theorem qj4 (a b : Int) : (a == b) = decide (a = b) := rfl
@[simp] theorem qj3 (a b : Int) : (a != b) = !decide (a = b) := rfl
attribute [simp] binAgg zh3 eqCell
@[simp] theorem qj0 (a b : Peer) : (decide (a.id = b.id) && (decide (a.missed = b.missed) && true)) = decide (a = b) := by
  obtain ⟨x, y⟩ := a
  obtain ⟨z, w⟩ := b
  rw [Bool.eq_iff_iff]
  simp
theorem qfa (a : Int) (k m : Nat) (hm : m + 1 = 2 ^ k) (hk : k ≤ 32) : IntKind.wrap .i64 (((BitVec.ofInt 64 a &&& BitVec.ofNat 64 m).toNat : Nat) : Int) = a % (2 ^ k : Nat) := by
 have h1 : m < 2 ^ 64 := by
  have : 2 ^ k ≤ 2 ^ 32 := Nat.pow_le_pow_right (by omega) hk
  omega
 rw [BitVec.toNat_and, BitVec.toNat_ofInt, BitVec.toNat_ofNat, Nat.mod_eq_of_lt h1, show m = 2 ^ k - 1 by omega, Nat.and_two_pow_sub_one_eq_mod]
 have h2 : ((2 ^ 64 : Nat) : Int) = (2 ^ k : Nat) * ((2 ^ (64 - k) : Nat) : Int) := by
  rw [← Int.natCast_mul, ← Nat.pow_add]
  congr 2
  omega
 have h3 : (((a % ((2 ^ 64 : Nat) : Int)).toNat % 2 ^ k : Nat) : Int) = a % (2 ^ k : Nat) := by
  rw [Int.natCast_emod, Int.toNat_of_nonneg (Int.emod_nonneg _ (by decide)), Int.emod_emod_of_dvd]
  exact ⟨_, h2⟩
 rw [h3]
 have h4 : (0 : Int) < (2 ^ k : Nat) := by exact_mod_cast Nat.two_pow_pos k
 have h5 := Int.emod_nonneg a (show ((2 ^ k : Nat) : Int) ≠ 0 by omega)
 have h6 := Int.emod_lt_of_pos a h4
 have h7 : ((2 ^ k : Nat) : Int) ≤ 2 ^ 32 := by exact_mod_cast Nat.pow_le_pow_right (by omega) hk
 exact zaw (by omega) (by omega)

theorem zgc (a : Int) (k m : Nat) (hm : m + 1 = 2 ^ k) (hk : k ≤ 32) : arith .and .i64 a (m : Int) = some (.int .i64 (a % (2 ^ k : Nat))) := by
 have : BitVec.ofInt 64 (m : Int) = BitVec.ofNat 64 m := by simp
 simp only [arith]
 rw [show IntKind.i64.bits = 64 from rfl, this, qfa a k m hm hk]
@[simp ↓ high] theorem mask1 (a : Int) : arith .and .i64 a 1 = some (.int .i64 (a % 2)) := zgc a 1 1 (by decide) (by decide)
@[simp ↓ high] theorem mask3 (a : Int) : arith .and .i64 a 3 = some (.int .i64 (a % 4)) := zgc a 2 3 (by decide) (by decide)
@[simp ↓ high] theorem mask7 (a : Int) : arith .and .i64 a 7 = some (.int .i64 (a % 8)) := zgc a 3 7 (by decide) (by decide)
@[simp ↓ high] theorem mask15 (a : Int) : arith .and .i64 a 15 = some (.int .i64 (a % 16)) := zgc a 4 15 (by decide) (by decide)
@[simp ↓ high] theorem mask31 (a : Int) : arith .and .i64 a 31 = some (.int .i64 (a % 32)) := zgc a 5 31 (by decide) (by decide)
@[simp ↓ high] theorem mask63 (a : Int) : arith .and .i64 a 63 = some (.int .i64 (a % 64)) := zgc a 6 63 (by decide) (by decide)
@[simp ↓ high] theorem mask255 (a : Int) : arith .and .i64 a 255 = some (.int .i64 (a % 256)) := zgc a 8 255 (by decide) (by decide)
@[simp ↓ high] theorem mask1023 (a : Int) : arith .and .i64 a 1023 = some (.int .i64 (a % 1024)) := zgc a 10 1023 (by decide) (by decide)
end Go.AM
/- Plain law: views: the program's test and the document's test are one. -/
namespace Go.AM

theorem zgm (x : Int) : place x = true ↔ 0 ≤ x ∧ x < 256 := by simp [place]
theorem zs2 {a b : Int} (ha : place a = true) (hb : place b = true) : far a b = if a ≤ b then b - a else b - a + 256 := by
 rw [zgm] at ha hb
 unfold far
 rw [zaw (n := b - a) (by omega) (by omega), zaw (by omega) (by omega), Int.tmod_eq_emod_of_nonneg (by omega)]
 split <;> omega
theorem zve {a b : Int} (ha : place a = true) (hb : place b = true) : 0 ≤ far a b ∧ far a b < 256 := by
 rw [zs2 ha hb]
 rw [zgm] at ha hb
 split <;> omega
theorem zyq {a b : Int} (ha : place a = true) (hb : place b = true) : far a b = 0 ↔ b = a := by
 rw [zs2 ha hb]
 rw [zgm] at ha hb
 split <;> omega
theorem zvo {a b c : Int} (ha : place a = true) (hb : place b = true) (hc : place c = true) : far a b = far a c ↔ b = c := by
 rw [zs2 ha hb, zs2 ha hc]
 rw [zgm] at ha hb hc
 split <;> split <;> omega

theorem z8t {base : Int} (hb : place base = true) : ∀ (ps : List Peer) (q : Option Peer), (∀ p, q = some p → place p.id = true) →
 zhe base q ps = zev base (match q with | none => 0 | some p => far base p.id) ps := by
 intro ps
 induction ps with
 | nil => intro q _; rfl
 | cons p ps ih =>
   intro q hq
   simp only [zhe, zev]
   by_cases hp : place p.id = true
   ·rw [ih (some p) (by rintro p' h; cases h; exact hp)]
    have hz := zyq hb hp
    have hr := zve hb hp
    cases q with
    | none =>
      have : decide (p.id ≠ base) = decide (0 < far base p.id) := by
       rw [Bool.eq_iff_iff]
       simp only [decide_eq_true_eq]
       omega
      simp only [this, hp]
      grind
    | some q =>
      have hr2 := zve hb (hq q rfl)
      simp only [hp]
      by_cases hlt : far base q.id < far base p.id
      ·have : p.id ≠ base := by intro h; rw [hz.2 h] at hlt; omega
       simp [hlt, this]
      ·simp [hlt]
   ·simp at hp
    simp [hp]
theorem zp0 (base : Int) (ps : List Peer) : zf9 base ps = zbn base ps := by
 unfold zf9 zbn
 by_cases hb : place base = true
 ·rw [z8t hb ps none (by simp)]
  simp only [hb]
  grind
 ·simp at hb
  simp [hb]

theorem qid : ∀ (xs : List Int) (q : Option Int), ups q xs = (incr (q.toList ++ xs) && xs.all place) := by
 intro xs
 induction xs with
 | nil => intro q; cases q <;> rfl
 | cons x xs ih =>
   intro q
   simp only [ups, ih, List.all_cons]
   cases q with
   | none => simp [Option.toList]; grind
   | some y => simp only [Option.toList, List.cons_append, List.nil_append, incr]; grind
theorem zl8 (xs : List Int) : zd4 xs = zbr xs := by
 unfold zd4 zbr
 rw [qid]
 simp [Option.toList]
theorem zd7 {xs : List Int} (h : zbr xs = true) : ∀ x ∈ xs, place x = true := by
 rw [← zl8] at h
 simp only [zd4, Bool.and_eq_true, List.all_eq_true] at h
 exact h.1.2
theorem zwm {base : Int} : ∀ (ps : List Peer) (last : Int), zev base last ps = true → ∀ p ∈ ps, place p.id = true ∧ 0 ≤ p.missed ∧ p.missed < 3 ∧ last < far base p.id := by
 intro ps
 induction ps with
 | nil => intro last _ p hp; simp at hp
 | cons q ps ih =>
   intro last h p hp
   simp only [zev, Bool.and_eq_true, decide_eq_true_eq] at h
   rcases List.mem_cons.1 hp with rfl | hp
   ·exact ⟨h.1.1.1.1, h.1.1.1.2, h.1.1.2, h.1.2⟩
   ·obtain ⟨a, b, c, d⟩ := ih _ h.2 p hp
    exact ⟨a, b, c, by have := h.1.2; omega⟩
theorem zdo {base : Int} {ps : List Peer} (h : zbn base ps = true) : ∀ p ∈ ps, place p.id = true ∧ 0 ≤ p.missed ∧ p.missed < 3 ∧ 0 < far base p.id := by
 simp only [zbn, Bool.and_eq_true] at h
 exact zwm ps 0 h.2
theorem zqx {base : Int} {ps : List Peer} (h : zbn base ps = true) : place base = true := by
 simp only [zbn, Bool.and_eq_true] at h
 exact h.1.1
theorem z0x {base : Int} {ps : List Peer} (h : zbn base ps = true) : ps.length ≤ 16 := by
 simp only [zbn, Bool.and_eq_true, decide_eq_true_eq] at h
 exact h.1.2
theorem zhd {base : Int} {ps : List Peer} {id : Int} (h : zbn base ps = true) (hid : place id = true) : zle base ps id = (ps.map Peer.id).contains id := by
 have hr := zet h
 have hb := zqx h
 rw [Bool.eq_iff_iff, List.contains_iff_mem, List.mem_map]
 unfold zle isFar
 constructor
 ·intro hf
  split at hf
  ·rename_i p hp
   simp only [decide_eq_true_eq] at hf
   have hm := List.mem_of_getElem? hp
   exact ⟨p, hm, ((zvo hb (zdo h p hm).1 hid).1 hf)⟩
  ·cases hf
 ·rintro ⟨p, hm, rfl⟩
  obtain ⟨i, hi, he⟩ := List.getElem_of_mem hm
  have hp : ps[i]? = some p := by simp [hi, he]
  have h1 : ¬ i < zeb base ps p.id := fun hlt => by
   have := z17 i p hlt hp
   omega
  have hle : zeb base ps p.id ≤ i := by omega
  have hlt : zeb base ps p.id < ps.length := by omega
  have hq : ps[zeb base ps p.id]? = some ps[zeb base ps p.id] := by simp [hlt]
  rw [hq]
  simp only [decide_eq_true_eq]
  have h2 := z2j hr _ _ (Nat.le_refl _) hq
  rcases Nat.lt_or_ge (zeb base ps p.id) i with h3 | h3
  ·have := hr _ i _ p h3 hq hp
   omega
  ·have : zeb base ps p.id = i := by omega
   simp only [this, he]
theorem z7n (v : View) : zld v = zbd v := by
 unfold zld zbd
 rw [zp0, zl8]
 by_cases h1 : zbn v.id v.peers = true
 ·by_cases h2 : zbr v.passive = true
  ·have : v.passive.any (zwe v) = v.passive.any (oddIn v) := by
    rw [Bool.eq_iff_iff]
    simp only [List.any_eq_true]
    constructor
    ·rintro ⟨x, hx, h⟩
     refine ⟨x, hx, ?_⟩
     unfold zwe at h
     unfold oddIn
     rwa [zhd h1 (zd7 h2 x hx)]
    ·rintro ⟨x, hx, h⟩
     refine ⟨x, hx, ?_⟩
     unfold oddIn at h
     unfold zwe
     rwa [zhd h1 (zd7 h2 x hx)] at h
   rw [this, h1, h2]
   grind
  ·simp at h2
   simp [h2]
 ·simp at h1
  simp [h1]
end Go.AM
/- Plain law: whose a key is. -/
namespace Go.AM

theorem zlt (key : Int) : ∀ (xs : List Int) (m : Int), zdv key m xs ∈ m :: xs := by
 intro xs
 induction xs with
 | nil => intro m; simp [zdv]
 | cons x xs ih =>
   intro m
   simp only [zdv]
   split
   ·have := ih x
    simp at this ⊢
    grind
   ·have := ih m
    simp at this ⊢
    grind
theorem zso (key : Int) : ∀ (xs : List Int) (m : Int), ∀ y ∈ m :: xs, far key (zdv key m xs) ≤ far key y := by
 intro xs
 induction xs with
 | nil => intro m y hy; simp at hy; subst hy; simp [zdv]
 | cons x xs ih =>
   intro m y hy
   simp only [zdv]
   simp only [List.mem_cons] at hy
   split
   ·rename_i h
    rcases hy with rfl | rfl | hy
    ·have := ih x x (by simp); omega
    ·exact ih y y (by simp)
    ·exact ih x y (by simp [hy])
   ·rename_i h
    rcases hy with rfl | rfl | hy
    ·exact ih y y (by simp)
    ·have := ih m m (by simp); omega
    ·exact ih m y (by simp [hy])
theorem zsz {key o m : Int} {xs : List Int} (hk : place key = true) (hp : ∀ y ∈ m :: xs, place y = true) (ho : o ∈ m :: xs) (hle : ∀ y ∈ m :: xs, far key o ≤ far key y) : zdv key m xs = o := by
 have h1 := zlt key xs m
 have h2 := zso key xs m o ho
 have h3 := hle _ h1
 exact (zvo hk (hp _ h1) (hp _ ho)).1 (by omega)

theorem za1 {v : View} (h : zbd v = true) : zbn v.id v.peers = true ∧ zbr v.passive = true ∧ v.peers.length + v.passive.length ≤ 16 ∧ ∀ x ∈ v.passive, x ≠ v.id ∧ x ∉ v.peers.map Peer.id := by
 simp only [zbd, Bool.and_eq_true, decide_eq_true_eq, Bool.not_eq_true'] at h
 obtain ⟨⟨⟨h1, h2⟩, h3⟩, h4⟩ := h
 refine ⟨h1, h2, h3, fun x hx => ?_⟩
 have := List.any_eq_false.1 h4 x hx
 simp only [oddIn, Bool.or_eq_true, not_or] at this
 rw [zhd h1 (zd7 h2 x hx)] at this
 simpa using this
theorem zen {v : View} (h : zbd v = true) : place v.id = true := zqx (za1 h).1
theorem zxv {v : View} (h : zbd v = true) : ∀ y ∈ v.id :: v.peers.map Peer.id, place y = true := by
 intro y hy
 obtain ⟨h1, _⟩ := za1 h
 simp only [List.mem_cons, List.mem_map] at hy
 rcases hy with rfl | ⟨p, hp, rfl⟩
 ·exact zen h
 ·exact (zdo h1 p hp).1
def ownV (v : View) (key : Int) : Int := zdv key v.id (v.peers.map Peer.id)
theorem zsi {v : View} {key : Int} (h : zbd v = true) (hk : place key = true) : zbw v key = (ownV v key, 0) := by
 have hp := zxv h
 have hl := (za1 h).2.2.1
 unfold zbw zfj ownV
 simp only [h, hk, Bool.and_self, if_true, Bool.true_and]
 have h2 : (decide ((v.peers.map Peer.id ++ [v.id]).length ≤ 64) && (v.peers.map Peer.id ++ [v.id]).all place) = true := by
  simp only [Bool.and_eq_true, decide_eq_true_eq, List.all_eq_true]
  refine ⟨by simp; omega, fun y hy => hp y ?_⟩
  simp only [List.mem_append, List.mem_cons, List.not_mem_nil, or_false] at hy
  simp only [List.mem_cons]
  exact hy.symm
 rw [if_pos h2]
 cases hq : v.peers.map Peer.id with
 | nil => simp [zdv]
 | cons x xs =>
   simp only [List.cons_append]
   rw [hq] at hp
   congr 1
   refine zsz hk (fun y hy => hp y ?_) ?_ ?_
   ·simp only [List.mem_cons, List.mem_append, List.not_mem_nil, or_false] at hy ⊢
    grind
   ·have := zlt key (x :: xs) v.id
    simp only [List.mem_cons, List.mem_append, List.not_mem_nil, or_false] at this ⊢
    grind
   ·intro y hy
    refine zso key (x :: xs) v.id y ?_
    simp only [List.mem_cons, List.mem_append, List.not_mem_nil, or_false] at hy ⊢
    grind
end Go.AM
/- Plain law: a view's ends; whose a key is, when one more is heard. -/
namespace Go.AM

def ze8 (base id : Int) : Bool → List Peer → List Peer
 | inn, [] => if inn then [] else [⟨id, 0⟩]
 | inn, p :: ps => (if inn = false ∧ far base id ≤ far base p.id then [⟨id, 0⟩] else []) ++ ((if p.id = id then [] else [p]) ++ ze8 base id (inn || decide (far base id ≤ far base p.id)) ps)
def zme (base : Int) (ps : List Peer) (id : Int) : List Peer × Int :=
 if zf9 base ps && place id && !(id == base) then (if (ze8 base id false ps).length ≤ 16 then (ze8 base id false ps, 0) else ([], 701)) else ([], 700)
theorem qf6 {v : View} {q : Peer} (h : q ∈ v.peers) : q.id ∈ v.id :: v.peers.map Peer.id := by
 simp only [List.mem_cons, List.mem_map]
 exact .inr ⟨q, h, rfl⟩
theorem qbp (v : View) (k : Int) : ownV v k = v.id ∨ ∃ q ∈ v.peers, q.id = ownV v k := by
 have := zlt k (v.peers.map Peer.id) v.id
 simp only [List.mem_cons, List.mem_map] at this
 exact this
theorem z4k {v : View} (h : zbd v = true) {q : Peer} (hq : q ∈ v.peers) : q.id ≠ v.id := by
 intro he
 obtain ⟨hpm, _⟩ := za1 h
 have h4 := (zdo hpm q hq).2.2.2
 have := (zyq (zen h) (zxv h _ (qf6 hq))).2 he
 omega

theorem qb4 (base id : Int) : ∀ (ps : List Peer) (inn : Bool) (y : Int), y ∈ (ze8 base id inn ps).map Peer.id ↔ (y ∈ ps.map Peer.id ∧ y ≠ id) ∨ (inn = false ∧ y = id) := by
 intro ps
 induction ps with
 | nil => intro inn y; cases inn <;> simp [ze8]
 | cons p ps ih =>
   intro inn y
   simp only [ze8, List.map_append, List.mem_append, ih, List.map_cons, List.mem_cons]
   by_cases h1 : p.id = id
   ·by_cases h2 : far base id ≤ far base p.id <;> cases inn <;> simp [h1, h2] <;> grind
   ·by_cases h2 : far base id ≤ far base p.id <;> cases inn <;> simp [h1, h2] <;> grind
end Go.AM
/- AM: items, what was told, nodes, messages, cuts: as data; what the program's parts reckon with. -/
namespace Go.AM

structure Item where
 key : Int
 count : Int
 writer : Int
 value : Int
 gone : Bool
 deriving DecidableEq, Inhabited
def Item.row (i : Item) : List D := [.int .i64 i.key, .int .i64 i.count, .int .i64 i.writer, .int .i64 i.value, .bool i.gone]
structure Told where
 key : Int
 has : Bool
 value : Int
 deriving DecidableEq, Inhabited
def Told.row (t : Told) : List D := [.int .i64 t.key, .bool t.has, .int .i64 t.value]
structure Cut where
 a : Int
 b : Int
 deriving DecidableEq, Inhabited
def Cut.row (c : Cut) : List D := [.int .i64 c.a, .int .i64 c.b]
def zav (is : List Item) : D := .sl (is.map Item.row) is.length
def zay (ts : List Told) : D := .sl (ts.map Told.row) ts.length
def zbc (cs : List Cut) : D := .sl (cs.map Cut.row) cs.length
structure Node where
 up : Bool
 view : View
 items : List Item
 log : List Told
 deriving DecidableEq, Inhabited
def Node.cells (x : Node) : List D := [.bool x.up, .int .i64 x.view.id, zat x.view.peers, zap x.view.passive, zav x.items, zay x.log]
def zc2 (x : Node) : D := .agg x.cells
structure Msg where
 kind : Int
 from_ : Int
 to : Int
 ids : List Int
 key : Int
 item : Item
 has : Bool
 deriving DecidableEq, Inhabited
def Msg.row (m : Msg) : List D := [.int .i64 m.kind, .int .i64 m.from_, .int .i64 m.to, zap m.ids, .int .i64 m.key, .int .i64 m.item.key, .int .i64 m.item.count, .int .i64 m.item.writer, .int .i64 m.item.value, .bool m.item.gone, .bool m.has]
def msgD (m : Msg) : D := .agg m.row
def zbl (ms : List Msg) : D := .sl (ms.map Msg.row) ms.length
def Msg.row0 (m : Msg) : List D := [.int .i64 m.kind, .int .i64 m.from_, .int .i64 m.to, .nil, .int .i64 m.key, .int .i64 m.item.key, .int .i64 m.item.count, .int .i64 m.item.writer, .int .i64 m.item.value, .bool m.item.gone, .bool m.has]
def zeroItem : Item := ⟨0, 0, 0, 0, false⟩

@[simp] theorem qgc (fr fp : Nat → Nat → Nat → D) (xs : List Item) : D.mapR fr fp (zav xs) = zav xs := rfl
@[simp] theorem qhg (fr fp : Nat → Nat → Nat → D) (xs : List Told) : D.mapR fr fp (zay xs) = zay xs := rfl
@[simp] theorem qhr (fr fp : Nat → Nat → Nat → D) (xs : List Cut) : D.mapR fr fp (zbc xs) = zbc xs := rfl
@[simp] theorem qh2 (fr fp : Nat → Nat → Nat → D) (xs : List Msg) : D.mapR fr fp (zbl xs) = zbl xs := rfl
@[simp] theorem qgl (S : Nat → Bool) (x : Item) : x.row.map (D.sweep S) = x.row := rfl
@[simp] theorem qhq (S : Nat → Bool) (x : Told) : x.row.map (D.sweep S) = x.row := rfl
@[simp] theorem qhm (S : Nat → Bool) (x : Cut) : x.row.map (D.sweep S) = x.row := rfl
@[simp] theorem qh7 (S : Nat → Bool) (x : Msg) : x.row.map (D.sweep S) = x.row := rfl
@[simp] theorem qgk (S : Nat → Bool) (x : Msg) : x.row0.map (D.sweep S) = x.row0 := rfl
@[simp] theorem qht (fr fp : Nat → Nat → Nat → D) (x : Item) : x.row.map (D.mapR fr fp) = x.row := rfl
@[simp] theorem qir (fr fp : Nat → Nat → Nat → D) (x : Told) : x.row.map (D.mapR fr fp) = x.row := rfl
@[simp] theorem qjd (fr fp : Nat → Nat → Nat → D) (x : Cut) : x.row.map (D.mapR fr fp) = x.row := rfl
@[simp] theorem qiv (fr fp : Nat → Nat → Nat → D) (x : Msg) : x.row.map (D.mapR fr fp) = x.row := rfl
@[simp] theorem qh3 (fr fp : Nat → Nat → Nat → D) (x : Msg) : x.row0.map (D.mapR fr fp) = x.row0 := rfl
@[simp] theorem qfm (x : Item) : x.row.length = 5 := rfl
@[simp] theorem qf4 (x : Told) : x.row.length = 3 := rfl
@[simp] theorem qgi (x : Cut) : x.row.length = 2 := rfl
@[simp] theorem qgp (x : Msg) : x.row.length = 11 := rfl
@[simp] theorem qfz (x : Msg) : x.row0.length = 11 := rfl
@[simp] theorem qh1 (x : Int) : zju (irow x) = [] := rfl
@[simp] theorem qjb (x : Peer) : zju x.row = [] := rfl
@[simp] theorem qgt (x : Item) : zju x.row = [] := rfl
@[simp] theorem qhj (x : Told) : zju x.row = [] := rfl
@[simp] theorem qh6 (x : Cut) : zju x.row = [] := rfl
@[simp] theorem qhu (x : Msg) : zju x.row = [] := rfl
@[simp] theorem qf3 (x : Msg) : zju x.row0 = [] := rfl
@[simp] theorem qi2 (x : Int) : idsL (irow x) = [] := rfl
@[simp] theorem qjq (x : Peer) : idsL x.row = [] := rfl
@[simp] theorem qh5 (x : Item) : idsL x.row = [] := rfl
@[simp] theorem qi6 (x : Told) : idsL x.row = [] := rfl
@[simp] theorem qjf (x : Cut) : idsL x.row = [] := rfl
@[simp] theorem qis (x : Msg) : idsL x.row = [] := rfl
@[simp] theorem qhw (x : Msg) : idsL x.row0 = [] := rfl
@[simp] theorem qfr {α β γ : Type} (f : α → β) (g : β → List γ) (l : List α) : (l.map f).flatMap g = l.flatMap fun x => g (f x) := by rw [List.flatMap_map]
@[simp] theorem qfx {α β : Type} (l : List α) : (l.flatMap fun _ => ([] : List β)) = [] := by induction l <;> simp_all
@[simp] theorem qgq (ps : List Item) : nrmLL (ps.map Item.row) = ps.map Item.row := by rw [zf2, List.map_map]; rfl
@[simp] theorem qhk (ps : List Told) : nrmLL (ps.map Told.row) = ps.map Told.row := by rw [zf2, List.map_map]; rfl
@[simp] theorem qhx (ps : List Cut) : nrmLL (ps.map Cut.row) = ps.map Cut.row := by rw [zf2, List.map_map]; rfl
theorem qd7 (m : Msg) : m.row.map D.nrm = m.row := by simp [Msg.row, zap]
@[simp] theorem qhy (ps : List Msg) : nrmLL (ps.map Msg.row) = ps.map Msg.row := by
  rw [zf2, List.map_map]
  refine List.map_congr_left fun m _ => ?_
  simp [Function.comp, qd7]
def Msg.bare (m : Msg) : Msg := { m with ids := [] }
theorem qbk (m : Msg) : m.row0.map D.nrm = m.bare.row := by simp [Msg.row, Msg.row0, Msg.bare, zap]
@[simp] theorem zp5 (ps : List Msg) : nrmLL (ps.map Msg.row0) = (ps.map Msg.bare).map Msg.row := by
  rw [zf2, List.map_map, List.map_map]
  refine List.map_congr_left fun m _ => ?_
  simp [Function.comp, qbk]
@[simp] theorem qho (ps : List Item) : Fits 5 (ps.map Item.row) = True := by
  apply eq_true
  intro r hr
  obtain ⟨p, _, rfl⟩ := List.mem_map.1 hr
  exact ⟨rfl, rfl⟩
@[simp] theorem qjc (ps : List Told) : Fits 3 (ps.map Told.row) = True := by
  apply eq_true
  intro r hr
  obtain ⟨p, _, rfl⟩ := List.mem_map.1 hr
  exact ⟨rfl, rfl⟩
@[simp] theorem qi5 (ps : List Cut) : Fits 2 (ps.map Cut.row) = True := by
  apply eq_true
  intro r hr
  obtain ⟨p, _, rfl⟩ := List.mem_map.1 hr
  exact ⟨rfl, rfl⟩
@[simp] theorem qin (ps : List Msg) : Fits 11 (ps.map Msg.row) = True := by
  apply eq_true
  intro r hr
  obtain ⟨p, _, rfl⟩ := List.mem_map.1 hr
  exact ⟨rfl, rfl⟩
@[simp] theorem qhl (ps : List Msg) : Fits 11 (ps.map Msg.row0) = True := by
  apply eq_true
  intro r hr
  obtain ⟨p, _, rfl⟩ := List.mem_map.1 hr
  exact ⟨rfl, rfl⟩
@[simp] theorem qj1 (a b : Item) : (decide (a.key = b.key) && (decide (a.count = b.count) && (decide (a.writer = b.writer) && (decide (a.value = b.value) && ((a.gone == b.gone) && true))))) = decide (a = b) := by
  obtain ⟨_, _, _, _, _⟩ := a
  obtain ⟨_, _, _, _, _⟩ := b
  rw [Bool.eq_iff_iff]
  simp
@[simp] theorem qj2 (a b : Told) : (decide (a.key = b.key) && ((a.has == b.has) && (decide (a.value = b.value) && true))) = decide (a = b) := by
  obtain ⟨_, _, _⟩ := a
  obtain ⟨_, _, _⟩ := b
  rw [Bool.eq_iff_iff]
  simp
@[simp] theorem qj8 (a b : Cut) : (decide (a.a = b.a) && (decide (a.b = b.b) && true)) = decide (a = b) := by
  obtain ⟨_, _⟩ := a
  obtain ⟨_, _⟩ := b
  rw [Bool.eq_iff_iff]
  simp

def Node.small (x : Node) : Prop := x.view.small ∧ x.items.length * 40 ≤ 140737488351232 ∧ x.log.length * 24 ≤ 140737488351232

def byte (x : Int) : Bool := decide (0 ≤ x) && decide (x < 256)
def zoe (c w : Int) : Bool := decide (1 ≤ c) && decide (c ≤ 65535) && place w
def zba (i : Item) : Bool := byte i.key && byte i.value && zoe i.count i.writer && (!i.gone || decide (i.value = 0))
def zgy : Option Int → List Item → Bool
 | _, [] => true
 | p, i :: is => zba i && (match p with | none => true | some k => decide (k < i.key)) && zgy (some i.key) is
def zbu (is : List Item) : Bool := zgy none is && decide (is.length ≤ 16)
def zdf (t : Told) : Bool := !byte t.key || !byte t.value || (!t.has && !decide (t.value = 0))
def ztl (x : Node) : Bool := decide (x.view.peers.length + x.view.passive.length + x.items.length + x.log.length = 0)
def zcg (x : Node) : Bool := (x.up || ztl x) && zbd x.view && zbu x.items && decide (x.log.length ≤ 64) && !x.log.any zdf
def gIdx {α : Type} (p : α → Bool) : Nat → List α → Int
 | _, [] => -1
 | i, x :: xs => if p x then (i : Int) else gIdx p (i + 1) xs
theorem zy3 {α : Type} (p : α → Bool) : ∀ (xs : List α) (i : Nat), decide (0 ≤ gIdx p i xs) = xs.any p := by
 intro xs
 induction xs with
 | nil => intro i; rfl
 | cons x xs ih =>
   intro i
   simp only [gIdx, List.any_cons]
   by_cases h : p x = true
   ·simp [h]
   ·have h' : p x = false := by simpa using h
    simp [h', ih]
def zcj (x : Node) : Bool := x.up && zcg x
def zf3 (x : Node) (i : Item) : Option Msg :=
 if (if (zbw x.view i.key).1 = x.view.id then (zn9 x.view).1 else (zbw x.view i.key).1) = x.view.id then none
 else some ⟨1, x.view.id, if (zbw x.view i.key).1 = x.view.id then (zn9 x.view).1 else (zbw x.view i.key).1, [], 0, i, false⟩
def zb5 (x : Node) : List Msg × Int := if zcj x then (x.items.filterMap (zf3 x), 0) else ([], 1800)
def zbs (m : Msg) : Bool := place m.from_ && (place m.to && (!decide (m.from_ = m.to) &&
 (if m.kind = 0 then decide (m.key = 0) && decide (m.item = zeroItem) && !m.has && m.ids.all place && decide (m.ids.length ≤ 16)
  else if m.kind = 1 then decide (m.ids.length = 0) && decide (m.key = 0) && !m.has && zba m.item
  else if m.kind = 2 then decide (m.ids.length = 0) && place m.key && decide (m.item = zeroItem) && !m.has
  else if m.kind = 3 then decide (m.ids.length = 0) && place m.key && (if m.has then zba m.item && decide (m.item.key = m.key) else decide (m.item = zeroItem))
  else false)))
end Go.AM
/- AM: a call that is lent some of the own blocks leaves the others. -/
namespace Go.AM

def outNo (sel : List Nat) (n b : Nat) : Nat := if b < sel.length then sel.getD b 0 else n + (b - sel.length)
def zog (sel : List Nat) (n b o l : Nat) : D := .ref (outNo sel n b) o l
def zoa (sel : List Nat) (n b i j : Nat) : D := .ptr (outNo sel n b) i j
def zcc (sel : List Nat) (bs bs' : List Blk) : List Blk :=
 (bs.mapIdx fun i b => if sel.contains i then ((bs'[sel.idxOf i]?).getD default).mapR (zog sel bs.length) (zoa sel bs.length) else b) ++
   (bs'.drop sel.length).map (Blk.mapR (zog sel bs.length) (zoa sel bs.length))

theorem znm {sel : List Nat} {j : Nat} (hn : sel.Nodup) (hj : j < sel.length) : sel.idxOf sel[j] = j := List.Nodup.idxOf_getElem hn j hj

theorem qcn {P : Program} {f : Nat} {args : List D} {bs : List Blk} {r : D} {bs' : List Blk} (sel : List Nat) (hn : sel.Nodup) (hlt : ∀ b ∈ sel, b < bs.length)
 (h : Den P f (args.map (D.mapR (inRef sel) (inPtr sel))) (zbf sel bs) r bs') : Den P f args bs (r.mapR (zog sel bs.length) (zoa sel bs.length)) (zcc sel bs bs') := by
 refine ⟨h.1, fun w M0 ρ vals hM hS hs ha => ?_⟩
 let k := sel.length
 let ρs : Nat → Loc := fun i => if h : i < sel.length then ρ sel[i] else .absent
 have hρs : ∀ i (h : i < sel.length), ρs i = ρ sel[i] := fun i h => dif_pos h
 have hρs' : ∀ i, ¬ i < sel.length → ρs i = .absent := fun i h => dif_neg h
 let M0s : Foot := fun g o => M0 g o ∨ ∃ (i : Nat) (b : Blk) (base n rl esz : Nat), i ∉ sel ∧ bs[i]? = some b ∧ ρ i = .at_ g base n rl esz ∧ (b.kind = .box ∨ b.kind = .mut ∨ base + rl * esz ≤ o)
 have hlen : (zbf sel bs).length = sel.length := by simp [zbf]
 have hlget : ∀ (j : Nat) (b : Blk), (zbf sel bs)[j]? = some b → ∃ (hj : j < sel.length) (b0 : Blk), bs[sel[j]]? = some b0 ∧ b = b0.mapR (inRef sel) (inPtr sel) := by
  intro j b hb
  have hj : j < sel.length := by
   have := (List.getElem?_eq_some_iff.1 hb).1
   omega
  have hl := hlt sel[j] (List.getElem_mem hj)
  refine ⟨hj, bs[sel[j]], by simp [hl], ?_⟩
  simp only [zbf, List.getElem?_map] at hb
  simp [hj, hl] at hb
  exact hb.symm
 have hMs : Mof M0s ρs (zbf sel bs) = Mof M0 ρ bs := by
  funext g o
  apply propext
  constructor
  ·rintro ((h | ⟨i, b, base, n, rl, esz, _, h1, h2, h3⟩) | ⟨j, b, base, n, rl, esz, h1, h2, h3⟩)
   ·exact .inl h
   ·exact .inr ⟨i, b, base, n, rl, esz, h1, h2, h3⟩
   ·obtain ⟨hj, b0, hb0, rfl⟩ := hlget j b h1
    rw [hρs j hj] at h2
    exact .inr ⟨sel[j], b0, base, n, rl, esz, hb0, h2, h3⟩
  ·rintro (h | ⟨i, b, base, n, rl, esz, h1, h2, h3⟩)
   ·exact .inl (.inl h)
   ·by_cases hi : i ∈ sel
    ·obtain ⟨j, hj, rfl⟩ := List.getElem_of_mem hi
     refine .inr ⟨j, b.mapR (inRef sel) (inPtr sel), base, n, rl, esz, ?_, by rw [hρs j hj]; exact h2, h3⟩
     simp only [zbf, List.getElem?_map]
     simp [hj, h1]
    ·exact .inl (.inr ⟨i, b, base, n, rl, esz, hi, h1, h2, h3⟩)
 have hcr : ∀ v b o l, Rep w (Mof M0 ρ bs) ρ v (.ref b o l) → Rep w (Mof M0 ρ bs) ρs v (inRef sel b o l) := by
  intro v b o l hr
  unfold inRef
  split
  ·rename_i hc
   have hm : b ∈ sel := by simpa using hc
   obtain ⟨j, hj, rfl⟩ := List.getElem_of_mem hm
   rw [znm hn hj]
   rcases hr.ref_inv with ⟨cap, g, base, n, rl, esz, rfl, hat, h1, h2, h3⟩ | ⟨a, rfl, hv, rfl, rfl⟩
   ·exact .ref _ _ _ cap g base n rl esz (by rw [hρs j hj]; exact hat) h1 h2 h3
   ·exact .refV _ a (by rw [hρs j hj]; exact hv)
  ·exact .imm _ _ (.undef _)
 have hcp : ∀ v b i j, Rep w (Mof M0 ρ bs) ρ v (.ptr b i j) → Rep w (Mof M0 ρ bs) ρs v (inPtr sel b i j) := by
  intro v b i j hr
  unfold inPtr
  split
  ·rename_i hc
   have hm : b ∈ sel := by simpa using hc
   obtain ⟨q, hq, rfl⟩ := List.getElem_of_mem hm
   rw [znm hn hq]
   obtain ⟨g, base, n, rl, esz, rfl, hat⟩ := hr.ptr_inv
   exact .ptr _ _ _ g base n rl esz (by rw [hρs q hq]; exact hat)
  ·exact .imm _ _ (.undef _)
 have hSs : Store M0s ρs (zbf sel bs) w := by
  refine ⟨?_, ?_, ?_, ?_, ?_⟩
  ·intro j b g base n rl esz hb hat
   obtain ⟨hj, b0, hb0, rfl⟩ := hlget j b hb
   rw [hρs j hj] at hat
   rw [hMs]
   exact (hS.at_ _ b0 g base n rl esz hb0 hat).mapR (Pres.refl _ _) hcr hcp
  ·intro j b hb hv
   obtain ⟨hj, b0, hb0, rfl⟩ := hlget j b hb
   rw [hρs j hj] at hv
   obtain ⟨h1, h2⟩ := hS.virt _ b0 hb0 hv
   exact ⟨by simp [Blk.mapR, h1], h2⟩
  ·intro i hi
   exact hρs' i (by omega)
  ·intro i j g base n rl esz base' n' rl' esz' hi hj
   by_cases h1 : i < sel.length
   ·by_cases h2 : j < sel.length
    ·rw [hρs i h1] at hi
     rw [hρs j h2] at hj
     have := hS.inj _ _ g _ _ _ _ _ _ _ _ hi hj
     have e1 := znm hn h1
     rw [this, znm hn h2] at e1
     exact e1.symm
    ·rw [hρs' j h2] at hj; cases hj
   ·rw [hρs' i h1] at hi; cases hi
  ·intro i g base n rl esz hi o hm
   by_cases h1 : i < sel.length
   ·rw [hρs i h1] at hi
    rcases hm with hm | ⟨q, b, base', n', rl', esz', hq, hb, hat, _⟩
    ·exact hS.m0 _ g _ _ _ _ hi o hm
    ·have := hS.inj _ _ g _ _ _ _ _ _ _ _ hi hat
     exact hq (this ▸ List.getElem_mem h1)
   ·rw [hρs' i h1] at hi; cases hi
 have hMlt : ∀ g o, M0s g o → g < w.heap.size := by
  rintro g o (hm | ⟨q, b, base', n', rl', esz', hq, hb, hat, _⟩)
  ·exact hM g o hm
  ·exact hS.lt hat
 refine (h.2 w M0s ρs vals hMlt hSs (by simpa using hs) ?_).mono ?_
 ·intro i v d hv hd
  rw [List.getElem?_map] at hd
  cases hc : args[i]? with
  | none => simp [hc] at hd
  | some d0 =>
    simp [hc] at hd
    subst hd
    rw [hMs]
    exact (ha i v d0 hv hc).carry (Pres.refl _ _) hcr hcp
 ·rintro e w' ⟨v, ρt, rfl, hr, hS2, hle, hkeepρ, hpres, har⟩
  rw [hlen] at hle hkeepρ har
  let ρ' : Nat → Loc := fun i => if i < bs.length then ρ i else ρt (sel.length + (i - bs.length))
  have hρo : ∀ i, i < bs.length → ρ' i = ρ i := fun i h => if_pos h
  have hρn : ∀ i, ¬ i < bs.length → ρ' i = ρt (sel.length + (i - bs.length)) := fun i h => if_neg h
  have hold : ∀ b, ρ b ≠ .absent → ρ' b = ρ b := by
   intro b hb
   refine hρo b ?_
   rcases Nat.lt_or_ge b bs.length with h' | h'
   ·exact h'
   ·exact absurd (hS.out b h') hb
  have hρt : ∀ j (hj : j < sel.length), ρt j = ρ sel[j] := fun j hj => (hkeepρ j hj).trans (hρs j hj)
  have hout : ∀ b, ρt b ≠ .absent → ρ' (outNo sel bs.length b) = ρt b := by
   intro b hb
   unfold outNo
   split
   ·rename_i hb2
    rw [hρt b hb2, show sel.getD b 0 = sel[b] by simp [hb2]]
    exact hρo _ (hlt _ (List.getElem_mem hb2))
   ·rename_i hb2
    rw [hρn _ (by omega)]
    congr 1
    omega
  have hfl : (zcc sel bs bs').length = bs.length + (bs'.length - sel.length) := by simp [zcc]
  have hf1 : ∀ i (hi : i < bs.length), i ∉ sel → (zcc sel bs bs')[i]? = bs[i]? := by
   intro i hi hx
   simp only [zcc]
   rw [List.getElem?_append_left (by simpa using hi), List.getElem?_mapIdx]
   simp [hi, hx]
  have hf2 : ∀ j (hj : j < sel.length), (zcc sel bs bs')[sel[j]]? = (bs'[j]?).map (Blk.mapR (zog sel bs.length) (zoa sel bs.length)) := by
   intro j hj
   have hl := hlt sel[j] (List.getElem_mem hj)
   simp only [zcc]
   rw [List.getElem?_append_left (by simpa using hl), List.getElem?_mapIdx]
   have : j < bs'.length := by omega
   simp [hl, List.getElem_mem hj, znm hn hj, this]
  have hf3 : ∀ i, ¬ i < bs.length → (zcc sel bs bs')[i]? = (bs'[sel.length + (i - bs.length)]?).map (Blk.mapR (zog sel bs.length) (zoa sel bs.length)) := by
   intro i hi
   simp only [zcc]
   rw [List.getElem?_append_right (by simpa using hi)]
   simp
  have hM' : Mof M0 ρ' (zcc sel bs bs') = Mof M0s ρt bs' := by
   funext g o
   apply propext
   constructor
   ·rintro (hm | ⟨i, b, base, n, rl, esz, hb, hat, hk⟩)
    ·exact .inl (.inl hm)
    ·by_cases hi : i < bs.length
     ·rw [hρo i hi] at hat
      by_cases hx : i ∈ sel
      ·obtain ⟨j, hj, rfl⟩ := List.getElem_of_mem hx
       rw [hf2 j hj] at hb
       cases hc : bs'[j]? with
       | none => simp [hc] at hb
       | some b0 =>
         simp [hc] at hb
         subst hb
         exact .inr ⟨j, b0, base, n, rl, esz, hc, (hρt j hj).trans hat, hk⟩
      ·rw [hf1 i hi hx] at hb
       exact .inl (.inr ⟨i, b, base, n, rl, esz, hx, hb, hat, hk⟩)
     ·rw [hρn i hi] at hat
      rw [hf3 i hi] at hb
      cases hc : bs'[sel.length + (i - bs.length)]? with
      | none => simp [hc] at hb
      | some b0 =>
        simp [hc] at hb
        subst hb
        exact .inr ⟨_, b0, base, n, rl, esz, hc, hat, hk⟩
   ·rintro ((hm | ⟨i, b, base, n, rl, esz, hx, hb, hat, hk⟩) | ⟨j, b, base, n, rl, esz, hb, hat, hk⟩)
    ·exact .inl hm
    ·have hi : i < bs.length := (List.getElem?_eq_some_iff.1 hb).1
     exact .inr ⟨i, b, base, n, rl, esz, by rw [hf1 i hi hx]; exact hb, by rw [hρo i hi]; exact hat, hk⟩
    ·by_cases hj : j < sel.length
     ·refine .inr ⟨sel[j], b.mapR (zog sel bs.length) (zoa sel bs.length), base, n, rl, esz, by rw [hf2 j hj, hb]; rfl, ?_, hk⟩
      rw [hρo _ (hlt _ (List.getElem_mem hj)), ← hρt j hj]
      exact hat
     ·have e : sel.length + (bs.length + (j - sel.length) - bs.length) = j := by omega
      refine .inr ⟨bs.length + (j - sel.length), b.mapR (zog sel bs.length) (zoa sel bs.length), base, n, rl, esz, ?_, ?_, hk⟩
      ·rw [hf3 _ (by omega), e, hb]; rfl
      ·rw [hρn _ (by omega), e]; exact hat
  have hor : ∀ v b o l, Rep w' (Mof M0s ρt bs') ρt v (.ref b o l) → Rep w' (Mof M0s ρt bs') ρ' v (zog sel bs.length b o l) := by
   intro v b o l hr
   unfold zog
   rcases hr.ref_inv with ⟨cap, g, base, n, rl, esz, rfl, hat, h1, h2, h3⟩ | ⟨a, rfl, hv, rfl, rfl⟩
   ·exact .ref _ _ _ cap g base n rl esz ((hout b (by simp [hat])).trans hat) h1 h2 h3
   ·exact .refV _ a ((hout b (by simp [hv])).trans hv)
  have hop : ∀ v b i j, Rep w' (Mof M0s ρt bs') ρt v (.ptr b i j) → Rep w' (Mof M0s ρt bs') ρ' v (zoa sel bs.length b i j) := by
   intro v b i j hr
   unfold zoa
   obtain ⟨g, base, n, rl, esz, rfl, hat⟩ := hr.ptr_inv
   exact .ptr _ _ _ g base n rl esz ((hout b (by simp [hat])).trans hat)
  have hP : Pres w (Mof M0 ρ bs) w' (Mof M0 ρ' (zcc sel bs bs')) := by
   rw [hM', ← hMs]
   exact hpres
  have hkeep : ∀ i b g base n rl esz, i ∉ sel → bs[i]? = some b → ρ i = .at_ g base n rl esz → w'.heap[g]? = w.heap[g]? := by
   intro i b g base n rl esz hx hb hat
   refine har.keep g (hS.lt hat) ?_
   intro j hj base' n' rl' esz' hat'
   rw [hρs j hj] at hat'
   have := hS.inj _ _ g _ _ _ _ _ _ _ _ hat' hat
   exact hx (this ▸ List.getElem_mem hj)
  refine ⟨v, ρ', rfl, ?_, ?_, by rw [hfl]; omega, hρo, hP, ?_⟩
  ·rw [hM']
   exact hr.carry (Pres.refl _ _) hor hop
  ·refine ⟨?_, ?_, ?_, ?_, ?_⟩
   ·intro i b g base n rl esz hb hat
    by_cases hi : i < bs.length
    ·by_cases hx : i ∈ sel
     ·obtain ⟨j, hj, rfl⟩ := List.getElem_of_mem hx
      rw [hρo _ hi, ← hρt j hj] at hat
      rw [hf2 j hj] at hb
      cases hc : bs'[j]? with
      | none => simp [hc] at hb
      | some b0 =>
        simp [hc] at hb
        subst hb
        rw [hM']
        exact (hS2.at_ j b0 g base n rl esz hc hat).mapR (Pres.refl _ _) hor hop
     ·rw [hρo _ hi] at hat
      rw [hf1 i hi hx] at hb
      exact (hS.at_ i b g base n rl esz hb hat).move (hkeep i b g base n rl esz hx hb hat) hP hold
    ·rw [hρn i hi] at hat
     rw [hf3 i hi] at hb
     cases hc : bs'[sel.length + (i - bs.length)]? with
     | none => simp [hc] at hb
     | some b0 =>
       simp [hc] at hb
       subst hb
       rw [hM']
       exact (hS2.at_ _ b0 g base n rl esz hc hat).mapR (Pres.refl _ _) hor hop
   ·intro i b hb hv
    by_cases hi : i < bs.length
    ·by_cases hx : i ∈ sel
     ·obtain ⟨j, hj, rfl⟩ := List.getElem_of_mem hx
      rw [hρo _ hi, ← hρt j hj] at hv
      rw [hf2 j hj] at hb
      cases hc : bs'[j]? with
      | none => simp [hc] at hb
      | some b0 =>
        simp [hc] at hb
        subst hb
        obtain ⟨h1, h2⟩ := hS2.virt j b0 hc hv
        exact ⟨by simp [Blk.mapR, h1], h2⟩
     ·rw [hρo _ hi] at hv
      rw [hf1 i hi hx] at hb
      exact hS.virt i b hb hv
    ·rw [hρn i hi] at hv
     rw [hf3 i hi] at hb
     cases hc : bs'[sel.length + (i - bs.length)]? with
     | none => simp [hc] at hb
     | some b0 =>
       simp [hc] at hb
       subst hb
       obtain ⟨h1, h2⟩ := hS2.virt _ b0 hc hv
       exact ⟨by simp [Blk.mapR, h1], h2⟩
   ·intro i hi
    rw [hfl] at hi
    rw [hρn i (by omega)]
    exact hS2.out _ (by omega)
   ·intro i j g base1 n1 rl1 esz1 base2 n2 rl2 esz2 hi hj
    by_cases h1 : i < bs.length
    ·rw [hρo i h1] at hi
     by_cases h2 : j < bs.length
     ·rw [hρo j h2] at hj
      exact hS.inj i j g _ _ _ _ _ _ _ _ hi hj
     ·rw [hρn j h2] at hj
      have := har.fresh _ g _ _ _ _ (by omega) hj
      have := hS.lt hi
      omega
    ·rw [hρn i h1] at hi
     by_cases h2 : j < bs.length
     ·rw [hρo j h2] at hj
      have := har.fresh _ g _ _ _ _ (by omega) hi
      have := hS.lt hj
      omega
     ·rw [hρn j h2] at hj
      have := hS2.inj _ _ g _ _ _ _ _ _ _ _ hi hj
      omega
   ·intro i g base1 n1 rl1 esz1 hi o hm
    by_cases h1 : i < bs.length
    ·rw [hρo i h1] at hi
     exact hS.m0 i g _ _ _ _ hi o hm
    ·rw [hρn i h1] at hi
     have := har.fresh _ g _ _ _ _ (by omega) hi
     have := hM g o hm
     omega
  ·refine ⟨har.size, har.os, har.tape, har.output, ?_, ?_⟩
   ·intro g hg hno
    refine har.keep g hg ?_
    intro j hj base n rl esz hat
    rw [hρs j hj] at hat
    exact hno sel[j] (hlt _ (List.getElem_mem hj)) base n rl esz hat
   ·intro i g base n rl esz hi hat
    rw [hρn i (by omega)] at hat
    exact har.fresh _ g _ _ _ _ (by omega) hat

def lendThen (c : Cfg) (dst : Option Nat) (f : Nat) (args : List D) (st : St) (K : St → Prop) : Prop := ∃ r bs', c.C f args st.bs r bs' ∧ K (St.put ⟨st.fr, bs'⟩ dst r)
@[simp] theorem qg3 (c : Cfg) (dst : Option Nat) (f : Nat) (first caps args : List D) (st : St) (K : St → Prop) : zir c dst (.fn f first caps) args st K = lendThen c dst f (first ++ args ++ caps) st K := rfl
theorem zau {P : Program} {c : Cfg} {dst : Option Nat} {f : Nat} {args : List D} {st : St} {K : St → Prop} {r : D} {bs' : List Blk} (sel : List Nat) (hc : c.C = Den P) (hn : sel.Nodup) (hlt : (sel.all fun b => decide (b < st.bs.length)) = true)
 {args' : List D} {bs0 : List Blk} (h : Den P f args' bs0 r bs') (ha : args.map (D.mapR (inRef sel) (inPtr sel)) = args') (hb : zbf sel st.bs = bs0) (h2 : K (St.put ⟨st.fr, zcc sel st.bs bs'⟩ dst (r.mapR (zog sel st.bs.length) (zoa sel st.bs.length)))) : lendThen c dst f args st K := by
 refine ⟨_, _, ?_, h2⟩
 rw [hc]
 refine qcn sel hn (fun b hb => ?_) (by rw [ha, hb]; exact h)
 simpa using List.all_eq_true.1 hlt b hb
attribute [simp] inRef inPtr zog zoa outNo Blk.mapR
end Go.AM
/- Plain law: stores: an item is put; what a key's item is then; rows of puts. -/
namespace Go.AM

def zfn (a b : Item) : Bool := decide (b.count < a.count) || (decide (a.count = b.count) && (decide (b.writer < a.writer) || (decide (a.writer = b.writer) && ((a.gone && !b.gone) || (a.gone == b.gone && decide (b.value < a.value))))))
def ze6 (a b : Item) : Item := if zfn a b then a else b
theorem zqs {a b : Item} (h : a.key = b.key) : (ze6 a b).key = b.key := by unfold ze6; split <;> simp [h]
theorem zza (a b : Item) : ze6 a b = a ∨ ze6 a b = b := by unfold ze6; split <;> simp
theorem zse (a : Item) : ze6 a a = a := by unfold ze6; split <;> rfl
theorem z01 {a b : Item} (h : zfn a b = true) : zfn b a = false := by
 obtain ⟨_, _, _, _, ag⟩ := a
 obtain ⟨_, _, _, _, bg⟩ := b
 cases ag <;> cases bg <;> simp [zfn] at h ⊢ <;> omega
theorem zxs {a b : Item} (hk : a.key = b.key) (h1 : zfn a b = false) (h2 : zfn b a = false) : a = b := by
 obtain ⟨_, _, _, _, ag⟩ := a
 obtain ⟨_, _, _, _, bg⟩ := b
 cases ag <;> cases bg <;> simp [zfn] at h1 h2 hk ⊢ <;> omega
theorem zsy {a b c : Item} (h1 : zfn a b = true) (h2 : zfn b c = true) : zfn a c = true := by
 obtain ⟨_, _, _, _, ag⟩ := a
 obtain ⟨_, _, _, _, bg⟩ := b
 obtain ⟨_, _, _, _, cg⟩ := c
 cases ag <;> cases bg <;> cases cg <;> simp [zfn] at h1 h2 ⊢ <;> omega
theorem zxo {a b : Item} (hk : a.key = b.key) : ze6 a b = ze6 b a := by
 unfold ze6
 cases h1 : zfn a b with
 | true => rw [z01 h1]; simp
 | false =>
   cases h2 : zfn b a with
   | true => simp
   | false => simp [zxs hk h1 h2]
theorem zvt {a b c : Item} (h1 : a.key = b.key) (h2 : b.key = c.key) : ze6 (ze6 a b) c = ze6 a (ze6 b c) := by
 unfold ze6
 cases e1 : zfn a b with
 | true =>
   cases e2 : zfn b c with
   | true => simp [e1, zsy e1 e2]
   | false => simp
 | false =>
   cases e2 : zfn b c with
   | true => simp [e1, e2]
   | false =>
     simp only [Bool.false_eq_true, if_false, e2]
     cases e3 : zfn a c with
     | false => simp
     | true =>
       exfalso
       cases e4 : zfn c b with
       | true =>
         have := zsy e3 e4
         rw [e1] at this
         cases this
       | false =>
         have := zxs h2 e2 e4
         subst this
         rw [e1] at e3
         cases e3
def joinO : Option Item → Option Item → Option Item
 | none, b => b
 | some a, none => some a
 | some a, some b => some (ze6 a b)

def putS (x : Item) : List Item → List Item
 | [] => [x]
 | a :: is => if x.key < a.key then x :: a :: is else if a.key = x.key then ze6 a x :: is else a :: putS x is
def getS (is : List Item) (k : Int) : Option Item := is.find? fun i => decide (i.key = k)
def zfa : List Item → Prop
 | [] => True
 | [_] => True
 | a :: b :: is => a.key < b.key ∧ zfa (b :: is)
def ztk (k : Int) (is : List Item) : Prop := ∀ i ∈ is, k < i.key

theorem zc9 {a : Item} {is : List Item} : zfa (a :: is) ↔ ztk a.key is ∧ zfa is := by
 induction is generalizing a with
 | nil => simp [zfa, ztk]
 | cons b is ih =>
   simp only [zfa, ih, ztk, List.mem_cons]
   constructor
   ·rintro ⟨h1, h2, h3⟩
    refine ⟨?_, h2, h3⟩
    rintro i (rfl | hi)
    ·exact h1
    ·have := h2 i hi
     omega
   ·rintro ⟨h1, h2, h3⟩
    exact ⟨h1 b (.inl rfl), h2, h3⟩
theorem z43 : ∀ (is : List Item) (q : Option Int), zgy q is = true ↔ (∀ i ∈ is, zba i = true) ∧ zfa is ∧ (∀ k, q = some k → ztk k is) := by
 intro is
 induction is with
 | nil => intro q; simp [zgy, zfa, ztk]
 | cons a is ih =>
   intro q
   simp only [zgy, Bool.and_eq_true, ih, zc9, List.mem_cons, Option.some.injEq]
   constructor
   ·rintro ⟨⟨h1, h2⟩, h3, h4, h5⟩
    refine ⟨?_, ⟨h5 _ rfl, h4⟩, ?_⟩
    ·rintro i (rfl | hi)
     ·exact h1
     ·exact h3 i hi
    ·rintro k rfl i hi
     simp only [decide_eq_true_eq] at h2
     rcases List.mem_cons.1 hi with rfl | hi
     ·exact h2
     ·have := h5 _ rfl i hi
      omega
   ·rintro ⟨h1, ⟨h2, h3⟩, h4⟩
    refine ⟨⟨h1 a (.inl rfl), ?_⟩, fun i hi => h1 i (.inr hi), h3, ?_⟩
    ·cases q with
     | none => rfl
     | some k => simpa using h4 k rfl a (by simp)
    ·rintro k rfl
     exact h2
theorem zca (is : List Item) : zbu is = true ↔ (∀ i ∈ is, zba i = true) ∧ zfa is ∧ is.length ≤ 16 := by
 simp only [zbu, Bool.and_eq_true, decide_eq_true_eq, z43]
 constructor
 ·rintro ⟨⟨h1, h2, _⟩, h3⟩; exact ⟨h1, h2, h3⟩
 ·rintro ⟨h1, h2, h3⟩; exact ⟨⟨h1, h2, by simp⟩, h3⟩

theorem zop {k : Int} {is : List Item} (h : ztk k is) {j : Int} (hj : j ≤ k) : getS is j = none := by
 unfold getS
 rw [List.find?_eq_none]
 intro i hi
 have := h i hi
 simp
 omega
theorem zfu (a : Item) (is : List Item) (k : Int) : getS (a :: is) k = if a.key = k then some a else getS is k := by
 unfold getS
 rw [List.find?_cons]
 by_cases h : a.key = k <;> simp [h]
theorem zq5 {is : List Item} {k : Int} {i : Item} (h : getS is k = some i) : i.key = k ∧ i ∈ is := by
 unfold getS at h
 exact ⟨by simpa using List.find?_some h, List.mem_of_find?_eq_some h⟩
theorem ztu {is : List Item} (hr : zfa is) {i : Item} (hi : i ∈ is) : getS is i.key = some i := by
 induction is with
 | nil => simp at hi
 | cons a is ih =>
   rw [zc9] at hr
   rw [zfu]
   rcases List.mem_cons.1 hi with rfl | hi
   ·simp
   ·have := hr.1 i hi
    rw [if_neg (by omega)]
    exact ih hr.2 hi
theorem qah (x : Item) : ∀ (is : List Item), zfa is → ∀ k, getS (putS x is) k = if k = x.key then joinO (getS is k) (some x) else getS is k := by
 intro is
 induction is with
 | nil =>
   intro _ k
   rw [putS, zfu]
   by_cases h : k = x.key
   ·subst h; simp [getS, joinO]
   ·rw [if_neg (fun e => h e.symm), if_neg h]
 | cons a is ih =>
   intro hr k
   have hr' := hr
   rw [zc9] at hr'
   rw [putS]
   split
   ·rename_i hlt
    rw [zfu]
    by_cases h : k = x.key
    ·subst h
     have : getS (a :: is) x.key = none := zop (k := x.key) (fun i hi => by
      rcases List.mem_cons.1 hi with rfl | hi
      ·exact hlt
      ·have := hr'.1 i hi; omega) (Int.le_refl _)
     simp [this, joinO]
    ·rw [if_neg (fun e => h e.symm), if_neg h]
   ·split
    ·rename_i _ he
     have hbk := zqs he
     rw [zfu, zfu, hbk]
     by_cases h : k = x.key
     ·subst h; simp [he, joinO]
     ·rw [if_neg (fun e => h e.symm), if_neg h, if_neg (fun e => h (by omega))]
    ·rename_i h1 h2
     rw [zfu, zfu, ih hr'.2]
     by_cases h : k = x.key
     ·subst h; simp [h2]
     ·simp [h]
theorem z9y {x : Item} {is : List Item} {k : Int} (h : ztk k is) (hx : k < x.key) : ztk k (putS x is) := by
 induction is with
 | nil => intro i hi; simp [putS] at hi; subst hi; exact hx
 | cons a is ih =>
   intro i hi
   have ha := h a (by simp)
   rw [putS] at hi
   split at hi
   ·rcases List.mem_cons.1 hi with rfl | hi
    ·exact hx
    ·exact h i hi
   ·split at hi
    ·rename_i _ he
     rcases List.mem_cons.1 hi with rfl | hi
     ·rw [zqs he]; exact hx
     ·exact h i (by simp [hi])
    ·rcases List.mem_cons.1 hi with rfl | hi
     ·exact ha
     ·exact ih (fun j hj => h j (by simp [hj])) i hi
theorem z5o {x : Item} {is : List Item} (h : zfa is) : zfa (putS x is) := by
 induction is with
 | nil => simp [putS, zfa]
 | cons a is ih =>
   rw [putS]
   rw [zc9] at h
   split
   ·rename_i hlt
    rw [zc9, zc9]
    refine ⟨?_, h⟩
    intro i hi
    rcases List.mem_cons.1 hi with rfl | hi
    ·exact hlt
    ·have := h.1 i hi; omega
   ·split
    ·rename_i _ he
     rw [zc9, zqs he, ← he]
     exact h
    ·rename_i h1 h2
     rw [zc9]
     exact ⟨z9y h.1 (by omega), ih h.2⟩
theorem z6z {x i : Item} : ∀ {is : List Item}, i ∈ putS x is → i = x ∨ i ∈ is := by
 intro is
 induction is with
 | nil => intro h; simp [putS] at h; exact .inl h
 | cons a is ih =>
   intro h
   rw [putS] at h
   split at h
   ·rcases List.mem_cons.1 h with rfl | h
    ·exact .inl rfl
    ·exact .inr h
   ·split at h
    ·rcases List.mem_cons.1 h with h | h
     ·rcases zza a x with e | e
      ·rw [h, e]; exact .inr (by simp)
      ·rw [h, e]; exact .inl rfl
     ·exact .inr (by simp [h])
    ·rcases List.mem_cons.1 h with rfl | h
     ·exact .inr (by simp)
     ·rcases ih h with h | h
      ·exact .inl h
      ·exact .inr (by simp [h])
theorem zv0 (x : Item) : ∀ (is : List Item), zfa is → (putS x is).length = if (getS is x.key).isSome then is.length else is.length + 1 := by
 intro is
 induction is with
 | nil => intro _; simp [putS, getS]
 | cons a is ih =>
   intro hr
   have hr' := hr
   rw [zc9] at hr'
   rw [putS, zfu]
   split
   ·rename_i hlt
    have : getS is x.key = none := zop hr'.1 (by omega)
    rw [if_neg (show ¬ a.key = x.key by omega), this]
    simp
   ·split
    ·rename_i _ he
     simp [he]
    ·rename_i h1 h2
     rw [List.length_cons, ih hr'.2]
     split <;> simp_all
def putR (is : List Item) (x : Item) : List Item × Int := if zbu is && zba x then (if (putS x is).length ≤ 16 then (putS x is, 0) else ([], 501)) else ([], 500)
theorem z6p {is : List Item} {x : Item} (h : (putR is x).2 = 0) : zbu is = true ∧ zba x = true ∧ putR is x = (putS x is, 0) ∧ zbu (putS x is) = true := by
 unfold putR at h ⊢
 cases h1 : zbu is with
 | false => simp [h1] at h
 | true =>
   cases h2 : zba x with
   | false => simp [h1, h2] at h
   | true =>
     by_cases h3 : (putS x is).length ≤ 16
     ·simp only [h3, Bool.and_self, if_true]
      refine ⟨trivial, trivial, trivial, ?_⟩
      rw [zca] at h1 ⊢
      refine ⟨fun i hi => ?_, z5o h1.2.1, h3⟩
      rcases z6z hi with rfl | hi
      ·exact h2
      ·exact h1.1 i hi
     ·simp [h1, h2, h3] at h
theorem qg8 {is : List Item} {x : Item} (h1 : zbu is = true) (h2 : zba x = true) (h3 : is.length < 16 ∨ (getS is x.key).isSome = true) : putR is x = (putS x is, 0) := by
 have hr := ((zca is).1 h1)
 have : (putS x is).length ≤ 16 := by
  rw [zv0 x is hr.2.1]
  split
  ·exact hr.2.2
  ·rcases h3 with h3 | h3
   ·omega
   ·contradiction
 simp [putR, h1, h2, this]

end Go.AM
