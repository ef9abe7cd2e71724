/- What the proof of this claim stands on, part 7. -/
import Derived.Laws.StructEq
import Derived.Test.YtehagcggdepajaaGreatAmZ6
/- AM: two structs of numbers and bools are held against each other. -/
namespace Go.AM
set_option linter.unusedSimpArgs false
set_option linter.unusedVariables false

def kd : D → Option (Option IntKind)
  | .int k _ => some (some k)
  | .bool _ => some none
  | _ => none
def kdOk (l : List D) : Bool := l.all fun d => (kd d).isSome
def eqB : List D → List D → Bool
  | [], _ => true
  | .int _ a :: as, .int _ b :: bs => a == b && eqB as bs
  | .bool a :: as, .bool b :: bs => a == b && eqB as bs
  | _, _ => false
theorem eqCells_kinds : ∀ (as bs : List D) (z : Bool), eqCells as bs = some z → as.map kd = bs.map kd ∧ kdOk as = true ∧ kdOk bs = true ∧ z = eqB as bs := by
  intro as
  induction as with
  | nil => intro bs z h; cases bs <;> simp [eqCells] at h; subst h; exact ⟨rfl, rfl, rfl, rfl⟩
  | cons a as ih =>
    intro bs z h
    cases bs with
    | nil => simp [eqCells] at h
    | cons b bs =>
      simp only [eqCells] at h
      split at h
      · rename_i x y hx hy
        simp only [Option.some.injEq] at h
        obtain ⟨e1, e2, e3, e4⟩ := ih bs y hy
        cases a <;> cases b <;> simp [eqCell] at hx
        · obtain ⟨hk, rfl⟩ := hx
          subst hk
          subst h
          exact ⟨by simp [kd, e1], by simpa [kdOk, kd] using e2, by simpa [kdOk, kd] using e3, by simp [eqB, e4]⟩
        · subst hx
          subst h
          exact ⟨by simp [kd, e1], by simpa [kdOk, kd] using e2, by simpa [kdOk, kd] using e3, by simp [eqB, e4]⟩
      · cases h
theorem eqB_append : ∀ (a1 b1 a2 b2 : List D), a1.map kd = b1.map kd → kdOk a1 = true → eqB (a1 ++ a2) (b1 ++ b2) = (eqB a1 b1 && eqB a2 b2) := by
  intro a1
  induction a1 with
  | nil => intro b1 a2 b2 h _; cases b1 <;> simp at h; simp [eqB]
  | cons a a1 ih =>
    intro b1 a2 b2 h hk
    cases b1 with
    | nil => simp at h
    | cons b b1 =>
      simp only [List.map_cons, List.cons.injEq] at h
      simp only [kdOk, List.all_cons, Bool.and_eq_true] at hk
      have := ih b1 a2 b2 h.2 (by simpa [kdOk] using hk.2)
      cases a <;> cases b <;> simp [kd] at h hk <;> simp [eqB, this, Bool.and_assoc]

def consec (T : Tab) : Nat → List (Nat × Nat) → Option Nat
  | o, [] => some o
  | o, f :: fs => if f.1 = o then consec T (o + (T f.2).size) fs else none
def eqChk (P : Program) (T : Tab) : Nat → Nat → Bool
  | 0, _ => false
  | n + 1, t => match (T t).d with
    | .int k => decide ((T t).zero.map kd = [some (some k)])
    | .bool => decide ((T t).zero.map kd = [some none])
    | .struct fs => !P.stoodInHeld t && ((P.fieldsOf t).toList.all fun f => f.name != "_") && (fs.all fun f => eqChk P T n f.2 && decide ((T f.2).zero.length = (T f.2).size)) &&
        decide (consec T 0 fs = some (T t).size) && decide ((T t).zero.map kd = fs.flatMap fun f => (T f.2).zero.map kd)
    | _ => false

def mkV (agg : Bool) (as : List D) : Value := if agg then .agg (as.map outV).toArray else (match as with | [a] => outV a | _ => Go.undef)

section
variable {P : Program} {T : Tab} {eqs : List Nat} (hT : TabOk P T eqs)
theorem eqChk_known {n t : Nat} (h : eqChk P T n t = true) : (T t).d.known = true := by
  cases n with
  | zero => cases h
  | succ n =>
    unfold eqChk at h
    revert h
    cases (T t).d <;> intro h <;> first | rfl | cases h

theorem map_kd_len {as bs : List D} (h : as.map kd = bs.map kd) : as.length = bs.length := by simpa using congrArg List.length h
include hT in
theorem eqPart_run (w : World) {t : Nat} (hk : (T t).d.known = true) (l1 l2 l3 : List D) (hl : l2.length = (T t).size) (hz : (T t).d.agg = false → l2.length = 1) :
    (part t ((l1 ++ (l2 ++ l3)).map outV).toArray l1.length).run P w = .ok (mkV (T t).d.agg l2) w := by
  unfold part
  simp only [Sem.run_bind, isAgg_run hT hk, Result.andThen_ok]
  cases ha : (T t).d.agg with
  | true =>
    simp only [if_true, sizeOf_run hT hk, Sem.run_bind, Result.andThen_ok, Sem.run_pure, mkV]
    congr 2
    simp [← hl, List.extract_eq_take_drop]
  | false =>
    have h1 := hz ha
    match l2, h1 with
    | [a], _ => simp [mkV]

include hT in
theorem eqIn_sound : ∀ (n t : Nat), eqChk P T n t = true → ∀ (d : Nat), n ≤ d → ∀ (as bs : List D) (w : World), as.map kd = (T t).zero.map kd → bs.map kd = (T t).zero.map kd → kdOk as = true →
    (Op.equalIn d t (mkV (T t).d.agg as) (mkV (T t).d.agg bs)).run P w = .ok (eqB as bs) w := by
  intro n
  induction n with
  | zero => intro t h; cases h
  | succ n ih =>
    intro t h d hd as bs w ha hb hok
    obtain ⟨d, rfl⟩ : ∃ m, d = m + 1 := ⟨d - 1, by omega⟩
    have hkn := eqChk_known h
    obtain ⟨de, hde, hdo⟩ := und_run hT hkn
    unfold eqChk at h
    cases hd' : (T t).d with
    | int k =>
      rw [hd'] at h hdo
      simp only [decide_eq_true_eq] at h
      rw [h] at ha hb
      match as, bs, ha, hb with
      | [.int _ a], [.int _ b], ha, hb =>
        simp [kd] at ha hb
        subst ha hb
        cases de <;> simp [descOk] at hdo
        simp only [mkV, TD.agg, outV, eqB, Bool.false_eq_true, if_false]
        rw [run_equalIn_int w d t _ _ a b hde]
        simp
    | bool =>
      rw [hd'] at h hdo
      simp only [decide_eq_true_eq] at h
      rw [h] at ha hb
      match as, bs, ha, hb with
      | [.bool a], [.bool b], ha, hb =>
        cases de <;> simp [descOk] at hdo
        simp only [mkV, TD.agg, outV, eqB, Bool.false_eq_true, if_false]
        rw [run_equalIn_bool' w d t a b hde]
        simp
    | struct fs =>
      rw [hd'] at h
      simp only [Bool.and_eq_true, Bool.not_eq_true', decide_eq_true_eq] at h
      obtain ⟨⟨⟨⟨hst, hnm⟩, hfs⟩, hcon⟩, hz⟩ := h
      rw [hz] at ha hb
      have hsz : as.length = bs.length := by
        have := congrArg List.length (ha.trans hb.symm)
        simpa using this
      have hunder : P.underlying t = some (.struct (P.fieldsOf t)) ∧ (P.fieldsOf t).toList.map (fun f => (f.offset, f.type)) = fs := by
        rw [hd'] at hdo
        cases de <;> simp [descOk] at hdo
        unfold Program.fieldsOf
        simp only [hde]
        exact ⟨trivial, hdo⟩
      simp only [mkV, TD.agg, if_true]
      rw [run_equalIn_struct w d t _ _ hunder.1 hst]
      have hmap := hunder.2
      clear hunder hd' hz hde hdo
      have key : ∀ (fields : List Field) (fs : List (Nat × Nat)) (l1 k1 ra rb : List D), l1.length = k1.length → fields.map (fun f => (f.offset, f.type)) = fs → (fields.all fun f => f.name != "_") = true →
          (fs.all fun f => eqChk P T n f.2 && decide ((T f.2).zero.length = (T f.2).size)) = true → consec T l1.length fs = some (T t).size → ra.map kd = (fs.flatMap fun f => (T f.2).zero.map kd) → rb.map kd = (fs.flatMap fun f => (T f.2).zero.map kd) → kdOk ra = true →
          (Op.eqFields d ((l1 ++ ra).map outV).toArray ((k1 ++ rb).map outV).toArray fields).run P w = .ok (eqB ra rb) w := by
        intro fields
        induction fields with
        | nil =>
          intro fs l1 k1 ra rb hlk hm _ _ _ hra hrb _
          subst hm
          simp at hra hrb
          subst hra hrb
          simp [Op.eqFields, eqB]
        | cons f fields ihf =>
          intro fs l1 k1 ra rb hlk hm hnm hfs hcon hra hrb hkok
          subst hm
          simp only [List.map_cons, List.all_cons, Bool.and_eq_true, decide_eq_true_eq] at hnm hfs
          obtain ⟨hn1, hn2⟩ := hnm
          obtain ⟨⟨hc1, hc2⟩, hc3⟩ := hfs
          simp only [List.map_cons, consec] at hcon
          split at hcon
          · rename_i ho
            simp only [List.map_cons, List.flatMap_cons] at hra hrb
            have hla : (ra.take (T f.type).size).map kd = (T f.type).zero.map kd ∧ (ra.drop (T f.type).size).map kd = ((fields.map fun f => (f.offset, f.type)).flatMap fun f => (T f.2).zero.map kd) := by
              rw [List.map_take, List.map_drop, hra]
              exact ⟨by rw [List.take_append_of_le_length (by simp; omega), List.take_of_length_le (by simp; omega)], by rw [List.drop_append_of_le_length (by simp; omega), List.drop_of_length_le (by simp; omega), List.nil_append]⟩
            have hlb : (rb.take (T f.type).size).map kd = (T f.type).zero.map kd ∧ (rb.drop (T f.type).size).map kd = ((fields.map fun f => (f.offset, f.type)).flatMap fun f => (T f.2).zero.map kd) := by
              rw [List.map_take, List.map_drop, hrb]
              exact ⟨by rw [List.take_append_of_le_length (by simp; omega), List.take_of_length_le (by simp; omega)], by rw [List.drop_append_of_le_length (by simp; omega), List.drop_of_length_le (by simp; omega), List.nil_append]⟩
            have era : ra = ra.take (T f.type).size ++ ra.drop (T f.type).size := (List.take_append_drop _ _).symm
            have erb : rb = rb.take (T f.type).size ++ rb.drop (T f.type).size := (List.take_append_drop _ _).symm
            generalize ra.take (T f.type).size = a1 at *
            generalize ra.drop (T f.type).size = a2 at *
            generalize rb.take (T f.type).size = b1 at *
            generalize rb.drop (T f.type).size = b2 at *
            subst era erb
            have hkn := eqChk_known hc1
            have l1a : a1.length = (T f.type).size := by rw [map_kd_len hla.1, hc2]
            have l1b : b1.length = (T f.type).size := by rw [map_kd_len hlb.1, hc2]
            have hone : (T f.type).d.agg = false → (T f.type).size = 1 := by
              intro hag
              have := hc1
              cases n with
              | zero => cases this
              | succ n =>
                unfold eqChk at this
                rw [← hc2]
                revert this hag
                cases (T f.type).d <;> intro hag this <;> first | (cases this; done) | (cases hag; done) | (have h := of_decide_eq_true this; simpa using congrArg List.length h)
            have hka : kdOk a1 = true ∧ kdOk a2 = true := by simpa [kdOk] using hkok
            have hnm : f.name ≠ "_" := by simpa using hn1
            have ho' : f.offset = l1.length := ho
            have pa := eqPart_run hT w hkn l1 a1 a2 l1a (fun h => by rw [l1a, hone h])
            have pb := eqPart_run hT w hkn k1 b1 b2 l1b (fun h => by rw [l1b, hone h])
            have he := ih f.type hc1 d (by omega) a1 b1 w hla.1 hlb.1 hka.1
            simp only [Op.eqFields, if_pos hnm, Sem.run_bind, ho', pa, Result.andThen_ok]
            rw [hlk] 
            simp only [pb, Result.andThen_ok, he]
            rw [eqB_append _ _ _ _ (hla.1.trans hlb.1.symm) hka.1]
            cases hx : eqB a1 b1 with
            | false => simp
            | true =>
              simp only [Bool.not_true, Bool.false_eq_true, if_false, Bool.true_and]
              have := ihf _ (l1 ++ a1) (k1 ++ b1) a2 b2 (by simp [hlk, l1a, l1b]) rfl hn2 (by simpa using hc3) (by simpa [l1a] using hcon) hla.2 hlb.2 hka.2
              simpa [List.append_assoc] using this
          · cases hcon
      exact key _ fs [] [] as bs rfl hmap hnm hfs hcon ha hb hok
    | slice => rw [hd'] at h; cases h
    | arr => rw [hd'] at h; cases h
    | ptr => rw [hd'] at h; cases h
    | fn => rw [hd'] at h; cases h
    | other => rw [hd'] at h; cases h

theorem kind_outV {w : World} {M : Foot} {ρ : Nat → Loc} {v : Value} {d : D} (h : Rep w M ρ v d) (hk : (kd d).isSome = true) : v = outV d := by
  cases d <;> simp [kd] at hk
  · exact h.int_inv
  · exact h.bool_inv
theorem kinds_outV {w : World} {M : Foot} {ρ : Nat → Loc} {xs : Array Value} {as : List D} (hs : xs.size = as.length) (h : ∀ (i : Nat) (v : Value) (d : D), xs[i]? = some v → as[i]? = some d → Rep w M ρ v d) (hk : kdOk as = true) : xs = (as.map outV).toArray := by
  apply Array.ext
  · simp [hs]
  · intro i h1 h2
    have := h i xs[i] (as[i]'(by omega)) (by simp [h1]) (by simp)
    simp only [kdOk, List.all_eq_true] at hk
    simpa using kind_outV this (hk _ (List.getElem_mem _))

include hT in
theorem eqOk_of {t : Nat} (n : Nat) (hn : n ≤ 10000) (hg : P.eqGuardType P.depth t = false) (hc : eqChk P T n t = true) (ha : (T t).d.agg = true) (hz : (T t).zero.length = (T t).size) : EqOk P T t := by
  refine ⟨hg, ?_⟩
  intro w M ρ xs ys as bs z x hxs hys hl hxr hyr hzz hx
  obtain ⟨h1, h2, h3, _⟩ := eqCells_kinds _ _ _ hzz
  obtain ⟨h4, _, h5, h6⟩ := eqCells_kinds _ _ _ hx
  rw [kinds_outV hxs hxr h3, kinds_outV hys hyr h5, h6]
  have := eqIn_sound hT n t hc Op.maxDepth (by unfold Op.maxDepth; exact hn) as bs w h1.symm (h4.symm.trans h1.symm) h3
  simp only [mkV, ha, if_true] at this
  exact this
end
end Go.AM
/- AM: a loop by its rounds: what holds at each round's begin, what holds where it is left. -/
namespace Go.AM
set_option linter.unusedSimpArgs false
set_option linter.unusedVariables false

section
variable {c : Cfg} {K K' : St → Prop} (hK : ∀ st, K st → K' st)
include hK
theorem outK_mono {st : St} {dst : Option Nat} {x : Option Out} (h : outK st dst x K) : outK st dst x K' := by
  unfold outK at h ⊢
  split at h
  · exact ⟨h.1, hK _ h.2⟩
  · exact h
theorem optK_mono {x : Option St} (h : optK x K) : optK x K' := by
  unfold optK at h ⊢
  split at h
  · exact hK _ h
  · exact h
theorem lendCall_mono {st : St} {dst : Option Nat} {f : D} {args : List D} (h : lendCall c dst f args st K) : lendCall c dst f args st K' := by
  unfold lendCall at h ⊢
  split at h
  · obtain ⟨r, bs', h1, h2⟩ := h
    exact ⟨r, bs', h1, hK _ h2⟩
  · exact h
theorem barV_mono {st : St} {dst : Option Nat} {f : Operand} {args : Array Operand} (h : barV c dst f args st K) : barV c dst f args st K' := by
  unfold barV at h ⊢
  split at h
  · rename_i hov; rw [if_pos hov]; exact ⟨h.1, hK _ h.2⟩
  rename_i hov
  rw [if_neg hov]
  split at h
  · rename_i hgv
    rw [if_pos hgv]
    unfold giveCall at h ⊢
    split at h
    · obtain ⟨k, R, h1, h2, h3, h4, h5, h6, h7⟩ := h
      exact ⟨k, R, h1, h2, h3, h4, h5, h6, hK _ h7⟩
    · cases h
  rename_i hgv
  rw [if_neg hgv]
  exact lendCall_mono hK h
theorem overK_mono {dst : Option Nat} {d : D} {x : Option St} (h : overK dst d x K) : overK dst d x K' := by
  unfold overK at h ⊢
  split at h
  · exact hK _ h
  · exact h
theorem callV_mono {st : St} {dst : Option Nat} {f : D} {args : List D} (h : callV c dst f args st K) : callV c dst f args st K' := by
  unfold callV at h ⊢
  split at h
  · obtain ⟨r, nbs, h1, h2, h3, h4⟩ := h
    exact ⟨r, nbs, h1, h2, h3, hK _ h4⟩
  · exact h
theorem appT_mono {st : St} {dst : Option Nat} {t0 t1 : TD} {s x : D} (h : appT c dst t0 t1 s x st K) : appT c dst t0 t1 s x st K' := by
  unfold appT at h ⊢
  split at h
  · unfold appK at h ⊢
    split at h
    · refine ⟨h.1, ?_⟩
      have h2 := h.2
      unfold appK2 at h2 ⊢
      split at h2
      · exact hK _ h2
      · exact h2
    · exact h
  · exact h
theorem vOther_mono {o : Oper} {st : St} (h : vOther c o st K) : vOther c o st K' := by
  obtain ⟨dst, op, ty, pos, after, guard⟩ := o
  unfold vOther at h ⊢
  simp only at h ⊢
  split at h
  · rename_i f args tys
    split at h
    · rename_i hl; rw [if_pos hl]; exact barV_mono hK h
    · rename_i hl; rw [if_neg hl]; exact callV_mono hK h
  · split at h
    · rename_i h1 h2
      exact appT_mono hK h
    · cases h
  · split at h
    · unfold copyT at h ⊢
      split at h
      · unfold copyK at h ⊢
        split at h
        · exact ⟨h.1, h.2.1, overK_mono hK h.2.2⟩
        · exact h
      · exact h
    · cases h
  · split at h
    · unfold clearT at h ⊢
      split at h
      · exact ⟨h.1, overK_mono hK h.2⟩
      · exact h
    · cases h
  · cases h
  · exact optK_mono (fun st h => hK _ h) h
  · exact outK_mono hK h
theorem vOp_mono {o : Oper} {st : St} (h : vOp c o st K) : vOp c o st K' := by
  unfold vOp at h ⊢
  split at h
  · exact hK _ h
  · exact vOther_mono hK h
theorem sOps_mono : ∀ (l : List SO) (st : St), sOps c l st K → sOps c l st K' := by
  intro l
  induction l with
  | nil => intro st h; exact hK _ h
  | cons o l ih =>
    intro st h
    unfold sOps at h ⊢
    split at h
    · exact vOp_mono (fun st' h' => ih st' h') h
    · split at h
      · split at h
        · rename_i hw; rw [if_pos hw]; exact vOp_mono (fun st' h' => ih st' h') h
        · rename_i hw; rw [if_neg hw]; exact ih _ h
      · exact ih _ h
      · exact h
end

theorem sAlts_mono {c : Cfg} {K K' : St → Prop} (hK : ∀ st, K st → K' st) : ∀ (ls : List (List SO)) (st : St), sAlts c ls st K → sAlts c ls st K' := by
  intro ls
  induction ls with
  | nil => intro st h; trivial
  | cons l ls ih => intro st h; exact ⟨sOps_mono hK l st h.1, ih st h.2⟩
theorem sCode_mono {c : Cfg} : ∀ (x : SC) (st : St) (Q Q' : Ex → St → Prop), (∀ e st, Q e st → Q' e st) → sCode c x st Q → sCode c x st Q' := by
  intro x
  induction x with
  | skip => intro st Q Q' hQ h; exact hQ _ _ h
  | ops l => intro st Q Q' hQ h; exact sOps_mono (fun st h => hQ _ st h) l st h
  | alts ls => intro st Q Q' hQ h; exact sAlts_mono (fun st h => hQ _ st h) ls st h
  | seq x y ihx ihy =>
    intro st Q Q' hQ h
    refine ihx _ _ _ ?_ h
    intro e st' h'
    cases e with
    | normal => exact ihy _ _ _ hQ h'
    | exit i => exact hQ _ _ h'
    | ret => exact hQ _ _ h'
  | cond t x y ihx ihy =>
    intro st Q Q' hQ h
    simp only [sCode] at h ⊢
    split at h
    · split at h
      · rename_i hb; rw [if_pos hb]; exact ihx _ _ _ hQ h
      · rename_i hb; rw [if_neg hb]; exact ihy _ _ _ hQ h
    · exact h
  | block id x ih =>
    intro st Q Q' hQ h
    refine ih _ _ _ ?_ h
    intro e st' h'
    cases e with
    | normal => exact hQ _ _ h'
    | exit i =>
      simp only [blockQ] at h' ⊢
      split at h'
      · rename_i hi; rw [if_pos hi]; exact hQ _ _ h'
      · rename_i hi; rw [if_neg hi]; exact hQ _ _ h'
    | ret => exact hQ _ _ h'
  | loop x ih =>
    intro st Q Q' hQ h
    obtain ⟨n, h⟩ := h
    exact ⟨n, xRounds_mono (b := fun st K => sCode c x st K) (b' := fun st K => sCode c x st K) (fun st R R' hR h => ih st R R' hR h) (fun e st h => hQ e st h) n st h⟩
  | exit id => intro st Q Q' hQ h; exact hQ _ _ h
  | ret => intro st Q Q' hQ h; exact hQ _ _ h

theorem sLoop_body {c : Cfg} {k n : Nat} {x y : SC} {st : St} {Q : Ex → St → Prop} (h : x = y) (h2 : sCode c y st (seqQ (loopK c k x Q n) Q)) : sLoop c k x Q (n + 1) st := by
  subst h
  rw [sLoop_succ]
  refine sCode_mono _ _ _ _ ?_ h2
  intro e st' h'
  cases e with
  | normal => exact .inl h'
  | exit i => exact h'
  | ret => exact h'

def roundQ (go : St → Prop) (id : Nat) (N R : St → Prop) : Ex → St → Prop
  | .normal, st => go st
  | .exit i, st => if i = id then N st else False
  | .ret, st => R st
@[simp] theorem roundQ_normal (go : St → Prop) (id : Nat) (N R : St → Prop) (st : St) : roundQ go id N R .normal st = go st := rfl
@[simp] theorem roundQ_normal' (go : St → Prop) (id : Nat) (N R : St → Prop) : roundQ go id N R .normal = go := rfl
@[simp] theorem roundQ_exit (go : St → Prop) (id i : Nat) (N R : St → Prop) (st : St) : roundQ go id N R (.exit i) st = if i = id then N st else False := rfl
@[simp] theorem roundQ_ret (go : St → Prop) (id : Nat) (N R : St → Prop) (st : St) : roundQ go id N R .ret st = R st := rfl
def onK (P : St → Prop) (k : Nat) : St → Prop := fun st => P (trunc k st)
@[simp] theorem onK_at (P : St → Prop) (k : Nat) (st : St) : onK P k st = P (trunc k st) := rfl

theorem loop_rule {c : Cfg} {k id : Nat} {x y : SC} {Q : Ex → St → Prop} {st : St} (n : Nat) (P : Nat → St → Prop) (N R : St → Prop) (hx : x = y)
    (h0 : P n st) (hlast : ∀ st, P 0 st → sCode c y st (roundQ (fun _ => False) id N R)) (hstep : ∀ m st, P (m + 1) st → sCode c y st (roundQ (onK (P m) k) id N R))
    (hN : ∀ st, N st → Q .normal st) (hR : ∀ st, R st → Q .ret st) : anyLoop c k x (blockQ id Q) st := by
  subst hx
  have key : ∀ n st, P n st → sLoop c k x (blockQ id Q) (n + 1) st := by
    intro n
    induction n with
    | zero =>
      intro st h
      rw [sLoop_succ]
      refine sCode_mono _ _ _ _ ?_ (hlast st h)
      intro e st' h'
      cases e with
      | normal => exact h'.elim
      | exit i =>
        simp only [roundQ] at h'
        split at h'
        · rename_i hi; subst hi; simpa [seqQ, blockQ] using hN _ h'
        · exact h'.elim
      | ret => exact hR _ h'
    | succ n ih =>
      intro st h
      rw [sLoop_succ]
      refine sCode_mono _ _ _ _ ?_ (hstep n st h)
      intro e st' h'
      cases e with
      | normal => exact .inl (ih _ h')
      | exit i =>
        simp only [roundQ] at h'
        split at h'
        · rename_i hi; subst hi; simpa [seqQ, blockQ] using hN _ h'
        · exact h'.elim
      | ret => exact hR _ h'
  exact ⟨n + 1, key n st h0⟩

theorem list_rule {α : Type} {c : Cfg} {k id : Nat} {x y : SC} {Q : Ex → St → Prop} {st : St} (l : List α) (P : Nat → List α → St → Prop) (N R : St → Prop) (hx : x = y)
    (h0 : P 0 l st) (hlast : ∀ i st, i = l.length → P i [] st → sCode c y st (roundQ (fun _ => False) id N R))
    (hstep : ∀ i a rest st, i < l.length → l[i]? = some a → (∀ h : i < l.length, l[i] = a) → l.drop i = a :: rest → l.drop (i + 1) = rest → P i (a :: rest) st → sCode c y st (roundQ (onK (P (i + 1) rest) k) id N R))
    (hN : ∀ st, N st → Q .normal st) (hR : ∀ st, R st → Q .ret st) : anyLoop c k x (blockQ id Q) st := by
  refine loop_rule l.length (fun m st => m ≤ l.length ∧ P (l.length - m) (l.drop (l.length - m)) st) N R hx ?_ ?_ ?_ hN hR
  · simpa using h0
  · intro st h
    simp only [Nat.sub_zero, List.drop_length] at h
    exact hlast _ st rfl h.2
  · intro m st ⟨hm, h⟩
    have hlt : l.length - (m + 1) < l.length := by omega
    have hd := List.drop_eq_getElem_cons hlt
    have e : l.length - (m + 1) + 1 = l.length - m := by omega
    rw [hd] at h
    have := hstep _ _ _ st hlt (by simp [hlt]) (fun _ => rfl) hd rfl h
    rw [e] at this
    refine sCode_mono _ _ _ _ ?_ this
    intro ex st' h'
    cases ex with
    | normal => exact ⟨by omega, h'⟩
    | exit i => exact h'
    | ret => exact h'

section
variable {c : Cfg} {p : Prop} [Decidable p]
theorem appK2_if {dst : Option Nat} {a b : Option (D × St)} {K : St → Prop} (hp : p) (h : appK2 dst a K) : appK2 dst (if p then a else b) K := by rw [if_pos hp]; exact h
theorem pureV_if {a b : Option D} {o : SO} {st : St} {K : St → Prop} (hp : p) (h : pureV c a o st K) : pureV c (if p then a else b) o st K := by rw [if_pos hp]; exact h
end
section
variable {c : Cfg} {a b : Bool} {o : SO} {l : List SO} {st : St} {K : St → Prop} {x y : SC} {Q : Ex → St → Prop}
theorem gOps_and (h1 : a = true → gOps c b o l st K) (h2 : a = false → gOps c false o l st K) : gOps c (a && b) o l st K := by
  cases a
  · exact h2 rfl
  · exact h1 rfl
theorem gOps_or (h1 : a = true → gOps c true o l st K) (h2 : a = false → gOps c b o l st K) : gOps c (a || b) o l st K := by
  cases a
  · exact h2 rfl
  · exact h1 rfl
theorem condC_and (h1 : a = true → condC c b x y st Q) (h2 : a = false → condC c false x y st Q) : condC c (a && b) x y st Q := by
  cases a
  · exact h2 rfl
  · exact h1 rfl
theorem condC_or (h1 : a = true → condC c true x y st Q) (h2 : a = false → condC c b x y st Q) : condC c (a || b) x y st Q := by
  cases a
  · exact h2 rfl
  · exact h1 rfl
end
end Go.AM
/- AM: a nil slice is an empty one: contracts that speak of empty slices serve for nil, too. -/
namespace Go.AM
set_option linter.unusedSimpArgs false
set_option linter.unusedVariables false
mutual
def D.nrm : D → D
  | .nil => .sl [] 0
  | .zs _ => .sl [] 0
  | .sl rows len => .sl (nrmLL rows) len
  | .mem cs => .mem (nrmL cs)
  | .agg cs => .agg (nrmL cs)
  | .tup vs => .tup (nrmL vs)
  | .fn f a c => .fn f (nrmL a) (nrmL c)
  | .undef => .undef
  | .int k n => .int k n
  | .bool b => .bool b
  | .ref b o l => .ref b o l
  | .ptr b i j => .ptr b i j
def nrmL : List D → List D
  | [] => []
  | d :: ds => d.nrm :: nrmL ds
def nrmLL : List (List D) → List (List D)
  | [] => []
  | r :: rs => nrmL r :: nrmLL rs
end
theorem nrmL_eq : ∀ l : List D, nrmL l = l.map D.nrm
  | [] => rfl
  | d :: ds => by simp [nrmL, nrmL_eq ds]
theorem nrmLL_eq : ∀ l : List (List D), nrmLL l = l.map (List.map D.nrm)
  | [] => rfl
  | d :: ds => by simp [nrmLL, nrmL_eq, nrmLL_eq ds]
theorem RepI.nrm {w : World} {M : Foot} {v : Value} {d : D} (h : RepI w M v d) : RepI w M v d.nrm := by
  induction h with
  | undef v => exact .undef v
  | int k n => exact .int k n
  | bool b => exact .bool b
  | nil a => exact .sl a 0 0 [] 0 0 0 (fun _ _ => Go.undef) (by simp) (by simp) (by simp) (by simp) (fun i j h => (by simp at h)) (fun i j r d h => (by simp at h))
  | zs a cap => exact .sl a 0 cap [] 0 0 0 (fun _ _ => Go.undef) (by simp) (by simp) (by simp) (by simp) (fun i j h => (by simp at h)) (fun i j r d h => (by simp at h))
  | sl a len cap rows esz g off vals h1 h2 hr ha hc _ ih =>
    simp only [D.nrm, nrmLL_eq]
    refine .sl a len cap _ esz g off vals (by simpa using h1) (by simpa using h2) ?_ (fun h => ha (by simpa using h)) (fun i j hi hj => hc i j (by simpa using hi) hj) ?_
    · intro r hr'
      obtain ⟨r0, h0, rfl⟩ := List.mem_map.1 hr'
      simpa using hr r0 h0
    · intro i j r d h h'
      rw [List.getElem?_map] at h
      cases hx : rows[i]? with
      | none => simp [hx] at h
      | some r0 =>
        simp [hx] at h
        subst h
        rw [List.getElem?_map] at h'
        cases hy : r0[j]? with
        | none => simp [hy] at h'
        | some d0 => simp [hy] at h'; subst h'; exact ih i j r0 d0 hx hy
  | mem g off cs vals hc _ ih =>
    simp only [D.nrm, nrmL_eq]
    refine .mem g off _ vals (fun j hj => hc j (by simpa using hj)) fun j d h => ?_
    rw [List.getElem?_map] at h
    cases hx : cs[j]? with
    | none => simp [hx] at h
    | some d0 => simp [hx] at h; subst h; exact ih j d0 hx
theorem Rep.nrm {w : World} {M : Foot} {ρ : Nat → Loc} {v : Value} {d : D} (h : Rep w M ρ v d) : Rep w M ρ v d.nrm := by
  have lift : ∀ (vs : Array Value) (cs : List D), (∀ (i : Nat) (v : Value) (d : D), vs[i]? = some v → cs[i]? = some d → Rep w M ρ v d.nrm) →
      ∀ (i : Nat) (v : Value) (d : D), vs[i]? = some v → (cs.map D.nrm)[i]? = some d → Rep w M ρ v d := by
    intro vs cs h i v d hv hd
    rw [List.getElem?_map] at hd
    cases hc : cs[i]? with
    | none => simp [hc] at hd
    | some d0 => simp [hc] at hd; subst hd; exact h i v d0 hv hc
  induction h with
  | imm v d h => exact .imm _ _ h.nrm
  | ref b off len cap g base n rl esz hρ h1 h2 h3 => exact .ref b off len cap g base n rl esz hρ h1 h2 h3
  | refV b a hρ => exact .refV b a hρ
  | ptr b i j g base n rl esz hρ => exact .ptr b i j g base n rl esz hρ
  | agg vs cs hs _ ih => simp only [D.nrm, nrmL_eq]; exact .agg vs _ (by simpa using hs) (lift _ _ ih)
  | tup vs cs hs _ ih => simp only [D.nrm, nrmL_eq]; exact .tup vs _ (by simpa using hs) (lift _ _ ih)
  | fn f va vc a c ha hc _ _ ih1 ih2 => simp only [D.nrm, nrmL_eq]; exact .fn f va vc _ _ (by simpa using ha) (by simpa using hc) (lift _ _ ih1) (lift _ _ ih2)
theorem den_nrm {P : Program} {f : Nat} {args : List D} {bs : List Blk} {r : D} {bs' : List Blk} (h : Den P f (args.map D.nrm) bs r bs') : Den P f args bs r bs' := by
  refine ⟨h.1, fun w M0 ρ vals hM hS hs ha => h.2 w M0 ρ vals hM hS (by simpa using hs) ?_⟩
  intro i v d hv hd
  rw [List.getElem?_map] at hd
  cases hc : args[i]? with
  | none => simp [hc] at hd
  | some d0 => simp [hc] at hd; subst hd; exact (ha i v d0 hv hc).nrm
theorem Rep.zs_cases {w : World} {M : Foot} {ρ : Nat → Loc} {v : Value} (h : Rep w M ρ v (.sl [] 0)) : Rep w M ρ v (.zs true) ∨ Rep w M ρ v (.zs false) := by
  have hi := h.sl_inv
  cases hi with
  | sl a _ cap _ esz g off vals h1 h2 hr ha hc hv =>
    cases a with
    | none => exact .inl (.imm _ _ (.zs none cap))
    | some a => exact .inr (.imm _ _ (.zs (some a) cap))
theorem den_zs {P : Program} {f : Nat} {pre post : List D} {bs : List Blk} {r : D} {bs' : List Blk} (h1 : Den P f (pre ++ .zs true :: post) bs r bs') (h2 : Den P f (pre ++ .zs false :: post) bs r bs') :
    Den P f (pre ++ .sl [] 0 :: post) bs r bs' := by
  refine ⟨h1.1, fun w M0 ρ vals hM hS hs ha => ?_⟩
  have hl : pre.length < vals.size := by rw [hs]; simp
  have hz := ha pre.length vals[pre.length] (.sl [] 0) (by simp [hl]) (by simp)
  have key : ∀ z, Rep w (Mof M0 ρ bs) ρ vals[pre.length] z → ∀ (i : Nat) (v : Value) (d : D), vals[i]? = some v → (pre ++ z :: post)[i]? = some d → Rep w (Mof M0 ρ bs) ρ v d := by
    intro z hz i v d hv hd
    by_cases hi : i = pre.length
    · subst hi
      simp at hd
      subst hd
      rw [Array.getElem?_eq_getElem hl] at hv
      cases hv
      exact hz
    · refine ha i v d hv ?_
      rw [← hd]
      rcases Nat.lt_or_gt_of_ne hi with h | h
      · rw [List.getElem?_append_left h, List.getElem?_append_left h]
      · rw [List.getElem?_append_right (by omega), List.getElem?_append_right (by omega)]
        obtain ⟨m, hm⟩ : ∃ m, i - pre.length = m + 1 := ⟨i - pre.length - 1, by omega⟩
        rw [hm]
        rfl
  rcases hz.zs_cases with h | h
  · exact h1.2 w M0 ρ vals hM hS (by rw [hs]; simp) (key _ h)
  · exact h2.2 w M0 ρ vals hM hS (by rw [hs]; simp) (key _ h)
attribute [simp] D.nrm nrmL nrmLL
@[simp] theorem nrmLL_row (ps : List Peer) : nrmLL (ps.map Peer.row) = ps.map Peer.row := by rw [nrmLL_eq, List.map_map]; rfl
@[simp] theorem nrmLL_irow (xs : List Int) : nrmLL (xs.map irow) = xs.map irow := by rw [nrmLL_eq, List.map_map]; rfl
@[simp] theorem len_succ_ne (n : Nat) : ((n : Int) + 1 = 0) = False := by apply eq_false; omega
@[simp] theorem take_map_len {α β : Type} (f : α → β) (l : List α) : (l.map f).take l.length = l.map f := List.take_of_length_le (by simp)
@[simp] theorem fits_row (ps : List Peer) : Fits 2 (ps.map Peer.row) = True := by
  apply eq_true
  intro r hr
  obtain ⟨p, _, rfl⟩ := List.mem_map.1 hr
  exact ⟨rfl, rfl⟩
@[simp] theorem fits_irow (ps : List Int) : Fits 1 (ps.map irow) = True := by
  apply eq_true
  intro r hr
  obtain ⟨p, _, rfl⟩ := List.mem_map.1 hr
  exact ⟨rfl, rfl⟩
attribute [simp] List.idxOf_cons
@[simp] theorem ite_dbool (p : Prop) [Decidable p] (a b : Bool) : (if p then D.bool a else D.bool b) = D.bool (if p then a else b) := by split <;> rfl
@[simp] theorem int_beq (a b : Int) : (a == b) = decide (a = b) := rfl
@[simp] theorem int_bne (a b : Int) : (a != b) = !decide (a = b) := rfl
attribute [simp] binAgg eqCells eqCell
@[simp] theorem peer_eq (a b : Peer) : (decide (a.id = b.id) && (decide (a.missed = b.missed) && true)) = decide (a = b) := by
  obtain ⟨x, y⟩ := a
  obtain ⟨z, w⟩ := b
  rw [Bool.eq_iff_iff]
  simp
theorem and_mask (a : Int) (k m : Nat) (hm : m + 1 = 2 ^ k) (hk : k ≤ 32) : IntKind.wrap .i64 (((BitVec.ofInt 64 a &&& BitVec.ofNat 64 m).toNat : Nat) : Int) = a % (2 ^ k : Nat) := by
  have h1 : m < 2 ^ 64 := by
    have : 2 ^ k ≤ 2 ^ 32 := Nat.pow_le_pow_right (by omega) hk
    omega
  rw [BitVec.toNat_and, BitVec.toNat_ofInt, BitVec.toNat_ofNat, Nat.mod_eq_of_lt h1, show m = 2 ^ k - 1 by omega, Nat.and_two_pow_sub_one_eq_mod]
  have h2 : ((2 ^ 64 : Nat) : Int) = (2 ^ k : Nat) * ((2 ^ (64 - k) : Nat) : Int) := by
    rw [← Int.natCast_mul, ← Nat.pow_add]
    congr 2
    omega
  have h3 : (((a % ((2 ^ 64 : Nat) : Int)).toNat % 2 ^ k : Nat) : Int) = a % (2 ^ k : Nat) := by
    rw [Int.natCast_emod, Int.toNat_of_nonneg (Int.emod_nonneg _ (by decide)), Int.emod_emod_of_dvd]
    exact ⟨_, h2⟩
  rw [h3]
  have h4 : (0 : Int) < (2 ^ k : Nat) := by exact_mod_cast Nat.two_pow_pos k
  have h5 := Int.emod_nonneg a (show ((2 ^ k : Nat) : Int) ≠ 0 by omega)
  have h6 := Int.emod_lt_of_pos a h4
  have h7 : ((2 ^ k : Nat) : Int) ≤ 2 ^ 32 := by exact_mod_cast Nat.pow_le_pow_right (by omega) hk
  exact wrap_in (by omega) (by omega)

theorem arith_mask (a : Int) (k m : Nat) (hm : m + 1 = 2 ^ k) (hk : k ≤ 32) : arith .and .i64 a (m : Int) = some (.int .i64 (a % (2 ^ k : Nat))) := by
  have : BitVec.ofInt 64 (m : Int) = BitVec.ofNat 64 m := by simp
  simp only [arith]
  rw [show IntKind.i64.bits = 64 from rfl, this, and_mask a k m hm hk]
@[simp ↓ high] theorem mask1 (a : Int) : arith .and .i64 a 1 = some (.int .i64 (a % 2)) := arith_mask a 1 1 (by decide) (by decide)
@[simp ↓ high] theorem mask3 (a : Int) : arith .and .i64 a 3 = some (.int .i64 (a % 4)) := arith_mask a 2 3 (by decide) (by decide)
@[simp ↓ high] theorem mask7 (a : Int) : arith .and .i64 a 7 = some (.int .i64 (a % 8)) := arith_mask a 3 7 (by decide) (by decide)
@[simp ↓ high] theorem mask15 (a : Int) : arith .and .i64 a 15 = some (.int .i64 (a % 16)) := arith_mask a 4 15 (by decide) (by decide)
@[simp ↓ high] theorem mask31 (a : Int) : arith .and .i64 a 31 = some (.int .i64 (a % 32)) := arith_mask a 5 31 (by decide) (by decide)
@[simp ↓ high] theorem mask63 (a : Int) : arith .and .i64 a 63 = some (.int .i64 (a % 64)) := arith_mask a 6 63 (by decide) (by decide)
@[simp ↓ high] theorem mask255 (a : Int) : arith .and .i64 a 255 = some (.int .i64 (a % 256)) := arith_mask a 8 255 (by decide) (by decide)
@[simp ↓ high] theorem mask1023 (a : Int) : arith .and .i64 a 1023 = some (.int .i64 (a % 1024)) := arith_mask a 10 1023 (by decide) (by decide)
theorem callThen_nil {P : Program} {c : Cfg} {dst : Option Nat} {f : Nat} {args args' : List D} {ids : List Nat} {st : St} {K : St → Prop} {r : D} {nbs : List Blk} (hc : c.C = Den P) (h : Den P f args' [] r nbs) (he : args.map D.nrm = args') (h2 : callEnd c dst ids r nbs st K) : callThen c dst f args ids st K :=
  ⟨r, nbs, by rw [hc]; exact den_nrm (by rw [he]; exact h), h2⟩
end Go.AM
/- Plain law: views: the program's test and the document's test are one. -/
namespace Go.AM
set_option linter.unusedSimpArgs false
set_option linter.unusedVariables false

theorem place_iff (x : Int) : place x = true ↔ 0 ≤ x ∧ x < 256 := by simp [place]
theorem far_eq {a b : Int} (ha : place a = true) (hb : place b = true) : far a b = if a ≤ b then b - a else b - a + 256 := by
  rw [place_iff] at ha hb
  unfold far
  rw [wrap_in (n := b - a) (by omega) (by omega), wrap_in (by omega) (by omega), Int.tmod_eq_emod_of_nonneg (by omega)]
  split <;> omega
theorem far_zero {a b : Int} (ha : place a = true) (hb : place b = true) : far a b = 0 ↔ b = a := by
  rw [far_eq ha hb]
  rw [place_iff] at ha hb
  split <;> omega
theorem far_inj {a b c : Int} (ha : place a = true) (hb : place b = true) (hc : place c = true) : far a b = far a c ↔ b = c := by
  rw [far_eq ha hb, far_eq ha hc]
  rw [place_iff] at ha hb hc
  split <;> split <;> omega

theorem ups_eq : ∀ (xs : List Int) (q : Option Int), ups q xs = (incr (q.toList ++ xs) && xs.all place) := by
  intro xs
  induction xs with
  | nil => intro q; cases q <;> rfl
  | cons x xs ih =>
    intro q
    simp only [ups, ih, List.all_cons]
    cases q with
    | none => simp [Option.toList]; grind
    | some y => simp only [Option.toList, List.cons_append, List.nil_append, incr]; grind
theorem passiveMay_eq (xs : List Int) : refPassiveMay xs = passiveMay xs := by
  unfold refPassiveMay passiveMay
  rw [ups_eq]
  simp [Option.toList]
theorem passiveMay_places {xs : List Int} (h : passiveMay xs = true) : ∀ x ∈ xs, place x = true := by
  rw [← passiveMay_eq] at h
  simp only [refPassiveMay, Bool.and_eq_true, List.all_eq_true] at h
  exact h.1.2
theorem peersOk_places {base : Int} : ∀ (ps : List Peer) (last : Int), peersOk base last ps = true → ∀ p ∈ ps, place p.id = true ∧ 0 ≤ p.missed ∧ p.missed < 3 ∧ last < far base p.id := by
  intro ps
  induction ps with
  | nil => intro last _ p hp; simp at hp
  | cons q ps ih =>
    intro last h p hp
    simp only [peersOk, Bool.and_eq_true, decide_eq_true_eq] at h
    rcases List.mem_cons.1 hp with rfl | hp
    · exact ⟨h.1.1.1.1, h.1.1.1.2, h.1.1.2, h.1.2⟩
    · obtain ⟨a, b, c, d⟩ := ih _ h.2 p hp
      exact ⟨a, b, c, by have := h.1.2; omega⟩
theorem peersMay_places {base : Int} {ps : List Peer} (h : peersMay base ps = true) : ∀ p ∈ ps, place p.id = true ∧ 0 ≤ p.missed ∧ p.missed < 3 ∧ 0 < far base p.id := by
  simp only [peersMay, Bool.and_eq_true] at h
  exact peersOk_places ps 0 h.2
theorem peersMay_base {base : Int} {ps : List Peer} (h : peersMay base ps = true) : place base = true := by
  simp only [peersMay, Bool.and_eq_true] at h
  exact h.1.1
theorem peerIs_mem {base : Int} {ps : List Peer} {id : Int} (h : peersMay base ps = true) (hid : place id = true) : peerIs base ps id = (ps.map Peer.id).contains id := by
  have hr := peersMay_rowed h
  have hb := peersMay_base h
  rw [Bool.eq_iff_iff, List.contains_iff_mem, List.mem_map]
  unfold peerIs isFar
  constructor
  · intro hf
    split at hf
    · rename_i p hp
      simp only [decide_eq_true_eq] at hf
      have hm := List.mem_of_getElem? hp
      exact ⟨p, hm, ((far_inj hb (peersMay_places h p hm).1 hid).1 hf)⟩
    · cases hf
  · rintro ⟨p, hm, rfl⟩
    obtain ⟨i, hi, he⟩ := List.getElem_of_mem hm
    have hp : ps[i]? = some p := by simp [hi, he]
    have h1 : ¬ i < findAt base ps p.id := fun hlt => by
      have := findAt_lo i p hlt hp
      omega
    have hle : findAt base ps p.id ≤ i := by omega
    have hlt : findAt base ps p.id < ps.length := by omega
    have hq : ps[findAt base ps p.id]? = some ps[findAt base ps p.id] := by simp [hlt]
    rw [hq]
    simp only [decide_eq_true_eq]
    have h2 := findAt_hi hr _ _ (Nat.le_refl _) hq
    rcases Nat.lt_or_ge (findAt base ps p.id) i with h3 | h3
    · have := hr _ i _ p h3 hq hp
      omega
    · have : findAt base ps p.id = i := by omega
      simp only [this, he]
end Go.AM
/- Plain law: whose a key is. -/
namespace Go.AM
set_option linter.unusedSimpArgs false
set_option linter.unusedVariables false

theorem viewMay_parts {v : View} (h : viewMay v = true) : peersMay v.id v.peers = true ∧ passiveMay v.passive = true ∧ v.peers.length + v.passive.length ≤ 16 ∧ ∀ x ∈ v.passive, x ≠ v.id ∧ x ∉ v.peers.map Peer.id := by
  simp only [viewMay, Bool.and_eq_true, decide_eq_true_eq, Bool.not_eq_true'] at h
  obtain ⟨⟨⟨h1, h2⟩, h3⟩, h4⟩ := h
  refine ⟨h1, h2, h3, fun x hx => ?_⟩
  have := List.any_eq_false.1 h4 x hx
  simp only [oddIn, Bool.or_eq_true, not_or] at this
  rw [peerIs_mem h1 (passiveMay_places h2 x hx)] at this
  simpa using this
theorem viewMay_place {v : View} (h : viewMay v = true) : place v.id = true := peersMay_base (viewMay_parts h).1
theorem ids_places {v : View} (h : viewMay v = true) : ∀ y ∈ v.id :: v.peers.map Peer.id, place y = true := by
  intro y hy
  obtain ⟨h1, _⟩ := viewMay_parts h
  simp only [List.mem_cons, List.mem_map] at hy
  rcases hy with rfl | ⟨p, hp, rfl⟩
  · exact viewMay_place h
  · exact (peersMay_places h1 p hp).1
end Go.AM
/- Plain law: a view's ends; whose a key is, when one more is heard. -/
namespace Go.AM
set_option linter.unusedSimpArgs false
set_option linter.unusedVariables false

theorem mem_ids {v : View} {q : Peer} (h : q ∈ v.peers) : q.id ∈ v.id :: v.peers.map Peer.id := by
  simp only [List.mem_cons, List.mem_map]
  exact .inr ⟨q, h, rfl⟩
theorem peer_ne {v : View} (h : viewMay v = true) {q : Peer} (hq : q ∈ v.peers) : q.id ≠ v.id := by
  intro he
  obtain ⟨hpm, _⟩ := viewMay_parts h
  have h4 := (peersMay_places hpm q hq).2.2.2
  have := (far_zero (viewMay_place h) (ids_places h _ (mem_ids hq))).2 he
  omega

end Go.AM
/- AM: items, what was told, nodes, messages, cuts: as data; what the program's parts reckon with. -/
namespace Go.AM
set_option linter.unusedSimpArgs false
set_option linter.unusedVariables false

structure Item where
  key : Int
  count : Int
  writer : Int
  value : Int
  gone : Bool
  deriving DecidableEq, Inhabited
def Item.row (i : Item) : List D := [.int .i64 i.key, .int .i64 i.count, .int .i64 i.writer, .int .i64 i.value, .bool i.gone]
structure Told where
  key : Int
  has : Bool
  value : Int
  deriving DecidableEq, Inhabited
def Told.row (t : Told) : List D := [.int .i64 t.key, .bool t.has, .int .i64 t.value]
structure Cut where
  a : Int
  b : Int
  deriving DecidableEq, Inhabited
def Cut.row (c : Cut) : List D := [.int .i64 c.a, .int .i64 c.b]
def itemsD (is : List Item) : D := .sl (is.map Item.row) is.length
def toldsD (ts : List Told) : D := .sl (ts.map Told.row) ts.length
def cutsD (cs : List Cut) : D := .sl (cs.map Cut.row) cs.length
structure Node where
  up : Bool
  view : View
  items : List Item
  log : List Told
  deriving DecidableEq, Inhabited
def Node.cells (x : Node) : List D := [.bool x.up, .int .i64 x.view.id, peersD x.view.peers, intsD x.view.passive, itemsD x.items, toldsD x.log]
def nodeD (x : Node) : D := .agg x.cells
structure Msg where
  kind : Int
  from_ : Int
  to : Int
  ids : List Int
  key : Int
  item : Item
  has : Bool
  deriving DecidableEq, Inhabited
def Msg.row (m : Msg) : List D := [.int .i64 m.kind, .int .i64 m.from_, .int .i64 m.to, intsD m.ids, .int .i64 m.key, .int .i64 m.item.key, .int .i64 m.item.count, .int .i64 m.item.writer, .int .i64 m.item.value, .bool m.item.gone, .bool m.has]
def msgD (m : Msg) : D := .agg m.row
def msgsD (ms : List Msg) : D := .sl (ms.map Msg.row) ms.length
def Msg.row0 (m : Msg) : List D := [.int .i64 m.kind, .int .i64 m.from_, .int .i64 m.to, .nil, .int .i64 m.key, .int .i64 m.item.key, .int .i64 m.item.count, .int .i64 m.item.writer, .int .i64 m.item.value, .bool m.item.gone, .bool m.has]
@[simp] theorem mapR_itemsD (fr fp : Nat → Nat → Nat → D) (xs : List Item) : D.mapR fr fp (itemsD xs) = itemsD xs := rfl
@[simp] theorem mapR_toldsD (fr fp : Nat → Nat → Nat → D) (xs : List Told) : D.mapR fr fp (toldsD xs) = toldsD xs := rfl
@[simp] theorem mapR_cutsD (fr fp : Nat → Nat → Nat → D) (xs : List Cut) : D.mapR fr fp (cutsD xs) = cutsD xs := rfl
@[simp] theorem mapR_msgsD (fr fp : Nat → Nat → Nat → D) (xs : List Msg) : D.mapR fr fp (msgsD xs) = msgsD xs := rfl
@[simp] theorem sweep_irow2 (S : Nat → Bool) (x : Item) : x.row.map (D.sweep S) = x.row := rfl
@[simp] theorem sweep_trow (S : Nat → Bool) (x : Told) : x.row.map (D.sweep S) = x.row := rfl
@[simp] theorem sweep_crow (S : Nat → Bool) (x : Cut) : x.row.map (D.sweep S) = x.row := rfl
@[simp] theorem sweep_mrow (S : Nat → Bool) (x : Msg) : x.row.map (D.sweep S) = x.row := rfl
@[simp] theorem sweep_mrow0 (S : Nat → Bool) (x : Msg) : x.row0.map (D.sweep S) = x.row0 := rfl
@[simp] theorem mapR_irow2 (fr fp : Nat → Nat → Nat → D) (x : Item) : x.row.map (D.mapR fr fp) = x.row := rfl
@[simp] theorem mapR_trow (fr fp : Nat → Nat → Nat → D) (x : Told) : x.row.map (D.mapR fr fp) = x.row := rfl
@[simp] theorem mapR_crow (fr fp : Nat → Nat → Nat → D) (x : Cut) : x.row.map (D.mapR fr fp) = x.row := rfl
@[simp] theorem mapR_mrow (fr fp : Nat → Nat → Nat → D) (x : Msg) : x.row.map (D.mapR fr fp) = x.row := rfl
@[simp] theorem mapR_mrow0 (fr fp : Nat → Nat → Nat → D) (x : Msg) : x.row0.map (D.mapR fr fp) = x.row0 := rfl
@[simp] theorem irow2_length (x : Item) : x.row.length = 5 := rfl
@[simp] theorem trow_length (x : Told) : x.row.length = 3 := rfl
@[simp] theorem crow_length (x : Cut) : x.row.length = 2 := rfl
@[simp] theorem mrow_length (x : Msg) : x.row.length = 11 := rfl
@[simp] theorem mrow0_length (x : Msg) : x.row0.length = 11 := rfl
@[simp] theorem ridsL_irow (x : Int) : ridsL (irow x) = [] := rfl
@[simp] theorem ridsL_row (x : Peer) : ridsL x.row = [] := rfl
@[simp] theorem ridsL_irow2 (x : Item) : ridsL x.row = [] := rfl
@[simp] theorem ridsL_trow (x : Told) : ridsL x.row = [] := rfl
@[simp] theorem ridsL_crow (x : Cut) : ridsL x.row = [] := rfl
@[simp] theorem ridsL_mrow (x : Msg) : ridsL x.row = [] := rfl
@[simp] theorem ridsL_mrow0 (x : Msg) : ridsL x.row0 = [] := rfl
@[simp] theorem idsL_irow (x : Int) : idsL (irow x) = [] := rfl
@[simp] theorem idsL_row (x : Peer) : idsL x.row = [] := rfl
@[simp] theorem idsL_irow2 (x : Item) : idsL x.row = [] := rfl
@[simp] theorem idsL_trow (x : Told) : idsL x.row = [] := rfl
@[simp] theorem idsL_crow (x : Cut) : idsL x.row = [] := rfl
@[simp] theorem idsL_mrow (x : Msg) : idsL x.row = [] := rfl
@[simp] theorem idsL_mrow0 (x : Msg) : idsL x.row0 = [] := rfl
@[simp] theorem flatMap_map' {α β γ : Type} (f : α → β) (g : β → List γ) (l : List α) : (l.map f).flatMap g = l.flatMap fun x => g (f x) := by rw [List.flatMap_map]
@[simp] theorem flatMap_nil' {α β : Type} (l : List α) : (l.flatMap fun _ => ([] : List β)) = [] := by induction l <;> simp_all
@[simp] theorem nrmLL_irow2 (ps : List Item) : nrmLL (ps.map Item.row) = ps.map Item.row := by rw [nrmLL_eq, List.map_map]; rfl
@[simp] theorem nrmLL_trow (ps : List Told) : nrmLL (ps.map Told.row) = ps.map Told.row := by rw [nrmLL_eq, List.map_map]; rfl
@[simp] theorem nrmLL_crow (ps : List Cut) : nrmLL (ps.map Cut.row) = ps.map Cut.row := by rw [nrmLL_eq, List.map_map]; rfl
theorem nrm_mrow (m : Msg) : m.row.map D.nrm = m.row := by simp [Msg.row, intsD]
@[simp] theorem nrmLL_mrow (ps : List Msg) : nrmLL (ps.map Msg.row) = ps.map Msg.row := by
  rw [nrmLL_eq, List.map_map]
  refine List.map_congr_left fun m _ => ?_
  simp [Function.comp, nrm_mrow]
def Msg.bare (m : Msg) : Msg := { m with ids := [] }
theorem nrm_mrow0 (m : Msg) : m.row0.map D.nrm = m.bare.row := by simp [Msg.row, Msg.row0, Msg.bare, intsD]
@[simp] theorem nrmLL_mrow0 (ps : List Msg) : nrmLL (ps.map Msg.row0) = (ps.map Msg.bare).map Msg.row := by
  rw [nrmLL_eq, List.map_map, List.map_map]
  refine List.map_congr_left fun m _ => ?_
  simp [Function.comp, nrm_mrow0]
@[simp] theorem fits_irow2 (ps : List Item) : Fits 5 (ps.map Item.row) = True := by
  apply eq_true
  intro r hr
  obtain ⟨p, _, rfl⟩ := List.mem_map.1 hr
  exact ⟨rfl, rfl⟩
@[simp] theorem fits_trow (ps : List Told) : Fits 3 (ps.map Told.row) = True := by
  apply eq_true
  intro r hr
  obtain ⟨p, _, rfl⟩ := List.mem_map.1 hr
  exact ⟨rfl, rfl⟩
@[simp] theorem fits_crow (ps : List Cut) : Fits 2 (ps.map Cut.row) = True := by
  apply eq_true
  intro r hr
  obtain ⟨p, _, rfl⟩ := List.mem_map.1 hr
  exact ⟨rfl, rfl⟩
@[simp] theorem fits_mrow (ps : List Msg) : Fits 11 (ps.map Msg.row) = True := by
  apply eq_true
  intro r hr
  obtain ⟨p, _, rfl⟩ := List.mem_map.1 hr
  exact ⟨rfl, rfl⟩
@[simp] theorem fits_mrow0 (ps : List Msg) : Fits 11 (ps.map Msg.row0) = True := by
  apply eq_true
  intro r hr
  obtain ⟨p, _, rfl⟩ := List.mem_map.1 hr
  exact ⟨rfl, rfl⟩
@[simp] theorem item_eq (a b : Item) : (decide (a.key = b.key) && (decide (a.count = b.count) && (decide (a.writer = b.writer) && (decide (a.value = b.value) && ((a.gone == b.gone) && true))))) = decide (a = b) := by
  obtain ⟨_, _, _, _, _⟩ := a
  obtain ⟨_, _, _, _, _⟩ := b
  rw [Bool.eq_iff_iff]
  simp
@[simp] theorem told_eq (a b : Told) : (decide (a.key = b.key) && ((a.has == b.has) && (decide (a.value = b.value) && true))) = decide (a = b) := by
  obtain ⟨_, _, _⟩ := a
  obtain ⟨_, _, _⟩ := b
  rw [Bool.eq_iff_iff]
  simp
@[simp] theorem cut_eq (a b : Cut) : (decide (a.a = b.a) && (decide (a.b = b.b) && true)) = decide (a = b) := by
  obtain ⟨_, _⟩ := a
  obtain ⟨_, _⟩ := b
  rw [Bool.eq_iff_iff]
  simp

def Node.small (x : Node) : Prop := x.view.small ∧ x.items.length * 40 ≤ 140737488351232 ∧ x.log.length * 24 ≤ 140737488351232

def byte (x : Int) : Bool := decide (0 ≤ x) && decide (x < 256)
def verMay (c w : Int) : Bool := decide (1 ≤ c) && decide (c ≤ 65535) && place w
def itemMay (i : Item) : Bool := byte i.key && byte i.value && verMay i.count i.writer && (!i.gone || decide (i.value = 0))
def itemsOk : Option Int → List Item → Bool
  | _, [] => true
  | p, i :: is => itemMay i && (match p with | none => true | some k => decide (k < i.key)) && itemsOk (some i.key) is
def storeMay (is : List Item) : Bool := itemsOk none is && decide (is.length ≤ 16)
def toldOdd (t : Told) : Bool := !byte t.key || !byte t.value || (!t.has && !decide (t.value = 0))
def emptyN (x : Node) : Bool := decide (x.view.peers.length + x.view.passive.length + x.items.length + x.log.length = 0)
def nodeMay (x : Node) : Bool := (x.up || emptyN x) && viewMay x.view && storeMay x.items && decide (x.log.length ≤ 64) && !x.log.any toldOdd
def gIdx {α : Type} (p : α → Bool) : Nat → List α → Int
  | _, [] => -1
  | i, x :: xs => if p x then (i : Int) else gIdx p (i + 1) xs
theorem gIdx_any {α : Type} (p : α → Bool) : ∀ (xs : List α) (i : Nat), decide (0 ≤ gIdx p i xs) = xs.any p := by
  intro xs
  induction xs with
  | nil => intro i; rfl
  | cons x xs ih =>
    intro i
    simp only [gIdx, List.any_cons]
    by_cases h : p x = true
    · simp [h]
    · have h' : p x = false := by simpa using h
      simp [h', ih]
def nodeUp (x : Node) : Bool := x.up && nodeMay x
def shareOne (x : Node) (i : Item) : Option Msg :=
  if (if (ownerV x.view i.key).1 = x.view.id then (succV x.view).1 else (ownerV x.view i.key).1) = x.view.id then none
  else some ⟨1, x.view.id, if (ownerV x.view i.key).1 = x.view.id then (succV x.view).1 else (ownerV x.view i.key).1, [], 0, i, false⟩
def shareOf (x : Node) : List Msg × Int := if nodeUp x then (x.items.filterMap (shareOne x), 0) else ([], 1800)
end Go.AM
/- AM: a call that is lent some of the own blocks leaves the others. -/
namespace Go.AM
set_option linter.unusedSimpArgs false
set_option linter.unusedVariables false

def outNo (sel : List Nat) (n b : Nat) : Nat := if b < sel.length then sel.getD b 0 else n + (b - sel.length)
def outRef (sel : List Nat) (n b o l : Nat) : D := .ref (outNo sel n b) o l
def outPtr (sel : List Nat) (n b i j : Nat) : D := .ptr (outNo sel n b) i j
def lendThen (c : Cfg) (dst : Option Nat) (f : Nat) (args : List D) (st : St) (K : St → Prop) : Prop := ∃ r bs', c.C f args st.bs r bs' ∧ K (St.put ⟨st.fr, bs'⟩ dst r)
@[simp] theorem lendCall_fn (c : Cfg) (dst : Option Nat) (f : Nat) (first caps args : List D) (st : St) (K : St → Prop) : lendCall c dst (.fn f first caps) args st K = lendThen c dst f (first ++ args ++ caps) st K := rfl
attribute [simp] inRef inPtr outRef outPtr outNo Blk.mapR
end Go.AM
/- Plain law: stores: an item is put; what a key's item is then; rows of puts. -/
namespace Go.AM
set_option linter.unusedSimpArgs false
set_option linter.unusedVariables false

def risingK : List Item → Prop
  | [] => True
  | [_] => True
  | a :: b :: is => a.key < b.key ∧ risingK (b :: is)
def aboveK (k : Int) (is : List Item) : Prop := ∀ i ∈ is, k < i.key

theorem rising_cons {a : Item} {is : List Item} : risingK (a :: is) ↔ aboveK a.key is ∧ risingK is := by
  induction is generalizing a with
  | nil => simp [risingK, aboveK]
  | cons b is ih =>
    simp only [risingK, ih, aboveK, List.mem_cons]
    constructor
    · rintro ⟨h1, h2, h3⟩
      refine ⟨?_, h2, h3⟩
      rintro i (rfl | hi)
      · exact h1
      · have := h2 i hi
        omega
    · rintro ⟨h1, h2, h3⟩
      exact ⟨h1 b (.inl rfl), h2, h3⟩
theorem itemsOk_iff : ∀ (is : List Item) (q : Option Int), itemsOk q is = true ↔ (∀ i ∈ is, itemMay i = true) ∧ risingK is ∧ (∀ k, q = some k → aboveK k is) := by
  intro is
  induction is with
  | nil => intro q; simp [itemsOk, risingK, aboveK]
  | cons a is ih =>
    intro q
    simp only [itemsOk, Bool.and_eq_true, ih, rising_cons, List.mem_cons, Option.some.injEq]
    constructor
    · rintro ⟨⟨h1, h2⟩, h3, h4, h5⟩
      refine ⟨?_, ⟨h5 _ rfl, h4⟩, ?_⟩
      · rintro i (rfl | hi)
        · exact h1
        · exact h3 i hi
      · rintro k rfl i hi
        simp only [decide_eq_true_eq] at h2
        rcases List.mem_cons.1 hi with rfl | hi
        · exact h2
        · have := h5 _ rfl i hi
          omega
    · rintro ⟨h1, ⟨h2, h3⟩, h4⟩
      refine ⟨⟨h1 a (.inl rfl), ?_⟩, fun i hi => h1 i (.inr hi), h3, ?_⟩
      · cases q with
        | none => rfl
        | some k => simpa using h4 k rfl a (by simp)
      · rintro k rfl
        exact h2
theorem storeMay_iff (is : List Item) : storeMay is = true ↔ (∀ i ∈ is, itemMay i = true) ∧ risingK is ∧ is.length ≤ 16 := by
  simp only [storeMay, Bool.and_eq_true, decide_eq_true_eq, itemsOk_iff]
  constructor
  · rintro ⟨⟨h1, h2, _⟩, h3⟩; exact ⟨h1, h2, h3⟩
  · rintro ⟨h1, h2, h3⟩; exact ⟨⟨h1, h2, by simp⟩, h3⟩

end Go.AM
