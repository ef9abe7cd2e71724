/- What the proof of this claim stands on, part 9. -/
import Derived.WalkKit
import Derived.ProofKit
import Derived.OpenShut
import Derived.ChangeOld
import Derived.Below
import Derived.SizedLaws
import Derived.Carry
import Derived.JoinedTies
import Derived.Test.YtehagcggdepajaaGreatAmZ8
/- AM: a law's row out of its contract. -/
namespace Go.AM
set_option linter.unusedSimpArgs false
set_option linter.unusedVariables false
open Go.ChangeShapes Go.WideShapes Go.ChangeAt Go.RowKit

def TellArg (T : Tab) (n t : Nat) (d : D) : Prop := if (T t).d.agg then ∃ cs, d = .agg cs ∧ Tell T n t cs else Tell T n t [d]
def TellArgs (T : Tab) (n : Nat) : List Nat → List D → Prop
  | [], ds => ds = []
  | t :: ts, ds => ∃ d ds', ds = d :: ds' ∧ TellArg T n t d ∧ TellArgs T n ts ds'

section
variable {H : Type} {enc : TypeId × Value → H} {P : Program} {T : Tab} {eqs : List Nat} (hT : TabOk P T eqs) {w : World}

theorem cell_cells {v : Value} (h : ∀ cs, v ≠ .agg cs) : v.cells.toList = [v] := by
  cases v <;> first | rfl | exact absurd rfl (h _)

include hT in
theorem open_arg {n t : Nat} (hc : openChk T n t = true) {v : Value} {d : DataW H} {ps : List MemPlace} (h : DataW.Trod enc P w 0 (fun _ => true) true t v d ps) (hw : (d.weights P t).all (· ≤ reachBytes) = true)
    {base : Nat} (hok : Value.okWide P w .any base t v) : ∃ x : D, Rep w none0 noLoc v x ∧ TellArg T n t x := by
  obtain ⟨fuel, h⟩ := h
  obtain ⟨ds, h1, h2, h3, h4⟩ := open_cells hT n t hc fuel _ d ps h hw
  have hkn := openChk_known hc
  obtain ⟨de, hde, hdo⟩ := und_run hT hkn
  cases ha : (T t).d.agg with
  | true =>
    have : ∃ cs, v = .agg cs := by
      cases hd' : (T t).d <;> rw [hd'] at ha hdo <;> simp [TD.agg] at ha
      · cases de <;> simp [descOk] at hdo
        simp only [Value.okWide, hde] at hok
        obtain ⟨cs, h, _⟩ := hok
        exact ⟨cs, h⟩
      · cases de <;> simp [descOk] at hdo
        obtain ⟨cs, h, _⟩ := okWide_struct hde hok
        exact ⟨cs, h⟩
    obtain ⟨cs, rfl⟩ := this
    refine ⟨.agg ds, .agg cs ds (by simpa [Value.cells] using h2.symm) fun i v d hv hd => .imm _ _ (h3 i v d (by simpa [Value.cells] using hv) hd), ?_⟩
    unfold TellArg
    rw [if_pos ha]
    exact ⟨ds, rfl, h4⟩
  | false =>
    have hs1 : (T t).size = 1 := by
      cases n with
      | zero => cases hc
      | succ n =>
        unfold openChk at hc
        revert hc ha
        cases (T t).d <;> simp [TD.agg] <;> intro h <;> first | exact h | exact fun _ _ => h
    have hv : ∀ cs, v ≠ .agg cs := by
      rintro cs rfl
      cases hd' : (T t).d <;> rw [hd'] at ha hdo <;> simp [TD.agg] at ha <;> cases de <;> simp [descOk] at hdo <;> simp [Value.okWide, hde, Cell.okWide, Cell.ok] at hok
      all_goals (rw [hd'] at hkn; cases hkn)
    rw [cell_cells hv] at h1 h2 h3
    match ds, h2 with
    | [x], _ =>
      refine ⟨x, .imm _ _ (h3 0 v x rfl rfl), ?_⟩
      unfold TellArg
      rw [if_neg (by rw [ha]; exact Bool.false_ne_true)]
      exact h4

include hT in
theorem open_args {n : Nat} : ∀ (ts : List TypeId) (vs : List Value) (ds : List (DataW H)) (ps : List MemPlace), (∀ t ∈ ts, openChk T n t = true) → DataW.TrodAll enc P w 0 (fun _ => true) true ts vs ds ps →
    (DataW.weightsEach P ts ds).all (· ≤ reachBytes) = true → ∀ {base : Nat}, (∀ (j : Nat) t v, ts[j]? = some t → vs[j]? = some v → Value.okWide P w .any base t v) →
    ∃ xs : List D, xs.length = vs.length ∧ (∀ (i : Nat) (v : Value) (d : D), vs[i]? = some v → xs[i]? = some d → Rep w none0 noLoc v d) ∧ TellArgs T n ts xs := by
  intro ts
  induction ts with
  | nil =>
    intro vs ds ps _ h _ base _
    obtain ⟨rfl, rfl, rfl⟩ := trodAll_nil h
    exact ⟨[], rfl, by simp, rfl⟩
  | cons t ts ih =>
    intro vs ds ps hc h hw base hok
    obtain ⟨v, vs', d, ds', p, q, rfl, rfl, rfl, h1, h2⟩ := trodAll_cons h
    simp only [DataW.weightsEach, List.all_append, Bool.and_eq_true] at hw
    obtain ⟨x, hx, htx⟩ := open_arg hT (hc t (by simp)) h1 hw.1 (hok 0 t v rfl rfl)
    obtain ⟨xs, g1, g2, g3⟩ := ih vs' ds' q (fun t ht => hc t (by simp [ht])) h2 hw.2 (fun j t v h1 h2 => hok (j + 1) t v (by simpa using h1) (by simpa using h2))
    refine ⟨x :: xs, by simp [g1], ?_, x, xs, rfl, htx, g3⟩
    intro i v' d' hv hd
    cases i with
    | zero => simp at hv hd; subst hv hd; exact hx
    | succ i => exact g2 i v' d' (by simpa using hv) (by simpa using hd)

theorem trod_again {ts : List TypeId} (hl : laidOutB P = true) {W W' : World} (bel : Below W.heap.size W W') : ∀ {ts : List TypeId} {vs : List Value} {ds : List (DataW H)} {ps : List MemPlace}, (∀ t ∈ ts, P.readableRec t = true ∧ t < P.types.size) →
    DataW.TrodAll enc P W 0 (fun _ => true) true ts vs ds ps → DataW.TrodAll enc P W' 0 (fun b => decide (b < W.heap.size)) true ts vs ds ps := by
  intro ts
  induction ts with
  | nil =>
    intro vs ds ps _ h
    obtain ⟨rfl, rfl, rfl⟩ := trodAll_nil h
    exact trodAll_mk0
  | cons t ts ih =>
    intro vs ds ps hr h
    obtain ⟨v, vs', d, ds', p, q, rfl, rfl, rfl, h1, h2⟩ := trodAll_cons h
    refine trodAll_cons_mk ?_ (ih (fun t ht => hr t (by simp [ht])) h2)
    obtain ⟨g1, g2⟩ := hr t (by simp)
    refine Below.trod hl g1 g2 h1 bel ?_
    obtain ⟨m, hm⟩ := h1
    exact DataW.trod_lt m _ _ _ hm
end

theorem lift_law {H : Type} {enc : TypeId × Value → H} {C : Checked} {T : Tab} {eqs : List Nat} (hT : TabOk C.prog T eqs) {os : Os} {f : FuncId} {fn : Func} {s : ChangeSpec} {conds : List PathCond} {tb : TypeId} (n : Nat)
    (own : ownKnob C.prog.godebug = none) (started : os.Started) (noInit : C.prog.inits.idxOf? f = none) (hfn : C.prog.funcs[f]? = some fn) (hl : laidOutB C.prog = true)
    (witness : ∃ (w : World) (tape : Tape) (i : Input), w.os = os ∧ (w.forCall tape i).Shaped C.prog ∧ i.vars = [] ∧ Input.okWide C.prog (w.forCall tape i) .any w.heap.size f i ∧
      s.pre6 enc C.prog fn conds false (w.forCall tape i).memory i.args ∧ ({} : Assume).holds C.prog (lone (Frame.enter C.prog f i.args .normal) [] (w.forCall tape i)))
    (hpar : (fn.params.toList.all fun t => openChk T n t && C.prog.readableRec t && decide (t < C.prog.types.size)) = true) (hres : fn.resultTypes = #[tb]) (htb : C.prog.underlying tb = some .bool) (hv : s.vars = [])
    (hs : ∀ ds : List (DataW H), ds.length = fn.params.size → s.fn H ds = { results := [.lit (.bool true)], args := ds })
    (hden : ∀ xs : List D, TellArgs T n fn.params.toList xs → Den C.prog f xs [] (.bool true) []) :
    ReturnsInHanded {} C os f .any (s.pre6 enc C.prog fn conds false) (s.post enc C.prog fn false true false false) := by
  refine returnsInHanded_of_change_sized own started noInit hfn witness ?_
  intro W base args ds gs before hval hW _ hsz _
  have hW' := hW
  obtain ⟨p, q, hA, hV, rfl, _, _⟩ := hW
  rw [hv] at hV
  obtain ⟨rfl, rfl⟩ := trodVars_none hV
  simp only [List.all_eq_true, Bool.and_eq_true, decide_eq_true_eq] at hpar
  have hlen : ∀ (ts : List TypeId) (vs : List Value) (ds : List (DataW H)) (p : List MemPlace), DataW.TrodAll enc C.prog W 0 (fun _ => true) true ts vs ds p → ds.length = ts.length := by
    intro ts
    induction ts with
    | nil => intro vs ds p h; obtain ⟨_, rfl, _⟩ := trodAll_nil h; rfl
    | cons t ts ih =>
      intro vs ds p h
      obtain ⟨v, vs', d, ds', p, q, _, rfl, _, _, h2⟩ := trodAll_cons h
      simp [ih _ _ _ h2]
  have hdl := hlen _ _ _ _ hA
  have hw : (DataW.weightsEach C.prog fn.params.toList ds).all (· ≤ reachBytes) = true := by
    have e1 : s.plain.varTypes C.prog = [] := by simp [ChangeSpec.plain, DataSpec.varTypes, hv]
    rw [e1, List.append_nil, List.append_nil] at hsz
    exact hsz
  obtain ⟨xs, h1, h2, h3⟩ := open_args hT fn.params.toList args.toList ds p (fun t ht => (hpar t ht).1.1) hA hw (base := base) (fun j t v hj hv => hval j t v (by simpa using hj) (by simpa using hv))
  obtain ⟨_, hcall⟩ := hden xs h3
  refine (hcall W none0 noLoc args (fun _ _ h => h.elim) (.empty _ _) (by simpa using h1.symm) (fun i v d hv hd => ?_)).mono ?_
  · rw [Mof_nil]
    exact h2 i v d (by simpa using hv) hd
  · rintro e W' ⟨v, ρ', rfl, hr, _, _, _, _, har⟩
    have e := hr.bool_inv
    subst e
    have bel := har.below
    refine ⟨_, rfl, ds, [], p ++ [], [], p, [], hW', ?_, ?_, ?_, bel.frame _, fun h => by cases h⟩
    · rw [List.append_nil, hs ds (by simpa using hdl), hres]
      exact trodAll_mk1 (shut_bool htb _)
    · rw [List.append_nil, hs ds (by simpa using hdl)]
      exact trod_again (ts := []) hl bel (fun t ht => ⟨(hpar t ht).1.2, (hpar t ht).2⟩) hA
    · rw [hv, List.append_nil, hs ds (by simpa using hdl)]
      rfl
end Go.AM
