/- What the proof of this claim stands on, part 10. -/
import Derived.WalkKit
import Derived.ProofKit
import Derived.OpenShut
import Derived.ChangeOld
import Derived.Below
import Derived.SizedLaws
import Derived.Carry
import Derived.JoinedTies
import Derived.Test.YtinbocdlolkcgaaAmZ9
/- AM: a law's row out of its contract. -/
namespace Go.AM
set_option linter.unusedSimpArgs false
set_option linter.unusedVariables false
open Go.ChangeShapes Go.WideShapes Go.ChangeAt Go.RowKit

def TellArg (T : Tab) (n t : Nat) (d : D) : Prop := if (T t).d.agg then ∃ cs, d = .agg cs ∧ Tell T n t cs else Tell T n t [d]
def TellArgs (T : Tab) (n : Nat) : List Nat → List D → Prop
  | [], ds => ds = []
  | t :: ts, ds => ∃ d ds', ds = d :: ds' ∧ TellArg T n t d ∧ TellArgs T n ts ds'

section
variable {H : Type} {enc : TypeId × Value → H} {P : Program} {T : Tab} {eqs : List Nat} (hT : TabOk P T eqs) {w : World}

theorem cell_cells {v : Value} (h : ∀ cs, v ≠ .agg cs) : v.cells.toList = [v] := by
  cases v <;> first | rfl | exact absurd rfl (h _)

include hT in
theorem open_arg {n t : Nat} (hc : openChk T n t = true) {v : Value} {d : DataW H} {ps : List MemPlace} (h : DataW.Trod enc P w 0 (fun _ => true) true t v d ps) (hw : (d.weights P t).all (· ≤ reachBytes) = true)
    {base : Nat} (hok : Value.okWide P w .any base t v) : ∃ x : D, Rep w none0 noLoc v x ∧ TellArg T n t x := by
  obtain ⟨fuel, h⟩ := h
  obtain ⟨ds, h1, h2, h3, h4⟩ := open_cells hT n t hc fuel _ d ps h hw
  have hkn := openChk_known hc
  obtain ⟨de, hde, hdo⟩ := und_run hT hkn
  cases ha : (T t).d.agg with
  | true =>
    have : ∃ cs, v = .agg cs := by
      cases hd' : (T t).d <;> rw [hd'] at ha hdo <;> simp [TD.agg] at ha
      · cases de <;> simp [descOk] at hdo
        simp only [Value.okWide, hde] at hok
        obtain ⟨cs, h, _⟩ := hok
        exact ⟨cs, h⟩
      · cases de <;> simp [descOk] at hdo
        obtain ⟨cs, h, _⟩ := okWide_struct hde hok
        exact ⟨cs, h⟩
    obtain ⟨cs, rfl⟩ := this
    refine ⟨.agg ds, .agg cs ds (by simpa [Value.cells] using h2.symm) fun i v d hv hd => .imm _ _ (h3 i v d (by simpa [Value.cells] using hv) hd), ?_⟩
    unfold TellArg
    rw [if_pos ha]
    exact ⟨ds, rfl, h4⟩
  | false =>
    have hs1 : (T t).size = 1 := by
      cases n with
      | zero => cases hc
      | succ n =>
        unfold openChk at hc
        revert hc ha
        cases (T t).d <;> simp [TD.agg] <;> intro h <;> first | exact h | exact fun _ _ => h
    have hv : ∀ cs, v ≠ .agg cs := by
      rintro cs rfl
      cases hd' : (T t).d <;> rw [hd'] at ha hdo <;> simp [TD.agg] at ha <;> cases de <;> simp [descOk] at hdo <;> simp [Value.okWide, hde, Cell.okWide, Cell.ok] at hok
      all_goals (rw [hd'] at hkn; cases hkn)
    rw [cell_cells hv] at h1 h2 h3
    match ds, h2 with
    | [x], _ =>
      refine ⟨x, .imm _ _ (h3 0 v x rfl rfl), ?_⟩
      unfold TellArg
      rw [if_neg (by rw [ha]; exact Bool.false_ne_true)]
      exact h4

include hT in
theorem open_args {n : Nat} : ∀ (ts : List TypeId) (vs : List Value) (ds : List (DataW H)) (ps : List MemPlace), (∀ t ∈ ts, openChk T n t = true) → DataW.TrodAll enc P w 0 (fun _ => true) true ts vs ds ps →
    (DataW.weightsEach P ts ds).all (· ≤ reachBytes) = true → ∀ {base : Nat}, (∀ (j : Nat) t v, ts[j]? = some t → vs[j]? = some v → Value.okWide P w .any base t v) →
    ∃ xs : List D, xs.length = vs.length ∧ (∀ (i : Nat) (v : Value) (d : D), vs[i]? = some v → xs[i]? = some d → Rep w none0 noLoc v d) ∧ TellArgs T n ts xs := by
  intro ts
  induction ts with
  | nil =>
    intro vs ds ps _ h _ base _
    obtain ⟨rfl, rfl, rfl⟩ := trodAll_nil h
    exact ⟨[], rfl, by simp, rfl⟩
  | cons t ts ih =>
    intro vs ds ps hc h hw base hok
    obtain ⟨v, vs', d, ds', p, q, rfl, rfl, rfl, h1, h2⟩ := trodAll_cons h
    simp only [DataW.weightsEach, List.all_append, Bool.and_eq_true] at hw
    obtain ⟨x, hx, htx⟩ := open_arg hT (hc t (by simp)) h1 hw.1 (hok 0 t v rfl rfl)
    obtain ⟨xs, g1, g2, g3⟩ := ih vs' ds' q (fun t ht => hc t (by simp [ht])) h2 hw.2 (fun j t v h1 h2 => hok (j + 1) t v (by simpa using h1) (by simpa using h2))
    refine ⟨x :: xs, by simp [g1], ?_, x, xs, rfl, htx, g3⟩
    intro i v' d' hv hd
    cases i with
    | zero => simp at hv hd; subst hv hd; exact hx
    | succ i => exact g2 i v' d' (by simpa using hv) (by simpa using hd)

theorem trod_again {ts : List TypeId} (hl : laidOutB P = true) {W W' : World} (bel : Below W.heap.size W W') : ∀ {ts : List TypeId} {vs : List Value} {ds : List (DataW H)} {ps : List MemPlace}, (∀ t ∈ ts, P.readableRec t = true ∧ t < P.types.size) →
    DataW.TrodAll enc P W 0 (fun _ => true) true ts vs ds ps → DataW.TrodAll enc P W' 0 (fun b => decide (b < W.heap.size)) true ts vs ds ps := by
  intro ts
  induction ts with
  | nil =>
    intro vs ds ps _ h
    obtain ⟨rfl, rfl, rfl⟩ := trodAll_nil h
    exact trodAll_mk0
  | cons t ts ih =>
    intro vs ds ps hr h
    obtain ⟨v, vs', d, ds', p, q, rfl, rfl, rfl, h1, h2⟩ := trodAll_cons h
    refine trodAll_cons_mk ?_ (ih (fun t ht => hr t (by simp [ht])) h2)
    obtain ⟨g1, g2⟩ := hr t (by simp)
    refine Below.trod hl g1 g2 h1 bel ?_
    obtain ⟨m, hm⟩ := h1
    exact DataW.trod_lt m _ _ _ hm
end

/-- A law that answers true to whatever is handed in. -/
theorem lift_law {H : Type} {enc : TypeId × Value → H} {C : Checked} {T : Tab} {eqs : List Nat} (hT : TabOk C.prog T eqs) {os : Os} {f : FuncId} {fn : Func} {s : ChangeSpec} {conds : List PathCond} {tb : TypeId} (n : Nat)
    (own : ownKnob C.prog.godebug = none) (started : os.Started) (noInit : C.prog.inits.idxOf? f = none) (hfn : C.prog.funcs[f]? = some fn) (hl : laidOutB C.prog = true)
    (witness : ∃ (w : World) (tape : Tape) (i : Input), w.os = os ∧ (w.forCall tape i).Shaped C.prog ∧ i.vars = [] ∧ Input.okWide C.prog (w.forCall tape i) .any w.heap.size f i ∧
      s.pre6 enc C.prog fn conds false (w.forCall tape i).memory i.args ∧ ({} : Assume).holds C.prog (lone (Frame.enter C.prog f i.args .normal) [] (w.forCall tape i)))
    (hpar : (fn.params.toList.all fun t => openChk T n t && C.prog.readableRec t && decide (t < C.prog.types.size)) = true) (hres : fn.resultTypes = #[tb]) (htb : C.prog.underlying tb = some .bool) (hv : s.vars = [])
    (hs : ∀ ds : List (DataW H), ds.length = fn.params.size → s.fn H ds = { results := [.lit (.bool true)], args := ds })
    (hden : ∀ xs : List D, TellArgs T n fn.params.toList xs → Den C.prog f xs [] (.bool true) []) :
    ReturnsInHanded {} C os f .any (s.pre6 enc C.prog fn conds false) (s.post enc C.prog fn false true false false) := by
  refine returnsInHanded_of_change_sized own started noInit hfn witness ?_
  intro W base args ds gs before hval hW _ hsz _
  have hW' := hW
  obtain ⟨p, q, hA, hV, rfl, _, _⟩ := hW
  rw [hv] at hV
  obtain ⟨rfl, rfl⟩ := trodVars_none hV
  simp only [List.all_eq_true, Bool.and_eq_true, decide_eq_true_eq] at hpar
  have hlen : ∀ (ts : List TypeId) (vs : List Value) (ds : List (DataW H)) (p : List MemPlace), DataW.TrodAll enc C.prog W 0 (fun _ => true) true ts vs ds p → ds.length = ts.length := by
    intro ts
    induction ts with
    | nil => intro vs ds p h; obtain ⟨_, rfl, _⟩ := trodAll_nil h; rfl
    | cons t ts ih =>
      intro vs ds p h
      obtain ⟨v, vs', d, ds', p, q, _, rfl, _, _, h2⟩ := trodAll_cons h
      simp [ih _ _ _ h2]
  have hdl := hlen _ _ _ _ hA
  have hw : (DataW.weightsEach C.prog fn.params.toList ds).all (· ≤ reachBytes) = true := by
    have e1 : s.plain.varTypes C.prog = [] := by simp [ChangeSpec.plain, DataSpec.varTypes, hv]
    rw [e1, List.append_nil, List.append_nil] at hsz
    exact hsz
  obtain ⟨xs, h1, h2, h3⟩ := open_args hT fn.params.toList args.toList ds p (fun t ht => (hpar t ht).1.1) hA hw (base := base) (fun j t v hj hv => hval j t v (by simpa using hj) (by simpa using hv))
  obtain ⟨_, hcall⟩ := hden xs h3
  refine (hcall W none0 noLoc args (fun _ _ h => h.elim) (.empty _ _) (by simpa using h1.symm) (fun i v d hv hd => ?_)).mono ?_
  · rw [Mof_nil]
    exact h2 i v d (by simpa using hv) hd
  · rintro e W' ⟨v, ρ', rfl, hr, _, _, _, _, har⟩
    have e := hr.bool_inv
    subst e
    have bel := har.below
    refine ⟨_, rfl, ds, [], p ++ [], [], p, [], hW', ?_, ?_, ?_, bel.frame _, fun h => by cases h⟩
    · rw [List.append_nil, hs ds (by simpa using hdl), hres]
      exact trodAll_mk1 (shut_bool htb _)
    · rw [List.append_nil, hs ds (by simpa using hdl)]
      exact trod_again (ts := []) hl bel (fun t ht => ⟨(hpar t ht).1.2, (hpar t ht).2⟩) hA
    · rw [hv, List.append_nil, hs ds (by simpa using hdl)]
      rfl
end Go.AM
/- AM: what is handed in, told. -/
namespace Go.AM
set_option linter.unusedSimpArgs false
set_option linter.unusedVariables false
set_option maxRecDepth 8000
theorem tell_int {n : Nat} {cs : List D} (h : Tell TT (n + 1) 3 cs) : ∃ x, cs = [.int .i64 x] ∧ in64 x := by
  simp [Tell] at h
  obtain ⟨x, rfl, hx⟩ := h
  exact ⟨x, rfl, wf64 hx⟩
theorem tell_bool {n : Nat} {cs : List D} (h : Tell TT (n + 1) 4 cs) : ∃ x, cs = [.bool x] := by
  simpa [Tell] using h
theorem tell_ints {n : Nat} {cs : List D} (h : Tell TT (n + 2) 23 cs) : ∃ xs : List Int, cs = [intsD xs] ∧ xs.length * 8 ≤ 140737488351232 ∧ ∀ x ∈ xs, in64 x := by
  unfold Tell at h
  simp at h
  obtain ⟨rows, rfl, hl, hr⟩ := h
  obtain ⟨xs, rfl, hx⟩ := rows_of (f := irow) (Q := in64) rows fun r h => by
    obtain ⟨x, rfl, hx⟩ := tell_int (hr r h)
    exact ⟨x, rfl, hx⟩
  exact ⟨xs, by simp [intsD], by simpa using hl, hx⟩
theorem tell_Peer {n : Nat} {cs : List D} (h : Tell TT (n + 2) 42 cs) : ∃ p : Peer, cs = p.row ∧ in64 p.id ∧ in64 p.missed := by
  unfold Tell at h
  simp [Tell.TellFs] at h
  obtain ⟨a, b, rfl, h1, h2⟩ := h
  obtain ⟨x, rfl, hx⟩ := tell_int h1
  obtain ⟨y, rfl, hy⟩ := tell_int h2
  exact ⟨⟨x, y⟩, rfl, hx, hy⟩
theorem tell_peers {n : Nat} {cs : List D} (h : Tell TT (n + 3) 22 cs) : ∃ ps : List Peer, cs = [peersD ps] ∧ ps.length * 16 ≤ 140737488351232 ∧ ∀ p ∈ ps, in64 p.id ∧ in64 p.missed := by
  unfold Tell at h
  simp at h
  obtain ⟨rows, rfl, hl, hr⟩ := h
  obtain ⟨xs, rfl, hx⟩ := rows_of (f := Peer.row) (Q := fun p => in64 p.id ∧ in64 p.missed) rows fun r h => tell_Peer (hr r h)
  exact ⟨xs, by simp [peersD], by simpa using hl, hx⟩
def View.tame (v : View) : Prop := v.peers.length * 16 ≤ 140737488351232 ∧ v.passive.length * 8 ≤ 140737488351232 ∧ in64 v.id ∧ (∀ p ∈ v.peers, in64 p.id ∧ in64 p.missed) ∧ ∀ x ∈ v.passive, in64 x
theorem View.tame.small {v : View} (h : v.tame) : v.small := by
  obtain ⟨h1, h2, _⟩ := h
  unfold View.small cap16 cap
  omega
theorem tell_View {n : Nat} {cs : List D} (h : Tell TT (n + 4) 25 cs) : ∃ v : View, cs = v.cells ∧ v.tame := by
  unfold Tell at h
  simp [Tell.TellFs] at h
  obtain ⟨a, r, rfl, h1, b, c, rfl, h2, h3⟩ := h
  obtain ⟨x, rfl, hx⟩ := tell_int h1
  obtain ⟨ps, rfl, hp, hp2⟩ := tell_peers h2
  obtain ⟨xs, rfl, hq, hq2⟩ := tell_ints h3
  exact ⟨⟨x, ps, xs⟩, rfl, hp, hq, hx, hp2, hq2⟩
theorem tell_Version {n : Nat} {cs : List D} (h : Tell TT (n + 2) 68 cs) : ∃ c w : Int, cs = [.int .i64 c, .int .i64 w] ∧ in64 c ∧ in64 w := by
  unfold Tell at h
  simp [Tell.TellFs] at h
  obtain ⟨a, b, rfl, h1, h2⟩ := h
  obtain ⟨x, rfl, hx⟩ := tell_int h1
  obtain ⟨y, rfl, hy⟩ := tell_int h2
  exact ⟨x, y, rfl, hx, hy⟩
def Item.tame (i : Item) : Prop := in64 i.key ∧ in64 i.count ∧ in64 i.writer ∧ in64 i.value
theorem tell_Item {n : Nat} {cs : List D} (h : Tell TT (n + 3) 70 cs) : ∃ i : Item, cs = i.row ∧ i.tame := by
  unfold Tell at h
  simp [Tell.TellFs] at h
  obtain ⟨a, r1, rfl, h1, b, r2, rfl, h2, c, d, rfl, h3, h4⟩ := h
  obtain ⟨x, rfl, hx⟩ := tell_int h1
  obtain ⟨y, z, rfl, hy, hz⟩ := tell_Version h2
  obtain ⟨u, rfl, hu⟩ := tell_int h3
  obtain ⟨g, rfl⟩ := tell_bool h4
  exact ⟨⟨x, y, z, u, g⟩, rfl, hx, hy, hz, hu⟩
theorem tell_items {n : Nat} {cs : List D} (h : Tell TT (n + 4) 53 cs) : ∃ is : List Item, cs = [itemsD is] ∧ is.length * 40 ≤ 140737488351232 ∧ ∀ i ∈ is, i.tame := by
  unfold Tell at h
  simp at h
  obtain ⟨rows, rfl, hl, hr⟩ := h
  obtain ⟨xs, rfl, hx⟩ := rows_of (f := Item.row) (Q := Item.tame) rows fun r h => tell_Item (hr r h)
  exact ⟨xs, by simp [itemsD], by simpa using hl, hx⟩
theorem tell_Told {n : Nat} {cs : List D} (h : Tell TT (n + 2) 99 cs) : ∃ t : Told, cs = t.row ∧ in64 t.key ∧ in64 t.value := by
  unfold Tell at h
  simp [Tell.TellFs] at h
  obtain ⟨a, r1, rfl, h1, b, c, rfl, h2, h3⟩ := h
  obtain ⟨x, rfl, hx⟩ := tell_int h1
  obtain ⟨g, rfl⟩ := tell_bool h2
  obtain ⟨u, rfl, hu⟩ := tell_int h3
  exact ⟨⟨x, g, u⟩, rfl, hx, hu⟩
theorem tell_tolds {n : Nat} {cs : List D} (h : Tell TT (n + 3) 54 cs) : ∃ ts : List Told, cs = [toldsD ts] ∧ ts.length * 24 ≤ 140737488351232 ∧ ∀ t ∈ ts, in64 t.key ∧ in64 t.value := by
  unfold Tell at h
  simp at h
  obtain ⟨rows, rfl, hl, hr⟩ := h
  obtain ⟨xs, rfl, hx⟩ := rows_of (f := Told.row) (Q := fun t => in64 t.key ∧ in64 t.value) rows fun r h => tell_Told (hr r h)
  exact ⟨xs, by simp [toldsD], by simpa using hl, hx⟩
def Node.tame (x : Node) : Prop := x.view.tame ∧ x.items.length * 40 ≤ 140737488351232 ∧ (∀ i ∈ x.items, i.tame) ∧ x.log.length * 24 ≤ 140737488351232 ∧ ∀ t ∈ x.log, in64 t.key ∧ in64 t.value
theorem Node.tame.small {x : Node} (h : x.tame) : x.small := ⟨h.1.small, h.2.1, h.2.2.2.1⟩
theorem tell_Node {n : Nat} {cs : List D} (h : Tell TT (n + 5) 56 cs) : ∃ x : Node, cs = x.cells ∧ x.tame := by
  unfold Tell at h
  simp [Tell.TellFs] at h
  obtain ⟨a, r1, rfl, h1, b, r2, rfl, h2, c, d, rfl, h3, h4⟩ := h
  obtain ⟨u, rfl⟩ := tell_bool h1
  obtain ⟨v, rfl, hv⟩ := tell_View h2
  obtain ⟨is, rfl, h5, h6⟩ := tell_items h3
  obtain ⟨ts, rfl, h7, h8⟩ := tell_tolds h4
  exact ⟨⟨u, v, is, ts⟩, rfl, hv, h5, h6, h7, h8⟩
theorem arg_Node {n : Nat} {d : D} (h : TellArg TT (n + 5) 56 d) : ∃ x : Node, d = nodeD x ∧ x.tame := by
  simp [TellArg] at h
  obtain ⟨cs, rfl, h⟩ := h
  obtain ⟨v, rfl, hv⟩ := tell_Node h
  exact ⟨v, rfl, hv⟩
theorem arg_Item {n : Nat} {d : D} (h : TellArg TT (n + 3) 70 d) : ∃ x : Item, d = .agg x.row ∧ x.tame := by
  simp [TellArg] at h
  obtain ⟨cs, rfl, h⟩ := h
  obtain ⟨v, rfl, hv⟩ := tell_Item h
  exact ⟨v, rfl, hv⟩
theorem arg_items {n : Nat} {d : D} (h : TellArg TT (n + 4) 53 d) : ∃ x : List Item, d = itemsD x ∧ x.length * 40 ≤ 140737488351232 ∧ ∀ i ∈ x, i.tame := by
  simp [TellArg] at h
  obtain ⟨xs, hx, h2⟩ := tell_items h
  simp at hx
  exact ⟨xs, hx, h2⟩
theorem arg_ints {n : Nat} {d : D} (h : TellArg TT (n + 2) 23 d) : ∃ x : List Int, d = intsD x ∧ x.length * 8 ≤ 140737488351232 ∧ ∀ i ∈ x, in64 i := by
  simp [TellArg] at h
  obtain ⟨xs, hx, h2⟩ := tell_ints h
  simp at hx
  exact ⟨xs, hx, h2⟩
theorem arg_peers {n : Nat} {d : D} (h : TellArg TT (n + 3) 22 d) : ∃ x : List Peer, d = peersD x ∧ x.length * 16 ≤ 140737488351232 ∧ ∀ p ∈ x, in64 p.id ∧ in64 p.missed := by
  simp [TellArg] at h
  obtain ⟨xs, hx, h2⟩ := tell_peers h
  simp at hx
  exact ⟨xs, hx, h2⟩
theorem arg_bool {n : Nat} {d : D} (h : TellArg TT (n + 1) 4 d) : ∃ x, d = .bool x ∧ True := by
  simp [TellArg] at h
  obtain ⟨x, hx⟩ := tell_bool h
  simp at hx
  exact ⟨x, hx, trivial⟩
theorem arg_int {n : Nat} {d : D} (h : TellArg TT (n + 1) 3 d) : ∃ x, d = .int .i64 x ∧ in64 x := by
  simp [TellArg] at h
  obtain ⟨x, hx, h2⟩ := tell_int h
  simp at hx
  exact ⟨x, hx, h2⟩
theorem arg_View {n : Nat} {d : D} (h : TellArg TT (n + 4) 25 d) : ∃ v : View, d = viewD v ∧ v.tame := by
  simp [TellArg] at h
  obtain ⟨cs, rfl, h⟩ := h
  obtain ⟨v, rfl, hv⟩ := tell_View h
  exact ⟨v, rfl, hv⟩
end Go.AM
