/- What the proof of this claim stands on, part 4. -/
import Derived.Laws.Externs
import Derived.Test.YtehagcggdepajaaGreatAmZ3
set_option linter.unusedVariables false
set_option linter.unusedSimpArgs false
set_option maxRecDepth 8000
set_option maxHeartbeats 0
/- AM: a call that is lent nothing does what z0g says; whatever is no zdg. -/
namespace Go.AM
open Go.RowKit (Below)

section
variable {P : Program} {T : Tab} {eqs : List Nat} {M0 : Foot} {ρ : Nat → Loc} {bs bsE : List Blk} {w : World}

theorem zpz {f : Nat} {ev' : Operand → Value} {fo : Operand} {args : Array Operand} {argTypes : Array TypeId} {ty : TypeId} {va vc : Array Value} (hc : zj8 P f) (hf : ev' fo = .func (.func f) va vc) :
 (do let d ← resolve ev' { callee := .value fo, args := args, argTypes := argTypes } ty; invoke d.target d.args : Sem Next).run P w = .ok (.enter f (va ++ args.map ev' ++ vc)) w := by
 obtain ⟨fn, h1, h2, h3⟩ := hc
 have h2' : ¬ fn.name = "runtime.NumGoroutine" := by simpa using h2
 have h3' : fn.body ≠ none := by
  intro h
  simp [h] at h3
 simp [resolve, hf, Deferred.ofValue, invoke, callFunc, h1, h2', h3']

theorem zvs (hS : Store M0 ρ bs w) (hE : Ext bsE bs) {M' : Foot} (hp : Pres w (Mof M0 ρ bs) w M') {vs : Array Value} {ds : List D} (hst : ∀ x ∈ reach bsE (idsL ds), zrx ρ M' x)
 (h : ∀ (i : Nat) (v : Value) (d : D), vs[i]? = some v → ds[i]? = some d → Rep w (Mof M0 ρ bs) ρ v d) :
 ∀ (i : Nat) (v : Value) (d : D), vs[i]? = some v → (ds.map (D.freeze bsE))[i]? = some d → Rep w M' zry v d := by
 intro i v d hv hd
 rw [List.getElem?_map] at hd
 cases hc : ds[i]? with
 | none => simp [hc] at hd
 | some d0 =>
   simp [hc] at hd
   subst hd
   refine hS.freeze hE hp (h i v d0 hv hc) fun x hx => hst x ?_
   simp only [reach, List.mem_append, List.mem_flatMap] at hx ⊢
   rcases hx with hx | ⟨b, hb, hx⟩
   ·exact .inl (zor (List.mem_of_getElem? hc) hx)
   ·exact .inr ⟨b, zor (List.mem_of_getElem? hc) hb, hx⟩

theorem Store.still (hS : Store M0 ρ bs w) {b : Nat} (h : ∀ k, bs[b]? = some k → k.kind ≠ .box ∧ k.kind ≠ .mut) : zrx ρ (Mof M0 ρ bs) b := by
 intro g base n rl esz hat o ho
 have hlt : b < bs.length := by
  rcases Nat.lt_or_ge b bs.length with h' | h'
  ·exact h'
  ·have := hS.out b h'
   rw [this] at hat
   cases hat
 exact hS.stable (by simp [hlt]) hat (h bs[b] (by simp [hlt])) ho

theorem qaf (hS : Store M0 ρ bs w) (hm0 : ∀ g o, M0 g o → g < w.heap.size) : ∀ g o, Mof M0 ρ bs g o → g < w.heap.size := by
 rintro g o (h | ⟨i, b', base, n, rl, esz, hi, hat, hk⟩)
 ·exact hm0 g o h
 ·exact hS.lt hat

mutual
theorem zya : ∀ (d : D), d.plain = true → ∀ fr fp, d.mapR fr fp = d
 | .undef, _, _, _ => rfl
 | .int _ _, _, _, _ => rfl
 | .bool _, _, _, _ => rfl
 | .nil, _, _, _ => rfl
 | .zs _, _, _, _ => rfl
 | .sl _ _, hp, _, _ => rfl
 | .mem _, hp, _, _ => rfl
 | .ref _ _ _, hp, _, _ => by simp [D.plain] at hp
 | .ptr _ _ _, hp, _, _ => by simp [D.plain] at hp
 | .agg cs, hp, fr, fp => by simp only [D.mapR, zjh cs (by simpa [D.plain] using hp) fr fp]
 | .tup cs, hp, fr, fp => by simp only [D.mapR, zjh cs (by simpa [D.plain] using hp) fr fp]
 | .fn _ a c, hp, fr, fp => by
   simp only [D.plain, Bool.and_eq_true] at hp
   simp only [D.mapR, zjh a hp.1 fr fp, zjh c hp.2 fr fp]
theorem zjh : ∀ (cs : List D), zod cs = true → ∀ fr fp, zoc fr fp cs = cs
 | [], _, _, _ => rfl
 | c :: cs, hp, fr, fp => by
   simp only [zod, Bool.and_eq_true] at hp
   simp only [zoc, zya c hp.1 fr fp, zjh cs hp.2 fr fp]
end

theorem z7o {C : Con} {own : Bool} {nb : Nat} {fd : D} {ads : List D} {out : Out} {vf : Value} {avs : Array Value} (hC : ∀ f args bs r bs', C f args bs r bs' → Den P f args bs r bs') (c : Cfg) (hc : c.C = C)
 (hS : Store M0 ρ bs w) (hm0 : ∀ g o, M0 g o → g < w.heap.size) (hE : Ext bsE bs) (hf : Rep w (Mof M0 ρ bs) ρ vf fd) (hal : avs.size = ads.length)
 (ha : ∀ (i : Nat) (v : Value) (d : D), avs[i]? = some v → ads[i]? = some d → Rep w (Mof M0 ρ bs) ρ v d) (hout : z0g c own nb bsE fd ads out) (hn : NewAt M0 ρ bs nb out.news)
 (hdown : ∀ b ∈ out.down, ∀ k, bs[b]? = some k → k.kind ≠ .box ∧ k.kind ≠ .mut) :
 ∃ f va vc, vf = .func (.func f) va vc ∧ zj8 P f ∧ Calls P f (va ++ avs ++ vc) w fun e w' => ∃ v ρ', e = .returned v ∧ Rep w' (Mof M0 ρ' bs) ρ' v out.d ∧ Grow M0 w ρ w' ρ' bs nb out.news.length := by
 unfold z0g at hout
 split at hout
 ·rename_i f first caps
  obtain ⟨r, nbs, hcon, hbox, rfl⟩ := hout
  rw [hc] at hcon
  obtain ⟨hcall, hden⟩ := hC _ _ _ _ _ hcon
  obtain ⟨va, vc, rfl, hsa, hsc, hra, hrc⟩ := hf.fn_inv
  refine ⟨f, va, vc, rfl, hcall, ?_⟩
  have hall : ∀ (i : Nat) (v : Value) (d : D), (va ++ avs ++ vc)[i]? = some v → (first ++ ads ++ caps)[i]? = some d → Rep w (Mof M0 ρ bs) ρ v d :=
   zom (by simp [hsa, hal]) (zom hsa hra ha) hrc
  let ids := reach bsE (idsL (first ++ ads ++ caps))
  have hS1 := hS.down ids
  have hE1 : Ext bsE (zar ids bs) := hE.trans (zow ids bs)
  have hM1 : ∀ g o, Mof M0 ρ (zar ids bs) g o → Mof M0 ρ bs g o := fun g o => zq3 fun i b' h => ze3 h
  have hst : ∀ x ∈ ids, zrx ρ (Mof M0 ρ (zar ids bs)) x := fun x hx => hS1.still fun k hk => zl9 hk hx
  have hall1 : ∀ (i : Nat) (v : Value) (d : D), (va ++ avs ++ vc)[i]? = some v → (first ++ ads ++ caps)[i]? = some d → Rep w (Mof M0 ρ (zar ids bs)) ρ v d :=
   fun i v d h1 h2 => (hall i v d h1 h2).move (Pres.sub hM1) fun _ _ => rfl
  have hargs := zvs hS1 hE1 (Pres.refl _ _) hst hall1
  have hlt1 := qaf hS1 hm0
  refine (hden w (Mof M0 ρ (zar ids bs)) zry (va ++ avs ++ vc) hlt1 (.empty _ _) (by simp [hsa, hal, hsc]) (by rw [z3k]; exact hargs)).mono ?_
  rintro e w' ⟨v, ρ'', rfl, hr, hS2, _, _, hp2, har⟩
  have hbel := har.below
  by_cases hpl : (r.plain && nbs.isEmpty) = true
  ·-- nothing is kept
   simp only [Bool.and_eq_true] at hpl
   have hnil : nbs = [] := by simpa using hpl.2
   subst hnil
   refine ⟨v, ρ, rfl, ?_, zou hS hbel _ _⟩
   have hkeep : ∀ fr fp, r.mapR fr fp = r := fun fr fp => zya r hpl.1 fr fp
   have hd : (zh4 own nb r [] ids).d = r := by
    simp only [zh4, D.shift, D.freeze, hkeep, ite_self]
   rw [hd]
   exact z06 r v hpl.1 hr
  ·-- what it saw stays as it is
   have hdn : zh4 own nb r nbs ids = { d := if own then r.shift nb else r.freeze nbs, news := if own then nbs else [], down := ids } := by
    simp only [zh4]
    rw [if_neg hpl]
   rw [hdn] at hn hdown ⊢
   have hid : zar ids bs = bs := zv6 hdown
   rw [hid] at hr hS2 hp2
   have hfresh : ∀ i g base n rl esz, ρ'' i = .at_ g base n rl esz → w.heap.size ≤ g := fun i g base n rl esz h => har.fresh i g base n rl esz (Nat.zero_le _) h
   have hbox' : ∀ b ∈ nbs, b.kind.isBox = false := by
    intro b hb
    rw [List.all_eq_true] at hbox
    simpa using hbox b hb
   cases own with
   | true =>
     simp only [if_true] at hn ⊢
     obtain ⟨ρ', h1, h2⟩ := hS.taken hm0 hbel hS2 hfresh hbox' hn hr
     exact ⟨v, ρ', rfl, h1, h2⟩
   | false =>
     simp only [Bool.false_eq_true, if_false] at hn ⊢
     refine ⟨v, ρ, rfl, ?_, zou hS hbel _ _⟩
     have hlt := qaf hS hm0
     have h1 : Rep w' (Mof M0 ρ bs) zry v (r.freeze nbs) := hS2.freeze (Ext.refl _) (M' := Mof M0 ρ bs) (Pres.sub fun g o h => .inl h) hr (by
      intro x hx g base n rl esz hat o ho hm
      have := hfresh x g _ _ _ _ hat
      have := hlt g o hm
      omega)
     exact h1.move (Pres.refl _ _) fun b hb => absurd rfl hb
 ·cases hout

theorem qhh {f : Nat} {ds : List D} {vs : Array Value} (hf : zqa P T f) (hT : TabOk P T eqs) (hS : Store M0 ρ bs w) (hl : vs.size = ds.length)
 (hr : ∀ (i : Nat) (v : Value) (d : D), vs[i]? = some v → ds[i]? = some d → Rep w (Mof M0 ρ bs) ρ v d) (hap : ztj bs ds = true) : (callFunc f vs).run P w = .ok (.value (.bool false)) w := by
 obtain ⟨fn, t, e, h1, h2, h3, h4, h5, h6, h7, h8⟩ := hf
 obtain ⟨hu, hk⟩ := zdb hT h7
 have hsz := zb4 (P := P) hT (w := w) hk
 rw [run_callFunc_extern h1 h2 h3 h4 h5]
 have key : ∀ (a b : Option Addr) (la ca lb cb : Nat), vs = #[.slice a la ca, .slice b lb cb] →
  (la = 0 ∨ lb = 0 ∨ a = none ∨ b = none ∨ ∃ x y, a = some x ∧ b = some y ∧ x.block ≠ y.block ∧ (∃ T1 n1, w.shape? x.block = some (T1, n1 + 1)) ∧ (∃ T2 n2, w.shape? y.block = some (T2, n2)) ∧ (∀ o, w.frozen? ⟨y.block, o, none⟩ = false) ∧ w.frozen? y = false) →
  ((Extern.SlicesOverlaps.overlaps fn.params fn.resultTypes vs).run P w).andThen (fun v w' => Result.ok (Next.value v) w') = .ok (.value (.bool false)) w := by
  intro a b la ca lb cb hvs hcase
  have hrun : (Extern.SlicesOverlaps.overlaps fn.params fn.resultTypes vs).run P w = .ok (.bool false) w := by
   subst hvs
   change Sem.run P (α := Value) (do
    let some t := fn.params[0]? | stuck "slices.overlaps: no parameter types"
    let .slice elem ← underlying t | stuck "slices.overlaps: slice type expected"
    let size ← sizeOf elem
    match a, b with
    | some a, some b =>
      if la = 0 ∨ lb = 0 ∨ size = 0 then pure (Value.bool false)
      else if a.block != b.block && (← frozen a) && (← frozen b) then unsupported .addressObserved
      else do
       if a.block != b.block then do
        noView a; noView b
        if ← mayBeOne a b then return Value.bool ((← choose (.extern "sameAddr.stringBytes" 2)) == 1)
       pure (Value.bool (a.block == b.block && a.off < b.off + lb * size && b.off < a.off + la * size))
    | _, _ => pure (Value.bool false)) w = _
   rcases hcase with h | h | h | h | ⟨x, y, rfl, rfl, hne, ⟨T1, n1, hs1⟩, ⟨T2, n2, hs2⟩, hfy, hfy'⟩
   ·subst h
    cases a <;> cases b <;> simp [h6, run_underlying hu, hsz]
   ·subst h
    cases a <;> cases b <;> simp [h6, run_underlying hu, hsz]
   ·subst h
    cases b <;> simp [h6, run_underlying hu, hsz]
   ·subst h
    cases a <;> simp [h6, run_underlying hu, hsz]
   ·by_cases h0 : la = 0 ∨ lb = 0 ∨ (T e).size = 0
    ·simp [h6, run_underlying hu, hsz, h0]
    ·have hnb : (x.block != y.block) = true := by simpa using hne
     have hnb' : (x.block == y.block) = false := by simpa using hne
     have hfy2 := hfy n2
     cases hfx : w.frozen? x <;> cases hfx2 : w.frozen? ⟨x.block, n1 + 1, none⟩ <;>
      simp [h6, run_underlying hu, hsz, h0, hnb, hnb', frozen, noView, viewAt, mayBeOne, stringish, shape, Sem.run, hs1, hs2, hfx, hfx2, hfy', hfy2]
  rw [hrun]
  rfl
 unfold ztj at hap
 split at hap
 ·rename_i c0 cs0 rows0 len b off l
  match vs, hl with
  | ⟨[v1, v2]⟩, _ =>
    have r1 := hr 0 v1 _ rfl rfl
    have r2 := hr 1 v2 _ rfl rfl
    split at hap
    ·rename_i k hb
     have hmut : k.kind = .mut := by
      cases hkk : k.kind <;> simp [hkk] at hap
      rfl
     have hi := r1.sl_inv
     cases hi with
     | sl a _ cap _ esz g off1 vals q1 q2 hrow ha hc hvv =>
       have ha := ha (by simp)
       subst ha
       have hez : esz = (c0 :: cs0).length := (hrow _ (by simp)).symm
       have hcell := hc 0 0 (by simp) (by rw [hez]; simp)
       simp only [Nat.zero_mul, Nat.add_zero] at hcell
       rcases r2.ref_inv with ⟨cap2, g2, base, n, rl, esz2, rfl, hat, p1, p2, p3⟩ | ⟨a2, rfl, hvirt, rfl, rfl⟩
       ·obtain ⟨arr, Ty, hh, hs, _⟩ := (hS.at_ b k g2 base n rl esz2 hb hat).cells
        refine key _ _ _ _ _ _ rfl (.inr (.inr (.inr (.inr ⟨_, _, rfl, rfl, ?_, ?_, ?_, ?_, ?_⟩))))
        ·show g ≠ g2
         rintro rfl
         exact hcell.1 (.inr ⟨b, k, base, n, rl, esz2, hb, hat, .inr (.inl hmut)⟩)
        ·show ∃ T1 n1, w.shape? g = some (T1, n1 + 1)
         have h2 := hcell.2
         unfold World.cell? at h2
         unfold World.shape?
         simp only at h2 ⊢
         split at h2
         ·rename_i cc el fz hcc
          simp only [Option.isSome_none, Bool.false_eq_true, if_false] at h2
          have hlt := (Array.getElem?_eq_some_iff.1 h2).1
          exact ⟨el, cc.size - 1, by rw [Option.some.injEq, Prod.mk.injEq]; exact ⟨rfl, by omega⟩⟩
         ·cases h2
        ·show ∃ T2 n2, w.shape? g2 = some (T2, n2)
         unfold World.shape?
         rw [hh]
         exact ⟨_, _, rfl⟩
        ·intro o
         show w.frozen? ⟨g2, o, none⟩ = false
         unfold World.frozen?
         simp [hh]
        ·unfold World.frozen?
         simp [hh]
       ·exact key _ _ _ _ _ _ rfl (.inr (.inl rfl))
    ·cases hap
 ·rename_i rows0 b off l
  match vs, hl with
  | ⟨[v1, v2]⟩, _ =>
    have r1 := hr 0 v1 _ rfl rfl
    have r2 := hr 1 v2 _ rfl rfl
    have hi := r1.sl_inv
    cases hi with
    | sl a _ cap _ esz g off1 vals q1 q2 hrow ha hc hvv =>
      rcases r2.ref_inv with ⟨cap2, g2, base, n, rl, esz2, rfl, hat, p1, p2, p3⟩ | ⟨a2, rfl, hvirt, rfl, rfl⟩
      ·exact key _ _ _ _ _ _ rfl (.inl rfl)
      ·exact key _ _ _ _ _ _ rfl (.inl rfl)
 ·cases hap

theorem z0t {c : Cfg} {a : Act} {o : Oper} {nb : Nat} {ev : Operand → D} {out : Out} {Q : Exit → Act → World → Prop} (hC : ∀ f args bs r bs', c.C f args bs r bs' → Den P f args bs r bs') (hT : TabOk P c.T c.eqs)
 (hS : Store M0 ρ bs w) (hm0 : ∀ g o, M0 g o → g < w.heap.size) (hE : Ext bsE bs) (hops : ∀ x ∈ o.op.operands, Rep w (Mof M0 ρ bs) ρ (a.eval x) (ev x)) (h : zhf c nb bsE ev o out)
 (hn : NewAt M0 ρ bs nb out.news) (hdown : ∀ b ∈ out.down, ∀ k, bs[b]? = some k → k.kind ≠ .box ∧ k.kind ≠ .mut) (hfull : FullAt c.full ρ) (K : Act → World → Prop)
 (hK : ∀ v w' ρ', Rep w' (Mof M0 ρ' bs) ρ' v out.d → Grow M0 w ρ w' ρ' bs nb out.news.length → K (a.put o.dst v) w') : o.wp P a w K Q := by
 have plain : opFn c.T c.eqs nb bsE ev o.type o.op = some out → o.wp P a w K Q := by
  intro h
  obtain ⟨v, w', ρ', hrun, hrep, hg⟩ := z70 hT hS hm0 hE (ev' := a.eval) (fun _ => rfl) hops h hn hdown
  unfold Oper.wp
  rw [hrun]
  exact hK v w' ρ' hrep hg
 unfold zhf at h
 split at h
 ·rename_i f args tys hop
  rw [hop] at hops
  simp only [Op.operands, Call.operands] at hops
  obtain ⟨fid, va, vc, hvf, hcall, hcalls⟩ := z7o hC c rfl hS hm0 hE (hops f (by simp)) (avs := args.map a.eval) (by simp) (zjy fun y hy => hops y (by simp [hy])) h hn hdown
  unfold Oper.wp
  have he : (execOp a.eval o).run P w = .ok (.enter fid (va ++ args.map a.eval ++ vc)) w := by
   obtain ⟨dst, op, ty, pos, after, guard⟩ := o
   simp only at hop
   subst hop
   simp only [execOp]
   exact zpz hcall hvf
  rw [he]
  refine Calls.mono hcalls ?_
  rintro e w' ⟨v, ρ', rfl, hrep, hg⟩
  exact hK v w' ρ' hrep hg
 ·rename_i args tys hop
  rw [Option.map_eq_some_iff] at h
  obtain ⟨d, h, rfl⟩ := h
  rw [hop] at hops
  simp only [Op.operands, Call.operands] at hops
  unfold capT at h
  split at h
  ·rename_i x t hargs htys
   split at h
   ·rename_i e he
    obtain ⟨hu, _⟩ := zdb hT he
    have ha : args = #[x] := Array.toList_inj.1 (by simpa using hargs)
    have hat : tys = #[t] := Array.toList_inj.1 (by simpa using htys)
    subst ha hat
    have hx := hops x (by simp)
    have run : ∀ (ad : Option Addr) (n k : Nat), a.eval x = .slice ad n k → d = .int .i64 (k : Int) → o.wp P a w K Q := by
     intro ad n k hv hd
     have hr : (execOp a.eval o).run P w = .ok (.value (.int .i64 (k : Int))) w := by
      obtain ⟨dst, op, ty, pos, after, guard⟩ := o
      simp only at hop
      subst hop
      simp [execOp, resolve, invoke, builtin, Builtin.cap_, run_underlying hu, goInt, hv]
     unfold Oper.wp
     rw [hr]
     subst hd
     exact hK _ w ρ (.imm _ _ (.int _ _)) (zou hS (Below.refl _ w) nb 0)
    unfold capD at h
    split at h
    ·rename_i hd
     cases h
     rw [hd] at hx
     obtain ⟨ad, hv⟩ := hx.nil_inv
     exact run _ _ _ hv rfl
    ·rename_i b off len hd
     rw [hd] at hx
     split at h
     ·rename_i k hk
      split at h
      ·rename_i hc
       cases h
       obtain ⟨k', hk', hl⟩ := hE b k hk
       rcases hx.ref_inv with ⟨cap, g, base, n, rl, esz, hv, hat, h1, h2, h3⟩ | ⟨ad, hv, hvirt, rfl, rfl⟩
       ·refine run _ _ _ hv ?_
        have hA := hS.at_ b k' g base n rl esz hk' hat
        have hn := hfull b (by simpa using hc.1) g base n rl esz hat
        have hr : rl = k.rows.length := by rw [hA.hrl, hl.rows]
        have he : 0 < esz := by rw [hA.hesz, hl.esz]; exact hc.2.1
        have hle : off + cap ≤ rl := by
         apply Nat.le_of_mul_le_mul_right _ he
         omega
        have : k.rows.length - off = cap := by omega
        rw [this]
       ·refine run _ _ _ hv ?_
        have h0 := (hS.virt b k' hk' hvirt).1
        have : k.rows = [] := by rw [← hl.rows]; exact h0
        rw [this]
        rfl
      ·cases h
     ·cases h
    ·cases h
   ·cases h
  ·cases h
 ·rename_i t x lo hi mx hop
  split at h
  ·rename_i hmx
   cases h
   rw [hop] at hops
   simp only [Op.operands] at hops
   unfold mxOk at hmx
   split at hmx
   ·rename_i e b off len l kh hh km mm ht hx hlo hhi hmm
    rw [Bool.and_eq_true] at hmx
    obtain ⟨hfl, hmx⟩ := hmx
    split at hmx
    ·rename_i k hk
     simp only [decide_eq_true_eq] at hmx
     obtain ⟨g1, g2, g3, g4⟩ := hmx
     obtain ⟨hu, hkn⟩ := zdb hT ht
     have hsz := zb4 (P := P) hT (w := w) hkn
     have rx := hops x (by simp)
     have rh := hops hi (by simp)
     have rm := hops mx (by simp)
     rw [hx] at rx
     rw [hhi] at rh
     rw [hmm] at rm
     have eh := rh.int_inv
     have em := rm.int_inv
     have rlo : zli w (Mof M0 ρ bs) ρ (lo.map a.eval) (lo.map ev) := zys fun y hy => hops y (by simp [hy])
     obtain ⟨k', hk', hl⟩ := hE b k hk
     obtain ⟨ad, len', cap, hv, hcap⟩ : ∃ ad len' cap, a.eval x = .slice ad len' cap ∧ mm ≤ cap := by
      rcases rx.ref_inv with ⟨cap, g, base, n, rl, esz, hv, hat, h1, h2, h3⟩ | ⟨ad, hv, hvirt, rfl, rfl⟩
      ·have hA := hS.at_ b k' g base n rl esz hk' hat
       have hr : rl = k.rows.length := by rw [hA.hrl, hl.rows]
       exact ⟨_, _, cap, hv, by omega⟩
      ·have h0 := (hS.virt b k' hk' hvirt).1
       have h1 : k.rows = [] := by rw [← hl.rows]; exact h0
       rw [h1] at g4
       simp at g4
       exact ⟨_, _, 0, hv, by omega⟩
     have hb := zpq (P := P) (w := w) (ρ := ρ) (M := Mof M0 ρ bs) (len := len') (cap := cap) (kh := kh) (km := km) rlo hlo g1 g2 g3 hcap
     have hr : ∃ v, (execOp a.eval o).run P w = .ok (.value v) w := by
      obtain ⟨dst, op, ty, pos, after, guard⟩ := o
      simp only at hop
      subst hop
      refine ⟨_, by simp [execOp, hv, eh, em, Instr.sliceAt, Instr.slice, run_underlying hu, hb, hsz]; rfl⟩
     obtain ⟨v, hr⟩ := hr
     unfold Oper.wp
     rw [hr]
     exact hK _ w ρ (.imm _ _ (.undef _)) (zou hS (Below.refl _ w) nb 0)
    ·cases hmx
   ·cases hmx
  ·exact plain (by rw [hop]; rw [hop] at h; exact h)
 ·exact plain h
end
end Go.AM
/- AM: blocks that are written, appended to. -/
namespace Go.AM
open Go.RowKit (Below)

section
variable {P : Program} {T : Tab} {eqs : List Nat} {M0 : Foot} {ρ : Nat → Loc} {bs : List Blk} {w : World}

theorem zcu (bs : List Blk) (b i : Nat) (rows : List (List D)) : (zbj bs b rows)[i]? = (bs[i]?).map fun k => if i = b then { k with rows := rows } else k := by
 simp only [zbj, List.getElem?_modify]
 cases bs[i]? with
 | none => rfl
 | some k =>
   by_cases h : b = i
   ·subst h; simp
   ·simp [h, Ne.symm h]

theorem zd9 (bs : List Blk) (b : Nat) (rows : List (List D)) : (zbj bs b rows).length = bs.length := by simp [zbj]

theorem z04 {M : Foot} {d : D} {v : Value} {ys : List (List D)} {esz : Nat} (hS : Store M0 ρ bs w) (hv : Rep w (Mof M0 ρ bs) ρ v d) (h : zkj bs d = some ys) (hf : ∀ r ∈ ys, r.length = esz) :
 ∃ (a : Option Addr) (cap : Nat) (vals : List Value), v = .slice a ys.length cap ∧ vals.length = ys.length * esz ∧ (∀ ad, a = some ad → ∀ (j : Nat) (u : Value), vals[j]? = some u → w.cell? (ad.add j) = some u) ∧
   (a = none → ys = []) ∧ ∀ (i j : Nat) (r : List D) (e : D), ys[i]? = some r → r[j]? = some e → ∃ u, vals[i * esz + j]? = some u ∧ RepI w (Mof M0 ρ bs) u e := by
 have mk : ∀ (a : Option Addr) (cap g off : Nat), v = .slice a ys.length cap → (ys ≠ [] → a = some ⟨g, off, none⟩) →
  (∀ i j r e, ys[i]? = some r → r[j]? = some e → ∃ u, w.cell? ⟨g, off + i * esz + j, none⟩ = some u ∧ RepI w (Mof M0 ρ bs) u e) →
  ∃ (a : Option Addr) (cap : Nat) (vals : List Value), v = .slice a ys.length cap ∧ vals.length = ys.length * esz ∧ (∀ ad, a = some ad → ∀ (j : Nat) (u : Value), vals[j]? = some u → w.cell? (ad.add j) = some u) ∧
    (a = none → ys = []) ∧ ∀ (i j : Nat) (r : List D) (e : D), ys[i]? = some r → r[j]? = some e → ∃ u, vals[i * esz + j]? = some u ∧ RepI w (Mof M0 ρ bs) u e := by
  intro a cap g off hv ha hc
  have hcell : ∀ m, m < ys.length * esz → ∃ u, w.cell? ⟨g, off + m, none⟩ = some u := by
   intro m hm
   have he : 0 < esz := by
    rcases Nat.eq_zero_or_pos esz with h0 | h0
    ·rw [h0] at hm; simp at hm
    ·exact h0
   have hi : m / esz < ys.length := by rw [Nat.div_lt_iff_lt_mul he]; exact hm
   have hj : m % esz < esz := Nat.mod_lt _ he
   have hr := hf _ (List.getElem_mem hi)
   obtain ⟨u, hu, _⟩ := hc (m / esz) (m % esz) ys[m / esz] (ys[m / esz][m % esz]'(by omega)) (by simp) (by simp)
   have : off + m / esz * esz + m % esz = off + m := by have := Nat.div_add_mod m esz; rw [Nat.mul_comm] at this; omega
   rw [this] at hu
   exact ⟨u, hu⟩
  refine ⟨a, cap, (List.range (ys.length * esz)).map fun m => (w.cell? ⟨g, off + m, none⟩).getD Go.undef, hv, by simp, ?_, ?_, ?_⟩
  ·intro ad had j u hu
   rw [List.getElem?_map] at hu
   by_cases hj : j < ys.length * esz
   ·have hne : ys ≠ [] := by rintro h0; rw [h0] at hj; simp at hj
    rw [ha hne] at had
    cases had
    rw [Addr.add_plain]
    obtain ⟨u', hu'⟩ := hcell j hj
    simp [hj, hu'] at hu
    rw [hu', hu]
   ·simp [hj] at hu
  ·intro h0
   apply Classical.byContradiction
   intro hne
   rw [ha hne] at h0
   cases h0
  ·intro i j r e hi hj
   obtain ⟨u, hu, hr⟩ := hc i j r e hi hj
   have hlt : i * esz + j < ys.length * esz := by
    refine zq0 (List.getElem?_eq_some_iff.1 hi).1 ?_
    rw [← hf r (List.mem_of_getElem? hi)]
    exact (List.getElem?_eq_some_iff.1 hj).1
   refine ⟨u, ?_, hr⟩
   rw [Nat.add_assoc] at hu
   simp [hlt, hu]
 unfold zkj at h
 split at h
 ·cases h
  obtain ⟨a, rfl⟩ := hv.nil_inv
  exact mk a 0 0 0 rfl (fun h => absurd rfl h) (fun i j r e hi => by simp at hi)
 ·cases h
  obtain ⟨a, cap, rfl, _⟩ := hv.zs_inv
  exact mk a cap 0 0 rfl (fun h => absurd rfl h) (fun i j r e hi => by simp at hi)
 ·rename_i rows len
  cases h
  have hI := hv.sl_inv
  cases hI with
  | sl a _ cap _ esz' g off vals h1 h2 hrow ha hc hvv =>
    have hlen : (rows.take len).length = len := by simp; omega
    refine mk a cap g off (by rw [hlen]) (fun hne => ha (by rintro h0; rw [h0] at hne; simp at hne)) ?_
    intro i j r e hi hj
    have hi' : rows[i]? = some r := by
     rw [List.getElem?_take] at hi
     split at hi
     ·exact hi
     ·cases hi
    have hesz : esz' = esz := by rw [← hrow r (List.mem_of_getElem? hi'), hf r (List.mem_of_getElem? hi)]
    subst hesz
    have hjl : j < esz' := by rw [← hrow r (List.mem_of_getElem? hi')]; exact (List.getElem?_eq_some_iff.1 hj).1
    exact ⟨_, (hc i j (List.getElem?_eq_some_iff.1 hi').1 hjl).2, hvv i j r e hi' hj⟩
 ·rename_i b o l
  split at h
  ·rename_i k hb
   split at h
   ·cases h
   ·rename_i hbox
    cases h
    rcases hv.ref_inv with ⟨cap, g, base, n, rl, esz', rfl, hat, h1, h2, h3⟩ | ⟨a, rfl, hvirt, rfl, rfl⟩
    ·have hA := hS.at_ b k g base n rl esz' hb hat
     have hlen : ((k.rows.drop o).take l).length = l := by have := hA.hrl; simp; omega
     refine mk (some ⟨g, base + o * esz', none⟩) cap g (base + o * esz') (by rw [hlen]) (fun _ => rfl) ?_
     intro i j r e hi hj
     have hi' : k.rows[o + i]? = some r := by
      rw [List.getElem?_take] at hi
      split at hi
      ·rw [List.getElem?_drop] at hi; exact hi
      ·cases hi
     have hesz : esz' = esz := by rw [← hA.hrow r (List.mem_of_getElem? hi'), hf r (List.mem_of_getElem? hi)]
     subst hesz
     obtain ⟨arr, Ty, hg, hs, hc⟩ := hA.cells
     obtain ⟨u, hu, hr⟩ := hc (o + i) j r e hi' hj
     rw [if_neg hbox] at hr
     have hpos : base + o * esz' + i * esz' + j = base + (o + i) * esz' + j := by rw [Nat.add_mul]; omega
     exact ⟨u, by rw [hpos]; simp [World.cell?, hg, hu], hr⟩
    ·have hrows := (hS.virt b k hb hvirt).1
     refine mk a 0 0 0 (by rw [hrows]; rfl) (fun hne => absurd (by rw [hrows]; rfl) hne) (fun i j r e hi => by rw [hrows] at hi; simp at hi)
  ·cases h
 ·cases h

theorem Store.write (hS : Store M0 ρ bs w) {b g base n rl esz : Nat} {k : Blk} {arr arr' : Array Value} {Ty : TypeId} {rows : List (List D)} (hb : bs[b]? = some k) (hat : ρ b = .at_ g base n rl esz) (hk : k.kind = .box ∨ k.kind = .mut)
 (hh : w.heap[g]? = some (.cells arr Ty (0, 0))) (hs : arr'.size = arr.size) (hl : rows.length = k.rows.length) (hrow : ∀ r ∈ rows, r.length = esz)
 (hc : ∀ (i j : Nat) (r : List D) (d : D), rows[i]? = some r → r[j]? = some d → ∃ v, arr'[base + i * esz + j]? = some v ∧ (if k.kind.isBox then Rep w (Mof M0 ρ bs) ρ v d else RepI w (Mof M0 ρ bs) v d)) :
 Store M0 ρ (zbj bs b rows) (w.setRow g arr') ∧ Pres w (Mof M0 ρ bs) (w.setRow g arr') (Mof M0 ρ (zbj bs b rows)) := by
 have hM : ∀ x o, Mof M0 ρ (zbj bs b rows) x o → Mof M0 ρ bs x o := by
  rintro x o (h | ⟨i, b', base', n', rl', esz', hi, hat', hk'⟩)
  ·exact .inl h
  ·rw [zcu] at hi
   cases hbi : bs[i]? with
   | none => simp [hbi] at hi
   | some kk =>
     simp only [hbi, Option.map_some, Option.some.injEq] at hi
     refine .inr ⟨i, kk, base', n', rl', esz', hbi, hat', ?_⟩
     split at hi <;> (subst hi; exact hk')
 have hin : ∀ o, Mof M0 ρ bs g o := fun o => .inr ⟨b, k, base, n, rl, esz, hb, hat, hk.imp id .inl⟩
 have hpres : Pres w (Mof M0 ρ bs) (w.setRow g arr') (Mof M0 ρ (zbj bs b rows)) := by
  intro x o v hn hv
  have hx : x ≠ g := by rintro rfl; exact hn (hin o)
  exact ⟨fun h => hn (hM x o h), by rw [cell_setRow_other w g arr' ⟨x, o, none⟩ hx]; exact hv⟩
 refine ⟨⟨?_, ?_, ?_, hS.inj, hS.m0⟩, hpres⟩
 ·intro i b' x base' n' rl' esz' hi hat'
  rw [zcu] at hi
  cases hbi : bs[i]? with
  | none => simp [hbi] at hi
  | some kk =>
    simp only [hbi, Option.map_some, Option.some.injEq] at hi
    by_cases hib : i = b
    ·subst hib
     rw [if_pos rfl] at hi
     subst hi
     rw [hb] at hbi
     cases hbi
     rw [hat] at hat'
     cases hat'
     have hA := hS.at_ i k g base n rl esz hb hat
     obtain ⟨arr0, Ty0, hg0, hs0, _⟩ := hA.cells
     rw [hh] at hg0
     cases hg0
     refine ⟨by rw [hA.hrl]; exact hl.symm, hA.hesz, hrow, hA.hfit, arr', Ty, setRow_heap w g arr arr' Ty _ hh, hs ▸ hs0, fun i' j r d hr hd => ?_⟩
     obtain ⟨v, hv, hrep⟩ := hc i' j r d hr hd
     refine ⟨v, hv, ?_⟩
     show if k.kind.isBox = true then _ else _
     split
     ·rename_i hx; rw [if_pos hx] at hrep; exact hrep.move hpres fun _ _ => rfl
     ·rename_i hx; rw [if_neg hx] at hrep; exact hrep.move hpres
    ·rw [if_neg hib] at hi
     subst hi
     have hne : x ≠ g := by
      rintro rfl
      exact hib (hS.inj i b x _ _ _ _ _ _ _ _ hat' hat)
     exact (hS.at_ i kk x base' n' rl' esz' hbi hat').move (setRow_other w g x arr' hne) hpres fun _ _ => rfl
 ·intro i b' hi hv
  rw [zcu] at hi
  cases hbi : bs[i]? with
  | none => simp [hbi] at hi
  | some kk =>
    simp only [hbi, Option.map_some, Option.some.injEq] at hi
    have hib : i ≠ b := by rintro rfl; rw [hat] at hv; cases hv
    rw [if_neg hib] at hi
    subst hi
    exact hS.virt i kk hbi hv
 ·intro i hi
  exact hS.out i (by rw [zd9] at hi; exact hi)
end
end Go.AM
/- AM: append on the machine. -/
namespace Go.AM
open Go.RowKit (Below)

section
variable {P : Program} {T : Tab} {eqs : List Nat} {M0 : Foot} {ρ : Nat → Loc} {bs : List Blk} {w : World}

theorem zhj {size n : Nat} {a : Option Addr} {cap : Nat} {vals : List Value} (hl : vals.length = n * size) (hc : ∀ ad, a = some ad → ∀ (j : Nat) (u : Value), vals[j]? = some u → w.cell? (ad.add j) = some u) (h0 : a = none → vals = []) :
 (Builtin.firstCells size n (.slice a n cap)).run P w = .ok vals.toArray w := by
 cases a with
 | none => simp [Builtin.firstCells, h0 rfl]
 | some ad => exact run_firstCells_some w size n ad n cap vals hl (hc ad rfl)

theorem zy9 {t0 t1 ty e e' len cap n cap' : Nat} {a a' : Option Addr} {vals : List Value} (hT : TabOk P T eqs) (h0 : (T t0).d = .slice e) (h1 : (T t1).d = .slice e') (hl : vals.length = n * (T e).size)
 (hc : ∀ ad, a' = some ad → ∀ (j : Nat) (u : Value), vals[j]? = some u → w.cell? (ad.add j) = some u) (hn0 : a' = none → n = 0) (hfit : len + n ≤ cap) {w' : World}
 (hst : (match a with | some ad => storeCells (ad.add (len * (T e).size)) vals | none => (pure () : Sem Unit)).run P w = .ok () w') :
 (Builtin.append_ #[t0, t1] ty #[.slice a len cap, .slice a' n cap']).run P w = .ok (.slice a (len + n) cap) w' := by
 obtain ⟨hu0, hk⟩ := zdb hT h0
 obtain ⟨hu1, _⟩ := zdb hT h1
 have hsz := zb4 (P := P) hT (w := w) hk
 have hf := zhj (P := P) (w := w) (cap := cap') hl hc (fun h => by have := hn0 h; subst this; simp at hl; exact hl)
 cases a with
 | none =>
   simp only [Sem.run_pure, Result.ok.injEq, true_and] at hst
   subst hst
   simp [Builtin.append_, run_underlying hu0, run_underlying hu1, hsz, Builtin.lenOf, hfit, hf]
 | some ad =>
   simp only at hst
   simp [Builtin.append_, run_underlying hu0, run_underlying hu1, hsz, Builtin.lenOf, hfit, hf, hst]

theorem zvf {t0 t1 ty e e' len cap n cap' : Nat} {a a' : Option Addr} {olds vals : List Value} (hT : TabOk P T eqs) (h0 : (T t0).d = .slice e) (h1 : (T t1).d = .slice e') (hl : vals.length = n * (T e).size)
 (hc : ∀ ad, a' = some ad → ∀ (j : Nat) (u : Value), vals[j]? = some u → w.cell? (ad.add j) = some u) (hn0 : a' = none → n = 0)
 (hlo : olds.length = len * (T e).size) (hco : ∀ ad, a = some ad → ∀ (j : Nat) (u : Value), olds[j]? = some u → w.cell? (ad.add j) = some u) (hlo0 : a = none → len = 0)
 (hg : cap < len + n) (hb : (len + n) * (T e).bytes ≤ 140737488355328) (h63 : len + n ≤ 9223372036854775807) :
 ∃ (cap2 : Nat) (z : Value), len + n ≤ cap2 ∧ zmy z.cells.toList = (T e).zero ∧ z.cells.size = (T e).size ∧
   (Builtin.append_ #[t0, t1] ty #[.slice a len cap, .slice a' n cap']).run P w = .ok (.slice (some ⟨w.heap.size, 0, none⟩) (len + n) cap2)
     (w.drew.alloc (.cells (olds.toArray ++ vals.toArray ++ Builtin.zeroCells z.cells (cap2 - (len + n))) e)) := by
 obtain ⟨hu0, hk⟩ := zdb hT h0
 obtain ⟨hu1, _⟩ := zdb hT h1
 have hsz := zb4 (P := P) hT (w := w) hk
 obtain ⟨z, i, hi, hz, hib, hzr, hzc, hzf, hzl, his⟩ := zei hT hk
 obtain ⟨hzs, _⟩ := zip (w := w) (M := fun _ _ => False) hzc hzf
 have hf := zhj (P := P) (w := w.drew) (cap := cap') hl (fun ad h j u hu => by simpa using hc ad h j u hu) (fun h => by have := hn0 h; subst this; simp at hl; exact hl)
 have hfo := zhj (P := P) (w := w.drew) (n := len) (cap := cap) hlo (fun ad h j u hu => by simpa using hco ad h j u hu) (fun h => by have := hlo0 h; subst this; simp at hlo; exact hlo)
 refine ⟨grownCap w (len + n) cap e, z, grownCap_ge w _ _ e, hzc, by rw [hzs, hzl], ?_⟩
 have hn : ¬ (len + n ≤ cap) := by omega
 have h63' : ¬ (9223372036854775807 < ((len : Int) + (n : Int))) := by omega
 have hfit : Builtin.nextslicecap (len + n) cap * i.bytes ≤ 281474976710656 := growslice_fits hg (by rw [hib]; exact hb)
 have h48' : ¬ (281474976710656 < Builtin.nextslicecap (len + n) cap * i.bytes) := by omega
 have his' : i.size = (T e).size := his
 simp [Builtin.append_, run_underlying hu0, run_underlying hu1, sizeOf, typeInfo, zeroValue, hi, hz, his', Builtin.lenOf, hn, h63', h48', Question.forced, hf, hfo, newRow, grownCap]
 congr 2
 apply Array.ext'
 simp [List.append_assoc]

structure AppSrc (P : Program) (T : Tab) (w : World) (t0 t1 ty e n : Nat) (vx : Value) (vals : List Value) : Prop where
 inn : ∀ (a : Option Addr) (len cap : Nat) (w' : World), len + n ≤ cap → (match a with | some ad => storeCells (ad.add (len * (T e).size)) vals | none => (pure () : Sem Unit)).run P w = .ok () w' →
  (Builtin.append_ #[t0, t1] ty #[.slice a len cap, vx]).run P w = .ok (.slice a (len + n) cap) w'
 grw : ∀ (a : Option Addr) (len cap : Nat) (olds : List Value), olds.length = len * (T e).size → (∀ ad, a = some ad → ∀ (j : Nat) (u : Value), olds[j]? = some u → w.cell? (ad.add j) = some u) → (a = none → len = 0) →
  cap < len + n → (len + n) * (T e).bytes ≤ 140737488355328 → len + n ≤ 9223372036854775807 →
  ∃ (cap2 : Nat) (z : Value), len + n ≤ cap2 ∧ zmy z.cells.toList = (T e).zero ∧ z.cells.size = (T e).size ∧
    (Builtin.append_ #[t0, t1] ty #[.slice a len cap, vx]).run P w = .ok (.slice (some ⟨w.heap.size, 0, none⟩) (len + n) cap2)
      (w.drew.alloc (.cells (olds.toArray ++ vals.toArray ++ Builtin.zeroCells z.cells (cap2 - (len + n))) e))

theorem AppSrc.cells {t0 t1 ty e e' n cap' : Nat} {a' : Option Addr} {vals : List Value} (hT : TabOk P T eqs) (h0 : (T t0).d = .slice e) (h1 : (T t1).d = .slice e') (hl : vals.length = n * (T e).size)
 (hc : ∀ ad, a' = some ad → ∀ (j : Nat) (u : Value), vals[j]? = some u → w.cell? (ad.add j) = some u) (hn0 : a' = none → n = 0) : AppSrc P T w t0 t1 ty e n (.slice a' n cap') vals :=
 ⟨fun a len cap w' hfit hst => zy9 hT h0 h1 hl hc hn0 hfit hst, fun a len cap olds hlo hco hlo0 hg hb h63 => zvf hT h0 h1 hl hc hn0 hlo hco hlo0 hg hb h63⟩

theorem AppSrc.zeros {t0 t1 ty e : Nat} {n : Int} {k k' : IntKind} (hT : TabOk P T eqs) (h0 : (T t0).d = .slice e) (h1 : (T t1).d = .int k) (hn0 : 0 ≤ n) (hn1 : n * (T e).bytes ≤ 140737488355328) (hn2 : n ≤ 9223372036854775807) :
 ∃ z : Value, zmy z.cells.toList = (T e).zero ∧ (T e).zero.all D.flat = true ∧ (T e).zero.length = (T e).size ∧ AppSrc P T w t0 t1 ty e n.toNat (.int k' n) ((Builtin.zeroCells z.cells n.toNat).toList) := by
 obtain ⟨hu0, hk⟩ := zdb hT h0
 obtain ⟨d1, hu1, hd1⟩ := zg8 hT (t := t1) (by rw [h1]; rfl)
 rw [h1] at hd1
 have hd1' : d1 = .int k := by
  cases d1 <;> simp [za0] at hd1
  rw [hd1]
 subst hd1'
 have hsz := zb4 (P := P) hT (w := w) hk
 obtain ⟨z, i, hi, hz, hib, hzr, hzc, hzf, hzl, his⟩ := zei hT hk
 obtain ⟨hzs, _⟩ := zip (w := w) (M := fun _ _ => False) hzc hzf
 have hwn : IntKind.i64.wrap n = n := IntWalk.i64_in n ⟨by omega, by omega⟩
 have hn1' : ¬ (281474976710656 < n * (i.bytes : Int)) := by rw [hib]; omega
 have hn0' : ¬ (n < 0) := by omega
 have his' : i.size = (T e).size := his
 have hz0 : n.toNat * (T e).size = 0 → Builtin.zeroCells z.cells n.toNat = #[] := by
  intro h
  apply Array.eq_empty_of_size_eq_zero
  rw [size_zeroCells, hzs, hzl, h]
 refine ⟨z, hzc, hzf, hzl, ?_, ?_⟩
 ·intro a len cap w' hfit hst
  by_cases hzz : n.toNat * (T e).size = 0
  ·rw [hz0 hzz] at hst
   have hzz' : n.toNat = 0 ∨ (T e).size = 0 := Nat.mul_eq_zero.1 hzz
   cases a with
   | none =>
     simp only [Sem.run_pure, Result.ok.injEq, true_and] at hst
     subst hst
     simp [Builtin.append_, run_underlying hu0, run_underlying hu1, hsz, asInt, asIntOf, hwn, hn0', typeInfo, hi, hn1', hfit, hzz, hzz']
   | some ad =>
     simp only [Array.toList_empty] at hst
     simp [Builtin.append_, run_underlying hu0, run_underlying hu1, hsz, asInt, asIntOf, hwn, hn0', typeInfo, hi, hn1', hfit, hzz, hzz', hst]
  ·have hzz' : ¬ (n.toNat = 0 ∨ (T e).size = 0) := fun h => hzz (Nat.mul_eq_zero.2 h)
   cases a with
   | none =>
     simp only [Sem.run_pure, Result.ok.injEq, true_and] at hst
     subst hst
     simp [Builtin.append_, run_underlying hu0, run_underlying hu1, hsz, asInt, asIntOf, hwn, hn0', typeInfo, hi, hn1', hfit, hzz, hzz', hzr]
   | some ad =>
     simp only at hst
     simp [Builtin.append_, run_underlying hu0, run_underlying hu1, hsz, asInt, asIntOf, hwn, hn0', typeInfo, hi, hn1', hfit, hzz, hzz', hzr, hst]
 ·intro a len cap olds hlo hco hlo0 hg hb h63
  have hfo := zhj (P := P) (w := w.drew) (n := len) (cap := cap) hlo (fun ad h j u hu => by simpa using hco ad h j u hu) (fun h => by have := hlo0 h; subst this; simp at hlo; exact hlo)
  refine ⟨grownCap w (len + n.toNat) cap e, z, grownCap_ge w _ _ e, hzc, by rw [hzs, hzl], ?_⟩
  have hn : ¬ (len + n.toNat ≤ cap) := by omega
  have h63' : ¬ (9223372036854775807 < ((len : Int) + (n.toNat : Int))) := by omega
  have h63'' : ¬ (9223372036854775807 < ((len : Int) + max n 0)) := by omega
  have hfit : Builtin.nextslicecap (len + n.toNat) cap * i.bytes ≤ 281474976710656 := growslice_fits hg (by rw [hib]; exact hb)
  have h48' : ¬ (281474976710656 < Builtin.nextslicecap (len + n.toNat) cap * i.bytes) := by omega
  by_cases hzz : n.toNat * (T e).size = 0
  ·have hzz' : n.toNat = 0 ∨ (T e).size = 0 := Nat.mul_eq_zero.1 hzz
   rw [hz0 hzz]
   simp [Builtin.append_, run_underlying hu0, run_underlying hu1, sizeOf, asInt, asIntOf, hwn, hn0', typeInfo, zeroValue, hi, hz, his', hn1', hn, h63', h63'', h48', hzz, hzz', Question.forced, hfo, newRow, grownCap]
  ·have hzz' : ¬ (n.toNat = 0 ∨ (T e).size = 0) := fun h => hzz (Nat.mul_eq_zero.2 h)
   simp [Builtin.append_, run_underlying hu0, run_underlying hu1, sizeOf, asInt, asIntOf, hwn, hn0', typeInfo, zeroValue, hi, hz, his', hn1', hn, h63', h63'', h48', hzz, hzz', Question.forced, hfo, newRow, grownCap]

structure Turn (M0 : Foot) (n0 : Nat) (w : World) (ρ : Nat → Loc) (bs : List Blk) (w' : World) (ρ' : Nat → Loc) (bs' : List Blk) (S : Nat → Bool) : Prop where
 store : Store M0 ρ' bs' w'
 pres : Pres w (Mof M0 ρ bs) w' (Mof M0 ρ' bs')
 keep : ∀ b, S b = false → ρ b ≠ .absent → ρ' b = ρ b
 size : w.heap.size ≤ w'.heap.size
 os : w'.os = w.os
 tape : w'.tape = w.tape
 output : w'.output = w.output
 heap : ∀ g, g < w.heap.size → (∀ i base n rl esz, ρ i ≠ .at_ g base n rl esz) → w'.heap[g]? = w.heap[g]?
 fresh : ∀ i g base n rl esz, ρ' i = .at_ g base n rl esz → (∃ base n rl esz, ρ i = .at_ g base n rl esz) ∨ w.heap.size ≤ g
 lent : ∀ i, i < n0 → ρ' i = ρ i
 len : bs.length ≤ bs'.length

theorem Blk.sweep_like (S : Nat → Bool) (k : Blk) : (k.sweep S).rows.length = k.rows.length ∧ (k.sweep S).esz = k.esz ∧ (k.sweep S).kind = k.kind := ⟨by simp [Blk.sweep], rfl, rfl⟩

theorem Store.turn {n0 : Nat} (hS : Store M0 ρ bs w) {b : Nat} {k : Blk} (hb : bs[b]? = some k) (hbox : k.kind.isBox = false) {w' : World} {g' base' n' rl' esz' : Nat} {rows' : List (List D)}
 (hn0 : n0 ≤ b) (hsize : w.heap.size ≤ w'.heap.size) (hos : w'.os = w.os) (htape : w'.tape = w.tape) (houtp : w'.output = w.output)
 (hw : ∀ g, g < w.heap.size → (∀ base n rl esz, ρ b ≠ .at_ g base n rl esz) → w'.heap[g]? = w.heap[g]?)
 (hg' : (∃ base n rl esz, ρ b = .at_ g' base n rl esz) ∨ w.heap.size ≤ g') (hm0 : ∀ g o, M0 g o → g < w.heap.size)
 (hp : Pres w (Mof M0 ρ bs) w' (Mof M0 (updL ρ b (.at_ g' base' n' rl' esz')) (zbj (bs.map (Blk.sweep (· == b))) b rows')))
 (hnew : BlkAt w' (Mof M0 (updL ρ b (.at_ g' base' n' rl' esz')) (zbj (bs.map (Blk.sweep (· == b))) b rows')) (updL ρ b (.at_ g' base' n' rl' esz')) { k with rows := rows' } g' base' n' rl' esz') :
 Turn M0 n0 w ρ bs w' (updL ρ b (.at_ g' base' n' rl' esz')) (zbj (bs.map (Blk.sweep (· == b))) b rows') (· == b) := by
 have hget : ∀ i, (zbj (bs.map (Blk.sweep (· == b))) b rows')[i]? = (bs[i]?).map fun k => if i = b then { k.sweep (· == b) with rows := rows' } else k.sweep (· == b) := by
  intro i
  rw [zcu, List.getElem?_map]
  cases bs[i]? <;> rfl
 have hbe : ({ k.sweep (· == b) with rows := rows' } : Blk) = { k with rows := rows' } := rfl
 have hother : ∀ i g base n rl esz, i ≠ b → ρ i = .at_ g base n rl esz → w'.heap[g]? = w.heap[g]? := by
  intro i g base n rl esz hne hat
  exact hw g (hS.lt hat) fun base' n' rl' esz' hat' => hne (hS.inj i b g _ _ _ _ _ _ _ _ hat hat')
 refine ⟨⟨?_, ?_, ?_, ?_, ?_⟩, hp, ?_, hsize, hos, htape, houtp, ?_, ?_, ?_, by rw [zd9]; simp⟩
 ·intro i b' g base n rl esz hi hat
  rw [hget] at hi
  cases hbi : bs[i]? with
  | none => simp [hbi] at hi
  | some kk =>
    simp only [hbi, Option.map_some, Option.some.injEq] at hi
    by_cases hib : i = b
    ·subst hib
     rw [if_pos rfl] at hi
     rw [hb] at hbi
     cases hbi
     rw [hbe] at hi
     subst hi
     rw [zbb] at hat
     cases hat
     exact hnew
    ·rw [if_neg hib] at hi
     subst hi
     rw [zbt _ _ hib] at hat
     obtain ⟨h1, h2, h3, h4, arr, Ty, hg, hs, hc⟩ := hS.at_ i kk g base n rl esz hbi hat
     refine ⟨by simp [Blk.sweep, h1], h2, ?_, h4, arr, Ty, (hother i g _ _ _ _ hib hat).trans hg, hs, fun k' j r d hr hd => ?_⟩
     ·intro r hr
      simp only [Blk.sweep, List.mem_map] at hr
      obtain ⟨r0, hr0, rfl⟩ := hr
      simpa using h3 r0 hr0
     ·simp only [Blk.sweep, List.getElem?_map] at hr
      cases hx : kk.rows[k']? with
      | none => simp [hx] at hr
      | some r0 =>
        simp [hx] at hr
        subst hr
        rw [List.getElem?_map] at hd
        cases hy : r0[j]? with
        | none => simp [hy] at hd
        | some d0 =>
          simp [hy] at hd
          subst hd
          obtain ⟨v, hv, hrep⟩ := hc k' j r0 d0 hx hy
          refine ⟨v, hv, ?_⟩
          show if kk.kind.isBox = true then _ else _
          split
          ·rename_i hbx
           rw [if_pos hbx] at hrep
           exact hrep.sweep hp fun x hx hne => zbt _ _ (by simpa using hx)
          ·rename_i hbx
           rw [if_neg hbx] at hrep
           have : d0.sweep (· == b) = d0 := hrep.mapR _ _
           rw [this]
           exact hrep.move hp
 ·intro i b' hi hv
  rw [hget] at hi
  cases hbi : bs[i]? with
  | none => simp [hbi] at hi
  | some kk =>
    simp only [hbi, Option.map_some, Option.some.injEq] at hi
    by_cases hib : i = b
    ·subst hib; rw [zbb] at hv; cases hv
    ·rw [if_neg hib] at hi
     subst hi
     rw [zbt _ _ hib] at hv
     obtain ⟨e1, e2⟩ := hS.virt i kk hbi hv
     exact ⟨by simp [Blk.sweep, e1], e2⟩
 ·intro i hi
  rw [zd9, List.length_map] at hi
  have hib : i ≠ b := by
   rintro rfl
   rw [List.getElem?_eq_none hi] at hb
   cases hb
  rw [zbt _ _ hib]
  exact hS.out i hi
 ·have cross : ∀ i g base1 n1 rl1 esz1 base2 n2 rl2 esz2, i ≠ b → ρ i = .at_ g base1 n1 rl1 esz1 → Loc.at_ g' base' n' rl' esz' = .at_ g base2 n2 rl2 esz2 → False := by
   intro i g base1 n1 rl1 esz1 base2 n2 rl2 esz2 hne hat he
   cases he
   rcases hg' with ⟨base, n, rl, esz, h⟩ | h
   ·exact hne (hS.inj i b g' _ _ _ _ _ _ _ _ hat h)
   ·have := hS.lt hat
    omega
  intro i j g base1 n1 rl1 esz1 base2 n2 rl2 esz2 hi hj
  by_cases hib : i = b
  ·by_cases hjb : j = b
   ·rw [hib, hjb]
   ·subst hib
    rw [zbb] at hi
    rw [zbt _ _ hjb] at hj
    exact (cross j g _ _ _ _ _ _ _ _ hjb hj hi).elim
  ·rw [zbt _ _ hib] at hi
   by_cases hjb : j = b
   ·subst hjb
    rw [zbb] at hj
    exact (cross i g _ _ _ _ _ _ _ _ hib hi hj).elim
   ·rw [zbt _ _ hjb] at hj
    exact hS.inj i j g _ _ _ _ _ _ _ _ hi hj
 ·intro i g base n rl esz hi o hm
  by_cases hib : i = b
  ·subst hib
   rw [zbb] at hi
   cases hi
   rcases hg' with ⟨base, n, rl, esz, h⟩ | h
   ·exact hS.m0 i _ _ _ _ _ h o hm
   ·have := hm0 _ _ hm
    omega
  ·rw [zbt _ _ hib] at hi
   exact hS.m0 i g _ _ _ _ hi o hm
 ·intro x hx hne
  exact zbt _ _ (by simpa using hx)
 ·intro g hg hno
  exact hw g hg fun base n rl esz => hno b base n rl esz
 ·intro i g base n rl esz hi
  by_cases hib : i = b
  ·subst hib
   rw [zbb] at hi
   cases hi
   exact hg'
  ·rw [zbt _ _ hib] at hi
   exact .inl ⟨_, _, _, _, hi⟩
 ·intro i hi
  exact zbt _ _ (by omega)
end
end Go.AM
/- AM: append does what zjn says. -/
namespace Go.AM
open Go.RowKit (Below)

section
variable {P : Program} {T : Tab} {eqs : List Nat} {M0 : Foot} {ρ : Nat → Loc} {bs : List Blk} {w : World}

theorem Turn.of_grow {n0 nb n : Nat} {w' : World} {ρ' : Nat → Loc} {bs' : List Blk} (hS : Store M0 ρ bs w) (hg : Grow M0 w ρ w' ρ' bs' nb n) (hn : n0 ≤ nb) (hM : ∀ g o, Mof M0 ρ bs' g o → Mof M0 ρ bs g o) (hl : bs.length ≤ bs'.length) :
 Turn M0 n0 w ρ bs w' ρ' bs' (fun _ => false) := by
 refine ⟨hg.store, (Pres.sub hM).trans hg.pres, fun b _ h => hg.old b h, hg.below.size, hg.below.os, hg.below.tape, hg.below.output, fun g h _ => hg.below.block g h, ?_, ?_, hl⟩
 ·intro i g base n rl esz hi
  by_cases hab : ρ i = .absent
  ·exact .inr ((hg.new i hab (by rw [hi]; simp)).2.2 g _ _ _ _ hi)
  ·rw [hg.old i hab] at hi
   exact .inl ⟨_, _, _, _, hi⟩
 ·intro i hi
  by_cases hab : ρ i = .absent
  ·by_cases hab' : ρ' i = .absent
   ·rw [hab, hab']
   ·have := (hg.new i hab hab').1
    omega
  ·exact hg.old i hab

theorem Store.more (hS : Store M0 ρ bs w) (ids : List Nat) (news : List Blk) : Store M0 ρ (zar ids bs ++ news) w ∧ (∀ g o, Mof M0 ρ (zar ids bs ++ news) g o → Mof M0 ρ bs g o) ∧ NewAt M0 ρ (zar ids bs ++ news) bs.length news := by
 have hlen : (zar ids bs).length = bs.length := by simp [zar]
 have hS1 := hS.down ids
 have hM : ∀ g o, Mof M0 ρ (zar ids bs ++ news) g o → Mof M0 ρ (zar ids bs) g o := by
  rintro g o (h | ⟨i, b', base, n, rl, esz, hi, hat, hk⟩)
  ·exact .inl h
  ·have hlt : i < (zar ids bs).length := by
    rcases Nat.lt_or_ge i (zar ids bs).length with h | h
    ·exact h
    ·have := hS1.out i h
     rw [this] at hat
     cases hat
   rw [List.getElem?_append_left hlt] at hi
   exact .inr ⟨i, b', base, n, rl, esz, hi, hat, hk⟩
 refine ⟨⟨?_, ?_, ?_, hS.inj, hS.m0⟩, fun g o h => zq3 (fun i b' h => ze3 h) (hM g o h), ?_⟩
 ·intro i b' g base n rl esz hi hat
  have hlt : i < (zar ids bs).length := by
   rcases Nat.lt_or_ge i (zar ids bs).length with h | h
   ·exact h
   ·have := hS1.out i h
    rw [this] at hat
    cases hat
  rw [List.getElem?_append_left hlt] at hi
  exact (hS1.at_ i b' g base n rl esz hi hat).like (.refl _) (Pres.sub hM)
 ·intro i b' hi hv
  have hlt : i < (zar ids bs).length := by
   rcases Nat.lt_or_ge i (zar ids bs).length with h | h
   ·exact h
   ·have := hS1.out i h
    rw [this] at hv
    cases hv
  rw [List.getElem?_append_left hlt] at hi
  exact hS1.virt i b' hi hv
 ·intro i hi
  exact hS1.out i (by simp at hi; omega)
 ·intro k b hk
  refine ⟨b, ?_, .refl b, ?_⟩
  ·rw [List.getElem?_append_right (by omega), hlen, show bs.length + k - bs.length = k by omega]
   exact hk
  ·exact hS1.out _ (by omega)

theorem qdn {rows ys : List (List D)} {esz : Nat} {arr : Array Value} {M : Foot} {olds vals : List Value} {rest : Array Value} (harr : arr = olds.toArray ++ vals.toArray ++ rest) (hlo : olds.length = rows.length * esz) (hl : vals.length = ys.length * esz)
 (hrow : ∀ r ∈ rows, r.length = esz) (hys : ∀ r ∈ ys, r.length = esz)
 (h1 : ∀ (i j : Nat) (r : List D) (d : D), rows[i]? = some r → r[j]? = some d → ∃ v, olds[i * esz + j]? = some v ∧ RepI w M v d)
 (h2 : ∀ (i j : Nat) (r : List D) (d : D), ys[i]? = some r → r[j]? = some d → ∃ v, vals[i * esz + j]? = some v ∧ RepI w M v d) :
 ∀ (i j : Nat) (r : List D) (d : D), (rows ++ ys)[i]? = some r → r[j]? = some d → ∃ v, arr[i * esz + j]? = some v ∧ RepI w M v d := by
 intro i j r d hi hj
 subst harr
 by_cases hlt : i < rows.length
 ·rw [List.getElem?_append_left hlt] at hi
  obtain ⟨v, hv, hr⟩ := h1 i j r d hi hj
  have hlt' := (List.getElem?_eq_some_iff.1 hv).1
  refine ⟨v, ?_, hr⟩
  rw [Array.getElem?_append_left (by simp; omega), Array.getElem?_append_left (by simpa using hlt')]
  simpa using hv
 ·rw [List.getElem?_append_right (by omega)] at hi
  obtain ⟨v, hv, hr⟩ := h2 _ j r d hi hj
  have hlt' := (List.getElem?_eq_some_iff.1 hv).1
  have hpos : i * esz + j = olds.length + ((i - rows.length) * esz + j) := by
   rw [hlo, ← Nat.add_assoc, ← Nat.add_mul, show rows.length + (i - rows.length) = i by omega]
  refine ⟨v, ?_, hr⟩
  rw [Array.getElem?_append_left (by simp; omega), Array.getElem?_append_right (by simp; omega)]
  simp only [List.size_toArray, List.getElem?_toArray]
  rw [hpos, show olds.length + ((i - rows.length) * esz + j) - olds.length = (i - rows.length) * esz + j by omega]
  exact hv

theorem z7v {c : Cfg} {t0 t1 ty e : Nat} {vx : Value} {xd : D} {ys : List (List D)} (hT : TabOk P c.T c.eqs) (h0 : (c.T t0).d = .slice e) (hS : Store M0 ρ bs w) (hvx : Rep w (Mof M0 ρ bs) ρ vx xd)
 (hsrc : ziu c.T bs e (c.T t1).d xd = some ys) (hys : ∀ r ∈ ys, r.length = (c.T e).size) :
 ∃ vals : List Value, AppSrc P c.T w t0 t1 ty e ys.length vx vals ∧ vals.length = ys.length * (c.T e).size ∧
   ∀ (i j : Nat) (r : List D) (d : D), ys[i]? = some r → r[j]? = some d → ∃ u, vals[i * (c.T e).size + j]? = some u ∧ RepI w (Mof M0 ρ bs) u d := by
 unfold ziu at hsrc
 split at hsrc
 ·rename_i e' h1
  obtain ⟨a', cap', vals, rfl, hl, hc, hno, hcells⟩ := z04 (M := Mof M0 ρ bs) hS hvx hsrc hys
  exact ⟨vals, .cells hT h0 h1 hl hc fun h => by rw [hno h]; rfl, hl, hcells⟩
 ·rename_i k h1
  split at hsrc
  ·rename_i k' n
   split at hsrc
   ·rename_i hc
    cases hsrc
    obtain ⟨z, hzc, hzf, hzl, hsrc⟩ := AppSrc.zeros (P := P) (w := w) (t0 := t0) (ty := ty) (k' := k') hT h0 h1 hc.1 hc.2.1 hc.2.2
    have hv := hvx.int_inv
    subst hv
    have hlen : (zas n.toNat (c.T e).zero).length = n.toNat := by simp [zas]
    obtain ⟨hzs, hzrep⟩ := zip (w := w) (M := Mof M0 ρ bs) hzc hzf
    have hget := zqk (z := z.cells) (n := (c.T e).size) (m := n.toNat) (by rw [hzs, hzl]) (Builtin.zeroCells z.cells n.toNat) (by rw [Builtin.zeroCells, hzs, hzl])
    have hrep := zio (w := w) (M := Mof M0 ρ bs) (n := n.toNat) hzc hzf (Builtin.zeroCells z.cells n.toNat) (fun i j hi hj => by rw [hzl] at hj ⊢; exact hget i j hi hj)
    rw [hzl] at hrep
    refine ⟨(Builtin.zeroCells z.cells n.toNat).toList, by rw [hlen]; exact hsrc, by rw [Array.length_toList, size_zeroCells, hzs, hzl, hlen], fun i j r d hi hj => ?_⟩
    obtain ⟨v, hv, hr⟩ := hrep i j r d hi hj
    exact ⟨v, by simpa using hv, hr⟩
   ·cases hsrc
  ·cases hsrc
 ·cases hsrc

theorem z1o {c : Cfg} {fr : Nat → D} {st' : St} {t0 t1 ty e : Nat} {vs vx : Value} {base xd r : D} {ys : List (List D)} (hT : TabOk P c.T c.eqs) (h0 : (c.T t0).d = .slice e) (hfull : FullAt c.full ρ)
 (hS : Store M0 ρ bs w) (hm0 : ∀ g o, M0 g o → g < w.heap.size) (hn0 : c.n0 ≤ bs.length) (hvs : Rep w (Mof M0 ρ bs) ρ vs base) (hvx : Rep w (Mof M0 ρ bs) ρ vx xd) (hsrc : ziu c.T bs e (c.T t1).d xd = some ys) (hfits : Fits (c.T e).size ys)
 (h : zjn c ⟨fr, bs⟩ e base ys = some (r, st')) :
 ∃ v w' ρ' S, (Builtin.append_ #[t0, t1] ty #[vs, vx]).run P w = .ok v w' ∧ Rep w' (Mof M0 ρ' st'.bs) ρ' v r ∧ Turn M0 c.n0 w ρ bs w' ρ' st'.bs S ∧ st'.fr = zjl S fr := by
 have hys : ∀ r ∈ ys, r.length = (c.T e).size := fun r hr => (hfits r hr).1
 obtain ⟨vals, happ, hl, hcells⟩ := z7v (P := P) (t0 := t0) (ty := ty) hT h0 hS hvx hsrc hys
 have hone : ∀ v ∈ vals, v.oneCell' = true := by
  intro v hv
  obtain ⟨m, hm⟩ := List.getElem?_of_mem hv
  have hmlt : m < ys.length * (c.T e).size := by rw [← hl]; exact (List.getElem?_eq_some_iff.1 hm).1
  have he : 0 < (c.T e).size := by
   rcases Nat.eq_zero_or_pos (c.T e).size with h0 | h0
   ·rw [h0] at hmlt; simp at hmlt
   ·exact h0
  have hi : m / (c.T e).size < ys.length := by rw [Nat.div_lt_iff_lt_mul he]; exact hmlt
  have hj : m % (c.T e).size < (c.T e).size := Nat.mod_lt _ he
  have hr := hfits _ (List.getElem_mem hi)
  obtain ⟨u, hu, hrep⟩ := hcells (m / (c.T e).size) (m % (c.T e).size) ys[m / (c.T e).size] (ys[m / (c.T e).size][m % (c.T e).size]'(by omega)) (by simp) (by simp)
  have hpos : m / (c.T e).size * (c.T e).size + m % (c.T e).size = m := by have := Nat.div_add_mod m (c.T e).size; rw [Nat.mul_comm] at this; omega
  rw [hpos, hm] at hu
  cases hu
  exact zr3 (ρ := ρ) (.imm _ _ hrep) (by have := hr.2; rw [List.all_eq_true] at this; exact this _ (List.getElem_mem _))
 have hsweep0 : ∀ f : Nat → D, zjl (fun _ => false) f = f := by
  intro f
  funext t
  show (f t).mapR (zoz fun _ => false) (zoy fun _ => false) = f t
  exact D.mapR_id _
 have grow : ∀ (rows : List (List D)) (olds : List Value) (a : Option Addr) (len cap : Nat), (∀ r ∈ rows, r.length = (c.T e).size) → olds.length = len * (c.T e).size → rows.length = len →
  (∀ ad, a = some ad → ∀ (j : Nat) (u : Value), olds[j]? = some u → w.cell? (ad.add j) = some u) → (a = none → len = 0) →
  (∀ (i j : Nat) (r : List D) (d : D), rows[i]? = some r → r[j]? = some d → ∃ v, olds[i * (c.T e).size + j]? = some v ∧ RepI w (Mof M0 ρ bs) v d) → cap < len + ys.length →
  (len + ys.length) * (c.T e).bytes ≤ 140737488355328 → len + ys.length ≤ 9223372036854775807 →
  ∃ (w' : World) (arr : Array Value) (Ty : TypeId) (cap2 : Nat), (Builtin.append_ #[t0, t1] ty #[.slice a len cap, vx]).run P w = .ok (.slice (some ⟨w.heap.size, 0, none⟩) (len + ys.length) cap2) w' ∧
    w'.heap = w.heap.push (.cells arr Ty (0, 0)) ∧ w'.os = w.os ∧ w'.tape = w.tape ∧ w'.output = w.output ∧ (rows ++ ys).length ≤ cap2 ∧ cap2 * (c.T e).size ≤ arr.size ∧
    ∀ (i j : Nat) (r : List D) (d : D), (rows ++ ys)[i]? = some r → r[j]? = some d → ∃ v, arr[i * (c.T e).size + j]? = some v ∧ RepI w (Mof M0 ρ bs) v d := by
  intro rows olds a len cap hrow hlo hrl hco hlo0 hold hg hb h63
  obtain ⟨cap2, z, hcap2, hzc, hzs, hrun⟩ := happ.grw a len cap olds hlo hco hlo0 hg hb h63
  refine ⟨_, _, _, cap2, hrun, rfl, rfl, rfl, rfl, by simp; omega, ?_, ?_⟩
  ·simp only [Array.size_append, List.size_toArray, hlo, hl, size_zeroCells, hzs]
   rw [← Nat.add_mul, ← Nat.add_mul, show len + ys.length + (cap2 - (len + ys.length)) = cap2 by omega]
   exact Nat.le_refl _
  ·exact qdn rfl (by rw [hlo, hrl]) hl hrow hys hold hcells
 unfold zjn at h
 split at h
 ·-- nil
  split at h
  ·rename_i hb
   cases h
   obtain ⟨a, rfl⟩ := hvs.nil_inv
   obtain ⟨hS1, hM1, hN1⟩ := hS.more [] [⟨ys, (c.T e).size, .mut⟩]
   have hd0 : zar [] bs = bs := zv6 fun b hb => by simp at hb
   rw [hd0] at hS1 hM1 hN1
   by_cases hy : ys = []
   ·subst hy
    have hrun := happ.inn (a) 0 0 (w) (by simp) (by
     have : vals = [] := by simpa using hl
     subst this
     cases a <;> rfl)
    have hg := hS1.bornV (nb := bs.length) (blk := ⟨[], (c.T e).size, .mut⟩) (by simp) (hS.out _ (Nat.le_refl _)) rfl rfl
    exact ⟨_, w, _, fun _ => false, hrun, .refV _ a (zbb ρ _ _), .of_grow hS hg hn0 hM1 (by simp), (hsweep0 fr).symm⟩
   ·have hpos : 0 < ys.length := List.length_pos_iff.2 hy
    obtain ⟨w', arr, Ty, cap2, hrun, hheap, hos, htape, hout, hcap, hfit, hc'⟩ := grow [] [] a 0 0 (by simp) (by simp) rfl (by simp) (by simp) (by simp) (by omega) (by simpa using hb.1) (by simpa using hb.2)
    obtain ⟨ρ', hrep, hg⟩ := ztt hS1 hm0 rfl hN1 hys hheap hos htape hout (by
     have h1 : ys.length * (c.T e).size ≤ cap2 * (c.T e).size := Nat.mul_le_mul_right _ (by simpa using hcap)
     omega) (fun i j r d hi hj => by
     obtain ⟨v, hv, hr⟩ := hc' i j r d (by simpa using hi) hj
     exact ⟨v, hv, hr.move (Pres.sub hM1)⟩) (by simpa using hcap) hfit ys.length (Nat.le_refl _)
    simp only [Nat.zero_add] at hrun
    exact ⟨_, w', ρ', fun _ => false, hrun, hrep, .of_grow hS hg hn0 hM1 (by simp), (hsweep0 fr).symm⟩
  ·cases h
 ·rename_i b off len
  split at h
  ·rename_i k hb
   split at h
   ·rename_i hcond
    obtain ⟨hesz, hbox, hbytes, h63⟩ := hcond
    split at h
    ·-- at its end
     rename_i hfront
     obtain ⟨hend, hbn⟩ := hfront
     cases h
     rcases hvs.ref_inv with ⟨cap, g, bas, n, rl, esz, rfl, hat, g1, g2, g3⟩ | ⟨a, rfl, hvirt, rfl, rfl⟩
     ·have hA := hS.at_ b k g bas n rl esz hb hat
      have hez : esz = (c.T e).size := by rw [hA.hesz, hesz]
      obtain ⟨arr, Ty, hh, hs, hcl⟩ := hA.cells
      have hrl := hA.hrl
      have hfit := hA.hfit
      have hsplit : (off + len) * esz = off * esz + len * esz := Nat.add_mul _ _ _
      have hlo : ∀ m, m < len * esz → ∃ u, arr[bas + off * esz + m]? = some u := by
       intro m hm
       have : bas + off * esz + m < arr.size := by
        have : rl * esz = off * esz + len * esz := by rw [← hsplit, hrl, ← hend]
        omega
       exact ⟨arr[bas + off * esz + m], by simp [this]⟩
      let olds := (List.range (len * esz)).map fun m => (arr[bas + off * esz + m]?).getD Go.undef
      have holdget : ∀ m u, olds[m]? = some u → arr[bas + off * esz + m]? = some u := by
       intro m u hu
       by_cases hm : m < len * esz
       ·obtain ⟨u', hu'⟩ := hlo m hm
        simp [olds, hm, hu'] at hu
        rw [hu', hu]
       ·simp [olds, hm] at hu
      have hrows' : ∀ (i j : Nat) (r : List D) (d : D), (k.rows.drop off)[i]? = some r → r[j]? = some d → ∃ v, arr[bas + off * esz + (i * esz + j)]? = some v ∧ RepI w (Mof M0 ρ bs) v d := by
       intro i j r d hi hj
       rw [List.getElem?_drop] at hi
       obtain ⟨v, hv, hrep⟩ := hcl (off + i) j r d hi hj
       rw [if_neg (by simp [hbox])] at hrep
       exact ⟨v, by rw [show bas + off * esz + (i * esz + j) = bas + (off + i) * esz + j by rw [Nat.add_mul]; omega]; exact hv, hrep⟩
      have hdl : (k.rows.drop off).length = len := by simp; omega
      have hrowd : ∀ r ∈ k.rows.drop off, r.length = esz := fun r hr => hA.hrow r (List.mem_of_mem_drop hr)
      by_cases hin : len + ys.length ≤ cap
      ·-- in place
       let arr' : Array Value := (arr.toList.take (bas + off * esz + len * esz) ++ vals ++ arr.toList.drop (bas + off * esz + len * esz + vals.length)).toArray
       have hroomn : bas + off * esz + len * esz + vals.length ≤ n := by
        have h1 : (off + (len + ys.length)) * esz ≤ (off + cap) * esz := Nat.mul_le_mul_right _ (by omega)
        rw [Nat.add_mul, Nat.add_mul len] at h1
        rw [hl, ← hez]
        omega
       have hroom : bas + off * esz + len * esz + vals.length ≤ arr.size := Nat.le_trans hroomn hs
       have hst := run_storeCells_at P g (bas + off * esz + len * esz) Ty vals 0 arr w hh (by simpa using hroom) hone
       simp only [Nat.add_zero] at hst
       have hrun := happ.inn (some ⟨g, bas + off * esz, none⟩) len cap (w.setRow g arr') hin (by
        simp only [Addr.add_plain, ← hez]
        exact hst)
       have harr' : ∀ m, arr'[m]? = if m < bas + off * esz + len * esz then arr[m]? else if m < bas + off * esz + len * esz + vals.length then vals[m - (bas + off * esz + len * esz)]? else arr[m]? := by
        intro m
        have hl1 : (arr.toList.take (bas + off * esz + len * esz)).length = bas + off * esz + len * esz := by simp; omega
        simp only [arr', List.getElem?_toArray]
        by_cases hm1 : m < bas + off * esz + len * esz
        ·rw [if_pos hm1, List.append_assoc, List.getElem?_append_left (by omega), List.getElem?_take_of_lt hm1]; simp
        ·rw [if_neg hm1]
         by_cases hm2 : m < bas + off * esz + len * esz + vals.length
         ·rw [if_pos hm2, List.append_assoc, List.getElem?_append_right (by omega), List.getElem?_append_left (by omega), hl1]
         ·rw [if_neg hm2, List.getElem?_append_right (by simp; omega), List.getElem?_drop]
          simp only [List.length_append, hl1, Array.getElem?_toList]
          congr 1
          omega
       have hsz' : arr'.size = arr.size := by simp [arr']; omega
       let rows' := k.rows.drop off ++ ys
       let ρ' := updL ρ b (.at_ g (bas + off * esz) n (len + ys.length) esz)
       let bs' := zbj (bs.map (Blk.sweep (· == b))) b rows'
       have hget : ∀ i, bs'[i]? = (bs[i]?).map fun kk => if i = b then { kk.sweep (· == b) with rows := rows' } else kk.sweep (· == b) := by
        intro i
        show (zbj _ b rows')[i]? = _
        rw [zcu, List.getElem?_map]
        cases bs[i]? <;> rfl
       have hMsub : ∀ x o, Mof M0 ρ' bs' x o → Mof M0 ρ bs x o := by
        rintro x o (hm | ⟨i, b', base', n', rl', esz', hi, hat', hk'⟩)
        ·exact .inl hm
        ·rw [hget] at hi
         cases hbi : bs[i]? with
         | none => simp [hbi] at hi
         | some kk =>
           simp only [hbi, Option.map_some, Option.some.injEq] at hi
           by_cases hib : i = b
           ·subst hib
            rw [if_pos rfl] at hi
            rw [hb] at hbi
            cases hbi
            have hat'' : Loc.at_ g (bas + off * esz) n (len + ys.length) esz = .at_ x base' n' rl' esz' := by rw [← hat']; exact (zbb ρ i _).symm
            cases hat''
            refine .inr ⟨i, k, bas, n, rl, esz, hb, hat, ?_⟩
            subst hi
            rcases hk' with hk' | hk' | hk'
            ·exact .inl hk'
            ·exact .inr (.inl hk')
            ·refine .inr (.inr ?_)
             have h2 : rl * esz ≤ off * esz + (len + ys.length) * esz := by
              rw [hrl, ← hend, ← Nat.add_mul]
              exact Nat.mul_le_mul_right _ (by omega)
             omega
           ·rw [if_neg hib] at hi
            subst hi
            have hat'' : ρ i = .at_ x base' n' rl' esz' := by rw [← hat']; exact (zbt ρ _ hib).symm
            exact .inr ⟨i, kk, base', n', rl', esz', hbi, hat'', hk'⟩
       have hspare : ∀ m, bas + off * esz + len * esz ≤ m → Mof M0 ρ bs g m := by
        intro m hm
        refine .inr ⟨b, k, bas, n, rl, esz, hb, hat, .inr (.inr ?_)⟩
        rw [hrl, ← hend, hsplit]
        omega
       have hpres : Pres w (Mof M0 ρ bs) (w.setRow g arr') (Mof M0 ρ' bs') := by
        intro x o v hn hv
        refine ⟨fun h => hn (hMsub x o h), ?_⟩
        by_cases hx : x = g
        ·subst hx
         rw [cell_setRow_same w x o arr arr' Ty (0, 0) hh, harr']
         have ho : o < bas + off * esz + len * esz := by
          rcases Nat.lt_or_ge o (bas + off * esz + len * esz) with h | h
          ·exact h
          ·exact absurd (hspare o h) hn
         rw [if_pos ho]
         simpa [World.cell?, hh] using hv
        ·rw [cell_setRow_other w g arr' ⟨x, o, .none⟩ hx]; exact hv
       have hturn := hS.turn (n0 := c.n0) (w' := w.setRow g arr') (g' := g) (base' := bas + off * esz) (n' := n) (rl' := len + ys.length) (esz' := esz) (rows' := rows') hb hbox hbn (by simp) rfl rfl rfl
        (fun x hx hno => setRow_other w g x arr' (fun he => by subst he; exact hno _ _ _ _ hat)) (.inl ⟨_, _, _, _, hat⟩) hm0 hpres (by
          refine ⟨by show _ = rows'.length; simp [rows']; omega, hA.hesz, ?_, ?_, arr', Ty, setRow_heap w g arr arr' Ty _ hh, hsz' ▸ hs, ?_⟩
          ·intro r hr
           rcases List.mem_append.1 hr with h | h
           ·exact hrowd r h
           ·rw [hys r h, hez]
          ·rw [Nat.add_mul, hez, ← hl, ← hez]
           omega
          ·intro i j r d hi hj
           show ∃ v, _ ∧ if k.kind.isBox = true then _ else _
           simp only [hbox, Bool.false_eq_true, if_false]
           by_cases hlt : i < len
           ·rw [List.getElem?_append_left (by omega)] at hi
            obtain ⟨v, hv, hr⟩ := hrows' i j r d hi hj
            have hjlt : j < esz := by rw [← hrowd r (List.mem_of_getElem? hi)]; exact (List.getElem?_eq_some_iff.1 hj).1
            have := zq0 hlt hjlt
            refine ⟨v, ?_, hr.move hpres⟩
            rw [harr', if_pos (by omega)]
            rw [← Nat.add_assoc] at hv
            exact hv
           ·rw [List.getElem?_append_right (by omega), hdl] at hi
            obtain ⟨v, hv, hr⟩ := hcells (i - len) j r d hi hj
            have hlt' := (List.getElem?_eq_some_iff.1 hv).1
            have hpos : i * esz = len * esz + (i - len) * esz := by rw [← Nat.add_mul, show len + (i - len) = i by omega]
            rw [← hez] at hv hlt'
            refine ⟨v, ?_, hr.move hpres⟩
            rw [harr', if_neg (by omega), if_pos (by omega), show bas + off * esz + i * esz + j - (bas + off * esz + len * esz) = (i - len) * esz + j by omega]
            exact hv)
       refine ⟨_, _, _, _, hrun, ?_, hturn, rfl⟩
       have hrr := Rep.ref (w := w.setRow g arr') (M := Mof M0 ρ' bs') (ρ := ρ') b 0 (len + ys.length) cap g (bas + off * esz) n (len + ys.length) esz (zbb ρ b _) (by omega) (by omega) (by
        rw [Nat.add_mul] at g3
        simp only [Nat.zero_add]
        omega)
       simpa using hrr
      ·-- it moves
       obtain ⟨w', arr2, Ty2, cap2, hrun, hheap, hos, htape, hout, hcap, hfit2, hc'⟩ := grow (k.rows.drop off) olds (some ⟨g, bas + off * esz, none⟩) len cap (by rw [← hez]; exact hrowd) (by simp [olds, hez]) hdl (by
        intro ad had j u hu
        cases had
        rw [Addr.add_plain]
        simp [World.cell?, hh, holdget j u hu]) (fun h => by cases h) (by
        rw [← hez]
        intro i j r d hi hj
        obtain ⟨v, hv, hr⟩ := hrows' i j r d hi hj
        have hi' : i < len := by rw [← hdl]; exact (List.getElem?_eq_some_iff.1 hi).1
        have hj' : j < esz := by rw [← hrowd r (List.mem_of_getElem? hi)]; exact (List.getElem?_eq_some_iff.1 hj).1
        have := zq0 hi' hj'
        exact ⟨v, by simp [olds, this, hv], hr⟩) (by omega) hbytes h63
       have hold : ∀ x, x < w.heap.size → w'.heap[x]? = w.heap[x]? := fun x hx => by rw [hheap, Array.getElem?_push, if_neg (by omega)]
       let rows' := k.rows.drop off ++ ys
       let ρ' := updL ρ b (.at_ w.heap.size 0 arr2.size (len + ys.length) esz)
       let bs' := zbj (bs.map (Blk.sweep (· == b))) b rows'
       have hget : ∀ i, bs'[i]? = (bs[i]?).map fun kk => if i = b then { kk.sweep (· == b) with rows := rows' } else kk.sweep (· == b) := by
        intro i
        show (zbj _ b rows')[i]? = _
        rw [zcu, List.getElem?_map]
        cases bs[i]? <;> rfl
       have hMsub : ∀ x o, Mof M0 ρ' bs' x o → Mof M0 ρ bs x o ∨ x = w.heap.size := by
        rintro x o (hm | ⟨i, b', base', n', rl', esz', hi, hat', hk'⟩)
        ·exact .inl (.inl hm)
        ·rw [hget] at hi
         cases hbi : bs[i]? with
         | none => simp [hbi] at hi
         | some kk =>
           simp only [hbi, Option.map_some, Option.some.injEq] at hi
           by_cases hib : i = b
           ·subst hib
            have hat'' : Loc.at_ w.heap.size 0 arr2.size (len + ys.length) esz = .at_ x base' n' rl' esz' := by rw [← hat']; exact (zbb ρ i _).symm
            cases hat''
            exact .inr rfl
           ·rw [if_neg hib] at hi
            subst hi
            have hat'' : ρ i = .at_ x base' n' rl' esz' := by rw [← hat']; exact (zbt ρ _ hib).symm
            exact .inl (.inr ⟨i, kk, base', n', rl', esz', hbi, hat'', hk'⟩)
       have hpres : Pres w (Mof M0 ρ bs) w' (Mof M0 ρ' bs') := by
        intro x o v hn hv
        have hx := zma hv
        refine ⟨fun h => ?_, by rw [World.cell?_of_block (w := w) (hold x hx)]; exact hv⟩
        rcases hMsub x o h with h | h
        ·exact hn h
        ·omega
       have hrl2 : (k.rows.drop off ++ ys).length = len + ys.length := by simp; omega
       have hturn := hS.turn (n0 := c.n0) (w' := w') (g' := w.heap.size) (base' := 0) (n' := arr2.size) (rl' := len + ys.length) (esz' := esz) (rows' := rows') hb hbox hbn (by rw [hheap]; simp) hos htape hout
        (fun x hx _ => hold x hx) (.inr (Nat.le_refl _)) hm0 hpres (by
          refine ⟨hrl2.symm, hA.hesz, ?_, ?_, arr2, Ty2, by rw [hheap]; simp, Nat.le_refl _, ?_⟩
          ·intro r hr
           rcases List.mem_append.1 hr with h | h
           ·exact hrowd r h
           ·rw [hys r h, hez]
          ·rw [hrl2] at hcap
           have h1 : (len + ys.length) * esz ≤ cap2 * esz := Nat.mul_le_mul_right _ hcap
           rw [← hez] at hfit2
           omega
          ·intro i j r d hi hj
           show ∃ v, _ ∧ if k.kind.isBox = true then _ else _
           simp only [hbox, Bool.false_eq_true, if_false]
           obtain ⟨v, hv, hr⟩ := hc' i j r d hi hj
           exact ⟨v, by rw [Nat.zero_add, hez]; exact hv, hr.move hpres⟩)
       refine ⟨_, _, _, _, hrun, ?_, hturn, rfl⟩
       have hrr := Rep.ref (w := w') (M := Mof M0 ρ' bs') (ρ := ρ') b 0 (len + ys.length) cap2 w.heap.size 0 arr2.size (len + ys.length) esz (zbb ρ b _) (by omega) (by rw [hrl2] at hcap; omega) (by rw [← hez] at hfit2; simpa using hfit2)
       simpa using hrr
     ·-- it had no memory
      obtain ⟨hrows, _⟩ := hS.virt b k hb hvirt
      have hdrop : k.rows.drop 0 = [] := by rw [hrows]; rfl
      rw [hdrop, List.nil_append]
      by_cases hy : ys = []
      ·subst hy
       have hrun := happ.inn (a) 0 0 (w) (by simp) (by
        have : vals = [] := by simpa using hl
        subst this
        cases a <;> rfl)
       have hget : ∀ i, (zbj (bs.map (Blk.sweep (· == b))) b [])[i]? = (bs[i]?).map fun kk => if i = b then { kk.sweep (· == b) with rows := [] } else kk.sweep (· == b) := by
        intro i
        rw [zcu, List.getElem?_map]
        cases bs[i]? <;> rfl
       have hM : ∀ x o, Mof M0 ρ (zbj (bs.map (Blk.sweep (· == b))) b []) x o → Mof M0 ρ bs x o := by
        rintro x o (hm | ⟨i, b', base', n', rl', esz', hi, hat', hk'⟩)
        ·exact .inl hm
        ·rw [hget] at hi
         cases hbi : bs[i]? with
         | none => simp [hbi] at hi
         | some kk =>
           simp only [hbi, Option.map_some, Option.some.injEq] at hi
           refine .inr ⟨i, kk, base', n', rl', esz', hbi, hat', ?_⟩
           split at hi <;> (subst hi; exact hk')
       have hp := Pres.sub (w := w) hM
       refine ⟨_, w, ρ, (· == b), hrun, .refV _ a hvirt, ⟨⟨?_, ?_, ?_, hS.inj, hS.m0⟩, hp, fun _ _ _ => rfl, Nat.le_refl _, rfl, rfl, rfl, fun _ _ _ => rfl, fun i g base n rl esz h => .inl ⟨_, _, _, _, h⟩, fun _ _ => rfl, by rw [zd9]; simp⟩, rfl⟩
       ·intro i b' g base n rl esz hi hat
        rw [hget] at hi
        cases hbi : bs[i]? with
        | none => simp [hbi] at hi
        | some kk =>
          simp only [hbi, Option.map_some, Option.some.injEq] at hi
          have hib : i ≠ b := by rintro rfl; rw [hvirt] at hat; cases hat
          rw [if_neg hib] at hi
          subst hi
          obtain ⟨q1, q2, q3, q4, arr, Ty, hg, hs, hcc⟩ := hS.at_ i kk g base n rl esz hbi hat
          refine ⟨by simp [Blk.sweep, q1], q2, ?_, q4, arr, Ty, hg, hs, fun k' j r d hr hd => ?_⟩
          ·intro r hr
           simp only [Blk.sweep, List.mem_map] at hr
           obtain ⟨r0, hr0, rfl⟩ := hr
           simpa using q3 r0 hr0
          ·simp only [Blk.sweep, List.getElem?_map] at hr
           cases hx : kk.rows[k']? with
           | none => simp [hx] at hr
           | some r0 =>
             simp [hx] at hr
             subst hr
             rw [List.getElem?_map] at hd
             cases hyy : r0[j]? with
             | none => simp [hyy] at hd
             | some d0 =>
               simp [hyy] at hd
               subst hd
               obtain ⟨v, hv, hrep⟩ := hcc k' j r0 d0 hx hyy
               refine ⟨v, hv, ?_⟩
               show if kk.kind.isBox = true then _ else _
               split
               ·rename_i hbx
                rw [if_pos hbx] at hrep
                exact hrep.sweep hp fun _ _ _ => rfl
               ·rename_i hbx
                rw [if_neg hbx] at hrep
                have : d0.sweep (· == b) = d0 := hrep.mapR _ _
                rw [this]
                exact hrep.move hp
       ·intro i b' hi hv
        rw [hget] at hi
        cases hbi : bs[i]? with
        | none => simp [hbi] at hi
        | some kk =>
          simp only [hbi, Option.map_some, Option.some.injEq] at hi
          obtain ⟨e1, e2⟩ := hS.virt i kk hbi hv
          split at hi
          ·subst hi; exact ⟨rfl, e2⟩
          ·subst hi; exact ⟨by simp [Blk.sweep, e1], e2⟩
       ·intro i hi
        rw [zd9, List.length_map] at hi
        exact hS.out i hi
      ·have hpos : 0 < ys.length := List.length_pos_iff.2 hy
       obtain ⟨w', arr2, Ty2, cap2, hrun, hheap, hos, htape, hout, hcap, hfit2, hc'⟩ := grow [] [] a 0 0 (by simp) (by simp) rfl (by simp) (by simp) (by simp) (by omega) (by simpa using hbytes) (by simpa using h63)
       have hold : ∀ x, x < w.heap.size → w'.heap[x]? = w.heap[x]? := fun x hx => by rw [hheap, Array.getElem?_push, if_neg (by omega)]
       let ρ' := updL ρ b (.at_ w.heap.size 0 arr2.size ys.length (c.T e).size)
       let bs' := zbj (bs.map (Blk.sweep (· == b))) b ys
       have hget : ∀ i, bs'[i]? = (bs[i]?).map fun kk => if i = b then { kk.sweep (· == b) with rows := ys } else kk.sweep (· == b) := by
        intro i
        show (zbj _ b ys)[i]? = _
        rw [zcu, List.getElem?_map]
        cases bs[i]? <;> rfl
       have hMsub : ∀ x o, Mof M0 ρ' bs' x o → Mof M0 ρ bs x o ∨ x = w.heap.size := by
        rintro x o (hm | ⟨i, b', base', n', rl', esz', hi, hat', hk'⟩)
        ·exact .inl (.inl hm)
        ·rw [hget] at hi
         cases hbi : bs[i]? with
         | none => simp [hbi] at hi
         | some kk =>
           simp only [hbi, Option.map_some, Option.some.injEq] at hi
           by_cases hib : i = b
           ·subst hib
            have hat'' : Loc.at_ w.heap.size 0 arr2.size ys.length (c.T e).size = .at_ x base' n' rl' esz' := by rw [← hat']; exact (zbb ρ i _).symm
            cases hat''
            exact .inr rfl
           ·rw [if_neg hib] at hi
            subst hi
            have hat'' : ρ i = .at_ x base' n' rl' esz' := by rw [← hat']; exact (zbt ρ _ hib).symm
            exact .inl (.inr ⟨i, kk, base', n', rl', esz', hbi, hat'', hk'⟩)
       have hpres : Pres w (Mof M0 ρ bs) w' (Mof M0 ρ' bs') := by
        intro x o v hn hv
        have hx := zma hv
        refine ⟨fun h => ?_, by rw [World.cell?_of_block (w := w) (hold x hx)]; exact hv⟩
        rcases hMsub x o h with h | h
        ·exact hn h
        ·omega
       have hturn := hS.turn (n0 := c.n0) (w' := w') (g' := w.heap.size) (base' := 0) (n' := arr2.size) (rl' := ys.length) (esz' := (c.T e).size) (rows' := ys) hb hbox hbn (by rw [hheap]; simp) hos htape hout
        (fun x hx _ => hold x hx) (.inr (Nat.le_refl _)) hm0 hpres (by
          refine ⟨rfl, hesz.symm, hys, ?_, arr2, Ty2, by rw [hheap]; simp, Nat.le_refl _, ?_⟩
          ·have h1 : ys.length * (c.T e).size ≤ cap2 * (c.T e).size := Nat.mul_le_mul_right _ (by simpa using hcap)
           omega
          ·intro i j r d hi hj
           show ∃ v, _ ∧ if k.kind.isBox = true then _ else _
           simp only [hbox, Bool.false_eq_true, if_false]
           obtain ⟨v, hv, hr⟩ := hc' i j r d (by simpa using hi) hj
           exact ⟨v, by rw [Nat.zero_add]; exact hv, hr.move hpres⟩)
       refine ⟨_, _, _, _, hrun, ?_, hturn, rfl⟩
       have hrr := Rep.ref (w := w') (M := Mof M0 ρ' bs') (ρ := ρ') b 0 ys.length cap2 w.heap.size 0 arr2.size ys.length (c.T e).size (zbb ρ b _) (by omega) (by simpa using hcap) (by simpa using hfit2)
       simpa using hrr
    ·split at h
     ·-- over what is there
      rename_i hover
      obtain ⟨hov, hmut⟩ := hover
      cases h
      rcases hvs.ref_inv with ⟨cap, g, bas, n, rl, esz, rfl, hat, g1, g2, g3⟩ | ⟨a, rfl, hvirt, rfl, rfl⟩
      ·have hA := hS.at_ b k g bas n rl esz hb hat
       have hez : esz = (c.T e).size := by rw [hA.hesz, hesz]
       obtain ⟨arr, Ty, hh, hs, hcl⟩ := hA.cells
       have hrl := hA.hrl
       have hfit := hA.hfit
       have hroom : bas + (off + len) * esz + vals.length ≤ arr.size := by
        have h1 : (off + len + ys.length) * esz ≤ rl * esz := Nat.mul_le_mul_right _ (by omega)
        rw [Nat.add_mul] at h1
        rw [hl, ← hez]
        omega
       have hst := run_storeCells_at P g (bas + (off + len) * esz) Ty vals 0 arr w hh (by simpa using hroom) hone
       simp only [Nat.add_zero] at hst
       let arr' : Array Value := (arr.toList.take (bas + (off + len) * esz) ++ vals ++ arr.toList.drop (bas + (off + len) * esz + vals.length)).toArray
       have hrun := happ.inn (some ⟨g, bas + off * esz, none⟩) len cap (w.setRow g arr') (by omega) (by
        simp only [Addr.add_plain, ← hez]
        rw [Nat.add_assoc bas, ← Nat.add_mul]
        exact hst)
       have harr' : ∀ m, arr'[m]? = if m < bas + (off + len) * esz then arr[m]? else if m < bas + (off + len) * esz + vals.length then vals[m - (bas + (off + len) * esz)]? else arr[m]? := by
        intro m
        have hl1 : (arr.toList.take (bas + (off + len) * esz)).length = bas + (off + len) * esz := by simp; omega
        simp only [arr', List.getElem?_toArray]
        by_cases hm1 : m < bas + (off + len) * esz
        ·rw [if_pos hm1, List.append_assoc, List.getElem?_append_left (by omega), List.getElem?_take_of_lt hm1]; simp
        ·rw [if_neg hm1]
         by_cases hm2 : m < bas + (off + len) * esz + vals.length
         ·rw [if_pos hm2, List.append_assoc, List.getElem?_append_right (by omega), List.getElem?_append_left (by omega), hl1]
         ·rw [if_neg hm2, List.getElem?_append_right (by simp; omega), List.getElem?_drop]
          simp only [List.length_append, hl1, Array.getElem?_toList]
          congr 1
          omega
       have hsz' : arr'.size = arr.size := by simp [arr']; omega
       let rows' := k.rows.take (off + len) ++ ys ++ k.rows.drop (off + len + ys.length)
       have hrow' : ∀ i, rows'[i]? = if i < off + len then k.rows[i]? else if i < off + len + ys.length then ys[i - (off + len)]? else k.rows[i]? := by
        intro i
        have hl1 : (k.rows.take (off + len)).length = off + len := by simp; omega
        simp only [rows']
        by_cases hm1 : i < off + len
        ·rw [if_pos hm1, List.append_assoc, List.getElem?_append_left (by omega), List.getElem?_take_of_lt hm1]
        ·rw [if_neg hm1]
         by_cases hm2 : i < off + len + ys.length
         ·rw [if_pos hm2, List.append_assoc, List.getElem?_append_right (by omega), List.getElem?_append_left (by omega), hl1]
         ·rw [if_neg hm2, List.getElem?_append_right (by simp; omega), List.getElem?_drop]
          simp only [List.length_append, hl1]
          congr 1
          omega
       obtain ⟨hS', hp⟩ := hS.write (rows := rows') (arr' := arr') hb hat (.inr hmut) hh hsz' (by simp [rows']; omega) (by
        intro r hr
        simp only [rows', List.mem_append] at hr
        rcases hr with (h | h) | h
        ·exact hA.hrow r (List.mem_of_mem_take h)
        ·rw [hys r h, hez]
        ·exact hA.hrow r (List.mem_of_mem_drop h)) (by
        intro i j r d hi hj
        rw [hrow'] at hi
        simp only [hbox, Bool.false_eq_true, if_false]
        have hjlt : j < esz := by
         have : r.length = esz := by
          split at hi
          ·exact hA.hrow r (List.mem_of_getElem? hi)
          ·split at hi
           ·rw [hys r (List.mem_of_getElem? hi), hez]
           ·exact hA.hrow r (List.mem_of_getElem? hi)
         rw [← this]
         exact (List.getElem?_eq_some_iff.1 hj).1
        have hmid : vals.length = ys.length * esz := by rw [hl, hez]
        split at hi
        ·rename_i hlt
         obtain ⟨v, hv, hrep⟩ := hcl i j r d hi hj
         rw [if_neg (by simp [hbox])] at hrep
         have := zq0 hlt hjlt
         exact ⟨v, by rw [harr', if_pos (by omega)]; exact hv, hrep⟩
        ·rename_i hnlt
         split at hi
         ·rename_i hlt2
          obtain ⟨v, hv, hrep⟩ := hcells (i - (off + len)) j r d hi hj
          have hlt' := (List.getElem?_eq_some_iff.1 hv).1
          have hpos : i * esz = (off + len) * esz + (i - (off + len)) * esz := by rw [← Nat.add_mul, show off + len + (i - (off + len)) = i by omega]
          rw [← hez] at hv hlt'
          exact ⟨v, by rw [harr', if_neg (by omega), if_pos (by omega), show bas + i * esz + j - (bas + (off + len) * esz) = (i - (off + len)) * esz + j by omega]; exact hv, hrep⟩
         ·rename_i hnlt2
          obtain ⟨v, hv, hrep⟩ := hcl i j r d hi hj
          rw [if_neg (by simp [hbox])] at hrep
          have h1 : (off + len + ys.length) * esz ≤ i * esz := Nat.mul_le_mul_right _ (by omega)
          rw [Nat.add_mul] at h1
          exact ⟨v, by rw [harr', if_neg (by omega), if_neg (by omega)]; exact hv, hrep⟩)
       refine ⟨_, _, ρ, fun _ => false, hrun, .ref b off (len + ys.length) cap g bas n rl esz hat (by omega) g2 g3, ⟨hS', hp, fun _ _ _ => rfl, by simp, rfl, rfl, rfl, ?_, fun i x base n rl esz h => .inl ⟨_, _, _, _, h⟩, fun _ _ => rfl, by rw [zd9]; exact Nat.le_refl _⟩, (hsweep0 fr).symm⟩
       intro x hx hno
       exact setRow_other w g x arr' (fun he => by subst he; exact hno _ _ _ _ _ hat)
      ·rename_i hnf
       obtain ⟨hrows, _⟩ := hS.virt b k hb hvirt
       rw [hrows] at hov
       simp at hov
       subst hov
       have hrun := happ.inn (a) 0 0 (w) (by simp) (by
        have : vals = [] := by simpa using hl
        subst this
        cases a <;> rfl)
       have hid : zbj bs b (k.rows.take (0 + 0) ++ [] ++ k.rows.drop (0 + 0 + ([] : List (List D)).length)) = bs := by
        apply List.ext_getElem?
        intro i
        rw [zcu]
        cases hbi : bs[i]? with
        | none => rfl
        | some kk =>
          simp only [Option.map_some, Option.some.injEq]
          split
          ·rename_i hib
           subst hib
           rw [hb] at hbi
           cases hbi
           simp
          ·rfl
       refine ⟨_, w, ρ, fun _ => false, hrun, .refV b a hvirt, ?_, (hsweep0 fr).symm⟩
       simp only
       rw [hid]
       exact ⟨hS, Pres.refl _ _, fun _ _ _ => rfl, Nat.le_refl _, rfl, rfl, rfl, fun _ _ _ => rfl, fun i g base n rl esz h => .inl ⟨_, _, _, _, h⟩, fun _ _ => rfl, Nat.le_refl _⟩
     ·split at h
      ·-- all of its memory is full
       rename_i hfl
       obtain ⟨hmore, hle, hfb, hez0⟩ := hfl
       cases h
       have hfb' : b ∈ c.full := by simpa using hfb
       obtain ⟨hS1, hM1, hN1⟩ := hS.more [] [⟨(k.rows.drop off).take len ++ ys, (c.T e).size, .mut⟩]
       have hd0 : zar [] bs = bs := zv6 fun b hb => by simp at hb
       rw [hd0] at hS1 hM1 hN1
       have fin : ∀ (olds : List Value) (a : Option Addr) (cap : Nat), vs = .slice a len cap → olds.length = len * (c.T e).size → ((k.rows.drop off).take len).length = len →
        (∀ r ∈ (k.rows.drop off).take len, r.length = (c.T e).size) →
        (∀ ad, a = some ad → ∀ (j : Nat) (u : Value), olds[j]? = some u → w.cell? (ad.add j) = some u) → (a = none → len = 0) →
        (∀ (i j : Nat) (r : List D) (d : D), ((k.rows.drop off).take len)[i]? = some r → r[j]? = some d → ∃ v, olds[i * (c.T e).size + j]? = some v ∧ RepI w (Mof M0 ρ bs) v d) → cap < len + ys.length →
        ∃ v w' ρ' S, (Builtin.append_ #[t0, t1] ty #[vs, vx]).run P w = .ok v w' ∧ Rep w' (Mof M0 ρ' (bs ++ [⟨(k.rows.drop off).take len ++ ys, (c.T e).size, .mut⟩])) ρ' v (.ref bs.length 0 (len + ys.length)) ∧
          Turn M0 c.n0 w ρ bs w' ρ' (bs ++ [⟨(k.rows.drop off).take len ++ ys, (c.T e).size, .mut⟩]) S ∧ fr = zjl S fr := by
        intro olds a cap hv hlo hrl hrow hco hlo0 hold hcap
        subst hv
        obtain ⟨w', arr, Ty, cap2, hrun, hheap, hos, htape, hout, hcap2, hfit, hc'⟩ := grow _ olds a len cap hrow hlo hrl hco hlo0 hold hcap hbytes h63
        have hl2 : ((k.rows.drop off).take len ++ ys).length = len + ys.length := by rw [List.length_append, hrl]
        obtain ⟨ρ', hrep, hg⟩ := ztt hS1 hm0 rfl hN1 (by
         intro r hr
         rcases List.mem_append.1 hr with h | h
         ·exact hrow r h
         ·exact hys r h) hheap hos htape hout (by
         have h1 : ((k.rows.drop off).take len ++ ys).length * (c.T e).size ≤ cap2 * (c.T e).size := Nat.mul_le_mul_right _ hcap2
         omega) (fun i j r d hi hj => by
         obtain ⟨v, hv, hr⟩ := hc' i j r d hi hj
         exact ⟨v, hv, hr.move (Pres.sub hM1)⟩) hcap2 hfit (len + ys.length) (by rw [hl2]; exact Nat.le_refl _)
        exact ⟨_, w', ρ', fun _ => false, hrun, hrep, .of_grow hS hg hn0 hM1 (by simp), (hsweep0 fr).symm⟩
       rcases hvs.ref_inv with ⟨cap, g, bas, n, rl, esz, rfl, hat, g1, g2, g3⟩ | ⟨a, rfl, hvirt, rfl, rfl⟩
       ·have hA := hS.at_ b k g bas n rl esz hb hat
        have hez : esz = (c.T e).size := by rw [hA.hesz, hesz]
        obtain ⟨arr, Ty, hh, hs, hcl⟩ := hA.cells
        have hrl := hA.hrl
        have hfit := hA.hfit
        have hn := hfull b hfb' g bas n rl esz hat
        have hez0' : 0 < esz := by rw [hez, ← hesz]; exact hez0
        have hcap : off + cap ≤ rl := by
         apply Nat.le_of_mul_le_mul_right _ hez0'
         omega
        have hlo : ∀ m, m < len * esz → ∃ u, arr[bas + off * esz + m]? = some u := by
         intro m hm
         have h1 : (off + len) * esz ≤ rl * esz := Nat.mul_le_mul_right _ (by omega)
         rw [Nat.add_mul] at h1
         have : bas + off * esz + m < arr.size := by omega
         exact ⟨arr[bas + off * esz + m], by simp [this]⟩
        refine fin ((List.range (len * esz)).map fun m => (arr[bas + off * esz + m]?).getD Go.undef) _ cap rfl (by simp [hez]) (by simp; omega) ?_ ?_ (fun h => by cases h) ?_ (by omega)
        ·intro r hr
         rw [← hez]
         exact hA.hrow r (List.mem_of_mem_drop (List.mem_of_mem_take hr))
        ·intro ad had j u hu
         cases had
         rw [Addr.add_plain]
         by_cases hm : j < len * esz
         ·obtain ⟨u', hu'⟩ := hlo j hm
          simp [hm, hu'] at hu
          simp [World.cell?, hh, hu', hu]
         ·simp [hm] at hu
        ·intro i j r d hi hj
         have hi' := (List.getElem?_eq_some_iff.1 hi).1
         have hrlen : r.length = esz := hA.hrow r (List.mem_of_mem_drop (List.mem_of_mem_take (List.mem_of_getElem? hi)))
         rw [List.getElem?_take] at hi
         split at hi
         ·rename_i hil
          rw [List.getElem?_drop] at hi
          obtain ⟨v, hv, hrep⟩ := hcl (off + i) j r d hi hj
          rw [if_neg (by simp [hbox])] at hrep
          have hj' : j < esz := by rw [← hrlen]; exact (List.getElem?_eq_some_iff.1 hj).1
          have hlt := zq0 hil hj'
          refine ⟨v, ?_, hrep⟩
          rw [← hez]
          have he : bas + (off + i) * esz + j = bas + off * esz + (i * esz + j) := by rw [Nat.add_mul]; omega
          rw [he] at hv
          simp [hlt, hv]
         ·cases hi
       ·obtain ⟨hrows, _⟩ := hS.virt b k hb hvirt
        rw [hrows] at hmore
        simp at hmore
        refine fin [] a 0 rfl (by simp) (by simp) (by simp) (by simp) (by simp) (by simp) (by omega)
      ·cases h
   ·cases h
  ·cases h
 ·cases h
end
end Go.AM
/- AM: rows written over others in a block of one's own (copy, clear, append where there is room). -/
namespace Go.AM
open Go.RowKit (Below)

section
variable {P : Program} {T : Tab} {eqs : List Nat} {M0 : Foot} {ρ : Nat → Loc} {bs : List Blk} {w : World}
theorem Store.over (P : Program) (n0 : Nat) (hS : Store M0 ρ bs w) {b g bas n rl esz p : Nat} {k : Blk} {ys : List (List D)} {vals : List Value} (hb : bs[b]? = some k) (hat : ρ b = .at_ g bas n rl esz) (hmut : k.kind = .mut)
 (hys : ∀ r ∈ ys, r.length = esz) (hl : vals.length = ys.length * esz) (hone : ∀ v ∈ vals, v.oneCell' = true)
 (hcells : ∀ (i j : Nat) (r : List D) (d : D), ys[i]? = some r → r[j]? = some d → ∃ u, vals[i * esz + j]? = some u ∧ RepI w (Mof M0 ρ bs) u d) (hov : p + ys.length ≤ k.rows.length) :
 ∃ w', (storeCells ⟨g, bas + p * esz, none⟩ vals).run P w = .ok () w' ∧ Turn M0 n0 w ρ bs w' ρ (zbj bs b (k.rows.take p ++ ys ++ k.rows.drop (p + ys.length))) (fun _ => false) := by
 have hbox : k.kind.isBox = false := by rw [hmut]; rfl
 have hA := hS.at_ b k g bas n rl esz hb hat
 obtain ⟨arr, Ty, hh, hs, hcl⟩ := hA.cells
 have hrl := hA.hrl
 have hfit := hA.hfit
 have hroom : bas + p * esz + vals.length ≤ arr.size := by
  have h1 : (p + ys.length) * esz ≤ rl * esz := Nat.mul_le_mul_right _ (by omega)
  rw [Nat.add_mul] at h1
  rw [hl]
  omega
 have hst := run_storeCells_at P g (bas + p * esz) Ty vals 0 arr w hh (by simpa using hroom) hone
 simp only [Nat.add_zero] at hst
 let arr' : Array Value := (arr.toList.take (bas + p * esz) ++ vals ++ arr.toList.drop (bas + p * esz + vals.length)).toArray
 have harr' : ∀ m, arr'[m]? = if m < bas + p * esz then arr[m]? else if m < bas + p * esz + vals.length then vals[m - (bas + p * esz)]? else arr[m]? := by
  intro m
  have hl1 : (arr.toList.take (bas + p * esz)).length = bas + p * esz := by simp; omega
  simp only [arr', List.getElem?_toArray]
  by_cases hm1 : m < bas + p * esz
  ·rw [if_pos hm1, List.append_assoc, List.getElem?_append_left (by omega), List.getElem?_take_of_lt hm1]; simp
  ·rw [if_neg hm1]
   by_cases hm2 : m < bas + p * esz + vals.length
   ·rw [if_pos hm2, List.append_assoc, List.getElem?_append_right (by omega), List.getElem?_append_left (by omega), hl1]
   ·rw [if_neg hm2, List.getElem?_append_right (by simp; omega), List.getElem?_drop]
    simp only [List.length_append, hl1, Array.getElem?_toList]
    congr 1
    omega
 have hsz' : arr'.size = arr.size := by simp [arr']; omega
 let rows' := k.rows.take p ++ ys ++ k.rows.drop (p + ys.length)
 have hrow' : ∀ i, rows'[i]? = if i < p then k.rows[i]? else if i < p + ys.length then ys[i - p]? else k.rows[i]? := by
  intro i
  have hl1 : (k.rows.take p).length = p := by simp; omega
  simp only [rows']
  by_cases hm1 : i < p
  ·rw [if_pos hm1, List.append_assoc, List.getElem?_append_left (by omega), List.getElem?_take_of_lt hm1]
  ·rw [if_neg hm1]
   by_cases hm2 : i < p + ys.length
   ·rw [if_pos hm2, List.append_assoc, List.getElem?_append_right (by omega), List.getElem?_append_left (by omega), hl1]
   ·rw [if_neg hm2, List.getElem?_append_right (by simp; omega), List.getElem?_drop]
    simp only [List.length_append, hl1]
    congr 1
    omega
 obtain ⟨hS', hp⟩ := hS.write (rows := rows') (arr' := arr') hb hat (.inr hmut) hh hsz' (by simp [rows']; omega) (by
  intro r hr
  simp only [rows', List.mem_append] at hr
  rcases hr with (h | h) | h
  ·exact hA.hrow r (List.mem_of_mem_take h)
  ·rw [hys r h]
  ·exact hA.hrow r (List.mem_of_mem_drop h)) (by
  intro i j r d hi hj
  rw [hrow'] at hi
  simp only [hbox, Bool.false_eq_true, if_false]
  have hjlt : j < esz := by
   have : r.length = esz := by
    split at hi
    ·exact hA.hrow r (List.mem_of_getElem? hi)
    ·split at hi
     ·rw [hys r (List.mem_of_getElem? hi)]
     ·exact hA.hrow r (List.mem_of_getElem? hi)
   rw [← this]
   exact (List.getElem?_eq_some_iff.1 hj).1
  have hmid : vals.length = ys.length * esz := hl
  split at hi
  ·rename_i hlt
   obtain ⟨v, hv, hrep⟩ := hcl i j r d hi hj
   rw [if_neg (by simp [hbox])] at hrep
   have := zq0 hlt hjlt
   exact ⟨v, by rw [harr', if_pos (by omega)]; exact hv, hrep⟩
  ·rename_i hnlt
   split at hi
   ·rename_i hlt2
    obtain ⟨v, hv, hrep⟩ := hcells (i - p) j r d hi hj
    have hlt' := (List.getElem?_eq_some_iff.1 hv).1
    have hpos : i * esz = p * esz + (i - p) * esz := by rw [← Nat.add_mul, show p + (i - p) = i by omega]
    skip
    exact ⟨v, by rw [harr', if_neg (by omega), if_pos (by omega), show bas + i * esz + j - (bas + p * esz) = (i - p) * esz + j by omega]; exact hv, hrep⟩
   ·rename_i hnlt2
    obtain ⟨v, hv, hrep⟩ := hcl i j r d hi hj
    rw [if_neg (by simp [hbox])] at hrep
    have h1 : (p + ys.length) * esz ≤ i * esz := Nat.mul_le_mul_right _ (by omega)
    rw [Nat.add_mul] at h1
    exact ⟨v, by rw [harr', if_neg (by omega), if_neg (by omega)]; exact hv, hrep⟩)
 refine ⟨_, hst, ⟨hS', hp, fun _ _ _ => rfl, by simp, rfl, rfl, rfl, ?_, fun i x base n rl esz h => .inl ⟨_, _, _, _, h⟩, fun _ _ => rfl, by rw [zd9]; exact Nat.le_refl _⟩⟩
 intro x hx hno
 exact setRow_other w g x arr' (fun he => by subst he; exact hno _ _ _ _ _ hat)
theorem z0n {M : Foot} {esz : Nat} {ys : List (List D)} {vals : List Value} (hl : vals.length = ys.length * esz) (hf : Fits esz ys)
 (hcells : ∀ (i j : Nat) (r : List D) (d : D), ys[i]? = some r → r[j]? = some d → ∃ u, vals[i * esz + j]? = some u ∧ RepI w M u d) : ∀ v ∈ vals, v.oneCell' = true := by
 intro v hv
 obtain ⟨m, hm⟩ := List.getElem?_of_mem hv
 have hmlt : m < ys.length * esz := by rw [← hl]; exact (List.getElem?_eq_some_iff.1 hm).1
 have he : 0 < esz := by
  rcases Nat.eq_zero_or_pos esz with h0 | h0
  ·rw [h0] at hmlt; simp at hmlt
  ·exact h0
 have hi : m / esz < ys.length := by rw [Nat.div_lt_iff_lt_mul he]; exact hmlt
 have hj : m % esz < esz := Nat.mod_lt _ he
 have hr := hf _ (List.getElem_mem hi)
 obtain ⟨u, hu, hrep⟩ := hcells (m / esz) (m % esz) ys[m / esz] (ys[m / esz][m % esz]'(by omega)) (by simp) (by simp)
 have hpos : m / esz * esz + m % esz = m := by have := Nat.div_add_mod m esz; rw [Nat.mul_comm] at this; omega
 rw [hpos, hm] at hu
 cases hu
 exact zr3 (ρ := fun _ => .absent) (.imm _ _ hrep) (by have := hr.2; rw [List.all_eq_true] at this; exact this _ (List.getElem_mem _))

theorem z7f (n0 : Nat) {fr : Nat → D} {st' : St} {t0 t1 ty e b off len : Nat} {vs vx : Value} {xd : D} {ys : List (List D)} (hT : TabOk P T eqs) (h0 : (T t0).d = .slice e)
 (hS : Store M0 ρ bs w) (hvs : Rep w (Mof M0 ρ bs) ρ vs (.ref b off len)) (hvx : Rep w (Mof M0 ρ bs) ρ vx xd) (hsrc : zkj bs xd = some ys) (hrow : ∀ r ∈ ys, r.length = (T e).size) (hfits : Fits (T e).size (ys.take len))
 (h : zo7 ⟨fr, bs⟩ (.ref b off len) (T e).size (ys.take len) = some st') :
 ∃ w', (Builtin.copy_ #[t0, t1] ty #[vs, vx]).run P w = .ok (.int .i64 ((ys.take len).length : Int)) w' ∧ Turn M0 n0 w ρ bs w' ρ st'.bs (fun _ => false) ∧ st'.fr = fr := by
 obtain ⟨a', cap', vals, rfl, hl, hc, hno, hcells⟩ := z04 (M := Mof M0 ρ bs) hS hvx hsrc hrow
 obtain ⟨hu0, hk⟩ := zdb hT h0
 have hsz := zb4 (P := P) hT (w := w) hk
 unfold zo7 at h
 simp only at h
 split at h
 ·rename_i k hb
  split at h
  ·rename_i hcond
   obtain ⟨hesz, hmut, hle⟩ := hcond
   cases h
   simp only
   have hmin : Nat.min ys.length len = (ys.take len).length := by simp [Nat.min_comm, Nat.min_def]
   have hl' : (vals.take ((ys.take len).length * (T e).size)).length = (ys.take len).length * (T e).size := by
    rw [List.length_take, hl]
    apply Nat.min_eq_left
    exact Nat.mul_le_mul_right _ (by simp; omega)
   have hf : (Builtin.firstCells (T e).size (ys.take len).length (.slice a' ys.length cap')).run P w = .ok (vals.take ((ys.take len).length * (T e).size)).toArray w := by
    cases a' with
    | none =>
      have := hno rfl
      subst this
      simp at hl
      subst hl
      simp [Builtin.firstCells]
    | some ad =>
      refine run_firstCells_some w (T e).size _ ad _ cap' _ hl' ?_
      intro j u hu
      refine hc ad rfl j u ?_
      rw [List.getElem?_take] at hu
      split at hu
      ·exact hu
      ·cases hu
   have hcells' : ∀ (i j : Nat) (r : List D) (d : D), (ys.take len)[i]? = some r → r[j]? = some d → ∃ u, (vals.take ((ys.take len).length * (T e).size))[i * (T e).size + j]? = some u ∧ RepI w (Mof M0 ρ bs) u d := by
    intro i j r d hi hj
    have hi0 := (List.getElem?_eq_some_iff.1 hi).1
    have hr := hrow r (List.mem_of_mem_take (List.mem_of_getElem? hi))
    have hj0 := (List.getElem?_eq_some_iff.1 hj).1
    have hlt : i * (T e).size + j < (ys.take len).length * (T e).size := zq0 hi0 (by omega)
    rw [List.getElem?_take] at hi
    split at hi
    ·obtain ⟨u, hu, hrep⟩ := hcells i j r d hi hj
     exact ⟨u, by rw [List.getElem?_take_of_lt hlt]; exact hu, hrep⟩
    ·cases hi
   rcases hvs.ref_inv with ⟨cap, g, bas, n, rl, esz, rfl, hat, g1, g2, g3⟩ | ⟨a, rfl, hvirt, rfl, rfl⟩
   ·have hA := hS.at_ b k g bas n rl esz hb hat
    have hez : esz = (T e).size := by rw [hA.hesz, hesz]
    subst hez
    obtain ⟨w', hst, ht⟩ := hS.over P n0 hb hat hmut (fun r hr => (hfits r hr).1) hl' (z0n hl' hfits hcells') hcells' (p := off) (by have := hA.hrl; omega)
    refine ⟨w', ?_, ht, trivial⟩
    obtain ⟨m, hm⟩ : ∃ m, (ys.take len).length = m := ⟨_, rfl⟩
    rw [hm] at hmin hf hst ⊢
    have hmin' : min ys.length len = m := hmin
    simp [Builtin.copy_, run_underlying hu0, Builtin.lenOf, hsz, hmin, hmin', hf, hst, goInt]
   ·have hid : zbj bs b (k.rows.take 0 ++ ys.take 0 ++ k.rows.drop (0 + (ys.take 0).length)) = bs := by
     apply List.ext_getElem?
     intro i
     rw [zcu]
     cases hbi : bs[i]? with
     | none => rfl
     | some kk =>
       simp only [Option.map_some, Option.some.injEq]
       split
       ·rename_i hib
        subst hib
        rw [hb] at hbi
        cases hbi
        simp
       ·rfl
    rw [hid]
    refine ⟨w, ?_, ⟨hS, Pres.refl _ _, fun _ _ _ => rfl, Nat.le_refl _, rfl, rfl, rfl, fun _ _ _ => rfl, fun i g base n rl esz h => .inl ⟨_, _, _, _, h⟩, fun _ _ => rfl, Nat.le_refl _⟩, trivial⟩
    have hf0 : (Builtin.firstCells (T e).size 0 (.slice a' ys.length cap')).run P w = .ok #[] w := by simpa using hf
    cases a <;> simp [Builtin.copy_, Builtin.lenOf, run_underlying hu0, hsz, hf0, goInt, storeCells]
  ·cases h
 ·cases h
theorem z31 {b : Nat} {k : Blk} {rows : List (List D)} (hb : bs[b]? = some k) (h : rows = k.rows) : zbj bs b rows = bs := by
 apply List.ext_getElem?
 intro i
 rw [zcu]
 cases hbi : bs[i]? with
 | none => rfl
 | some kk =>
   simp only [Option.map_some, Option.some.injEq]
   split
   ·rename_i hib
    subst hib
    rw [hb] at hbi
    cases hbi
    rw [h]
   ·rfl

theorem z59 (n0 : Nat) {fr : Nat → D} {st' : St} {t0 ty e b off len : Nat} {vs : Value} (hT : TabOk P T eqs) (h0 : (T t0).d = .slice e)
 (hS : Store M0 ρ bs w) (hvs : Rep w (Mof M0 ρ bs) ρ vs (.ref b off len)) (hfits : Fits (T e).size (zas len (T e).zero))
 (h : zo7 ⟨fr, bs⟩ (.ref b off len) (T e).size (zas len (T e).zero) = some st') :
 ∃ w', (Builtin.clear_ #[t0] ty #[vs]).run P w = .ok (.tuple #[]) w' ∧ Turn M0 n0 w ρ bs w' ρ st'.bs (fun _ => false) ∧ st'.fr = fr := by
 obtain ⟨hu0, hk⟩ := zdb hT h0
 obtain ⟨z, i, hi, hz, hib, hzr, hzc, hzf, hzl, his⟩ := zei hT hk
 have hlen : (zas len (T e).zero).length = len := by simp [zas]
 unfold zo7 at h
 simp only at h
 split at h
 ·rename_i k hb
  split at h
  ·rename_i hcond
   obtain ⟨hesz, hmut, hle⟩ := hcond
   cases h
   have zh2 : len = 0 → (Builtin.clear_ #[t0] ty #[vs]).run P w = .ok (.tuple #[]) w →
    ∃ w', (Builtin.clear_ #[t0] ty #[vs]).run P w = .ok (.tuple #[]) w' ∧ Turn M0 n0 w ρ bs w' ρ (zbj bs b (k.rows.take off ++ zas len (T e).zero ++ k.rows.drop (off + (zas len (T e).zero).length))) (fun _ => false) := by
    intro hl0 hrun
    subst hl0
    rw [z31 hb (by simp [zas])]
    exact ⟨w, hrun, ⟨hS, Pres.refl _ _, fun _ _ _ => rfl, Nat.le_refl _, rfl, rfl, rfl, fun _ _ _ => rfl, fun i g base n rl esz h => .inl ⟨_, _, _, _, h⟩, fun _ _ => rfl, Nat.le_refl _⟩⟩
   have fin : ∃ w', (Builtin.clear_ #[t0] ty #[vs]).run P w = .ok (.tuple #[]) w' ∧ Turn M0 n0 w ρ bs w' ρ (zbj bs b (k.rows.take off ++ zas len (T e).zero ++ k.rows.drop (off + (zas len (T e).zero).length))) (fun _ => false) := by
    rcases hvs.ref_inv with ⟨cap, g, bas, n, rl, esz, rfl, hat, g1, g2, g3⟩ | ⟨a, rfl, hvirt, rfl, rfl⟩
    ·cases len with
     | zero => exact zh2 rfl (by simp [Builtin.clear_, run_underlying hu0])
     | succ m =>
       have hA := hS.at_ b k g bas n rl esz hb hat
       have hez : esz = (T e).size := by rw [hA.hesz, hesz]
       obtain ⟨hzs, hzrep⟩ := zip (w := w) (M := Mof M0 ρ bs) hzc hzf
       have hget := zqk (z := z.cells) (n := (T e).size) (m := m + 1) (by rw [hzs, hzl]) (Builtin.zeroCells z.cells (m + 1)) (by rw [Builtin.zeroCells, hzs, hzl])
       have hrep := zio (w := w) (M := Mof M0 ρ bs) (n := m + 1) hzc hzf (Builtin.zeroCells z.cells (m + 1)) (fun i j hi hj => by rw [hzl] at hj ⊢; exact hget i j hi hj)
       rw [hzl] at hrep
       have hl : (Builtin.zeroCells z.cells (m + 1)).toList.length = (zas (m + 1) (T e).zero).length * esz := by rw [Array.length_toList, size_zeroCells, hzs, hzl, hlen, hez]
       have hcells : ∀ (i j : Nat) (r : List D) (d : D), (zas (m + 1) (T e).zero)[i]? = some r → r[j]? = some d → ∃ u, (Builtin.zeroCells z.cells (m + 1)).toList[i * esz + j]? = some u ∧ RepI w (Mof M0 ρ bs) u d := by
        intro i j r d hi hj
        obtain ⟨v, hv, hr⟩ := hrep i j r d hi hj
        exact ⟨v, by rw [hez]; simpa using hv, hr⟩
       obtain ⟨w', hst, ht⟩ := hS.over P n0 hb hat hmut (fun r hr => by rw [hez]; exact (hfits r hr).1) hl (z0n hl (by rw [hez]; exact hfits) hcells) hcells (p := off) (by rw [hlen]; have := hA.hrl; omega)
       exact ⟨w', by simp [Builtin.clear_, run_underlying hu0, hzr, hst], ht⟩
    ·exact zh2 rfl (by cases a <;> simp [Builtin.clear_, run_underlying hu0])
   obtain ⟨w', h1, h2⟩ := fin
   exact ⟨w', h1, h2, rfl⟩
  ·cases h
 ·cases h
end
end Go.AM
/- AM: the abstract state beside the machine's; one operation. -/
namespace Go.AM
open Go.RowKit (Below)

structure Sim (n0 : Nat) (M0 : Foot) (w0 : World) (ρ0 : Nat → Loc) (bs0 : List Blk) (ρ : Nat → Loc) (st : St) (a : Act) (w : World) : Prop where
 fr : ∀ t, Rep w (Mof M0 ρ st.bs) ρ (a.tmps.getD t Go.undef) (st.fr t)
 store : Store M0 ρ st.bs w
 n0 : n0 = bs0.length
 len : bs0.length ≤ st.bs.length
 lent : ∀ i, i < bs0.length → ρ i = ρ0 i
 pres : Pres w0 (Mof M0 ρ0 bs0) w (Mof M0 ρ st.bs)
 around : Around w0 ρ0 bs0.length w ρ
 defers : a.defers = []
 m0 : ∀ g o, M0 g o → g < w0.heap.size

section
variable {P : Program} {n0 : Nat} {M0 : Foot} {w0 : World} {ρ0 : Nat → Loc} {bs0 : List Blk} {ρ : Nat → Loc} {st : St} {a : Act} {w : World}

theorem Sim.ev (h : Sim n0 M0 w0 ρ0 bs0 ρ st a w) (x : Operand) : Rep w (Mof M0 ρ st.bs) ρ (a.eval x) (st.ev x) := by
 cases x with
 | tmp t => exact h.fr t
 | const v => exact qaa v
 | global g => exact .imm _ _ (.undef _)
 | func f => exact .fn f #[] #[] [] [] rfl rfl (fun i v d h => by simp at h) (fun i v d h => by simp at h)

theorem Sim.m0lt (h : Sim n0 M0 w0 ρ0 bs0 ρ st a w) : ∀ g o, M0 g o → g < w.heap.size := fun g o hm => Nat.lt_of_lt_of_le (h.m0 g o hm) h.around.size

theorem qit {M : Foot} {fr : Nat → D} (h : ∀ t, Rep w M ρ (a.tmps.getD t Go.undef) (fr t)) {dst : Option Nat} {v : Value} {d : D} (hd : ∀ t, dst = some t → t < a.tmps.size) (hv : Rep w M ρ v d) :
 ∀ t, Rep w M ρ ((a.put dst v).tmps.getD t Go.undef) ((St.put ⟨fr, []⟩ dst d).fr t) := by
 intro t
 cases dst with
 | none => exact h t
 | some s =>
   have hlt := hd s rfl
   by_cases hts : t = s
   ·subst hts
    have e1 : (a.put (some t) v).tmps.getD t Go.undef = v := by simp [Act.put, hlt]
    rw [e1]
    simpa [St.put, upd] using hv
   ·have e1 : (a.put (some s) v).tmps.getD t Go.undef = a.tmps.getD t Go.undef := by
     simp only [Act.put, Array.getD_eq_getD_getElem?]
     rw [Array.getElem?_setIfInBounds_ne (Ne.symm hts)]
    rw [e1]
    simpa [St.put, upd, hts] using h t

theorem zfd (a : Act) (dst : Option Nat) (v : Value) : (a.put dst v).tmps.size = a.tmps.size := by cases dst <;> simp [Act.put]
theorem z9o (a : Act) (dst : Option Nat) (v : Value) : (a.put dst v).defers = a.defers := by cases dst <;> rfl

theorem Sim.turn (h : Sim n0 M0 w0 ρ0 bs0 ρ st a w) {w' : World} {ρ' : Nat → Loc} {bs' : List Blk} {S : Nat → Bool} (ht : Turn M0 n0 w ρ st.bs w' ρ' bs' S) {dst : Option Nat} {v : Value} {d : D}
 (hd : ∀ t, dst = some t → t < a.tmps.size) (hv : Rep w' (Mof M0 ρ' bs') ρ' v d) :
 Sim n0 M0 w0 ρ0 bs0 ρ' ((St.mk (zjl S st.fr) bs').put dst d) (a.put dst v) w' := by
 have hbs : ((St.mk (zjl S st.fr) bs').put dst d).bs = bs' := by cases dst <;> rfl
 have hfr : ((St.mk (zjl S st.fr) bs').put dst d).fr = ((St.mk (zjl S st.fr) []).put dst d).fr := by cases dst <;> rfl
 refine ⟨?_, by rw [hbs]; exact ht.store, h.n0, by rw [hbs]; exact Nat.le_trans h.len ht.len, fun i hi => (ht.lent i (by rw [h.n0]; exact hi)).trans (h.lent i hi), by rw [hbs]; exact h.pres.trans ht.pres, ?_, by rw [z9o]; exact h.defers, h.m0⟩
 ·rw [hbs, hfr]
  exact qit (fun t => (h.fr t).sweep ht.pres fun b hb hne => ht.keep b hb hne) hd hv
 ·refine ⟨Nat.le_trans h.around.size ht.size, ht.os.trans h.around.os, ht.tape.trans h.around.tape, ht.output.trans h.around.output, ?_, ?_⟩
  ·intro g hg hno
   have hown : ∀ i base n rl esz, ρ i ≠ .at_ g base n rl esz := by
    intro i base n rl esz hat
    rcases Nat.lt_or_ge i bs0.length with hi | hi
    ·exact hno i hi base n rl esz (by rw [← h.lent i hi]; exact hat)
    ·have := h.around.fresh i g _ _ _ _ hi hat
     omega
   rw [ht.heap g (Nat.lt_of_lt_of_le hg h.around.size) hown]
   exact h.around.keep g hg hno
  ·intro i g base n rl esz hi hat
   rcases ht.fresh i g _ _ _ _ hat with ⟨base', n', rl', esz', h'⟩ | h'
   ·exact h.around.fresh i g _ _ _ _ hi h'
   ·exact Nat.le_trans h.around.size h'

theorem zfg (f : Nat → D) : zjl (fun _ => false) f = f := by
 funext t
 show (f t).mapR (zoz fun _ => false) (zoy fun _ => false) = f t
 exact D.mapR_id _

def QSim (n0 : Nat) (M0 : Foot) (w0 : World) (ρ0 : Nat → Loc) (bs0 : List Blk) (m : Nat) (Q : Ex → St → Prop) : Exit → Act → World → Prop
 | .normal, a, w => ∃ ρ st, Q .normal st ∧ Sim n0 M0 w0 ρ0 bs0 ρ st a w ∧ a.tmps.size = m
 | .exit id, a, w => ∃ ρ st, Q (.exit id) st ∧ Sim n0 M0 w0 ρ0 bs0 ρ st a w ∧ a.tmps.size = m
 | .ret, a, w => ∃ ρ st, Q .ret st ∧ Sim n0 M0 w0 ρ0 bs0 ρ st a w ∧ a.tmps.size = m
 | _, _, _ => False

def KSim (n0 : Nat) (M0 : Foot) (w0 : World) (ρ0 : Nat → Loc) (bs0 : List Blk) (m : Nat) (K : St → Prop) (a : Act) (w : World) : Prop := ∃ ρ st, K st ∧ Sim n0 M0 w0 ρ0 bs0 ρ st a w ∧ a.tmps.size = m

theorem z4a {T : Tab} {eqs : List Nat} {bs : List Blk} {fr : Nat → D} {st' : St} {t : Nat} {va vx : Value} {ad xd : D} (hT : TabOk P T eqs) (hS : Store M0 ρ bs w) (hva : Rep w (Mof M0 ρ bs) ρ va ad) (hvx : Rep w (Mof M0 ρ bs) ρ vx xd)
 (h : zrq T ⟨fr, bs⟩ t ad xd = some st') : ∃ w', (Instr.storeAt t va vx).run P w = .ok () w' ∧ Turn M0 n0 w ρ bs w' ρ st'.bs (fun _ => false) ∧ st'.fr = fr := by
 unfold zrq at h
 split at h
 ·rename_i b i j cs hcells
  obtain ⟨hvs, hvr⟩ := hvx.cells hcells
  split at h
  ·rename_i k hb
   split at h
   ·rename_i r hr
    split at h
    ·rename_i hc
     obtain ⟨hk, hl, hfit, hall⟩ := hc
     obtain ⟨g, base, n, rl, esz, rfl, hat⟩ := hva.ptr_inv
     have hA := hS.at_ b k g base n rl esz hb hat
     obtain ⟨arr, Ty, hh, hs, hcl⟩ := hA.cells
     have hrlen : r.length = esz := hA.hrow r (List.mem_of_getElem? hr)
     have hi : i < k.rows.length := (List.getElem?_eq_some_iff.1 hr).1
     have hroom : base + i * esz + j + vx.cells.size ≤ arr.size := by
      have h1 : (i + 1) * esz ≤ rl * esz := Nat.mul_le_mul_right _ (by rw [hA.hrl]; omega)
      rw [Nat.add_mul] at h1
      have := hA.hfit
      omega
     have hone : ∀ v ∈ vx.cells.toList, v.oneCell' = true := by
      intro v hv
      obtain ⟨m, hm⟩ := List.getElem?_of_mem hv
      have hm' : vx.cells[m]? = some v := by simpa using hm
      have hmlt : m < cs.length := by rw [← hvs]; exact (Array.getElem?_eq_some_iff.1 hm').1
      rw [List.all_eq_true] at hall
      exact zr3 (hvr m v cs[m] hm' (by simp [hmlt])) (hall _ (List.getElem_mem hmlt))
     have hst := run_storeCells_at P g (base + i * esz + j) Ty vx.cells.toList 0 arr w hh (by simpa using hroom) hone
     simp only [Nat.add_zero, Array.length_toList] at hst
     let arr' : Array Value := (arr.toList.take (base + i * esz + j) ++ vx.cells.toList ++ arr.toList.drop (base + i * esz + j + vx.cells.size)).toArray
     have hsz := zb4 (P := P) hT (w := w) hk
     have hrun : (Instr.storeAt t (.pointer (some ⟨g, base + i * esz + j, none⟩)) vx).run P w = .ok () (w.setRow g arr') := by
      have hne : ¬ (vx.cells.size ≠ (T t).size) := by omega
      simp only [Instr.storeAt, Instr.sureAddr, Sem.run_bind, Sem.run_pure, Result.andThen_ok, storeVar, hsz]
      rw [if_neg hne]
      exact hst
     have hsz' : arr'.size = arr.size := by simp [arr']; omega
     have harr' : ∀ m, arr'[m]? = if m < base + i * esz + j then arr[m]? else if m < base + i * esz + j + cs.length then vx.cells[m - (base + i * esz + j)]? else arr[m]? := by
      intro m
      have hl1 : (arr.toList.take (base + i * esz + j)).length = base + i * esz + j := by simp; omega
      simp only [arr', List.getElem?_toArray]
      by_cases hm1 : m < base + i * esz + j
      ·rw [if_pos hm1, List.append_assoc, List.getElem?_append_left (by omega), List.getElem?_take_of_lt hm1]; simp
      ·rw [if_neg hm1]
       by_cases hm2 : m < base + i * esz + j + cs.length
       ·rw [if_pos hm2, List.append_assoc, List.getElem?_append_right (by omega), List.getElem?_append_left (by simp; omega), hl1]; simp
       ·rw [if_neg hm2, List.getElem?_append_right (by simp; omega), List.getElem?_drop]
        simp only [List.length_append, hl1, Array.getElem?_toList, Array.length_toList]
        congr 1
        omega
     have hwr : ∀ (new : List D) (bx : Bool), new.length = cs.length → k.kind = .box ∨ k.kind = .mut →
      (∀ (m : Nat) (v : Value) (e : D), vx.cells[m]? = some v → new[m]? = some e → if k.kind.isBox then Rep w (Mof M0 ρ bs) ρ v e else RepI w (Mof M0 ρ bs) v e) →
      Store M0 ρ (zbj bs b (k.rows.set i (zm0 r j new))) (w.setRow g arr') ∧ Pres w (Mof M0 ρ bs) (w.setRow g arr') (Mof M0 ρ (zbj bs b (k.rows.set i (zm0 r j new)))) := by
      intro new _ hnl hkind hnew
      refine hS.write hb hat hkind hh hsz' (by simp) ?_ ?_
      ·intro r' hr'
       rcases List.mem_or_eq_of_mem_set hr' with h' | h'
       ·exact hA.hrow r' h'
       ·rw [h', zl6 (by omega), hrlen]
      ·intro i' j' r' d hi' hj'
       by_cases hii : i' = i
       ·subst hii
        rw [List.getElem?_set_self hi] at hi'
        cases hi'
        rw [zr5 (by omega)] at hj'
        split at hj'
        ·rename_i hjr
         have hmlt : j' - j < vx.cells.size := by omega
         have hcell : vx.cells[j' - j]? = some vx.cells[j' - j] := by simp [hmlt]
         refine ⟨vx.cells[j' - j], ?_, hnew _ _ _ hcell hj'⟩
         rw [harr', if_neg (by omega), if_pos (by omega), show base + i' * esz + j' - (base + i' * esz + j) = j' - j by omega]
         exact hcell
        ·rename_i hjr
         obtain ⟨v, hv, hrep⟩ := hcl i' j' r d hr hj'
         refine ⟨v, ?_, hrep⟩
         rw [harr']
         by_cases hlt : j' < j
         ·rw [if_pos (by omega)]; exact hv
         ·rw [if_neg (by omega), if_neg (by omega)]; exact hv
       ·rw [List.getElem?_set_ne (Ne.symm hii)] at hi'
        obtain ⟨v, hv, hrep⟩ := hcl i' j' r' d hi' hj'
        refine ⟨v, ?_, hrep⟩
        have hj'lt : j' < esz := by rw [← hA.hrow r' (List.mem_of_getElem? hi')]; exact (List.getElem?_eq_some_iff.1 hj').1
        rw [harr']
        rcases Nat.lt_or_gt_of_ne hii with h' | h'
        ·have h1 : (i' + 1) * esz ≤ i * esz := Nat.mul_le_mul_right _ (by omega)
         rw [Nat.add_mul] at h1
         rw [if_pos (by omega)]; exact hv
        ·have h1 : (i + 1) * esz ≤ i' * esz := Nat.mul_le_mul_right _ (by omega)
         rw [Nat.add_mul] at h1
         rw [if_neg (by omega), if_neg (by omega)]; exact hv
     have heap' : ∀ x, x < w.heap.size → (∀ i base n rl esz, ρ i ≠ .at_ x base n rl esz) → (w.setRow g arr').heap[x]? = w.heap[x]? := by
      intro x _ hno
      refine setRow_other w g x arr' ?_
      rintro rfl
      exact hno b _ _ _ _ hat
     split at h
     ·rename_i hkind
      cases h
      obtain ⟨h1, h2⟩ := hwr cs true rfl (.inl hkind) (fun m v e hv he => by rw [if_pos (by rw [hkind]; rfl)]; exact hvr m v e hv he)
      exact ⟨_, hrun, ⟨h1, h2, fun _ _ _ => rfl, by simp, rfl, rfl, rfl, heap', fun i g base n rl esz h => .inl ⟨_, _, _, _, h⟩, fun _ _ => rfl, by rw [zd9]; exact Nat.le_refl _⟩, rfl⟩
     ·rename_i hkind
      split at h
      ·cases h
      ·rename_i hnot
       cases h
       have hS1 := hS.down (reach bs xd.ids)
       have hM1 : ∀ x o, Mof M0 ρ (zar (reach bs xd.ids) bs) x o → Mof M0 ρ bs x o := fun x o => zq3 fun i b' h => ze3 h
       have hbd : (zar (reach bs xd.ids) bs)[b]? = some k := by
        rw [zea, hb]
        simp only [Option.map_some]
        rw [if_neg hnot]
       have hid : ∀ (rows : List (List D)), zar (reach bs xd.ids) (zbj bs b rows) = zbj (zar (reach bs xd.ids) bs) b rows := by
        intro rows
        apply List.ext_getElem?
        intro x
        rw [zea, zcu, zcu, zea]
        cases bs[x]? with
        | none => rfl
        | some kk =>
          simp only [Option.map_some, Option.some.injEq]
          by_cases hxb : x = b
          ·simp only [hxb, if_true]
           split <;> rfl
          ·simp only [hxb, if_false]
       simp only
       rw [hid]
       have hstill : ∀ x ∈ reach bs xd.ids, zrx ρ (Mof M0 ρ (zar (reach bs xd.ids) bs)) x := fun x hx => hS1.still fun kk hkk => zl9 hkk hx
       have hA1 := hS1.at_ b k g base n rl esz hbd hat
       obtain ⟨arr1, Ty1, hh1, hs1, hcl1⟩ := hA1.cells
       rw [hh] at hh1
       cases hh1
       obtain ⟨h1, h2⟩ := hS1.write (arr' := arr') (rows := k.rows.set i (zm0 r j (cs.map (D.freeze0 bs)))) hbd hat (.inr hkind) hh hsz' (by simp) (by
        intro r' hr'
        rcases List.mem_or_eq_of_mem_set hr' with h' | h'
        ·exact hA.hrow r' h'
        ·rw [h', zl6 (by simp; omega), hrlen]) (by
        intro i' j' r' d hi' hj'
        have hbx : k.kind.isBox = false := by rw [hkind]; rfl
        simp only [hbx, Bool.false_eq_true, if_false]
        have old : ∀ {r'' : List D}, k.rows[i']? = some r'' → r''[j']? = some d → ∃ v, arr[base + i' * esz + j']? = some v ∧ RepI w (Mof M0 ρ (zar (reach bs xd.ids) bs)) v d := by
         intro r'' h1 h2
         obtain ⟨v, hv, hrep⟩ := hcl1 i' j' r'' d h1 h2
         rw [if_neg (by rw [hkind]; simp [Kind.isBox])] at hrep
         exact ⟨v, hv, hrep⟩
        by_cases hii : i' = i
        ·subst hii
         rw [List.getElem?_set_self hi] at hi'
         cases hi'
         rw [zr5 (by simp; omega)] at hj'
         simp only [List.length_map] at hj'
         split at hj'
         ·rename_i hjr
          have hmlt : j' - j < vx.cells.size := by omega
          have hcell : vx.cells[j' - j]? = some vx.cells[j' - j] := by simp [hmlt]
          rw [List.getElem?_map] at hj'
          cases hx : cs[j' - j]? with
          | none => simp [hx] at hj'
          | some e0 =>
            simp [hx] at hj'
            subst hj'
            refine ⟨vx.cells[j' - j], ?_, hS.freeze0 (Ext.refl _) (Pres.sub hM1) (hvr _ _ e0 hcell hx) fun x hxx => hstill x (znq (D.cells_ids hcells (List.mem_of_getElem? hx) hxx) (.inl rfl))⟩
            rw [harr', if_neg (by omega), if_pos (by omega), show base + i' * esz + j' - (base + i' * esz + j) = j' - j by omega]
            exact hcell
         ·rename_i hjr
          obtain ⟨v, hv, hrep⟩ := old hr hj'
          refine ⟨v, ?_, hrep⟩
          rw [harr']
          by_cases hlt : j' < j
          ·rw [if_pos (by omega)]; exact hv
          ·rw [if_neg (by omega), if_neg (by omega)]; exact hv
        ·rw [List.getElem?_set_ne (Ne.symm hii)] at hi'
         obtain ⟨v, hv, hrep⟩ := old hi' hj'
         refine ⟨v, ?_, hrep⟩
         have hj'lt : j' < esz := by rw [← hA.hrow r' (List.mem_of_getElem? hi')]; exact (List.getElem?_eq_some_iff.1 hj').1
         rw [harr']
         rcases Nat.lt_or_gt_of_ne hii with h' | h'
         ·have h1 : (i' + 1) * esz ≤ i * esz := Nat.mul_le_mul_right _ (by omega)
          rw [Nat.add_mul] at h1
          rw [if_pos (by omega)]; exact hv
         ·have h1 : (i + 1) * esz ≤ i' * esz := Nat.mul_le_mul_right _ (by omega)
          rw [Nat.add_mul] at h1
          rw [if_neg (by omega), if_neg (by omega)]; exact hv)
       exact ⟨_, hrun, ⟨h1, (Pres.sub hM1).trans h2, fun _ _ _ => rfl, by simp, rfl, rfl, rfl, heap', fun i g base n rl esz h => .inl ⟨_, _, _, _, h⟩, fun _ _ => rfl, by rw [zd9]; simp [zar]⟩, trivial⟩
     ·cases h
    ·cases h
   ·cases h
  ·cases h
 ·cases h
end
end Go.AM
/- AM: a call that is given a block: what comes back takes its place. -/
namespace Go.AM
open Go.RowKit (Below)

section
variable {P : Program} {n0 : Nat} {M0 : Foot} {ρ : Nat → Loc} {bs : List Blk} {w : World}

theorem Store.turnV (hS : Store M0 ρ bs w) {w' : World} (hbel : Below w.heap.size w w') {b : Nat} {k : Blk} (hb : bs[b]? = some k) (hvirt : ρ b = .virt) :
 Turn M0 n0 w ρ bs w' ρ (zbj (bs.map (Blk.sweep (· == b))) b []) (· == b) := by
 have hrows := (hS.virt b k hb hvirt).1
 have hget : ∀ i, (zbj (bs.map (Blk.sweep (· == b))) b [])[i]? = (bs[i]?).map fun kk => if i = b then { kk.sweep (· == b) with rows := [] } else kk.sweep (· == b) := by
  intro i
  rw [zcu, List.getElem?_map]
  cases bs[i]? <;> rfl
 have hM : ∀ x o, Mof M0 ρ (zbj (bs.map (Blk.sweep (· == b))) b []) x o → Mof M0 ρ bs x o := by
  rintro x o (hm | ⟨i, b', base', n', rl', esz', hi, hat', hk'⟩)
  ·exact .inl hm
  ·rw [hget] at hi
   cases hbi : bs[i]? with
   | none => simp [hbi] at hi
   | some kk =>
     simp only [hbi, Option.map_some, Option.some.injEq] at hi
     refine .inr ⟨i, kk, base', n', rl', esz', hbi, hat', ?_⟩
     split at hi <;> (subst hi; exact hk')
 have hp : Pres w (Mof M0 ρ bs) w' (Mof M0 ρ (zbj (bs.map (Blk.sweep (· == b))) b [])) := (zk3 hbel _).trans (Pres.sub hM)
 have hS' := hS.below hbel
 refine ⟨⟨?_, ?_, ?_, hS.inj, hS.m0⟩, hp, fun _ _ _ => rfl, hbel.size, hbel.os, hbel.tape, hbel.output, fun g hg _ => hbel.block g hg, fun i g base n rl esz h => .inl ⟨_, _, _, _, h⟩, fun _ _ => rfl, by rw [zd9]; simp⟩
 ·intro i b' g base n rl esz hi hat
  rw [hget] at hi
  cases hbi : bs[i]? with
  | none => simp [hbi] at hi
  | some kk =>
    simp only [hbi, Option.map_some, Option.some.injEq] at hi
    have hib : i ≠ b := by rintro rfl; rw [hvirt] at hat; cases hat
    rw [if_neg hib] at hi
    subst hi
    obtain ⟨q1, q2, q3, q4, arr, Ty, hg, hs, hcc⟩ := hS'.at_ i kk g base n rl esz hbi hat
    refine ⟨by simp [Blk.sweep, q1], q2, ?_, q4, arr, Ty, hg, hs, fun k' j r d hr hd => ?_⟩
    ·intro r hr
     simp only [Blk.sweep, List.mem_map] at hr
     obtain ⟨r0, hr0, rfl⟩ := hr
     simpa using q3 r0 hr0
    ·simp only [Blk.sweep, List.getElem?_map] at hr
     cases hx : kk.rows[k']? with
     | none => simp [hx] at hr
     | some r0 =>
       simp [hx] at hr
       subst hr
       rw [List.getElem?_map] at hd
       cases hyy : r0[j]? with
       | none => simp [hyy] at hd
       | some d0 =>
         simp [hyy] at hd
         subst hd
         obtain ⟨v, hv, hrep⟩ := hcc k' j r0 d0 hx hyy
         refine ⟨v, hv, ?_⟩
         show if kk.kind.isBox = true then _ else _
         split
         ·rename_i hbx
          rw [if_pos hbx] at hrep
          exact hrep.sweep (Pres.sub hM) fun _ _ _ => rfl
         ·rename_i hbx
          rw [if_neg hbx] at hrep
          have : d0.sweep (· == b) = d0 := hrep.mapR _ _
          rw [this]
          exact hrep.move (Pres.sub hM)
 ·intro i b' hi hv
  rw [hget] at hi
  cases hbi : bs[i]? with
  | none => simp [hbi] at hi
  | some kk =>
    simp only [hbi, Option.map_some, Option.some.injEq] at hi
    obtain ⟨e1, e2⟩ := hS.virt i kk hbi hv
    split at hi
    ·subst hi; exact ⟨rfl, e2⟩
    ·subst hi; exact ⟨by simp [Blk.sweep, e1], e2⟩
 ·intro i hi
  exact hS.out i (by rw [zd9] at hi; simpa using hi)

theorem z71 {G : Con} {f b len : Nat} {rest : List D} {vs : Array Value} {k : Blk} {R : List (List D)} (hG : ∀ f args bs r bs', G f args bs r bs' → DenF P [0] f args bs r bs')
 (hS : Store M0 ρ bs w) (hm0 : ∀ g o, M0 g o → g < w.heap.size) (hb : bs[b]? = some k) (hbn : n0 ≤ b) (hmut : k.kind = .mut) (hlen : k.rows.length = len) (hreach : (reach bs (idsL rest)).contains b = false)
 (hgc : zgz G f k.rows k.esz (rest.map (D.freeze bs)) R) (hl : vs.size = rest.length + 1)
 (hr : ∀ (i : Nat) (v : Value) (d : D), vs[i]? = some v → (D.ref b 0 len :: rest)[i]? = some d → Rep w (Mof M0 ρ bs) ρ v d) :
 zj8 P f ∧ Calls P f vs w fun e w' => ∃ v ρ', e = .returned v ∧ Rep w' (Mof M0 ρ' (zbj ((zar (reach bs (idsL rest)) bs).map (Blk.sweep (· == b))) b R)) ρ' v (.ref b 0 R.length) ∧
  Turn M0 n0 w ρ bs w' ρ' (zbj ((zar (reach bs (idsL rest)) bs).map (Blk.sweep (· == b))) b R) (· == b) := by
 generalize hids : reach bs (idsL rest) = ids at hreach
 have hS1 : Store M0 ρ (zar ids bs) w := hS.down ids
 have hM1 : ∀ g o, Mof M0 ρ (zar ids bs) g o → Mof M0 ρ bs g o := fun g o => zq3 fun i b' h => ze3 h
 have hb1 : (zar ids bs)[b]? = some k := by
  rw [zea, hb]
  simp only [Option.map_some]
  rw [if_neg (by rw [hreach]; simp)]
 have hbox : k.kind.isBox = false := by rw [hmut]; rfl
 have hst : ∀ x ∈ ids, zrx ρ (Mof M0 ρ (zar ids bs)) x := fun x hx => hS1.still fun k hk => zl9 hk hx
 have hmlt := qaf hS1 hm0
 generalize hbs1 : zar ids bs = bs1 at *
 match vs, hl, hr with
 | ⟨v0 :: tl⟩, hl, hr =>
 have hr0 : Rep w (Mof M0 ρ bs1) ρ v0 (.ref b 0 len) := (hr 0 v0 _ rfl rfl).move (Pres.sub hM1) fun _ _ => rfl
 have hargs : ∀ (i : Nat) (v : Value) (d : D), tl.toArray[i]? = some v → (rest.map (D.freeze bs))[i]? = some d → Rep w (Mof M0 ρ bs1) zry v d := by
  refine zvs hS1 ?_ (Pres.refl _ _) (by rw [hids]; exact hst) ?_
  ·rw [← hbs1]; exact zow ids bs
  ·intro i v d h1 h2
   exact (hr (i + 1) v d (by simpa using h1) (by simpa using h2)).move (Pres.sub hM1) fun _ _ => rfl
 have back : ∀ (M1 : Foot) (ρ1 : Nat → Loc) (blk : Blk) (rest' : List D) (cp : Nat), Mof M1 ρ1 [blk] = Mof M0 ρ bs1 → (∀ g base n rl esz, ρ1 0 = .at_ g base n rl esz → ∃ base n rl esz, ρ b = .at_ g base n rl esz) →
  (ρ1 0 = .virt → ρ b = .virt ∧ k.rows = []) →
  (∀ x o, Mof M0 ρ bs1 x o → (∀ base n rl esz, ρ b ≠ .at_ x base n rl esz) → M1 x o) → FullAt [0] ρ1 → (∀ g o, M1 g o → g < w.heap.size) → Store M1 ρ1 [blk] w → (ρ1 0 ≠ .absent) →
  rest' = rest.map (D.freeze bs) → (∃ r bs', G f (.ref 0 0 len :: rest') [blk] r bs' ∧ z0d k.esz r bs' R) → Rep w (Mof M1 ρ1 [blk]) ρ1 v0 (.ref 0 0 len) →
  zj8 P f ∧ Calls P f ⟨v0 :: tl⟩ w fun e w' => ∃ v ρ', e = .returned v ∧ Rep w' (Mof M0 ρ' (zbj (bs1.map (Blk.sweep (· == b))) b R)) ρ' v (.ref b 0 R.length) ∧
   Turn M0 n0 w ρ bs1 w' ρ' (zbj (bs1.map (Blk.sweep (· == b))) b R) (· == b) := by
  intro M1 ρ1 blk rest' cp hMM hat1 hvirt1 hMback hfull hm1 hS2 hna hrest hcon hrep0
  subst hrest
  obtain ⟨r, bs'', hcon, hout⟩ := hcon
  obtain ⟨hcall, hden⟩ := hG _ _ _ _ _ hcon
  refine ⟨hcall, (hden w M1 ρ1 ⟨v0 :: tl⟩ hfull hm1 hS2 (by simpa using hl) ?_).mono ?_⟩
  ·intro i v d h1 h2
   cases i with
   | zero =>
     simp at h1 h2
     subst h1 h2
     exact hrep0
   | succ i =>
     have := hargs i v d (by simpa using h1) (by simpa using h2)
     rw [← hMM] at this
     exact this.move (Pres.refl _ _) fun b hb => absurd rfl hb
  ·rintro e w' ⟨v, ρ'', rfl, hr', hS3, hlen3, hlent3, hp3, har3⟩
   obtain ⟨j, o, l, k', rfl, hj, hk'm, hk'e, hol, rfl, hjl⟩ := hout
   have hRl : ((k'.rows.drop o).take l).length = l := by simp; omega
   have h0 : ρ'' 0 = ρ1 0 := hlent3 0 (by simp)
   rcases hr'.ref_inv with ⟨cap', g', base', n2, rl', esz', rfl, hat', q1, q2, q3⟩ | ⟨a, rfl, hvirt', rfl, rfl⟩
   ·have hA' := hS3.at_ j k' g' base' n2 rl' esz' hj hat'
    have hez' : esz' = k.esz := by rw [hA'.hesz, hk'e]
    have hg' : (∃ base n rl esz, ρ b = .at_ g' base n rl esz) ∨ w.heap.size ≤ g' := by
     cases j with
     | zero => exact .inl (hat1 _ _ _ _ _ (h0.symm.trans hat'))
     | succ j => exact .inr (har3.fresh (j + 1) g' _ _ _ _ (by simp) hat')
    let ρ' := updL ρ b (.at_ g' (base' + o * esz') n2 l esz')
    let bs' := zbj (bs1.map (Blk.sweep (· == b))) b ((k'.rows.drop o).take l)
    have hget : ∀ i, bs'[i]? = (bs1[i]?).map fun kk => if i = b then { kk.sweep (· == b) with rows := (k'.rows.drop o).take l } else kk.sweep (· == b) := by
     intro i
     show (zbj _ b _)[i]? = _
     rw [zcu, List.getElem?_map]
     cases bs1[i]? <;> rfl
    have hsub : ∀ x o2, Mof M0 ρ' bs' x o2 → (x = g') ∨ (Mof M0 ρ bs1 x o2 ∧ ∀ base n rl esz, ρ b ≠ .at_ x base n rl esz) := by
     rintro x o2 (hm | ⟨i, b', bse, m, rl, ez, hi, hat2, hkk⟩)
     ·exact .inr ⟨.inl hm, fun base n rl esz h => hS1.m0 b x _ _ _ _ h o2 hm⟩
     ·rw [hget] at hi
      cases hbi : bs1[i]? with
      | none => simp [hbi] at hi
      | some kk =>
        simp only [hbi, Option.map_some, Option.some.injEq] at hi
        by_cases hib : i = b
        ·subst hib
         have : Loc.at_ g' (base' + o * esz') n2 l esz' = .at_ x bse m rl ez := by rw [← hat2]; exact (zbb ρ i _).symm
         cases this
         exact .inl rfl
        ·rw [if_neg hib] at hi
         subst hi
         have hat3 : ρ i = .at_ x bse m rl ez := by rw [← hat2]; exact (zbt ρ _ hib).symm
         exact .inr ⟨.inr ⟨i, kk, bse, m, rl, ez, hbi, hat3, hkk⟩, fun base n rl esz h => hib (hS1.inj i b x _ _ _ _ _ _ _ _ hat3 h)⟩
    have hg'M : ∀ o2, Mof M1 ρ'' bs'' g' o2 := fun o2 => .inr ⟨j, k', base', n2, rl', esz', hj, hat', .inr (.inl hk'm)⟩
    have hp : Pres w (Mof M0 ρ bs1) w' (Mof M0 ρ' bs') := by
     intro x o2 v2 hn hv2
     have hx := zma hv2
     obtain ⟨hn3, hv3⟩ := hp3 x o2 v2 (by rw [hMM]; exact hn) hv2
     refine ⟨fun hm => ?_, hv3⟩
     rcases hsub x o2 hm with rfl | ⟨h, _⟩
     ·exact hn3 (hg'M o2)
     ·exact hn h
    have hback : ∀ x o2, Mof M0 ρ' bs' x o2 → Mof M1 ρ'' bs'' x o2 := by
     intro x o2 hm
     rcases hsub x o2 hm with rfl | ⟨h1, h2⟩
     ·exact hg'M o2
     ·exact .inl (hMback x o2 h1 h2)
    have hturn := hS1.turn (n0 := n0) (w' := w') (g' := g') (base' := base' + o * esz') (n' := n2) (rl' := l) (esz' := esz') (rows' := (k'.rows.drop o).take l) hb1 hbox hbn har3.size har3.os har3.tape har3.output
     (fun x hx hno => har3.keep x hx fun i hi base n rl esz hat0 => by
       have : i = 0 := by simpa using hi
       subst this
       obtain ⟨_, _, _, _, h⟩ := hat1 _ _ _ _ _ hat0
       exact hno _ _ _ _ h) hg' hm0 hp (by
       obtain ⟨arr, Ty, hh, hs, hcl⟩ := hA'.cells
       have hrl' := hA'.hrl
       refine ⟨hRl.symm, hez', ?_, ?_, arr, Ty, hh, hs, ?_⟩
       ·intro r hr
        exact hA'.hrow r (List.mem_of_mem_drop (List.mem_of_mem_take hr))
       ·have h1 : (o + l) * esz' ≤ rl' * esz' := Nat.mul_le_mul_right _ q1
        rw [Nat.add_mul] at h1
        have := hA'.hfit
        omega
       ·intro i j' r d hi hj'
        show ∃ v, _ ∧ if k.kind.isBox = true then _ else _
        simp only [hbox, Bool.false_eq_true, if_false]
        rw [List.getElem?_take] at hi
        split at hi
        ·rw [List.getElem?_drop] at hi
         obtain ⟨v, hv, hrep⟩ := hcl (o + i) j' r d hi hj'
         rw [if_neg (by rw [hk'm]; simp [Kind.isBox])] at hrep
         refine ⟨v, ?_, hrep.move (Pres.sub hback)⟩
         rw [← hv]
         congr 1
         rw [Nat.add_mul]
         omega
        ·cases hi)
    refine ⟨_, _, rfl, ?_, hturn⟩
    rw [hRl]
    have hrr := Rep.ref (w := w') (M := Mof M0 ρ' bs') (ρ := ρ') b 0 l cap' g' (base' + o * esz') n2 l esz' (zbb ρ b _) (by omega) (by omega) (by
     rw [Nat.add_mul] at q3
     simp only [Nat.zero_add]
     omega)
    simpa using hrr
   ·have hj0 : j = 0 := by
     rcases hjl with h | h
     ·exact h
     ·exact absurd h (by omega)
    subst hj0
    obtain ⟨hvb, hrows⟩ := hvirt1 (h0.symm.trans hvirt')
    have hbel : Below w.heap.size w w' := ⟨har3.os, har3.tape, har3.output, har3.size, fun x hx => har3.keep x hx fun i hi base n rl esz hat0 => by
     have : i = 0 := by simpa using hi
     subst this
     rw [← h0, hvirt'] at hat0
     cases hat0⟩
    have ht := hS1.turnV (n0 := n0) hbel hb1 hvb
    simp only [List.take_zero, List.length_nil]
    exact ⟨_, ρ, rfl, .refV b a hvb, ht⟩
 have conv : (zj8 P f ∧ Calls P f ⟨v0 :: tl⟩ w fun e w' => ∃ v ρ', e = .returned v ∧ Rep w' (Mof M0 ρ' (zbj (bs1.map (Blk.sweep (· == b))) b R)) ρ' v (.ref b 0 R.length) ∧
       Turn M0 n0 w ρ bs1 w' ρ' (zbj (bs1.map (Blk.sweep (· == b))) b R) (· == b)) →
  zj8 P f ∧ Calls P f ⟨v0 :: tl⟩ w fun e w' => ∃ v ρ', e = .returned v ∧ Rep w' (Mof M0 ρ' (zbj (bs1.map (Blk.sweep (· == b))) b R)) ρ' v (.ref b 0 R.length) ∧
   Turn M0 n0 w ρ bs w' ρ' (zbj (bs1.map (Blk.sweep (· == b))) b R) (· == b) := by
  rintro ⟨h1, h2⟩
  refine ⟨h1, h2.mono ?_⟩
  rintro e w' ⟨v, ρ', he, hrep, ht⟩
  refine ⟨v, ρ', he, hrep, ht.store, (Pres.sub hM1).trans ht.pres, ht.keep, ht.size, ht.os, ht.tape, ht.output, ht.heap, ht.fresh, ht.lent, ?_⟩
  have := ht.len
  rw [← hbs1] at this
  simpa [zar, ← hbs1] using this
 refine conv ?_
 rcases hr0.ref_inv with ⟨cap, g, base, n, rl, esz, rfl, hat, h1, h2, h3⟩ | ⟨a, rfl, hvirt, _, hlen0⟩
 ·have hA := hS1.at_ b k g base n rl esz hb1 hat
  have hez : esz = k.esz := hA.hesz
  have hrl : rl = k.rows.length := hA.hrl
  have hcap : len ≤ cap := by omega
  obtain ⟨arr, Ty, hh, hs, hcl⟩ := hA.cells
  let blk : Blk := ⟨k.rows ++ List.replicate (cap - k.rows.length) (List.replicate k.esz .undef), k.esz, .mut⟩
  let ρ1 : Nat → Loc := fun i => if i = 0 then .at_ g base (base + cap * esz) cap esz else .absent
  have hbl : blk.rows.length = cap := by
   show (k.rows ++ List.replicate (cap - k.rows.length) (List.replicate k.esz D.undef)).length = cap
   simp; omega
  have hρ0 : ∀ i g' base' n' rl' esz', ρ1 i = .at_ g' base' n' rl' esz' → i = 0 ∧ g' = g ∧ base' = base ∧ n' = base + cap * esz ∧ rl' = cap ∧ esz' = esz := by
   intro i g' base' n' rl' esz' h
   by_cases hi : i = 0
   ·have h : (if i = 0 then Loc.at_ g base (base + cap * esz) cap esz else .absent) = .at_ g' base' n' rl' esz' := h
    rw [if_pos hi] at h
    cases h
    exact ⟨hi, rfl, rfl, rfl, rfl, rfl⟩
   ·have h : (if i = 0 then Loc.at_ g base (base + cap * esz) cap esz else .absent) = .at_ g' base' n' rl' esz' := h
    rw [if_neg hi] at h
    cases h
  have hgM : ∀ o, Mof M0 ρ bs1 g o := fun o => .inr ⟨b, k, base, n, rl, esz, hb1, hat, .inr (.inl hmut)⟩
  have hMM : Mof (fun x o => Mof M0 ρ bs1 x o ∧ x ≠ g) ρ1 [blk] = Mof M0 ρ bs1 := by
   funext x o
   apply propext
   constructor
   ·rintro (h | ⟨i, b', base', n', rl', esz', hi, hat', hk'⟩)
    ·exact h.1
    ·obtain ⟨rfl, rfl, _⟩ := hρ0 _ _ _ _ _ _ hat'
     exact hgM o
   ·intro h
    by_cases hx : x = g
    ·subst hx
     exact .inr ⟨0, blk, base, _, cap, esz, rfl, rfl, .inr (.inl rfl)⟩
    ·exact .inl ⟨h, hx⟩
  refine back _ ρ1 blk _ cap hMM ?_ ?_ ?_ ?_ ?_ ?_ ?_ rfl ?_ ?_
  ·intro g' base' n' rl' esz' h
   obtain ⟨_, rfl, _⟩ := hρ0 _ _ _ _ _ _ h
   exact ⟨_, _, _, _, hat⟩
  ·intro h; cases h
  ·intro x o hm hno
   exact ⟨hm, fun hx => by subst hx; exact hno _ _ _ _ hat⟩
  ·intro i hi g' base' n' rl' esz' h
   obtain ⟨_, _, rfl, rfl, rfl, rfl⟩ := hρ0 _ _ _ _ _ _ h
   rfl
  ·intro x o h
   exact hmlt x o h.1
  ·refine ⟨?_, ?_, ?_, ?_, ?_⟩
   ·intro i b' g' base' n' rl' esz' hi h
    obtain ⟨rfl, e1, e2, e3, e4, e5⟩ := hρ0 _ _ _ _ _ _ h
    have e1 := e1.symm
    have e2 := e2.symm
    have e3 := e3.symm
    have e4 := e4.symm
    have e5 := e5.symm
    subst e1 e2 e3 e4 e5
    simp at hi
    subst hi
    refine ⟨hbl.symm, hez, ?_, Nat.le_refl _, arr, Ty, hh, by rw [Nat.zero_add] at h3; omega, ?_⟩
    ·intro r hr
     rcases List.mem_append.1 hr with h | h
     ·exact hA.hrow r h
     ·rw [(List.mem_replicate.1 h).2, hez]; simp
    ·intro i j r d hi hj
     show ∃ v, _ ∧ RepI w _ v d
     by_cases hil : i < k.rows.length
     ·rw [List.getElem?_append_left hil] at hi
      obtain ⟨v, hv, hrep⟩ := hcl i j r d hi hj
      rw [if_neg (by rw [hmut]; simp [Kind.isBox])] at hrep
      rw [hMM]
      exact ⟨v, hv, hrep⟩
     ·rw [List.getElem?_append_right (by omega)] at hi
      have hr' := List.mem_of_getElem? hi
      have hilt := (List.getElem?_eq_some_iff.1 hi).1
      rw [List.length_replicate] at hilt
      rw [(List.mem_replicate.1 hr').2] at hj
      have hjm := List.mem_of_getElem? hj
      have hjlt := (List.getElem?_eq_some_iff.1 hj).1
      rw [List.length_replicate] at hjlt
      rw [(List.mem_replicate.1 hjm).2]
      have hlt := zq0 (i := i) (m := cap) (by omega) (by rw [hez]; exact hjlt : j < esz)
      have : base + i * esz + j < arr.size := by rw [Nat.zero_add] at h3; omega
      exact ⟨arr[base + i * esz + j], by simp [this], .undef _⟩
   ·intro i b' hi hv
    have hv : (if i = 0 then Loc.at_ g base (base + cap * esz) cap esz else .absent) = .virt := hv
    split at hv <;> cases hv
   ·intro i hi
    show (if i = 0 then _ else _) = _
    rw [if_neg (by simp at hi; omega)]
   ·intro i j g' _ _ _ _ _ _ _ _ hi hj
    rw [(hρ0 _ _ _ _ _ _ hi).1, (hρ0 _ _ _ _ _ _ hj).1]
   ·intro i g' _ _ _ _ hi o hm
    exact hm.2 (hρ0 _ _ _ _ _ _ hi).2.1
  ·intro h; cases h
  ·have := hgc cap (by omega)
   rw [hlen] at this
   rw [show blk = ⟨k.rows ++ List.replicate (cap - len) (List.replicate k.esz .undef), k.esz, .mut⟩ by rw [← hlen]]
   exact this
  ·have hrr := Rep.ref (w := w) (M := Mof (fun x o => Mof M0 ρ bs1 x o ∧ x ≠ g) ρ1 [blk]) (ρ := ρ1) 0 0 len cap g base (base + cap * esz) cap esz rfl (by omega) (by omega) (by simp)
   exact hrr
 ·subst hlen0
  have hrows : k.rows = [] := List.eq_nil_of_length_eq_zero hlen
  have hnat : ∀ i g base n rl esz, (if i = 0 then Loc.virt else .absent) ≠ .at_ g base n rl esz := by
   intro i g base n rl esz h
   split at h <;> cases h
  have hMM : Mof (Mof M0 ρ bs1) (fun i => if i = 0 then .virt else .absent) [⟨[], k.esz, .mut⟩] = Mof M0 ρ bs1 := by
   funext x o
   apply propext
   constructor
   ·rintro (h | ⟨i, b', base', n', rl', esz', hi, hat', hk'⟩)
    ·exact h
    ·exact absurd hat' (hnat _ _ _ _ _ _)
   ·exact .inl
  refine back (Mof M0 ρ bs1) (fun i => if i = 0 then .virt else .absent) ⟨[], k.esz, .mut⟩ _ 0 hMM ?_ ?_ ?_ ?_ ?_ ?_ ?_ rfl ?_ ?_
  ·intro g base n rl esz h; exact absurd h (hnat _ _ _ _ _ _)
  ·intro _; exact ⟨hvirt, hrows⟩
  ·intro x o h _; exact h
  ·intro i hi g base n rl esz h; exact absurd h (hnat _ _ _ _ _ _)
  ·exact hmlt
  ·refine ⟨?_, ?_, ?_, ?_, ?_⟩
   ·intro i b' g base n rl esz hi h; exact absurd h (hnat _ _ _ _ _ _)
   ·intro i b' hi hv
    cases i with
    | zero => simp at hi; subst hi; exact ⟨rfl, rfl⟩
    | succ i => simp at hi
   ·intro i hi
    show (if i = 0 then _ else _) = _
    rw [if_neg (by simp at hi; omega)]
   ·intro i j g _ _ _ _ _ _ _ _ hi; exact absurd hi (hnat _ _ _ _ _ _)
   ·intro i g _ _ _ _ hi; exact absurd hi (hnat _ _ _ _ _ _)
  ·intro h; simp at h
  ·have := hgc 0 (by rw [hrows]; simp)
   simpa [hrows] using this
  ·exact .refV 0 a rfl
end
end Go.AM
/- AM: one operation, regions in the order of the text, code, functions. -/
namespace Go.AM
open Go.RowKit (Below)

section
variable {P : Program} {c : Cfg} {M0 : Foot} {w0 : World} {ρ0 : Nat → Loc} {bs0 : List Blk}

theorem zty {o : Oper} {a : Act} {w w' : World} {v : Value} {K : Act → World → Prop} {Q : Exit → Act → World → Prop} (h : (execOp a.eval o).run P w = .ok (.value v) w') (hK : K (a.put o.dst v) w') : o.wp P a w K Q := by
 unfold Oper.wp
 rw [h]
 exact hK

theorem Sim.full {ρ : Nat → Loc} {st : St} {a : Act} {w : World} (hs : Sim c.n0 M0 w0 ρ0 bs0 ρ st a w) (hC : Sound P c ρ0) : FullAt c.full ρ := by
 intro b hb g base n rl esz hat
 have := hC.lt b hb
 rw [hs.lent b (by rw [← hs.n0]; exact this)] at hat
 exact hC.full b hb g base n rl esz hat

theorem z6w (hC : Sound P c ρ0) (hT : TabOk P c.T c.eqs) {ρ : Nat → Loc} {st : St} {a : Act} {w : World} {o : Oper} {K : St → Prop} {Q : Exit → Act → World → Prop}
 (hs : Sim c.n0 M0 w0 ρ0 bs0 ρ st a w) (hd : ∀ t, o.dst = some t → t < a.tmps.size) (h : xOp c o st K) : o.wp P a w (KSim c.n0 M0 w0 ρ0 bs0 a.tmps.size K) Q := by
 unfold xOp at h
 split at h
 ·-- a zdg
  obtain ⟨dst, op, ty, pos, after, guard⟩ := o
  unfold xBar at h
  split at h
  ·rename_i t ad x hop
   simp only at hop
   subst hop
   obtain ⟨st', hst, hK⟩ := h
   obtain ⟨fr, bs⟩ := st
   obtain ⟨w', hrun, ht, hfr⟩ := z4a (n0 := c.n0) hT hs.store (hs.ev ad) (hs.ev x) hst
   obtain ⟨fr', bs'⟩ := st'
   simp only at hfr
   subst hfr
   unfold Oper.wp
   have hr : (execOp a.eval ⟨dst, .store t ad x, ty, pos, after, guard⟩).run P w = .ok .skip w' := by simp [execOp, hrun]
   rw [hr]
   have := hs.turn ht hd (v := Go.undef) (d := .tup []) (.tup #[] [] rfl fun i v d h => by simp at h)
   rw [zfg] at this
   exact ⟨_, _, hK, this, zfd _ _ _⟩
  ·rename_i f args tys hop
   simp only at hop
   subst hop
   split at h
   ·rename_i hov
    obtain ⟨hap, hK⟩ := h
    obtain ⟨fid, rfl, hfid⟩ : ∃ fid, f = .func fid ∧ fid ∈ c.ovl := by
     cases f <;> simp [isOvl] at hov
     exact ⟨_, rfl, hov⟩
    have hr := qhh (P := P) (f := fid) (vs := args.map a.eval) (ds := args.toList.map st.ev) (hC.ovl fid hfid) hT hs.store (by simp) (zjy fun y _ => hs.ev y) hap
    refine zty (v := .bool false) (w' := w) (by simp [execOp, resolve, invoke, Act.eval, Deferred.ofValue, hr]) ?_
    have ht : Turn M0 c.n0 w ρ st.bs w ρ st.bs (fun _ => false) := ⟨hs.store, Pres.refl _ _, fun _ _ _ => rfl, Nat.le_refl _, rfl, rfl, rfl, fun _ _ _ => rfl, fun i g base n rl esz h => .inl ⟨_, _, _, _, h⟩, fun _ _ => rfl, Nat.le_refl _⟩
    have := hs.turn ht hd (v := .bool false) (d := .bool false) (.imm _ _ (.bool _))
    rw [zfg] at this
    exact ⟨_, _, hK, this, zfd _ _ _⟩
   rename_i hov
   split at h
   ·unfold zmb at h
    split at h
    ·rename_i fid b len rest hf hargs
     obtain ⟨k, R, hb, hbn, hmut, hlen, hreach, hgc, hK⟩ := h
     have hev := hs.ev f
     rw [hf] at hev
     obtain ⟨va, vc, hvf, hsa, hsc, hra, hrc⟩ := hev.fn_inv
     have hva : va = #[] := Array.eq_empty_of_size_eq_zero (by simpa using hsa)
     have hvc : vc = #[] := Array.eq_empty_of_size_eq_zero (by simpa using hsc)
     subst hva hvc
     have hall : ∀ (i : Nat) (v : Value) (d : D), (args.map a.eval)[i]? = some v → (D.ref b 0 len :: rest)[i]? = some d → Rep w (Mof M0 ρ st.bs) ρ v d := by
      rw [← hargs]
      exact zjy fun y _ => hs.ev y
     obtain ⟨hcall, hcalls⟩ := z71 (n0 := c.n0) (vs := args.map a.eval) hC.given hs.store hs.m0lt hb hbn hmut hlen hreach hgc (by have := congrArg List.length hargs; simpa using this) hall
     unfold Oper.wp
     have he : (execOp a.eval ⟨dst, .call ⟨.value f, args, tys⟩, ty, pos, after, guard⟩).run P w = .ok (.enter fid (args.map a.eval)) w := by
      simp only [execOp]
      have := zpz (w := w) (args := args) (argTypes := tys) (ty := ty) hcall hvf
      simpa using this
     rw [he]
     refine Calls.mono hcalls ?_
     rintro e w' ⟨v, ρ', rfl, hrep, ht⟩
     exact ⟨_, _, hK, hs.turn ht hd hrep, zfd _ _ _⟩
    ·cases h
   unfold zir at h
   split at h
   ·rename_i fid first caps hf
    obtain ⟨r, bs', hcon, hK⟩ := h
    obtain ⟨hcall, hden⟩ := hC.den _ _ _ _ _ hcon
    have hev := hs.ev f
    rw [hf] at hev
    obtain ⟨va, vc, hvf, hsa, hsc, hra, hrc⟩ := hev.fn_inv
    have hall : ∀ (i : Nat) (v : Value) (d : D), (va ++ args.map a.eval ++ vc)[i]? = some v → (first ++ args.toList.map st.ev ++ caps)[i]? = some d → Rep w (Mof M0 ρ st.bs) ρ v d :=
     zom (by simp [hsa]) (zom hsa hra (zjy fun y _ => hs.ev y)) hrc
    unfold Oper.wp
    have he : (execOp a.eval ⟨dst, .call ⟨.value f, args, tys⟩, ty, pos, after, guard⟩).run P w = .ok (.enter fid (va ++ args.map a.eval ++ vc)) w := by
     simp only [execOp]
     exact zpz hcall hvf
    rw [he]
    refine Calls.mono (hden w M0 ρ (va ++ args.map a.eval ++ vc) hs.m0lt hs.store (by simp [hsa, hsc]) hall) ?_
    rintro e w' ⟨v, ρ', rfl, hr, hS', hlen, hlent, hp, har⟩
    have ht : Turn M0 c.n0 w ρ st.bs w' ρ' bs' (fun _ => false) := by
     refine ⟨hS', hp, ?_, har.size, har.os, har.tape, har.output, fun g hg hno => har.keep g hg fun i _ => hno i, ?_, fun i hi => ?_, hlen⟩
     ·intro b _ hne
      have hlt : b < st.bs.length := by
       rcases Nat.lt_or_ge b st.bs.length with h | h
       ·exact h
       ·exact absurd (hs.store.out b h) hne
      exact hlent b hlt
     ·intro i g base n rl esz hi
      rcases Nat.lt_or_ge i st.bs.length with h | h
      ·rw [hlent i h] at hi
       exact .inl ⟨_, _, _, _, hi⟩
      ·exact .inr (har.fresh i g _ _ _ _ h hi)
     ·have := hs.len
      rw [← hs.n0] at this
      exact hlent i (by omega)
    have := hs.turn ht hd hr
    rw [zfg] at this
    exact ⟨_, _, hK, this, zfd _ _ _⟩
   ·cases h
  ·rename_i args tys hop
   simp only at hop
   subst hop
   split at h
   ·rename_i t0 t1 sx xx htys hargs
    split at h
    ·rename_i e h0
     obtain ⟨ys, r, st', hsrc, hfits, happ, hK⟩ := h
     have hfl := hs.full hC
     obtain ⟨fr, bs⟩ := st
     obtain ⟨v, w', ρ', S, hrun, hrep, ht, hfr⟩ := z1o (P := P) (ty := ty) (t1 := t1) (c := c) (fr := fr) hT h0 hfl hs.store hs.m0lt (by have := hs.len; rw [← hs.n0] at this; exact this) (hs.ev sx) (hs.ev xx) hsrc hfits happ
     have ha : args = #[sx, xx] := Array.toList_inj.1 (by simpa using hargs)
     have hat : tys = #[t0, t1] := Array.toList_inj.1 (by simpa using htys)
     subst ha hat
     refine zty (v := v) (w' := w') (by simp [execOp, resolve, invoke, builtin, hrun]) ?_
     obtain ⟨fr', bs'⟩ := st'
     simp only at hfr
     subst hfr
     exact ⟨_, _, hK, hs.turn ht hd hrep, zfd _ _ _⟩
    ·cases h
   ·cases h
  ·rename_i args tys hop
   simp only at hop
   subst hop
   split at h
   ·rename_i t0 t1 sx xx htys hargs
    split at h
    ·rename_i e h0
     unfold copyB at h
     split at h
     ·rename_i b off len hse
      obtain ⟨ys, st', hsrc, hrow, hfits, hov, hK⟩ := h
      have hes := hs.ev sx
      rw [hse] at hes
      obtain ⟨fr, bs⟩ := st
      obtain ⟨w', hrun, ht, hfr⟩ := z7f (P := P) (ty := ty) (t1 := t1) c.n0 (fr := fr) hT h0 hs.store hes (hs.ev xx) hsrc hrow hfits hov
      have ha : args = #[sx, xx] := Array.toList_inj.1 (by simpa using hargs)
      have hat : tys = #[t0, t1] := Array.toList_inj.1 (by simpa using htys)
      subst ha hat
      refine zty (v := .int .i64 ((ys.take len).length : Int)) (w' := w') (by simp [execOp, resolve, invoke, builtin, hrun]) ?_
      obtain ⟨fr', bs'⟩ := st'
      simp only at hfr
      subst hfr
      have := hs.turn ht hd (v := .int .i64 ((ys.take len).length : Int)) (d := .int .i64 ((ys.take len).length : Int)) (.imm _ _ (.int _ _))
      rw [zfg] at this
      exact ⟨_, _, hK, this, zfd _ _ _⟩
     ·cases h
    ·cases h
   ·cases h
  ·rename_i args tys hop
   simp only at hop
   subst hop
   split at h
   ·rename_i t0 sx htys hargs
    split at h
    ·rename_i e h0
     unfold clearB at h
     split at h
     ·rename_i b off len hse
      obtain ⟨st', hfits, hov, hK⟩ := h
      have hes := hs.ev sx
      rw [hse] at hes
      obtain ⟨fr, bs⟩ := st
      obtain ⟨w', hrun, ht, hfr⟩ := z59 (P := P) (ty := ty) c.n0 (fr := fr) hT h0 hs.store hes hfits hov
      have ha : args = #[sx] := Array.toList_inj.1 (by simpa using hargs)
      have hat : tys = #[t0] := Array.toList_inj.1 (by simpa using htys)
      subst ha hat
      refine zty (v := .tuple #[]) (w' := w') (by simp [execOp, resolve, invoke, builtin, hrun]) ?_
      obtain ⟨fr', bs'⟩ := st'
      simp only at hfr
      subst hfr
      have := hs.turn ht hd (v := .tuple #[]) (d := .tup []) (.tup #[] [] rfl fun i v d h => by simp at h)
      rw [zfg] at this
      exact ⟨_, _, hK, this, zfd _ _ _⟩
     ·cases h
    ·cases h
   ·cases h
  ·cases h
 ·obtain ⟨out, hout, hdn, hK⟩ := h
  obtain ⟨hS1, hM1, hN1⟩ := hs.store.more out.down out.news
  have hlen : (zar out.down st.bs).length = st.bs.length := by simp [zar]
  have hE : Ext st.bs (zar out.down st.bs ++ out.news) := by
   intro i k hk
   obtain ⟨k', h1, h2⟩ := zow out.down st.bs i k hk
   exact ⟨k', by rw [List.getElem?_append_left (by rw [hlen]; exact (List.getElem?_eq_some_iff.1 hk).1)]; exact h1, h2⟩
  refine z0t (bs := zar out.down st.bs ++ out.news) hC.den hT hS1 hs.m0lt hE (fun x _ => (hs.ev x).move (Pres.sub hM1) fun _ _ => rfl) hout hN1 ?_ (hs.full hC) _ ?_
  ·intro b hb k hk
   rw [List.all_eq_true] at hdn
   have hlt : b < st.bs.length := by simpa using hdn b hb
   rw [List.getElem?_append_left (by omega)] at hk
   exact zl9 hk hb
  ·intro v w' ρ' hrep hg
   have ht : Turn M0 c.n0 w ρ st.bs w' ρ' (zar out.down st.bs ++ out.news) (fun _ => false) := .of_grow hs.store hg (by have := hs.len; rw [← hs.n0] at this; exact this) hM1 (by simp [hlen])
   have := hs.turn ht hd hrep
   rw [zfg] at this
   have he : (St.mk st.fr (zar out.down st.bs ++ out.news)).put o.dst out.d = st.out o.dst out := by
    unfold St.out
    cases o.dst <;> rfl
   rw [he] at this
   exact ⟨_, _, hK, this, zfd _ _ _⟩

theorem Sim.skip {ρ : Nat → Loc} {st : St} {a : Act} {w : World} (hs : Sim c.n0 M0 w0 ρ0 bs0 ρ st a w) {dst : Option Nat} (hd : ∀ t, dst = some t → t < a.tmps.size) :
 Sim c.n0 M0 w0 ρ0 bs0 ρ (st.put dst (.tup [])) (a.put dst Go.undef) w := by
 have ht : Turn M0 c.n0 w ρ st.bs w ρ st.bs (fun _ => false) := ⟨hs.store, Pres.refl _ _, fun _ _ _ => rfl, Nat.le_refl _, rfl, rfl, rfl, fun _ _ _ => rfl, fun i g base n rl esz h => .inl ⟨_, _, _, _, h⟩, fun _ _ => rfl, Nat.le_refl _⟩
 have := hs.turn ht hd (v := Go.undef) (d := .tup []) (.tup #[] [] rfl fun i v d h => by simp at h)
 rwa [zfg] at this

theorem zkx {ρ : Nat → Loc} {st : St} {a : Act} {w : World} (hs : Sim c.n0 M0 w0 ρ0 bs0 ρ st a w) {ops : Array Oper} {o : Oper} {b : Bool} (h : wantD ops st o = some b) : Region.wanted o (yielded ops a.tmps) = b := by
 cases hg : o.guard with
 | none => simp only [wantD, hg] at h; cases h; simp [Region.wanted, hg]
 | some p =>
   obtain ⟨j, want⟩ := p
   simp only [wantD, hg] at h
   simp only [Region.wanted, hg]
   unfold yielded
   split at h
   ·rename_i t ht
    rw [ht]
    simp only [Option.bind_some]
    have hr := hs.fr t
    split at h
    ·rename_i x hx
     cases h
     rw [hx] at hr
     have := hr.bool_inv
     rw [Array.getD_eq_getD_getElem?] at this
     cases hq : a.tmps[t]? with
     | none => rw [hq] at this; cases this
     | some u =>
       rw [hq] at this
       simp only [Option.getD_some] at this
       subst this
       cases x <;> cases want <;> rfl
    ·rename_i hx
     cases h
     rw [hx] at hr
     obtain ⟨vs, hv, _⟩ := hr.tup_inv
     rw [Array.getD_eq_getD_getElem?] at hv
     cases hq : a.tmps[t]? with
     | none => rfl
     | some u =>
       rw [hq] at hv
       simp only [Option.getD_some] at hv
       subst hv
       rfl
    ·cases h
   ·rename_i ht
    cases h
    rw [ht]
    rfl

theorem qbu (hC : Sound P c ρ0) (hT : TabOk P c.T c.eqs) {ops : Array Oper} {Q : Exit → Act → World → Prop} {m : Nat} {K : St → Prop}
 (hQ : ∀ a w, KSim c.n0 M0 w0 ρ0 bs0 m K a w → Q .normal a w) : ∀ (l : List Oper) (ρ : Nat → Loc) (st : St) (a : Act) (w : World), (∀ o ∈ l, ∀ t, o.dst = some t → t < m) → a.tmps.size = m →
   Sim c.n0 M0 w0 ρ0 bs0 ρ st a w → xOps c ops l st K → wpList P ops Q l a w := by
 intro l
 induction l with
 | nil => intro ρ st a w _ hm hs h; exact hQ a w ⟨ρ, st, h, hs, hm⟩
 | cons o l ih =>
   intro ρ st a w hd hm hs h
   unfold xOps at h
   have hd0 : ∀ t, o.dst = some t → t < a.tmps.size := fun t ht => by rw [hm]; exact hd o (by simp) t ht
   unfold wpList
   split at h
   ·rename_i hw
    rw [if_pos (zkx hs hw)]
    left
    refine Oper.wp_mono ?_ (z6w hC hT hs hd0 h)
    rintro a' w' ⟨ρ', st', hK, hs', hm'⟩
    exact ih ρ' st' a' w' (fun o' ho' => hd o' (by simp [ho'])) (hm'.trans hm) hs' hK
   ·rename_i hw
    rw [if_neg (by rw [zkx hs hw]; simp)]
    exact ih ρ _ _ w (fun o' ho' => hd o' (by simp [ho'])) (by rw [zfd]; exact hm) (hs.skip hd0) h
   ·cases h
end
end Go.AM
/- AM: a region that draws its order. -/
namespace Go.AM
open Go.RowKit (Below)

def ancGo : List Oper → Array Nat → Array Nat
 | [], acc => acc
 | o :: os, acc => ancGo os (acc.push (o.after.toList.foldl (fun s e => if Region.binds .any e then s ||| (2 ^ e.on ||| acc.getD e.on 0) else s) 0))
def anc (ops : Array Oper) : Array Nat := ancGo ops.toList #[]

def zmi (A : Array Nat) (i j : Nat) : Bool := (A.getD (max i j) 0).testBit (min i j)

def zjq (o : Oper) : Bool := o.guard.isNone && match o.op with
 | .move _ => true
 | .extract _ _ => true
 | _ => false

def edge (o : Oper) (j : Nat) : Bool := o.after.any fun e => Region.binds .any e && e.on == j

def pairOk (c : Cfg) (ops : Array Oper) (A : Array Nat) (i j : Nat) (x y : Oper) : Bool :=
 i == j || ((match x.dst with
   | some d => (!(y.looksAt ops).contains d || zmi A i j) && y.dst != some d
   | none => true) && (!zdg c x.op || zmi A i j || (decide (j < i) && zjq y && y.after.all fun e => !Region.binds .any e || zmi A i e.on)) &&
   (!zjq x || edge x j || edge y i || x.apart ops y))

def drawOk (c : Cfg) (ops : Array Oper) : Bool :=
 (ops.toList.zipIdx.all fun x => x.1.after.all fun e => !Region.binds .any e || decide (e.on < x.2)) &&
 (ops.toList.zipIdx.all fun x => ops.toList.zipIdx.all fun y => pairOk c ops (anc ops) x.2 y.2 x.1 y.1) && Region.noSelect ops

inductive Reach (ops : Array Oper) : Nat → Nat → Prop where
 | one {i : Nat} {o : Oper} {e : Edge} (ho : ops[i]? = some o) (he : e ∈ o.after) (hb : Region.binds .any e = true) : Reach ops i e.on
 | more {i j : Nat} {o : Oper} {e : Edge} (ho : ops[i]? = some o) (he : e ∈ o.after) (hb : Region.binds .any e = true) (h : Reach ops e.on j) : Reach ops i j

def Closed (ops : Array Oper) (L : Array Bool) : Prop := ∀ (i : Nat) (o : Oper) (e : Edge), L.getD i false = true → ops[i]? = some o → e ∈ o.after → Region.binds .any e = true → L.getD e.on false = true

theorem Closed.reach {ops : Array Oper} {L : Array Bool} (h : Closed ops L) {i j : Nat} (hr : Reach ops i j) (hi : L.getD i false = true) : L.getD j false = true := by
 induction hr with
 | one ho he hb => exact h _ _ _ hi ho he hb
 | more ho he hb _ ih => exact ih (h _ _ _ hi ho he hb)

theorem z7q {acc : Array Nat} {j : Nat} : ∀ (es : List Edge) (s : Nat), (es.foldl (fun s e => if Region.binds .any e then s ||| (2 ^ e.on ||| acc.getD e.on 0) else s) s).testBit j = true →
 s.testBit j = true ∨ ∃ e ∈ es, Region.binds .any e = true ∧ (e.on = j ∨ (acc.getD e.on 0).testBit j = true) := by
 intro es
 induction es with
 | nil => intro s h; exact .inl h
 | cons e es ih =>
   intro s h
   simp only [List.foldl_cons] at h
   rcases ih _ h with h1 | ⟨e', he', hb, hx⟩
   ·split at h1
    ·rename_i hb
     rw [Nat.testBit_or, Nat.testBit_or, Bool.or_eq_true, Bool.or_eq_true] at h1
     rcases h1 with h1 | h1 | h1
     ·exact .inl h1
     ·rw [Nat.testBit_two_pow] at h1
      exact .inr ⟨e, by simp, hb, .inl (by simpa using h1)⟩
     ·exact .inr ⟨e, by simp, hb, .inr h1⟩
    ·exact .inl h1
   ·exact .inr ⟨e', by simp [he'], hb, hx⟩

theorem z50 {ops : Array Oper} : ∀ (l : List Oper) (acc : Array Nat), (∀ k, l[k]? = ops[acc.size + k]?) → (∀ i j, (acc.getD i 0).testBit j = true → Reach ops i j) →
 ∀ i j, ((ancGo l acc).getD i 0).testBit j = true → Reach ops i j := by
 intro l
 induction l with
 | nil => intro acc _ h i j hx; exact h i j hx
 | cons o l ih =>
   intro acc hl h i j hx
   have h0 : ops[acc.size]? = some o := by have := hl 0; simpa using this.symm
   refine ih _ ?_ ?_ i j hx
   ·intro k
    have := hl (k + 1)
    simp only [List.getElem?_cons_succ] at this
    rw [this, Array.size_push]
    congr 1
    omega
   ·intro i j hb
    rw [Array.getD_eq_getD_getElem?, Array.getElem?_push] at hb
    split at hb
    ·rename_i hi
     subst hi
     simp only [Option.getD_some] at hb
     rcases z7q _ _ hb with h1 | ⟨e, he, hbi, h1 | h1⟩
     ·simp at h1
     ·subst h1; exact .one h0 (by simpa using he) hbi
     ·exact .more h0 (by simpa using he) hbi (h _ _ h1)
    ·rw [← Array.getD_eq_getD_getElem?] at hb
     exact h i j hb

theorem zlu {ops : Array Oper} {i j : Nat} (h : zmi (anc ops) i j = true) : Reach ops (max i j) (min i j) :=
 z50 ops.toList #[] (fun k => by simp) (fun i j h => by simp at h) _ _ h

structure DrawOk (c : Cfg) (ops : Array Oper) : Prop where
 fwd : ∀ (i : Nat) (o : Oper) (e : Edge), ops[i]? = some o → e ∈ o.after → Region.binds .any e = true → e.on < i
 look : ∀ (i j : Nat) (x y : Oper) (d : Nat), ops[i]? = some x → ops[j]? = some y → i ≠ j → x.dst = some d → d ∈ y.looksAt ops → Reach ops (max i j) (min i j)
 uniq : ∀ (i j : Nat) (x y : Oper) (d : Nat), ops[i]? = some x → ops[j]? = some y → x.dst = some d → y.dst = some d → i = j
 bar : ∀ (i j : Nat) (x y : Oper), ops[i]? = some x → ops[j]? = some y → i ≠ j → zdg c x.op = true → Reach ops (max i j) (min i j) ∨
  (j < i ∧ zjq y = true ∧ ∀ e ∈ y.after, Region.binds .any e = true → Reach ops i e.on)
 free : ∀ (i j : Nat) (x y : Oper), ops[i]? = some x → ops[j]? = some y → j ≠ i → zjq x = true → edge x j = true ∨ edge y i = true ∨ x.apart ops y = true
 sel : Region.noSelect ops = true

theorem z6b {c : Cfg} {ops : Array Oper} (h : drawOk c ops = true) : DrawOk c ops := by
 unfold drawOk at h
 rw [Bool.and_eq_true, Bool.and_eq_true, List.all_eq_true, List.all_eq_true] at h
 obtain ⟨⟨h1, h2⟩, h3⟩ := h
 have mem : ∀ {i : Nat} {o : Oper}, ops[i]? = some o → (o, i) ∈ ops.toList.zipIdx := by
  intro i o ho
  rw [List.mem_zipIdx_iff_getElem?]
  simpa using ho
 have fwd : ∀ (i : Nat) (o : Oper) (e : Edge), ops[i]? = some o → e ∈ o.after → Region.binds .any e = true → e.on < i := by
  intro i o e ho he hb
  have := h1 _ (mem ho)
  rw [Array.all_eq_true'] at this
  have := this e he
  rw [hb] at this
  simpa using this
 have pair : ∀ {i j : Nat} {x y : Oper}, ops[i]? = some x → ops[j]? = some y → i ≠ j → ((match x.dst with
  | some d => (!(y.looksAt ops).contains d || zmi (anc ops) i j) && y.dst != some d
  | none => true) = true) ∧ (zdg c x.op = true → zmi (anc ops) i j = true ∨ (j < i ∧ zjq y = true ∧ ∀ e ∈ y.after, Region.binds .any e = true → zmi (anc ops) i e.on = true)) ∧
    (zjq x = true → edge x j = true ∨ edge y i = true ∨ x.apart ops y = true) := by
  intro i j x y hx hy hne
  have := h2 _ (mem hx)
  rw [List.all_eq_true] at this
  have := this _ (mem hy)
  unfold pairOk at this
  have hij : (i == j) = false := by simpa using hne
  simp only [hij, Bool.false_or, Bool.and_eq_true] at this
  obtain ⟨⟨g1, g2⟩, g3⟩ := this
  refine ⟨g1, fun hb => ?_, fun hf => ?_⟩
  ·rw [hb] at g2
   simp only [Bool.not_true, Bool.false_or, Bool.or_eq_true, Bool.and_eq_true, decide_eq_true_eq] at g2
   rcases g2 with g2 | ⟨⟨g2, g4⟩, g5⟩
   ·exact .inl g2
   ·rw [Array.all_eq_true'] at g5
    refine .inr ⟨g2, g4, fun e he hbi => ?_⟩
    have := g5 e he
    rw [hbi] at this
    simpa using this
  ·rw [hf] at g3
   simp only [Bool.not_true, Bool.false_or, Bool.or_eq_true] at g3
   rcases g3 with (g3 | g3) | g3
   ·exact .inl g3
   ·exact .inr (.inl g3)
   ·exact .inr (.inr g3)
 refine ⟨fwd, ?_, ?_, ?_, ?_, h3⟩
 ·intro i j x y d hx hy hne hd hl
  have := (pair hx hy hne).1
  rw [hd] at this
  have hc : (y.looksAt ops).contains d = true := by simpa using hl
  simp only [hc, Bool.not_true, Bool.false_or, Bool.and_eq_true] at this
  exact zlu this.1
 ·intro i j x y d hx hy hd hd'
  apply Classical.byContradiction
  intro hne
  have := (pair hx hy hne).1
  rw [hd] at this
  simp only [Bool.and_eq_true] at this
  have := this.2
  rw [hd'] at this
  simp at this
 ·intro i j x y hx hy hne hb
  rcases (pair hx hy hne).2.1 hb with h | ⟨hlt, hf, h⟩
  ·exact .inl (zlu h)
  ·refine .inr ⟨hlt, hf, fun e he hbi => ?_⟩
   have := fwd j y e hy he hbi
   have h' := zlu (h e he hbi)
   rwa [Nat.max_eq_left (by omega), Nat.min_eq_right (by omega)] at h'
 ·intro i j x y hx hy hne hf
  exact (pair hx hy (Ne.symm hne)).2.2 hf

def zo4 (ops : Array Oper) (i : Nat) : Option Nat := (ops[i]?).bind (·.dst)

structure StepAt (c : Cfg) (ops : Array Oper) (s s' : St) (o : Oper) (out : Option Out) : Prop where
 free : zdg c o.op = false
 want : wantD ops s o = some out.isSome
 run : ∀ x, out = some x → zhf c s.bs.length s.bs s.ev o x ∧ (∀ b ∈ x.down, b < s.bs.length) ∧ s' = s.out o.dst x
 skip : out = none → s' = s.put o.dst (.tup [])

structure Trace (c : Cfg) (ops : Array Oper) (p q : Nat) (sts : Nat → St) (outs : Nat → Option Out) : Prop where
 le : p ≤ q
 size : q ≤ ops.size
 step : ∀ i, p ≤ i → i < q → ∃ o, ops[i]? = some o ∧ StepAt c ops (sts i) (sts (i + 1)) o (outs i)

theorem z69 {c : Cfg} {ops : Array Oper} {K : St → Prop} : ∀ (n p : Nat) (st : St), ops.size - p = n → p ≤ ops.size → xOps c ops (ops.toList.drop p) st K →
 ∃ q sts outs, Trace c ops p q sts outs ∧ sts p = st ∧ xOps c ops (ops.toList.drop q) (sts q) K ∧ (q = ops.size ∨ ∃ o, ops[q]? = some o ∧ zdg c o.op = true) := by
 intro n
 induction n with
 | zero =>
   intro p st hn hp h
   exact ⟨p, fun _ => st, fun _ => none, ⟨Nat.le_refl _, hp, fun i h1 h2 => by omega⟩, rfl, h, .inl (by omega)⟩
 | succ n ih =>
   intro p st hn hp h
   have hlt : p < ops.size := by omega
   have ho : ops[p]? = some ops[p] := by simp [hlt]
   by_cases hb : zdg c ops[p].op = true
   ·exact ⟨p, fun _ => st, fun _ => none, ⟨Nat.le_refl _, hp, fun i h1 h2 => by omega⟩, rfl, h, .inr ⟨_, ho, hb⟩⟩
   ·have hd : ops.toList.drop p = ops[p] :: ops.toList.drop (p + 1) := by
     rw [List.drop_eq_getElem_cons (by simpa using hlt)]
     simp
    have h' := h
    rw [hd] at h'
    unfold xOps at h'
    have hbf : zdg c ops[p].op = false := by simpa using hb
    have glue : ∀ (s' : St) (out : Option Out), StepAt c ops st s' ops[p] out → xOps c ops (ops.toList.drop (p + 1)) s' K →
     ∃ q sts outs, Trace c ops p q sts outs ∧ sts p = st ∧ xOps c ops (ops.toList.drop q) (sts q) K ∧ (q = ops.size ∨ ∃ o, ops[q]? = some o ∧ zdg c o.op = true) := by
     intro s' out hstep hx
     obtain ⟨q, sts, outs, htr, hs, hrest, hend⟩ := ih (p + 1) s' (by omega) (by omega) hx
     refine ⟨q, fun i => if i = p then st else sts i, fun i => if i = p then out else outs i, ⟨by have := htr.le; omega, htr.size, ?_⟩, by simp, ?_, hend⟩
     ·intro i h1 h2
      by_cases hi : i = p
      ·subst hi
       refine ⟨_, ho, ?_⟩
       simp only [if_true]
       rw [if_neg (by omega), hs]
       exact hstep
      ·obtain ⟨o, ho', hst⟩ := htr.step i (by omega) h2
       refine ⟨o, ho', ?_⟩
       rw [if_neg hi, if_neg (by omega), if_neg hi]
       exact hst
     ·have := htr.le
      have hqp : q ≠ p := by omega
      simp only [hqp, if_false]
      exact hrest
    split at h'
    ·rename_i hw
     unfold xOp at h'
     rw [if_neg hb] at h'
     obtain ⟨out, hout, hdn, hx⟩ := h'
     rw [List.all_eq_true] at hdn
     exact glue _ (some out) ⟨hbf, hw, fun x hx => (by cases hx; exact ⟨hout, fun b hb => by simpa using hdn b hb, rfl⟩), fun h => (by cases h)⟩ hx
    ·rename_i hw
     exact glue _ none ⟨hbf, hw, fun x hx => (by cases hx), fun _ => rfl⟩ h'
    ·cases h'

section
variable {c : Cfg} {ops : Array Oper} {p q : Nat} {sts : Nat → St} {outs : Nat → Option Out}

def dval (outs : Nat → Option Out) (i : Nat) : D := match outs i with
 | some x => x.d
 | none => .tup []

noncomputable def frOf (ops : Array Oper) (outs : Nat → Option Out) (base : Nat → D) (S : Nat → Prop) (t : Nat) : D :=
 open Classical in if h : ∃ j, S j ∧ zo4 ops j = some t then dval outs (Classical.choose h) else base t

theorem zzg (hu : DrawOk c ops) {base : Nat → D} {S : Nat → Prop} {t j : Nat} (hj : S j) (hd : zo4 ops j = some t) : frOf ops outs base S t = dval outs j := by
 have h : ∃ j, S j ∧ zo4 ops j = some t := ⟨j, hj, hd⟩
 unfold frOf
 rw [dif_pos h]
 have h2 := (Classical.choose_spec h).2
 have : Classical.choose h = j := by
  have g : ∀ {k}, zo4 ops k = some t → ∃ o, ops[k]? = some o ∧ o.dst = some t := by
   intro k hk
   unfold zo4 at hk
   cases ho : ops[k]? with
   | none => simp [ho] at hk
   | some o => rw [ho] at hk; exact ⟨o, rfl, by simpa using hk⟩
  obtain ⟨o1, a1, b1⟩ := g h2
  obtain ⟨o2, a2, b2⟩ := g hd
  exact hu.uniq _ _ _ _ _ a1 a2 b1 b2
 rw [this]

theorem zoo {base : Nat → D} {S : Nat → Prop} {t : Nat} (h : ∀ j, S j → zo4 ops j ≠ some t) : frOf ops outs base S t = base t := by
 unfold frOf
 rw [dif_neg]
 rintro ⟨j, hj, hd⟩
 exact h j hj hd

theorem ziz (hu : DrawOk c ops) {base : Nat → D} {S S' : Nat → Prop} {t : Nat} (h : ∀ j, zo4 ops j = some t → (S j ↔ S' j)) : frOf ops outs base S t = frOf ops outs base S' t := by
 by_cases hx : ∃ j, S j ∧ zo4 ops j = some t
 ·obtain ⟨j, hj, hd⟩ := hx
  rw [zzg hu hj hd, zzg hu ((h j hd).1 hj) hd]
 ·rw [zoo (fun j hj hd => hx ⟨j, hj, hd⟩), zoo (fun j hj hd => hx ⟨j, (h j hd).2 hj, hd⟩)]

theorem Trace.fr (hu : DrawOk c ops) (ht : Trace c ops p q sts outs) : ∀ i, p ≤ i → i ≤ q → (sts i).fr = frOf ops outs (sts p).fr (fun j => p ≤ j ∧ j < i) := by
 intro i
 induction i with
 | zero =>
   intro h1 _
   have : p = 0 := by omega
   subst this
   funext t
   rw [zoo (fun j hj => by omega)]
 | succ i ih =>
   intro h1 h2
   by_cases hp : p = i + 1
   ·subst hp
    funext t
    rw [zoo (fun j hj => by omega)]
   ·obtain ⟨o, ho, hst⟩ := ht.step i (by omega) (by omega)
    have ih' := ih (by omega) (by omega)
    have hdst : zo4 ops i = o.dst := by simp [zo4, ho]
    have hput : (sts (i + 1)).fr = ((sts i).put o.dst (dval outs i)).fr := by
     unfold dval
     cases hx : outs i with
     | none => rw [hst.skip hx]
     | some x => rw [(hst.run x hx).2.2]; rfl
    funext t
    rw [hput]
    cases hd : o.dst with
    | none =>
      show (sts i).fr t = _
      rw [ih']
      refine ziz hu fun j hj => ⟨fun h => ⟨h.1, by omega⟩, fun h => ⟨h.1, ?_⟩⟩
      rcases Nat.lt_or_ge j i with h' | h'
      ·exact h'
      ·have : j = i := by omega
       subst this
       rw [hdst, hd] at hj
       cases hj
    | some s =>
      by_cases hts : t = s
      ·subst hts
       rw [zzg hu (j := i) ⟨by omega, by omega⟩ (by rw [hdst, hd])]
       simp [St.put, upd]
      ·have : ((sts i).put (some s) (dval outs i)).fr t = (sts i).fr t := by simp [St.put, upd, hts]
       rw [this, ih']
       refine ziz hu fun j hj => ⟨fun h => ⟨h.1, by omega⟩, fun h => ⟨h.1, ?_⟩⟩
       rcases Nat.lt_or_ge j i with h' | h'
       ·exact h'
       ·have : j = i := by omega
        subst this
        rw [hdst, hd] at hj
        cases hj
        exact absurd rfl hts

theorem Trace.ext (ht : Trace c ops p q sts outs) : ∀ (n i : Nat), i + n ≤ q → p ≤ i → (sts i).bs.length ≤ (sts (i + n)).bs.length ∧ Ext (sts i).bs (sts (i + n)).bs ∧
 (∀ (b : Nat) (k k' : Blk), (sts i).bs[b]? = some k → (sts (i + n)).bs[b]? = some k' → (k.kind ≠ .box ∧ k.kind ≠ .mut) → k'.kind ≠ .box ∧ k'.kind ≠ .mut) := by
 intro n
 induction n with
 | zero => intro i _ _; exact ⟨Nat.le_refl _, .refl _, fun b k k' h1 h2 h => by rw [Nat.add_zero] at h2; rw [h1] at h2; cases h2; exact h⟩
 | succ n ih =>
   intro i h1 h2
   obtain ⟨l1, e1, k1⟩ := ih i (by omega) h2
   obtain ⟨o, ho, hst⟩ := ht.step (i + n) (by omega) (by omega)
   have one : (sts (i + n)).bs.length ≤ (sts (i + n + 1)).bs.length ∧ Ext (sts (i + n)).bs (sts (i + n + 1)).bs ∧ (∀ (b : Nat) (k k' : Blk), (sts (i + n)).bs[b]? = some k → (sts (i + n + 1)).bs[b]? = some k' → (k.kind ≠ .box ∧ k.kind ≠ .mut) → k'.kind ≠ .box ∧ k'.kind ≠ .mut) := by
    cases hx : outs (i + n) with
    | none =>
      have : (sts (i + n + 1)).bs = (sts (i + n)).bs := by rw [hst.skip hx]; cases o.dst <;> rfl
      rw [this]
      exact ⟨Nat.le_refl _, .refl _, fun b k k' h1 h2 h => by rw [h1] at h2; cases h2; exact h⟩
    | some x =>
      have : (sts (i + n + 1)).bs = zar x.down (sts (i + n)).bs ++ x.news := by rw [(hst.run x hx).2.2]; rfl
      rw [this]
      have hlen : (zar x.down (sts (i + n)).bs).length = (sts (i + n)).bs.length := by simp [zar]
      refine ⟨by simp [hlen], ?_, ?_⟩
      ·intro b k hk
       obtain ⟨k', h1, h2⟩ := zow x.down _ b k hk
       exact ⟨k', by rw [List.getElem?_append_left (by rw [hlen]; exact (List.getElem?_eq_some_iff.1 hk).1)]; exact h1, h2⟩
      ·intro b k k' h1 h2 h
       rw [List.getElem?_append_left (by rw [hlen]; exact (List.getElem?_eq_some_iff.1 h1).1), zea, h1] at h2
       simp only [Option.map_some, Option.some.injEq] at h2
       subst h2
       split
       ·exact Kind.down_box _
       ·exact h
   obtain ⟨l2, e2, k2⟩ := one
   refine ⟨Nat.le_trans l1 l2, e1.trans e2, ?_⟩
   intro b k k' h3 h4 h
   obtain ⟨km, hm, _⟩ := e1 b k h3
   exact k2 b km k' hm h4 (k1 b k km h3 hm h)

theorem Trace.new (ht : Trace c ops p q sts outs) {i : Nat} (h1 : p ≤ i) (h2 : i < q) {x : Out} (hx : outs i = some x) :
 (∀ (k : Nat) (b : Blk), x.news[k]? = some b → ∃ b', (sts q).bs[(sts i).bs.length + k]? = some b' ∧ b.like b') ∧ (sts i).bs.length + x.news.length ≤ (sts (i + 1)).bs.length ∧
 (∀ b ∈ x.down, ∀ k : Blk, (sts q).bs[b]? = some k → k.kind ≠ .box ∧ k.kind ≠ .mut) ∧ Ext (sts i).bs (sts q).bs := by
 obtain ⟨o, ho, hst⟩ := ht.step i h1 h2
 have hbs : (sts (i + 1)).bs = zar x.down (sts i).bs ++ x.news := by rw [(hst.run x hx).2.2]; rfl
 have hlen : (zar x.down (sts i).bs).length = (sts i).bs.length := by simp [zar]
 obtain ⟨l, e, kk⟩ := ht.ext (q - (i + 1)) (i + 1) (by omega) (by omega)
 rw [show i + 1 + (q - (i + 1)) = q by omega] at l e kk
 obtain ⟨_, e0, _⟩ := ht.ext (q - i) i (by omega) h1
 rw [show i + (q - i) = q by omega] at e0
 refine ⟨?_, by rw [hbs]; simp [hlen], ?_, e0⟩
 ·intro k b hb
  have : (sts (i + 1)).bs[(sts i).bs.length + k]? = some b := by
   rw [hbs, List.getElem?_append_right (by omega), hlen, show (sts i).bs.length + k - (sts i).bs.length = k by omega]
   exact hb
  obtain ⟨b', h3, h4⟩ := e _ _ this
  exact ⟨b', h3, h4⟩
 ·intro b hb k hk
  have hlt := (hst.run x hx).2.1 b hb
  have h3 : (sts (i + 1)).bs[b]? = some { (sts i).bs[b] with kind := ((sts i).bs[b]).kind.down } := by
   rw [hbs, List.getElem?_append_left (by omega), zea]
   have hc : x.down.contains b = true := by simpa using hb
   simp [hlt, hc]
   intro h
   exact absurd hb h
  exact kk b _ k h3 hk (Kind.down_box _)
end
end Go.AM
/- AM: a region that draws its order: whatever the order, it comes to what the text's order comes to. -/
namespace Go.AM
open Go.RowKit (Below)

section
variable {P : Program} {c : Cfg} {M0 : Foot} {w0 : World} {ρ0 : Nat → Loc} {bs0 : List Blk} {ops : Array Oper}

theorem Store.ext {ρ : Nat → Loc} {bs bs' : List Blk} {w : World} (hS : Store M0 ρ bs w) (hE : Ext bs bs') (hl : bs.length ≤ bs'.length) : Store M0 ρ bs' w ∧ ∀ g o, Mof M0 ρ bs' g o → Mof M0 ρ bs g o := by
 have back : ∀ i b', bs'[i]? = some b' → ρ i ≠ .absent → ∃ b : Blk, bs[i]? = some b ∧ b.like b' := by
  intro i b' hi hne
  have hlt : i < bs.length := by
   rcases Nat.lt_or_ge i bs.length with h | h
   ·exact h
   ·exact absurd (hS.out i h) hne
  have hb : bs[i]? = some bs[i] := by simp [hlt]
  obtain ⟨k', h1, h2⟩ := hE i _ hb
  rw [hi] at h1
  cases h1
  exact ⟨_, hb, h2⟩
 have hM : ∀ g o, Mof M0 ρ bs' g o → Mof M0 ρ bs g o := by
  rintro g o (h | ⟨i, b', base, n, rl, esz, hi, hat, hk⟩)
  ·exact .inl h
  ·obtain ⟨b, hb, hl⟩ := back i b' hi (by simp [hat])
   refine .inr ⟨i, b, base, n, rl, esz, hb, hat, ?_⟩
   rcases hk with hk | hk | hk
   ·rcases hl.down with e | e
    ·exact .inl (e ▸ hk)
    ·exact absurd (e ▸ hk) (Kind.down_box _).1
   ·rcases hl.down with e | e
    ·exact .inr (.inl (e ▸ hk))
    ·exact absurd (e ▸ hk) (Kind.down_box _).2
   ·exact .inr (.inr hk)
 refine ⟨⟨?_, ?_, ?_, hS.inj, hS.m0⟩, hM⟩
 ·intro i b' g base n rl esz hi hat
  obtain ⟨b, hb, hl⟩ := back i b' hi (by simp [hat])
  exact (hS.at_ i b g base n rl esz hb hat).like hl (Pres.sub hM)
 ·intro i b' hi hv
  obtain ⟨b, hb, hl⟩ := back i b' hi (by simp [hv])
  obtain ⟨e1, e2⟩ := hS.virt i b hb hv
  exact ⟨hl.rows.trans e1, hl.box.trans e2⟩
 ·intro i hi
  exact hS.out i (by omega)

theorem Sim.ext {n0 : Nat} {ρ : Nat → Loc} {fr : Nat → D} {bs bs' : List Blk} {a : Act} {w : World} (hs : Sim n0 M0 w0 ρ0 bs0 ρ ⟨fr, bs⟩ a w) (hE : Ext bs bs') (hl : bs.length ≤ bs'.length) : Sim n0 M0 w0 ρ0 bs0 ρ ⟨fr, bs'⟩ a w := by
 obtain ⟨h1, hM⟩ := hs.store.ext hE hl
 exact ⟨fun t => (hs.fr t).move (Pres.sub hM) fun _ _ => rfl, h1, hs.n0, Nat.le_trans hs.len hl, hs.lent, hs.pres.trans (Pres.sub hM), hs.around, hs.defers, hs.m0⟩

def unl (L : Array Bool) : Nat := L.toList.countP (fun b => !b)

theorem zu0 {L : Array Bool} {i : Nat} (hi : i < L.size) (hf : L.getD i true = false) : unl (L.setIfInBounds i true) + 1 = unl L := by
 have hlt : i < L.toList.length := by simpa using hi
 have hv : L.toList[i] = false := by
  rw [Array.getD_eq_getD_getElem?] at hf
  simp [hi] at hf
  simpa using hf
 have hpos : 0 < L.toList.countP (fun b => !b) := by
  rw [List.countP_pos_iff]
  exact ⟨L.toList[i], List.getElem_mem hlt, by rw [hv]; rfl⟩
 unfold unl
 rw [Array.toList_setIfInBounds, List.countP_set hlt]
 simp only [hv, Bool.not_false, if_true, Bool.not_true, Bool.false_eq_true, if_false]
 omega

theorem zf0 (L : Array Bool) (i j : Nat) (hi : i < L.size) (d : Bool) : (L.setIfInBounds i true).getD j d = if j = i then true else L.getD j d := by
 rw [Array.getD_eq_getD_getElem?, Array.getD_eq_getD_getElem?, Array.getElem?_setIfInBounds]
 by_cases h : i = j
 ·subst h; simp [hi]
 ·simp [h, Ne.symm h]

theorem z2q (hu : DrawOk c ops) {p q : Nat} {sts : Nat → St} {outs : Nat → Option Out} {L : Array Bool} (htr : Trace c ops p q sts outs) {i : Nat} (hi : i ∈ Region.ready .any ops L)
 (hun : ∀ {i : Nat}, i ∈ Region.ready .any ops L → i < ops.size ∧ L.getD i false = false) (hreach : ∀ {i j : Nat}, i ∈ Region.ready .any ops L → Reach ops i j → L.getD j false = true) (hcl : Closed ops L)
 (hpi : p ≤ i) (hiq : i < q) {o : Oper} (ho : ops[i]? = some o) :
 ∀ t, t ∈ o.looksAt ops → frOf ops outs (sts p).fr (fun j => p ≤ j ∧ j < q ∧ L.getD j false = true) t = (sts i).fr t := by
 obtain ⟨hilt, hif⟩ := hun hi
 intro t ht
 rw [htr.fr hu i hpi (by omega)]
 refine ziz hu fun j hj => ?_
 have gj : ∃ oj, ops[j]? = some oj ∧ oj.dst = some t := by
  unfold zo4 at hj
  cases hoj : ops[j]? with
  | none => simp [hoj] at hj
  | some oj => rw [hoj] at hj; exact ⟨oj, rfl, by simpa using hj⟩
 obtain ⟨oj, hoj, hdj⟩ := gj
 by_cases hji : j = i
 ·subst hji
  exact ⟨fun h => (by rw [hif] at h; exact absurd h.2.2 (by simp)), fun h => by omega⟩
 ·have hr := hu.look j i oj o t hoj ho hji hdj ht
  rcases Nat.lt_or_ge j i with hlt | hge
  ·rw [Nat.max_eq_right (by omega), Nat.min_eq_left (by omega)] at hr
   have hl := hreach hi hr
   exact ⟨fun h => ⟨h.1, hlt⟩, fun h => ⟨h.1, by omega, hl⟩⟩
  ·rw [Nat.max_eq_left (by omega), Nat.min_eq_right (by omega)] at hr
   refine ⟨fun h => ?_, fun h => by omega⟩
   have := hcl.reach hr h.2.2
   rw [hif] at this
   cases this

theorem z6m (hu : DrawOk c ops) {p q : Nat} {outs : Nat → Option Out} {L : Array Bool} {fr : Nat → D} {bs : List Blk} {i : Nat} (hpi : p ≤ i) (hiq : i < q) (hLlen : i < L.size) {o : Oper} (hdsti : zo4 ops i = o.dst)
 {d : D} (hdv : dval outs i = d) : (St.put ⟨frOf ops outs fr (fun j => p ≤ j ∧ j < q ∧ L.getD j false = true), bs⟩ o.dst d) =
   ⟨frOf ops outs fr (fun j => p ≤ j ∧ j < q ∧ (L.setIfInBounds i true).getD j false = true), bs⟩ := by
 have same : ∀ t, o.dst ≠ some t → frOf ops outs fr (fun j => p ≤ j ∧ j < q ∧ L.getD j false = true) t = frOf ops outs fr (fun j => p ≤ j ∧ j < q ∧ (L.setIfInBounds i true).getD j false = true) t := by
  intro t hne
  refine ziz hu fun j hj => ?_
  have hji : j ≠ i := by rintro rfl; rw [hdsti] at hj; exact hne hj
  rw [zf0 L i j hLlen, if_neg hji]
 cases hd : o.dst with
 | none =>
   simp only [St.put]
   congr 1
   funext t
   exact same t (by rw [hd]; simp)
 | some s =>
   simp only [St.put]
   congr 1
   funext t
   unfold upd
   by_cases hts : t = s
   ·subst hts
    rw [if_pos rfl, zzg hu (j := i) ⟨hpi, hiq, by rw [zf0 L i i hLlen, if_pos rfl]⟩ (by rw [hdsti, hd]), hdv]
   ·rw [if_neg hts]
    exact same t (by rw [hd]; simpa using Ne.symm hts)

theorem qew (hC : Sound P c ρ0) (hT : TabOk P c.T c.eqs) (hu : DrawOk c ops) {Q : Exit → Act → World → Prop} {m : Nat} {K : St → Prop}
 (hQ : ∀ a w, KSim c.n0 M0 w0 ρ0 bs0 m K a w → Q .normal a w) (hdst : ∀ (i : Nat) (o : Oper) (t : Nat), ops[i]? = some o → o.dst = some t → t < m) (hpan : ∀ ch a w, ¬ Q (.panic ch) a w) :
 ∀ (fuel : Nat) (p q : Nat) (sts : Nat → St) (outs : Nat → Option Out) (L : Array Bool) (ρ : Nat → Loc) (a : Act) (w : World), unl L ≤ fuel → L.size = ops.size → Trace c ops p q sts outs →
   (∀ j, j < p → L.getD j false = true) → (∀ j, q ≤ j → L.getD j false = false) → Closed ops L →
   xOps c ops (ops.toList.drop q) (sts q) K → (q = ops.size ∨ ∃ o, ops[q]? = some o ∧ zdg c o.op = true) → a.tmps.size = m →
   Sim c.n0 M0 w0 ρ0 bs0 ρ ⟨frOf ops outs (sts p).fr (fun j => p ≤ j ∧ j < q ∧ L.getD j false = true), (sts q).bs⟩ a w →
   (∀ i, p ≤ i → i < q → L.getD i false = false → ∀ x, outs i = some x → ∀ k, k < x.news.length → ρ ((sts i).bs.length + k) = .absent) →
   c.n0 ≤ (sts p).bs.length →
   wpAny P .any ops Q fuel L a w := by
 intro fuel
 induction fuel with
 | zero =>
   intro p q sts outs L ρ a w hunl hsz htr hlo hhi hcl hrest hend hm hsim _ _
   have hall : ∀ j, j < ops.size → L.getD j false = true := by
    intro j hj
    have h0 : unl L = 0 := by omega
    unfold unl at h0
    rw [List.countP_eq_zero] at h0
    have hlt : j < L.size := by omega
    have := h0 (L.toList[j]'(by simpa using hlt)) (List.getElem_mem _)
    rw [Array.getD_eq_getD_getElem?]
    simp [hlt] at this ⊢
    exact this
   have hq : q = ops.size := by
    have := htr.size
    rcases Nat.lt_or_ge q ops.size with h | h
    ·have h1 := hall q h
     rw [hhi q (Nat.le_refl _)] at h1
     cases h1
    ·omega
   have hready : Region.ready .any ops L = [] := by
    rw [List.eq_nil_iff_forall_not_mem]
    intro j hj
    obtain ⟨h1, o, ho, _⟩ := mem_ready.1 hj
    have hlt : j < ops.size := (Array.getElem?_eq_some_iff.1 ho).1
    have := hall j hlt
    rw [Array.getD_eq_getD_getElem?] at this h1
    have hlt' : j < L.size := by omega
    simp [hlt'] at this h1
    rw [this] at h1
    cases h1
   refine ⟨hready, hQ a w ⟨ρ, sts q, ?_, ?_, hm⟩⟩
   ·rw [hq] at hrest
    rw [List.drop_of_length_le (by simp)] at hrest
    rw [hq]
    exact hrest
   ·have : frOf ops outs (sts p).fr (fun j => p ≤ j ∧ j < q ∧ L.getD j false = true) = (sts q).fr := by
     rw [htr.fr hu q htr.le (Nat.le_refl _)]
     funext t
     exact ziz hu fun j hj => ⟨fun h => ⟨h.1, h.2.1⟩, fun h => ⟨h.1, h.2, hall j (by have := htr.size; omega)⟩⟩
    rw [this] at hsim
    exact hsim
 | succ fuel ih =>
   intro p q sts outs L ρ a w hunl hsz htr hlo hhi hcl hrest hend hm hsim habs hn0p
   have hqs := htr.size
   have getD_eq : ∀ j, j < ops.size → L.getD j true = L.getD j false := by
    intro j hj
    have hlt : j < L.size := by omega
    rw [Array.getD_eq_getD_getElem?, Array.getD_eq_getD_getElem?]
    simp [hlt]
   have hreach : ∀ {i j : Nat}, i ∈ Region.ready .any ops L → Reach ops i j → L.getD j false = true := by
    intro i j hi hr
    obtain ⟨_, o, ho, hall⟩ := mem_ready.1 hi
    cases hr with
    | one ho' he hb => rw [ho] at ho'; cases ho'; exact hall _ he hb
    | more ho' he hb h => rw [ho] at ho'; cases ho'; exact hcl.reach h (hall _ he hb)
   have hun : ∀ {i : Nat}, i ∈ Region.ready .any ops L → i < ops.size ∧ L.getD i false = false := by
    intro i hi
    obtain ⟨h1, o, ho, _⟩ := mem_ready.1 hi
    have hlt := (Array.getElem?_eq_some_iff.1 ho).1
    rw [getD_eq i hlt] at h1
    exact ⟨hlt, h1⟩
   have hfirst : ∀ i, i < ops.size → L.getD i false = false → (∀ j, j < i → L.getD j false = true) → i ∈ Region.ready .any ops L := by
    intro i hi hf hb
    refine mem_ready.2 ⟨by rw [getD_eq i hi]; exact hf, ops[i], by simp [hi], fun e he hbi => hb _ (hu.fwd i ops[i] e (by simp [hi]) he hbi)⟩
   have hclosed : ∀ {i : Nat}, i ∈ Region.ready .any ops L → Closed ops (L.setIfInBounds i true) := by
    intro i hi
    obtain ⟨_, o, ho, hall⟩ := mem_ready.1 hi
    have hlt := (hun hi).1
    intro x y e hx hy he hb
    rw [zf0 L i _ (by omega)] at hx ⊢
    split
    ·rfl
    ·split at hx
     ·rename_i hxi
      subst hxi
      rw [ho] at hy
      cases hy
      exact hall e he hb
     ·exact hcl x y e hx hy he hb
   by_cases hall : ∀ j, p ≤ j → j < q → L.getD j false = true
   ·-- the stretch is over
    have hlow : ∀ j, j < q → L.getD j false = true := fun j hj => by
     rcases Nat.lt_or_ge j p with h | h
     ·exact hlo j h
     ·exact hall j h hj
    have hsimq : Sim c.n0 M0 w0 ρ0 bs0 ρ (sts q) a w := by
     have : frOf ops outs (sts p).fr (fun j => p ≤ j ∧ j < q ∧ L.getD j false = true) = (sts q).fr := by
      rw [htr.fr hu q htr.le (Nat.le_refl _)]
      funext t
      exact ziz hu fun j hj => ⟨fun h => ⟨h.1, h.2.1⟩, fun h => ⟨h.1, h.2, hall j h.1 h.2⟩⟩
     rw [this] at hsim
     exact hsim
    rcases hend with hq | ⟨o, ho, hbar⟩
    ·-- so is the region
     have hready : Region.ready .any ops L = [] := by
      rw [List.eq_nil_iff_forall_not_mem]
      intro j hj
      obtain ⟨h1, h2⟩ := hun hj
      rw [hlow j (by omega)] at h2
      cases h2
     refine ⟨fun _ => hQ a w ⟨ρ, sts q, ?_, hsimq, hm⟩, fun i hi => by rw [hready] at hi; cases hi⟩
     rw [hq] at hrest
     rw [List.drop_of_length_le (by simp)] at hrest
     rw [hq]
     exact hrest
    ·-- a zdg comes
     have hqlt : q < ops.size := (Array.getElem?_eq_some_iff.1 ho).1
     have hqr := hfirst q hqlt (hhi q (Nat.le_refl _)) hlow
     refine ⟨fun h => absurd (h ▸ hqr) (by simp), fun i hi => ?_⟩
     have hiq : i = q := by
      apply Classical.byContradiction
      intro hne
      obtain ⟨h1, h2⟩ := hun hi
      have hgt : q < i := by
       rcases Nat.lt_or_ge i q with h | h
       ·rw [hlow i h] at h2; cases h2
       ·omega
      have hr := (hu.bar q i o ops[i] ho (by simp [h1]) (by omega) hbar).resolve_right (by omega)
      rw [Nat.max_eq_right (by omega), Nat.min_eq_left (by omega)] at hr
      have := hreach hi hr
      rw [hhi q (Nat.le_refl _)] at this
      cases this
     subst hiq
     have hdr : ops.toList.drop i = o :: ops.toList.drop (i + 1) := by
      rw [List.drop_eq_getElem_cons (by simpa using hqlt)]
      have : ops[i] = o := by have := ho; simp [hqlt] at this; exact this
      simp [this]
     rw [hdr] at hrest
     unfold xOps at hrest
     have hd0 : ∀ t, o.dst = some t → t < a.tmps.size := fun t ht => by rw [hm]; exact hdst i o t ho ht
     have next : ∀ (ρ' : Nat → Loc) (st' : St) (a' : Act) (w' : World), xOps c ops (ops.toList.drop (i + 1)) st' K → Sim c.n0 M0 w0 ρ0 bs0 ρ' st' a' w' → a'.tmps.size = m →
      wpAny P .any ops Q fuel (L.setIfInBounds i true) a' w' := by
      intro ρ' st' a' w' hx hs' hm'
      obtain ⟨q', sts', outs', htr', hst', hrest', hend'⟩ := z69 (ops.size - (i + 1)) (i + 1) st' rfl (by omega) hx
      obtain ⟨l, e, _⟩ := htr'.ext (q' - (i + 1)) (i + 1) (by have := htr'.le; omega) (Nat.le_refl _)
      rw [show i + 1 + (q' - (i + 1)) = q' by have := htr'.le; omega] at l e
      have hLlen : i < L.size := by omega
      refine ih (i + 1) q' sts' outs' _ ρ' a' w' (by have := zu0 hLlen (by rw [getD_eq i hqlt]; exact (hun hi).2); omega) (by simpa using hsz) htr' ?_ ?_ (hclosed hi) hrest' hend' hm' ?_ ?_ ?_
      ·intro j hj
       rw [zf0 L i j hLlen]
       split
       ·rfl
       ·exact hlow j (by omega)
      ·intro j hj
       rw [zf0 L i j hLlen, if_neg (by have := htr'.le; omega)]
       exact hhi j (by have := htr'.le; omega)
      ·have hf : frOf ops outs' (sts' (i + 1)).fr (fun j => i + 1 ≤ j ∧ j < q' ∧ (L.setIfInBounds i true).getD j false = true) = st'.fr := by
        funext t
        rw [zoo (fun j hj => ?_), hst']
        have h1 := hj.2.2
        rw [zf0 L i j hLlen, if_neg (by omega), hhi j (by omega)] at h1
        cases h1
       rw [hf]
       have hs'' : Sim c.n0 M0 w0 ρ0 bs0 ρ' ⟨st'.fr, st'.bs⟩ a' w' := hs'
       rw [hst'] at l e
       exact hs''.ext e l
      ·intro j h1 h2 _ x hx k hk
       obtain ⟨l2, _, _⟩ := htr'.ext (j - (i + 1)) (i + 1) (by omega) (Nat.le_refl _)
       rw [show i + 1 + (j - (i + 1)) = j by omega, hst'] at l2
       exact hs'.store.out _ (by omega)
      ·rw [hst']
       exact Nat.le_trans (Nat.le_of_eq hs'.n0) hs'.len
     unfold wpOp
     rw [ho]
     simp only
     split at hrest
     ·rename_i hw
      rw [if_pos (zkx hsimq hw)]
      left
      refine Oper.wp_mono ?_ (z6w hC hT hsimq hd0 hrest)
      rintro a' w' ⟨ρ', st', hK, hs', hm'⟩
      exact next ρ' st' a' w' hK hs' (hm'.trans hm)
     ·rename_i hw
      rw [if_neg (by rw [zkx hsimq hw]; simp)]
      exact next ρ _ _ w hrest (hsimq.skip hd0) (by rw [zfd]; exact hm)
     ·cases hrest
   ·-- inside the stretch
    by_cases hfl : ∃ i o, p ≤ i ∧ i < q ∧ i ∈ Region.ready .any ops L ∧ ops[i]? = some o ∧ zjq o = true
    ·-- what floats comes first
     obtain ⟨i, o, hpi, hiq, hi, ho, hfo⟩ := hfl
     obtain ⟨hilt, hif⟩ := hun hi
     obtain ⟨o', ho', hst⟩ := htr.step i hpi hiq
     rw [ho] at ho'
     cases ho'
     have hdsti : zo4 ops i = o.dst := by simp [zo4, ho]
     have hlook := z2q hu htr hi hun hreach hcl hpi hiq ho
     have hLlen : i < L.size := by omega
     have hguard : o.guard = none := by
      unfold zjq at hfo
      rw [Bool.and_eq_true] at hfo
      simpa using hfo.1
     have hd0 : ∀ t, o.dst = some t → t < a.tmps.size := fun t ht => by rw [hm]; exact hdst i o t ho ht
     obtain ⟨x, hx⟩ : ∃ x, outs i = some x := by
      have := hst.want
      simp only [wantD, hguard, Option.some.injEq] at this
      cases hx : outs i with
      | none => rw [hx] at this; cases this
      | some x => exact ⟨x, rfl⟩
     obtain ⟨hout, _, _⟩ := hst.run x hx
     have hev : ∀ t, .tmp t ∈ o.op.operands → St.ev ⟨frOf ops outs (sts p).fr (fun j => p ≤ j ∧ j < q ∧ L.getD j false = true), (sts q).bs⟩ (.tmp t) = (sts i).ev (.tmp t) := by
      intro t ht
      refine hlook t ?_
      unfold Oper.looksAt
      rw [List.mem_append]
      left
      rw [List.mem_filterMap]
      exact ⟨.tmp t, by simpa using ht, rfl⟩
     have hop : ∀ y ∈ o.op.operands, Rep w (Mof M0 ρ (sts q).bs) ρ (a.eval y) ((sts i).ev y) := by
      intro y hy
      have h1 := hsim.ev y
      cases y with
      | tmp t => rw [hev t hy] at h1; exact h1
      | const v => exact h1
      | global g => exact h1
      | func f => exact h1
     obtain ⟨v, hv1, hv2⟩ : ∃ v, (∀ w', (execOp a.eval o).run P w' = .ok (.value v) w') ∧ Rep w (Mof M0 ρ (sts q).bs) ρ v x.d := by
      obtain ⟨dst, op, ty, pos, after, guard⟩ := o
      unfold zjq at hfo
      rw [Bool.and_eq_true] at hfo
      have hfo := hfo.2
      cases op with
      | move y =>
        simp only [zhf, opFn, Option.some.injEq] at hout
        subst hout
        exact ⟨a.eval y, fun w' => by simp [execOp], hop y (by simp [Op.operands])⟩
      | extract y n =>
        have hr := hop y (by simp [Op.operands])
        simp only [zhf, opFn] at hout
        split at hout
        ·rename_i vs hvs
         rw [hvs] at hr
         obtain ⟨us, hus, hsz', hrep⟩ := hr.tup_inv
         cases hn : vs[n]? with
         | none => rw [hn] at hout; cases hout
         | some d =>
           rw [hn] at hout
           simp only [Option.map_some, Option.some.injEq] at hout
           subst hout
           have hlt : n < us.size := by rw [hsz']; exact (List.getElem?_eq_some_iff.1 hn).1
           have hu1 : us[n]? = some us[n] := by simp [hlt]
           exact ⟨us[n], fun w' => by simp [execOp, hus, Instr.extract, hlt], hrep n us[n] d hu1 hn⟩
        ·cases hout
      | _ => cases hfo
     have hfree : ∀ j oj, ops[j]? = some oj → j ≠ i → L.getD j true = false → (∀ e ∈ oj.after, Region.binds .any e = true → e.on ≠ i) → o.apart ops oj = true := by
      intro j oj hoj hne hun' hno
      rcases hu.free i j o oj ho hoj hne hfo with h | h | h
      ·exfalso
       unfold edge at h
       rw [Array.any_eq_true'] at h
       obtain ⟨e, he, hbe⟩ := h
       simp only [Bool.and_eq_true, beq_iff_eq] at hbe
       obtain ⟨_, o2, ho2, hall2⟩ := mem_ready.1 hi
       rw [ho] at ho2
       cases ho2
       have h1 := hall2 e he hbe.1
       rw [hbe.2, ← getD_eq j (Array.getElem?_eq_some_iff.1 hoj).1, hun'] at h1
       cases h1
      ·exfalso
       unfold edge at h
       rw [Array.any_eq_true'] at h
       obtain ⟨e, he, hbe⟩ := h
       simp only [Bool.and_eq_true, beq_iff_eq] at hbe
       exact hno e he hbe.1 hbe.2
      ·exact h
     refine wpAny_first ho (fun j o cs b => Region.noSelect_spec hu.sel j o cs b) (fun ch a w h => absurd h (hpan ch _ _)) fuel L a w hfree hi
      (.inl ⟨by simp [Region.wanted, hguard], hv1⟩) ?_
     have ht : Turn M0 c.n0 w ρ (sts q).bs w ρ (sts q).bs (fun _ => false) := ⟨hsim.store, Pres.refl _ _, fun _ _ _ => rfl, Nat.le_refl _, rfl, rfl, rfl, fun _ _ _ => rfl, fun i g base n rl esz h => .inl ⟨_, _, _, _, h⟩, fun _ _ => rfl, Nat.le_refl _⟩
     have hs2 := hsim.turn ht hd0 hv2
     rw [zfg, z6m hu hpi hiq hLlen hdsti (by simp [dval, hx])] at hs2
     refine ih p q sts outs _ ρ _ w (by have := zu0 hLlen (by rw [getD_eq i hilt]; exact hif); omega) (by simpa using hsz) htr ?_ ?_ (hclosed hi) hrest hend (by rw [zfd]; exact hm) hs2 ?_ hn0p
     ·intro j hj
      rw [zf0 L i j hLlen]
      split
      ·rfl
      ·exact hlo j hj
     ·intro j hj
      rw [zf0 L i j hLlen, if_neg (by omega)]
      exact hhi j hj
     ·intro j h1 h2 h3 y hy k hk
      rw [zf0 L i j hLlen] at h3
      split at h3
      ·cases h3
      ·exact habs j h1 h2 h3 y hy k hk
    have hex : ∃ j, p ≤ j ∧ j < q ∧ L.getD j false = false := by
     apply Classical.byContradiction
     intro h
     refine hall fun j h1 h2 => ?_
     cases hx : L.getD j false with
     | true => rfl
     | false => exact absurd ⟨j, h1, h2, hx⟩ h
    have hne : Region.ready .any ops L ≠ [] := by
     obtain ⟨j, h1, h2, h3⟩ := hex
     have key : ∀ n j, j ≤ n → j < ops.size → L.getD j false = false → ∃ i, i < ops.size ∧ L.getD i false = false ∧ ∀ k, k < i → L.getD k false = true := by
      intro n
      induction n with
      | zero => intro j hj hlt hf; exact ⟨j, hlt, hf, fun k hk => by omega⟩
      | succ n ihn =>
        intro j hj hlt hf
        by_cases hx : ∃ k, k < j ∧ L.getD k false = false
        ·obtain ⟨k, hk, hkf⟩ := hx
         exact ihn k (by omega) (by omega) hkf
        ·refine ⟨j, hlt, hf, fun k hk => ?_⟩
         cases hy : L.getD k false with
         | true => rfl
         | false => exact absurd ⟨k, hk, hy⟩ hx
     obtain ⟨i, hi1, hi2, hi3⟩ := key j j (Nat.le_refl _) (by omega) h3
     have := hfirst i hi1 hi2 hi3
     intro h0
     rw [h0] at this
     cases this
    refine ⟨fun h => absurd h hne, fun i hi => ?_⟩
    obtain ⟨hilt, hif⟩ := hun hi
    have hpi : p ≤ i := by
     rcases Nat.lt_or_ge i p with h | h
     ·rw [hlo i h] at hif; cases hif
     ·exact h
    have hiq : i < q := by
     apply Classical.byContradiction
     intro hge
     rcases hend with hq | ⟨o, ho, hbar⟩
     ·omega
     ·obtain ⟨j, h1, h2, h3⟩ := hex
      have hqlt : q < ops.size := (Array.getElem?_eq_some_iff.1 ho).1
      by_cases hiq : i = q
      ·subst hiq
       rcases hu.bar i j o ops[j] ho (by simp) (by omega) hbar with hr | ⟨_, hfj, hrj⟩
       ·rw [Nat.max_eq_left (by omega), Nat.min_eq_right (by omega)] at hr
        have := hreach hi hr
        rw [h3] at this
        cases this
       ·refine hfl ⟨j, ops[j], h1, h2, ?_, by simp, hfj⟩
        refine mem_ready.2 ⟨by rw [getD_eq j (by omega)]; exact h3, ops[j], by simp, fun e he hbi => hreach hi (hrj e he hbi)⟩
      ·have hr := (hu.bar q i o ops[i] ho (by simp [hilt]) (by omega) hbar).resolve_right (by omega)
       rw [Nat.max_eq_right (by omega), Nat.min_eq_left (by omega)] at hr
       have := hreach hi hr
       rw [hhi q (Nat.le_refl _)] at this
       cases this
    obtain ⟨o, ho, hst⟩ := htr.step i hpi hiq
    have hdsti : zo4 ops i = o.dst := by simp [zo4, ho]
    have hlook := z2q hu htr hi hun hreach hcl hpi hiq ho
    have hwant : wantD ops ⟨frOf ops outs (sts p).fr (fun j => p ≤ j ∧ j < q ∧ L.getD j false = true), (sts q).bs⟩ o = wantD ops (sts i) o := by
     unfold wantD
     cases hg : o.guard with
     | none => rfl
     | some x =>
       obtain ⟨j, want⟩ := x
       simp only
       cases hb : (ops[j]?).bind (·.dst) with
       | none => rfl
       | some t =>
         simp only
         rw [hlook t (by simp [Oper.looksAt, hg, hb])]
    have hwanted := zkx hsim (hwant.trans hst.want)
    have hd0 : ∀ t, o.dst = some t → t < a.tmps.size := fun t ht => by rw [hm]; exact hdst i o t ho ht
    have hLlen : i < L.size := by omega
    have hfr' := fun (d : D) (hdv : dval outs i = d) => z6m (bs := (sts q).bs) (fr := (sts p).fr) hu hpi hiq hLlen hdsti hdv
    have next : ∀ (ρ' : Nat → Loc) (a' : Act) (w' : World), Sim c.n0 M0 w0 ρ0 bs0 ρ' ⟨frOf ops outs (sts p).fr (fun j => p ≤ j ∧ j < q ∧ (L.setIfInBounds i true).getD j false = true), (sts q).bs⟩ a' w' → a'.tmps.size = m →
     (∀ j, p ≤ j → j < q → j ≠ i → L.getD j false = false → ∀ x, outs j = some x → ∀ k, k < x.news.length → ρ' ((sts j).bs.length + k) = .absent) → wpAny P .any ops Q fuel (L.setIfInBounds i true) a' w' := by
     intro ρ' a' w' hs' hm' habs'
     refine ih p q sts outs _ ρ' a' w' (by have := zu0 hLlen (by rw [getD_eq i hilt]; exact hif); omega) (by simpa using hsz) htr ?_ ?_ (hclosed hi) hrest hend hm' hs' ?_ hn0p
     ·intro j hj
      rw [zf0 L i j hLlen]
      split
      ·rfl
      ·exact hlo j hj
     ·intro j hj
      rw [zf0 L i j hLlen, if_neg (by omega)]
      exact hhi j hj
     ·intro j h1 h2 h3 x hx k hk
      rw [zf0 L i j hLlen] at h3
      split at h3
      ·cases h3
      ·rename_i hne
       exact habs' j h1 h2 hne h3 x hx k hk
    unfold wpOp
    rw [ho]
    simp only
    cases hx : outs i with
    | none =>
      have hw0 : Region.wanted o (yielded ops a.tmps) = false := by rw [hwanted, hx]; rfl
      rw [if_neg (by rw [hw0]; simp)]
      have hs2 := hsim.skip hd0
      rw [hfr' (.tup []) (by simp [dval, hx])] at hs2
      exact next ρ _ w hs2 (by rw [zfd]; exact hm) fun j h1 h2 _ h3 => habs j h1 h2 h3
    | some x =>
      have hw1 : Region.wanted o (yielded ops a.tmps) = true := by rw [hwanted, hx]; rfl
      rw [if_pos hw1]
      left
      obtain ⟨hout, hdn, _⟩ := hst.run x hx
      obtain ⟨hnew, hnl, hdown, hE⟩ := htr.new hpi hiq hx
      have hops : ∀ y ∈ o.op.operands, Rep w (Mof M0 ρ (sts q).bs) ρ (a.eval y) ((sts i).ev y) := by
       intro y hy
       have h1 := hsim.ev y
       cases y with
       | tmp t =>
         have : St.ev ⟨frOf ops outs (sts p).fr (fun j => p ≤ j ∧ j < q ∧ L.getD j false = true), (sts q).bs⟩ (.tmp t) = (sts i).ev (.tmp t) := by
          show frOf _ _ _ _ t = (sts i).fr t
          refine hlook t ?_
          unfold Oper.looksAt
          rw [List.mem_append]
          left
          rw [List.mem_filterMap]
          exact ⟨.tmp t, by simpa using hy, rfl⟩
         rw [this] at h1
         exact h1
       | const v => exact h1
       | global g => exact h1
       | func f => exact h1
      refine z0t (bs := (sts q).bs) hC.den hT hsim.store hsim.m0lt hE hops hout (fun k b hb => ?_) hdown (hsim.full hC) _ ?_
      ·obtain ⟨b', h1, h2⟩ := hnew k b hb
       exact ⟨b', h1, h2, habs i hpi hiq hif x hx k (List.getElem?_eq_some_iff.1 hb).1⟩
      ·intro v w' ρ' hrep hg
       have hn0 : c.n0 ≤ (sts i).bs.length := by
        obtain ⟨l, _, _⟩ := htr.ext (i - p) p (by omega) (Nat.le_refl _)
        rw [show p + (i - p) = i by omega] at l
        exact Nat.le_trans hn0p l
       have ht : Turn M0 c.n0 w ρ (sts q).bs w' ρ' (sts q).bs (fun _ => false) := .of_grow hsim.store hg hn0 (fun _ _ h => h) (Nat.le_refl _)
       have hs2 := hsim.turn ht hd0 hrep
       rw [zfg, hfr' x.d (by simp [dval, hx])] at hs2
       refine next ρ' _ w' hs2 (by rw [zfd]; exact hm) ?_
       intro j h1 h2 hne h3 y hy k hk
       have hold := habs j h1 h2 h3 y hy k hk
       apply Classical.byContradiction
       intro hpres
       obtain ⟨g1, g2, _⟩ := hg.new _ hold hpres
       obtain ⟨_, hnl2, _, _⟩ := htr.new h1 h2 hy
       rcases Nat.lt_or_gt_of_ne hne with hlt | hgt
       ·obtain ⟨l, _, _⟩ := htr.ext (i - (j + 1)) (j + 1) (by omega) (by omega)
        rw [show j + 1 + (i - (j + 1)) = i by omega] at l
        omega
       ·obtain ⟨l, _, _⟩ := htr.ext (j - (i + 1)) (i + 1) (by omega) (by omega)
        rw [show i + 1 + (j - (i + 1)) = j by omega] at l
        omega
end
end Go.AM
/- AM: a region's operations in another row. -/
namespace Go.AM

def zrv (σ : List Nat) (o : Oper) : Oper := { o with after := o.after.map fun e => { e with on := σ.idxOf e.on }, guard := o.guard.map fun g => (σ.idxOf g.1, g.2) }
def zfs (ops : Array Oper) (σ : List Nat) : Array Oper := (σ.filterMap fun i => (ops[i]?).map (zrv σ)).toArray

def zfx (n : Nat) (σ : List Nat) : Bool := decide σ.Nodup && σ.length == n && σ.all (fun i => decide (i < n)) && (List.range n).all (fun i => σ.contains i)

def early (o : Oper) : Bool := zjq o && o.after.all fun e => !Region.binds .any e
def earlyAt (ops : Array Oper) (i : Nat) : Bool := match ops[i]? with
 | some o => early o
 | none => false
def hoist (ops : Array Oper) : List Nat := (List.range ops.size).filter (earlyAt ops) ++ (List.range ops.size).filter fun i => !earlyAt ops i
def canon (ops : Array Oper) (draw : Bool) : Array Oper := if draw then zfs ops (hoist ops) else ops

section
variable {P : Program} {ops : Array Oper} {σ : List Nat}

theorem zf4 (h : zfx ops.size σ = true) : σ.Nodup ∧ σ.length = ops.size ∧ (∀ i ∈ σ, i < ops.size) ∧ ∀ i, i < ops.size → i ∈ σ := by
 unfold zfx at h
 simp only [Bool.and_eq_true, decide_eq_true_eq, beq_iff_eq, List.all_eq_true, List.mem_range, List.contains_iff_mem] at h
 exact ⟨h.1.1.1, h.1.1.2, h.1.2, h.2⟩

theorem zzl {α β : Type} (f : α → Option β) : ∀ (l : List α), (∀ a ∈ l, ∃ b, f a = some b) → ∀ (i : Nat), (l.filterMap f)[i]? = (l[i]?).bind f := by
 intro l
 induction l with
 | nil => intro _ i; simp
 | cons a l ih =>
   intro h i
   obtain ⟨b, hb⟩ := h a (by simp)
   rw [List.filterMap_cons_some hb]
   cases i with
   | zero => simp [hb]
   | succ i => simpa using ih (fun a ha => h a (by simp [ha])) i

theorem zrm (hn : σ.Nodup) {k i : Nat} (h : σ[k]? = some i) : σ.idxOf i = k := by
 have h1 := idx_at (List.mem_of_getElem? h)
 have hlt : k < σ.length := (List.getElem?_eq_some_iff.1 h).1
 exact ((List.getElem?_inj hlt hn).1 (h.trans h1.symm)).symm
 where
 idx_at {L : List Nat} {b : Nat} (h : b ∈ L) : L[L.idxOf b]? = some b := by
  induction L with
  | nil => cases h
  | cons x l ih =>
    rw [List.idxOf_cons]
    by_cases hx : x = b
    ·simp [hx]
    ·have : (x == b) = false := by simpa using hx
     simp only [this, cond_false, List.getElem?_cons_succ]
     exact ih (by simpa [Ne.symm hx] using h)

theorem zwa (h : zfx ops.size σ = true) (k : Nat) : (zfs ops σ)[k]? = (σ[k]?).bind fun i => (ops[i]?).map (zrv σ) := by
 obtain ⟨_, _, h3, _⟩ := zf4 h
 unfold zfs
 rw [List.getElem?_toArray, zzl]
 intro i hi
 have := h3 i hi
 exact ⟨zrv σ ops[i], by simp [this]⟩

theorem zsf (h : zfx ops.size σ = true) {i : Nat} (hi : i < ops.size) : (zfs ops σ)[σ.idxOf i]? = (ops[i]?).map (zrv σ) := by
 obtain ⟨_, _, _, h4⟩ := zf4 h
 rw [zwa h, zrm.idx_at (h4 i hi)]
 rfl

theorem znt (h : zfx ops.size σ = true) : (zfs ops σ).size = ops.size := by
 obtain ⟨_, h2, h3, _⟩ := zf4 h
 have key : ∀ l : List Nat, (∀ i ∈ l, i < ops.size) → (l.filterMap fun i => (ops[i]?).map (zrv σ)).length = l.length := by
  intro l
  induction l with
  | nil => intro _; rfl
  | cons a l ih =>
    intro hl
    have hlt := hl a (by simp)
    rw [List.filterMap_cons_some (b := zrv σ ops[a]) (by simp [hlt])]
    simp [ih fun i hi => hl i (by simp [hi])]
 unfold zfs
 rw [List.size_toArray, key σ h3, h2]

theorem z2t (h : zfx ops.size σ = true) {i : Nat} (hi : ops.size ≤ i) : σ.idxOf i = ops.size := by
 obtain ⟨_, h2, h3, _⟩ := zf4 h
 rw [← h2]
 refine List.idxOf_eq_length ?_
 intro hm
 have := h3 i hm
 omega

theorem zwb (h : zfx ops.size σ = true) (tmps : Array Value) (j : Nat) : yielded (zfs ops σ) tmps (σ.idxOf j) = yielded ops tmps j := by
 unfold yielded
 rcases Nat.lt_or_ge j ops.size with hj | hj
 ·rw [zsf h hj]
  cases ops[j]? <;> rfl
 ·rw [z2t h hj, Array.getElem?_eq_none (by rw [znt h]; omega), Array.getElem?_eq_none hj]

theorem z0p (h : zfx ops.size σ = true) (o : Oper) (tmps : Array Value) : Region.wanted (zrv σ o) (yielded (zfs ops σ) tmps) = Region.wanted o (yielded ops tmps) := by
 unfold Region.wanted zrv
 cases hg : o.guard with
 | none => rfl
 | some g =>
   obtain ⟨j, b⟩ := g
   simp only [Option.map_some, zwb h]

theorem zte (ρ : Operand → Value) (o : Oper) : execOp ρ (zrv σ o) = execOp ρ o := by
 obtain ⟨dst, op, ty, pos, after, guard⟩ := o
 cases op <;> rfl

theorem qfi {o : Oper} {a : Act} {w : World} {K : Act → World → Prop} {Q : Exit → Act → World → Prop} (h : (zrv σ o).wp P a w K Q) : o.wp P a w K Q := by
 unfold Oper.wp at h ⊢
 rw [zte] at h
 exact h

theorem z9l {o : Oper} {a : Act} {w : World} (h : (zrv σ o).asks P a w) : o.asks P a w := by
 unfold Oper.asks at h ⊢
 rw [zte] at h
 exact h

theorem zq1 {L L' : Array Bool} (hs : L.size = L'.size) {i j : Nat} (d : Bool) (h : L[i]? = L'[j]?) : L.getD i d = L'.getD j d := by
 rw [Array.getD_eq_getD_getElem?, Array.getD_eq_getD_getElem?, h]

theorem zu1 (h : zfx ops.size σ = true) {Q : Exit → Act → World → Prop} : ∀ (fuel : Nat) (L L' : Array Bool) (a : Act) (w : World), L.size = ops.size → L'.size = ops.size → (∀ i, i < ops.size → L[i]? = L'[σ.idxOf i]?) →
 wpAny P .any (zfs ops σ) Q fuel L' a w → wpAny P .any ops Q fuel L a w := by
 obtain ⟨hnd, hlen, hlt, hmem⟩ := zf4 h
 have hbind : ∀ (e : Edge) (n : Nat), Region.binds .any { e with on := n } = Region.binds .any e := by
  intro e n
  cases e with
  | mk on ground => cases ground <;> rfl
 have ready : ∀ (L L' : Array Bool), L.size = ops.size → L'.size = ops.size → (∀ i, i < ops.size → L[i]? = L'[σ.idxOf i]?) → ∀ i, i ∈ Region.ready .any ops L → σ.idxOf i ∈ Region.ready .any (zfs ops σ) L' := by
  intro L L' h1 h2 hL i hi
  obtain ⟨hf, o, ho, hall⟩ := mem_ready.1 hi
  have hil : i < ops.size := (Array.getElem?_eq_some_iff.1 ho).1
  refine mem_ready.2 ⟨?_, zrv σ o, by rw [zsf h hil, ho]; rfl, ?_⟩
  ·rw [← hf]
   exact (zq1 (by omega) true (hL i hil)).symm
  ·intro e he hb
   simp only [zrv, Array.mem_map] at he
   obtain ⟨e0, he0, rfl⟩ := he
   rw [hbind] at hb
   have := hall e0 he0 hb
   rcases Nat.lt_or_ge e0.on ops.size with hj | hj
   ·rw [← this]
    exact (zq1 (by omega) false (hL _ hj)).symm
   ·rw [Array.getD_eq_getD_getElem?, Array.getElem?_eq_none (by omega)] at this
    cases this
 have ready' : ∀ (L L' : Array Bool), L.size = ops.size → L'.size = ops.size → (∀ i, i < ops.size → L[i]? = L'[σ.idxOf i]?) → Region.ready .any ops L = [] → Region.ready .any (zfs ops σ) L' = [] := by
  intro L L' h1 h2 hL hr
  rw [List.eq_nil_iff_forall_not_mem]
  intro k hk
  obtain ⟨hf, o, ho, hall⟩ := mem_ready.1 hk
  rw [zwa h] at ho
  cases hi : σ[k]? with
  | none => rw [hi] at ho; cases ho
  | some i =>
    rw [hi] at ho
    have hil := hlt i (List.mem_of_getElem? hi)
    have hoi : ops[i]? = some ops[i] := by simp [hil]
    simp only [Option.bind_some, hoi, Option.map_some, Option.some.injEq] at ho
    subst ho
    have hki := zrm hnd hi
    have : i ∈ Region.ready .any ops L := by
     refine mem_ready.2 ⟨?_, ops[i], hoi, ?_⟩
     ·rw [zq1 (by omega) true (hL i hil), hki]
      exact hf
     ·intro e he hb
      have := hall { e with on := σ.idxOf e.on } (by simp only [zrv, Array.mem_map]; exact ⟨e, he, rfl⟩) (by rw [hbind]; exact hb)
      simp only at this
      rcases Nat.lt_or_ge e.on ops.size with hj | hj
      ·rw [zq1 (by omega) false (hL _ hj)]
       exact this
      ·rw [z2t h hj, Array.getD_eq_getD_getElem?, Array.getElem?_eq_none (by omega)] at this
       cases this
    rw [hr] at this
    cases this
 intro fuel
 induction fuel with
 | zero =>
   intro L L' a w h1 h2 hL hw
   refine ⟨?_, hw.2⟩
   rw [List.eq_nil_iff_forall_not_mem]
   intro i hi
   have := ready L L' h1 h2 hL i hi
   rw [hw.1] at this
   cases this
 | succ fuel ih =>
   intro L L' a w h1 h2 hL hw
   refine ⟨fun hr => hw.1 (ready' L L' h1 h2 hL hr), fun i hi => ?_⟩
   have h3 := hw.2 _ (ready L L' h1 h2 hL i hi)
   obtain ⟨hf, o, ho, hall⟩ := mem_ready.1 hi
   have hil : i < ops.size := (Array.getElem?_eq_some_iff.1 ho).1
   have hL' : ∀ j, j < ops.size → (L.setIfInBounds i true)[j]? = (L'.setIfInBounds (σ.idxOf i) true)[σ.idxOf j]? := by
    intro j hj
    rw [Array.getElem?_setIfInBounds, Array.getElem?_setIfInBounds]
    have hpi : σ.idxOf i < L'.size := by
     rw [h2, ← hlen]
     exact List.idxOf_lt_length_of_mem (hmem i hil)
    by_cases hij : i = j
    ·subst hij
     simp [h1, hil, hpi]
    ·have : σ.idxOf i ≠ σ.idxOf j := by
      intro heq
      have e1 := zrm.idx_at (hmem i hil)
      have e2 := zrm.idx_at (hmem j hj)
      rw [heq, e2] at e1
      exact hij (Option.some.inj e1).symm
     simp [hij, this, hL j hj]
   have hK : ∀ a w, wpAny P .any (zfs ops σ) Q fuel (L'.setIfInBounds (σ.idxOf i) true) a w → wpAny P .any ops Q fuel (L.setIfInBounds i true) a w :=
    fun a w hx => ih _ _ a w (by simpa using h1) (by simpa using h2) hL' hx
   unfold wpOp at h3 ⊢
   rw [zsf h hil, ho] at h3
   rw [ho]
   simp only [Option.map_some] at h3
   simp only
   rw [z0p h] at h3
   split
   ·rename_i hwt
    rw [if_pos hwt] at h3
    rcases h3 with h3 | ⟨h3, h4⟩
    ·exact .inl (Oper.wp_mono hK (qfi h3))
    ·exact .inr ⟨z9l h3, h4⟩
   ·rename_i hwt
    rw [if_neg hwt] at h3
    exact hK _ _ h3
end
end Go.AM
/- AM: a drawing region in which some operations are in no order with what changes blocks: one text for each order of those pairs. -/
namespace Go.AM

abbrev Pick := List (Nat × Nat × Bool)
def zrt (p : Pick) (i : Nat) : List Nat := p.filterMap fun q => if q.2.2 then (if q.1 = i then some q.2.1 else none) else (if q.2.1 = i then some q.1 else none)
def tie (p : Pick) (i : Nat) (o : Oper) : Oper := { o with after := o.after ++ ((zrt p i).map fun j => ({ on := j, ground := .chain } : Edge)).toArray }
def tied (ops : Array Oper) (p : Pick) : Array Oper := ops.mapIdx (tie p)
theorem zt0 (ops : Array Oper) (p : Pick) (i : Nat) : (tied ops p)[i]? = (ops[i]?).map (tie p i) := by
 unfold tied
 rw [Array.getElem?_mapIdx]
theorem zgp (ops : Array Oper) (p : Pick) : (tied ops p).size = ops.size := by simp [tied]

inductive Ord (ops : Array Oper) : Array Bool → List Nat → Prop where
 | nil {L : Array Bool} (h : Region.ready .any ops L = []) : Ord ops L []
 | cons {L : Array Bool} {i : Nat} {l : List Nat} (hi : i ∈ Region.ready .any ops L) (h : Ord ops (L.setIfInBounds i true) l) : Ord ops L (i :: l)

section
variable {P : Program} {ops : Array Oper}
theorem qg0 {Q : Exit → Act → World → Prop} {L : Array Bool} {l : List Nat} (h : Ord ops L l) : ∀ (fuel : Nat) (a : Act) (w : World), wpAny P .any ops Q fuel L a w → wpOps P ops Q l a w := by
 induction h with
 | nil h =>
   intro fuel a w hw
   cases fuel with
   | zero => exact hw.2
   | succ fuel => exact hw.1 h
 | cons hi h ih =>
   intro fuel a w hw
   cases fuel with
   | zero => rw [hw.1] at hi; cases hi
   | succ fuel =>
     rw [wpOps_cons]
     exact wpOp_mono (fun a w hx => ih fuel a w hx) (hw.2 _ hi)
theorem qi8 : ∀ (fuel t : Nat) (L : Array Bool), unl L ≤ fuel → L.size = ops.size → Ord ops L (Region.linearise.go .any ops fuel t L []) := by
 intro fuel
 induction fuel with
 | zero =>
   intro t L hu hs
   simp only [Region.linearise.go, List.reverse_nil]
   refine .nil ?_
   rw [List.eq_nil_iff_forall_not_mem]
   intro j hj
   obtain ⟨h1, o, ho, _⟩ := mem_ready.1 hj
   have hlt : j < L.size := by rw [hs]; exact (Array.getElem?_eq_some_iff.1 ho).1
   have h0 : unl L = 0 := by omega
   unfold unl at h0
   rw [List.countP_eq_zero] at h0
   have := h0 (L.toList[j]'(by simpa using hlt)) (List.getElem_mem _)
   rw [Array.getD_eq_getD_getElem?] at h1
   simp [hlt] at this h1
   rw [this] at h1
   cases h1
 | succ fuel ih =>
   intro t L hu hs
   simp only [Region.linearise.go]
   change Ord ops L (match (Region.ready .any ops L)[t % (Region.ready .any ops L).length]? with
    | some i => Region.linearise.go .any ops fuel (t / (Region.ready .any ops L).length) (L.setIfInBounds i true) [i]
    | none => [].reverse)
   cases hi : (Region.ready .any ops L)[t % (Region.ready .any ops L).length]? with
   | none =>
     have hnil : Region.ready .any ops L = [] := by
      cases hr : Region.ready .any ops L with
      | nil => rfl
      | cons x xs =>
        rw [hr] at hi
        have hlt : t % (x :: xs).length < (x :: xs).length := Nat.mod_lt _ (by simp)
        simp at hi
        simp at hlt
        omega
     exact .nil hnil
   | some i =>
     simp only []
     rw [linearise_go_acc, List.reverse_singleton, List.singleton_append]
     have hm := List.mem_of_getElem? hi
     obtain ⟨h1, o, ho, _⟩ := mem_ready.1 hm
     have hlt : i < L.size := by rw [hs]; exact (Array.getElem?_eq_some_iff.1 ho).1
     exact .cons hm (ih _ _ (by have := zu0 hlt h1; omega) (by simpa using hs))
theorem z3h {L : Array Bool} {l : List Nat} (h : Ord ops L l) : ∀ i ∈ l, L.getD i true = false ∧ i < ops.size := by
 induction h with
 | nil h => intro i hi; cases hi
 | @cons L i l hi h ih =>
   intro j hj
   obtain ⟨h1, o, ho, _⟩ := mem_ready.1 hi
   rcases List.mem_cons.1 hj with rfl | hj
   ·exact ⟨h1, (Array.getElem?_eq_some_iff.1 ho).1⟩
   ·obtain ⟨h2, h3⟩ := ih j hj
    refine ⟨?_, h3⟩
    by_cases hij : i = j
    ·subst hij
     rw [Array.getD_eq_getD_getElem?, Array.getElem?_setIfInBounds] at h2
     by_cases hl : i < L.size
     ·simp [hl] at h2
     ·rw [Array.getD_eq_getD_getElem?, Array.getElem?_eq_none (by omega)] at h1
      cases h1
    ·rw [getD_set_ne true hij] at h2
     exact h2
theorem z2c {L : Array Bool} {l : List Nat} (h : Ord ops L l) : l.Nodup := by
 induction h with
 | nil h => exact List.nodup_nil
 | @cons L i l hi h ih =>
   refine List.nodup_cons.2 ⟨fun hm => ?_, ih⟩
   have h1 := (z3h h i hm).1
   have h2 := (mem_ready.1 hi).1
   rw [Array.getD_eq_getD_getElem?, Array.getElem?_setIfInBounds] at h1
   by_cases hl : i < L.size
   ·simp [hl] at h1
   ·rw [Array.getD_eq_getD_getElem?, Array.getElem?_eq_none (by omega)] at h2
    cases h2
theorem qdi {p : Pick} {L : Array Bool} {l : List Nat} (h : Ord ops L l) : (∀ l1 i l2, l = l1 ++ i :: l2 → ∀ j ∈ zrt p i, L.getD j false = true ∨ j ∈ l1) → Ord (tied ops p) L l := by
 induction h with
 | @nil L h =>
   intro _
   refine .nil ?_
   rw [List.eq_nil_iff_forall_not_mem]
   intro j hj
   obtain ⟨h1, o, ho, hall⟩ := mem_ready.1 hj
   rw [zt0] at ho
   cases hoj : ops[j]? with
   | none => rw [hoj] at ho; cases ho
   | some o' =>
     rw [hoj] at ho
     simp only [Option.map_some, Option.some.injEq] at ho
     subst ho
     have : j ∈ Region.ready .any ops L := mem_ready.2 ⟨h1, o', hoj, fun e he hb => hall e (by simp [tie, he]) hb⟩
     rw [h] at this
     cases this
 | @cons L i l hi h ih =>
   intro hr
   obtain ⟨h1, o, ho, hall⟩ := mem_ready.1 hi
   refine .cons (mem_ready.2 ⟨h1, tie p i o, by rw [zt0, ho]; rfl, fun e he hb => ?_⟩) (ih fun l1 i' l2 hl j hj => ?_)
   ·simp only [tie, Array.mem_append, List.mem_toArray, List.mem_map] at he
    rcases he with he | ⟨j, hj, rfl⟩
    ·exact hall e he hb
    ·rcases hr [] i l rfl j hj with h2 | h2
     ·exact h2
     ·cases h2
   ·rcases hr (i :: l1) i' l2 (by rw [hl]; rfl) j hj with h2 | h2
    ·exact .inl (getD_set_true h2)
    ·rcases List.mem_cons.1 h2 with rfl | h2
     ·left
      have hl : j < L.size := by
       rcases Nat.lt_or_ge j L.size with h' | h'
       ·exact h'
       ·rw [Array.getD_eq_getD_getElem?, Array.getElem?_eq_none h'] at h1
        cases h1
      rw [Array.getD_eq_getD_getElem?, Array.getElem?_setIfInBounds]
      simp [hl]
     ·exact .inr h2
theorem z0v (p : Pick) (tmps : Array Value) (j : Nat) : yielded (tied ops p) tmps j = yielded ops tmps j := by
 unfold yielded
 rw [zt0]
 cases ops[j]? <;> rfl
theorem z78 {p : Pick} {Q : Exit → Act → World → Prop} : ∀ (l : List Nat) (a : Act) (w : World), wpOps P (tied ops p) Q l a w → wpOps P ops Q l a w := by
 intro l
 induction l with
 | nil => intro a w h; exact h
 | cons i l ih =>
   intro a w h
   unfold wpOps at h ⊢
   rw [zt0] at h
   cases ho : ops[i]? with
   | none => rw [ho] at h; exact ih a w h
   | some o =>
     rw [ho] at h
     simp only [Option.map_some] at h ⊢
     have hw : Region.wanted (tie p i o) (yielded (tied ops p) a.tmps) = Region.wanted o (yielded ops a.tmps) := by
      unfold Region.wanted tie
      simp only [z0v]
     have he : ∀ ρ, execOp ρ (tie p i o) = execOp ρ o := by
      intro ρ
      obtain ⟨dst, op, ty, pos, after, guard⟩ := o
      cases op <;> rfl
     rw [hw] at h
     split
     ·rename_i hwt
      rw [if_pos hwt] at h
      rcases h with h | ⟨h1, h2⟩
      ·left
       refine Oper.wp_mono (fun a w hx => ih a w hx) ?_
       unfold Oper.wp at h ⊢
       rw [he] at h
       exact h
      ·right
       refine ⟨?_, h2⟩
       unfold Oper.asks at h1 ⊢
       rw [he] at h1
       exact h1
     ·rename_i hwt
      rw [if_neg hwt] at h
      exact ih _ w h

def FwdOk (ops : Array Oper) : Prop := ∀ (i : Nat) (o : Oper) (e : Edge), ops[i]? = some o → e ∈ o.after → Region.binds .any e = true → e.on < i
def fwdOk (ops : Array Oper) : Bool := ops.toList.zipIdx.all fun x => x.1.after.all fun e => !Region.binds .any e || decide (e.on < x.2)
theorem z7m (h : fwdOk ops = true) : FwdOk ops := by
 intro i o e ho he hb
 unfold fwdOk at h
 rw [List.all_eq_true] at h
 have := h (o, i) (by rw [List.mem_zipIdx_iff_getElem?]; simpa using ho)
 rw [Array.all_eq_true'] at this
 have := this e he
 rw [hb] at this
 simpa using this
theorem z4g {L : Array Bool} {i : Nat} (hi : i < L.size) : L.getD i true = L.getD i false := by
 rw [Array.getD_eq_getD_getElem?, Array.getD_eq_getD_getElem?]
 simp [hi]
theorem qez (hf : FwdOk ops) {L : Array Bool} {l : List Nat} (h : Ord ops L l) : L.size = ops.size → ∀ i, i < ops.size → L.getD i false = true ∨ i ∈ l := by
 induction h with
 | @nil L h =>
   intro hs i
   induction i using Nat.strongRecOn with
   | ind i ih =>
     intro hi
     left
     apply Classical.byContradiction
     intro hn
     have : i ∈ Region.ready .any ops L := by
      refine mem_ready.2 ⟨?_, ops[i], by simp [hi], fun e he hb => ?_⟩
      ·rw [z4g (by omega)]
       simpa using hn
      ·have hlt := hf i ops[i] e (by simp [hi]) he hb
       rcases ih e.on hlt (by omega) with h2 | h2
       ·exact h2
       ·cases h2
     rw [h] at this
     cases this
 | @cons L i l hi h ih =>
   intro hs j hj
   rcases ih (by simpa using hs) j hj with h2 | h2
   ·by_cases hij : i = j
    ·exact .inr (by simp [hij])
    ·rw [getD_set_ne false hij] at h2
     exact .inl h2
   ·exact .inr (List.mem_cons_of_mem _ h2)
theorem z7i {L : Array Bool} {l : List Nat} (h : Ord ops L l) : ∀ l1 i l2, l = l1 ++ i :: l2 → ∀ o e, ops[i]? = some o → e ∈ o.after → Region.binds .any e = true → L.getD e.on false = true ∨ e.on ∈ l1 := by
 induction h with
 | nil h => intro l1 i l2 hl; simp at hl
 | @cons L i l hi h ih =>
   intro l1 j l2 hl o e ho he hb
   cases l1 with
   | nil =>
     simp at hl
     obtain ⟨rfl, rfl⟩ := hl
     obtain ⟨h1, o', ho', hall⟩ := mem_ready.1 hi
     rw [ho] at ho'
     cases ho'
     exact .inl (hall e he hb)
   | cons a l1 =>
     simp at hl
     obtain ⟨rfl, hl⟩ := hl
     rcases ih l1 j l2 hl o e ho he hb with h2 | h2
     ·by_cases hij : i = e.on
      ·exact .inr (by simp [hij])
      ·rw [getD_set_ne false hij] at h2
       exact .inl h2
     ·exact .inr (List.mem_cons_of_mem _ h2)
def zru (ops : Array Oper) : Nat → Array Bool → List Nat
 | 0, _ => []
 | n + 1, L => match Region.ready .any ops L with
   | [] => []
   | i :: _ => i :: zru ops n (L.setIfInBounds i true)
theorem z5w {l : List Nat} {p : Nat → Bool} (h : ∃ i ∈ l, p i = false) : ∃ l1 i l2, l = l1 ++ i :: l2 ∧ (∀ j ∈ l1, p j = true) ∧ p i = false := by
 induction l with
 | nil => obtain ⟨i, hi, _⟩ := h; cases hi
 | cons a l ih =>
   cases ha : p a with
   | false => exact ⟨[], a, l, rfl, by simp, ha⟩
   | true =>
     obtain ⟨i, hi, hpi⟩ := h
     rcases List.mem_cons.1 hi with rfl | hi
     ·rw [ha] at hpi; cases hpi
     ·obtain ⟨l1, j, l2, e, h1, h2⟩ := ih ⟨i, hi, hpi⟩
      refine ⟨a :: l1, j, l2, by rw [e]; rfl, fun k hk => ?_, h2⟩
      rcases List.mem_cons.1 hk with rfl | hk
      ·exact ha
      ·exact h1 k hk
theorem z76 {l0 : List Nat} (hfull : ∀ i, i < ops.size → i ∈ l0) (hv : ∀ l1 i l2, l0 = l1 ++ i :: l2 → ∀ o e, ops[i]? = some o → e ∈ o.after → Region.binds .any e = true → e.on ∈ l1) (hlt : ∀ i ∈ l0, i < ops.size) :
 ∀ (n : Nat) (L : Array Bool), unl L ≤ n → L.size = ops.size → Ord ops L (zru ops n L) ∧ ∀ i, i < ops.size → L.getD i false = true ∨ i ∈ zru ops n L := by
 have hready : ∀ L : Array Bool, L.size = ops.size → Region.ready .any ops L = [] → ∀ i, i < ops.size → L.getD i false = true := by
  intro L hs hr i hi
  apply Classical.byContradiction
  intro hn
  obtain ⟨l1, j, l2, e, h1, h2⟩ := z5w (l := l0) (p := fun i => L.getD i false) ⟨i, hfull i hi, by simpa using hn⟩
  have hj : j < ops.size := hlt j (by rw [e]; simp)
  have : j ∈ Region.ready .any ops L := mem_ready.2 ⟨by rw [z4g (by omega)]; exact h2, ops[j], by simp [hj], fun e' he hb => h1 _ (hv l1 j l2 e ops[j] e' (by simp [hj]) he hb)⟩
  rw [hr] at this
  cases this
 intro n
 induction n with
 | zero =>
   intro L hu hs
   have hall : ∀ i, i < ops.size → L.getD i false = true := by
    intro j hj
    have h0 : unl L = 0 := by omega
    unfold unl at h0
    rw [List.countP_eq_zero] at h0
    have hl : j < L.size := by omega
    have := h0 (L.toList[j]'(by simpa using hl)) (List.getElem_mem _)
    rw [Array.getD_eq_getD_getElem?]
    simp [hl] at this ⊢
    exact this
   refine ⟨.nil ?_, fun i hi => .inl (hall i hi)⟩
   rw [List.eq_nil_iff_forall_not_mem]
   intro j hj
   obtain ⟨h1, o, ho, _⟩ := mem_ready.1 hj
   have hjl : j < ops.size := (Array.getElem?_eq_some_iff.1 ho).1
   rw [z4g (by omega), hall j hjl] at h1
   cases h1
 | succ n ih =>
   intro L hu hs
   unfold zru
   cases hr : Region.ready .any ops L with
   | nil => exact ⟨.nil hr, fun i hi => .inl (hready L hs hr i hi)⟩
   | cons i is =>
     have hi : i ∈ Region.ready .any ops L := by rw [hr]; simp
     obtain ⟨h1, o, ho, _⟩ := mem_ready.1 hi
     have hil : i < L.size := by rw [hs]; exact (Array.getElem?_eq_some_iff.1 ho).1
     obtain ⟨g1, g2⟩ := ih (L.setIfInBounds i true) (by have := zu0 hil h1; omega) (by simpa using hs)
     refine ⟨.cons hi g1, fun j hj => ?_⟩
     rcases g2 j hj with h2 | h2
     ·by_cases hij : i = j
      ·exact .inr (by simp [hij])
      ·rw [getD_set_ne false hij] at h2
       exact .inl h2
     ·exact .inr (List.mem_cons_of_mem _ h2)
def L0 (ops : Array Oper) : Array Bool := Array.replicate ops.size false
theorem z56 (i : Nat) : (L0 ops).getD i false = false := by
 unfold L0
 rw [Array.getD_eq_getD_getElem?, Array.getElem?_replicate]
 split <;> rfl
theorem qfv : unl (L0 ops) = ops.size := by
 unfold unl L0
 simp [List.countP_replicate]
theorem z34 {l0 : List Nat} (h : Ord ops (L0 ops) l0) (hfull : ∀ i, i < ops.size → i ∈ l0) : zfx ops.size (zru ops ops.size (L0 ops)) = true := by
 have hv : ∀ l1 i l2, l0 = l1 ++ i :: l2 → ∀ o e, ops[i]? = some o → e ∈ o.after → Region.binds .any e = true → e.on ∈ l1 := by
  intro l1 i l2 hl o e ho he hb
  rcases z7i h l1 i l2 hl o e ho he hb with h2 | h2
  ·rw [z56] at h2; cases h2
  ·exact h2
 obtain ⟨g1, g2⟩ := z76 hfull hv (fun i hi => (z3h h i hi).2) ops.size (L0 ops) (by rw [qfv]; omega) (by simp [L0])
 have hn := z2c g1
 have hlt : ∀ i ∈ zru ops ops.size (L0 ops), i < ops.size := fun i hi => (z3h g1 i hi).2
 have hm : ∀ i, i < ops.size → i ∈ zru ops ops.size (L0 ops) := by
  intro i hi
  rcases g2 i hi with h2 | h2
  ·rw [z56] at h2; cases h2
  ·exact h2
 have hp : (zru ops ops.size (L0 ops)).Perm (List.range ops.size) := (List.perm_ext_iff_of_nodup hn List.nodup_range).2 fun a => ⟨fun h => List.mem_range.2 (hlt a h), fun h => hm a (List.mem_range.1 h)⟩
 have hl := hp.length_eq
 unfold zfx
 simp only [Bool.and_eq_true, decide_eq_true_eq, beq_iff_eq, List.all_eq_true, List.mem_range, List.contains_iff_mem]
 exact ⟨⟨⟨hn, by simpa using hl⟩, hlt⟩, hm⟩

def picks : List (Nat × Nat) → List Pick
 | [] => [[]]
 | q :: qs => (picks qs).flatMap fun p => [(q.1, q.2, true) :: p, (q.1, q.2, false) :: p]
def zlh (l : List Nat) (qs : List (Nat × Nat)) : Pick := qs.map fun q => (q.1, q.2, decide (l.idxOf q.2 < l.idxOf q.1))
theorem z8j (l : List Nat) : ∀ qs, zlh l qs ∈ picks qs := by
 intro qs
 induction qs with
 | nil => simp [zlh, picks]
 | cons q qs ih =>
   simp only [picks, List.mem_flatMap]
   refine ⟨_, ih, ?_⟩
   unfold zlh
   cases h : decide (l.idxOf q.2 < l.idxOf q.1) <;> simp [h]
theorem zxz {l1 l2 : List Nat} {i j : Nat} (hn : (l1 ++ i :: l2).Nodup) (h : (l1 ++ i :: l2).idxOf j < (l1 ++ i :: l2).idxOf i) : j ∈ l1 := by
 have hi : i ∉ l1 := by
  intro hm
  have := (List.nodup_append.1 hn).2.2 i hm i (by simp)
  exact this rfl
 have e : (l1 ++ i :: l2).idxOf i = l1.length := by
  rw [List.idxOf_append, if_neg hi]
  simp
 rw [e] at h
 apply Classical.byContradiction
 intro hm
 rw [List.idxOf_append, if_neg hm] at h
 omega
theorem z3m {l : List Nat} {qs : List (Nat × Nat)} (hn : l.Nodup) (hq : ∀ q ∈ qs, q.1 ≠ q.2) : ∀ l1 i l2, l = l1 ++ i :: l2 → ∀ j ∈ zrt (zlh l qs) i, j ∈ l1 := by
 intro l1 i l2 hl j hj
 unfold zrt zlh at hj
 simp only [List.mem_filterMap, List.mem_map] at hj
 obtain ⟨_, ⟨q, hqm, rfl⟩, h⟩ := hj
 simp only at h
 by_cases hb : l.idxOf q.2 < l.idxOf q.1
 ·simp only [hb, decide_true, if_true] at h
  split at h
  ·rename_i e
   cases h
   rw [e] at hb
   subst hl
   exact zxz hn hb
  ·cases h
 ·simp only [hb, decide_false, Bool.false_eq_true, if_false] at h
  split at h
  ·rename_i e
   cases h
   have hne := hq q hqm
   rw [e] at hb hne
   subst hl
   refine zxz hn ?_
   have hi : (l1 ++ i :: l2).idxOf i < (l1 ++ i :: l2).length := List.idxOf_lt_length_of_mem (by simp)
   rcases Nat.lt_or_ge ((l1 ++ i :: l2).idxOf q.1) ((l1 ++ i :: l2).idxOf i) with h2 | h2
   ·exact h2
   ·exfalso
    have h3 : (l1 ++ i :: l2).idxOf q.1 = (l1 ++ i :: l2).idxOf i := by omega
    have e1 := List.getElem_idxOf (show (l1 ++ i :: l2).idxOf q.1 < (l1 ++ i :: l2).length by omega)
    have e2 := List.getElem_idxOf hi
    have e3 : (l1 ++ i :: l2)[(l1 ++ i :: l2).idxOf q.1]'(by omega) = (l1 ++ i :: l2)[(l1 ++ i :: l2).idxOf i]'hi := by congr 1
    exact hne (e1.symm.trans (e3.trans e2))
  ·cases h
def zpm (ops : Array Oper) (p : Pick) : List Nat := zru (tied ops p) ops.size (L0 ops)
def zmz (ops : Array Oper) (p : Pick) : Array Oper := zfs (tied ops p) (zpm ops p)
theorem qe2 {Q : Exit → Act → World → Prop} {qs : List (Nat × Nat)} (hf : FwdOk ops) (hq : ∀ q ∈ qs, q.1 ≠ q.2) {a : Act} {w : World}
 (h : ∀ p ∈ picks qs, zfx ops.size (zpm ops p) = true → wpAny P .any (zmz ops p) Q ops.size (L0 ops) a w) (l : List Nat) (hl : Ord ops (L0 ops) l) : wpOps P ops Q l a w := by
 have hn := z2c hl
 have h1 : Ord (tied ops (zlh l qs)) (L0 ops) l := qdi hl fun l1 i l2 e j hj => .inr (z3m hn hq l1 i l2 e j hj)
 have hfull : ∀ i, i < ops.size → i ∈ l := by
  intro i hi
  rcases qez hf hl (by simp [L0]) i hi with h2 | h2
  ·rw [z56] at h2; cases h2
  ·exact h2
 have hL : L0 (tied ops (zlh l qs)) = L0 ops := by simp [L0, zgp]
 have hp : zfx ops.size (zpm ops (zlh l qs)) = true := by
  have := z34 (ops := tied ops (zlh l qs)) (l0 := l) (by rw [hL]; exact h1) (by rw [zgp]; exact hfull)
  rw [zgp, hL] at this
  exact this
 have h2 := h _ (z8j l qs) hp
 have hp' : zfx (tied ops (zlh l qs)).size (zpm ops (zlh l qs)) = true := by rw [zgp]; exact hp
 have h3 : wpAny P .any (tied ops (zlh l qs)) Q ops.size (L0 ops) a w := by
  refine zu1 hp' _ _ _ _ _ (by simp [L0, zgp]) (by simp [L0, zgp]) (fun i hi => ?_) h2
  rw [zgp] at hi
  have hlt : (zpm ops (zlh l qs)).idxOf i < ops.size := by
   obtain ⟨_, g2, _, g4⟩ := zf4 hp
   rw [← g2]
   exact List.idxOf_lt_length_of_mem (g4 i hi)
  unfold L0
  rw [Array.getElem?_replicate, Array.getElem?_replicate, if_pos hi, if_pos hlt]
 exact z78 l a w (qg0 h1 _ a w h3)
end
end Go.AM
