/- What the proof of this claim stands on, part 3. -/
import Derived.Lib.SliceRun
import Derived.Test.YtehagcggdepajaaGreatAmZ2
set_option linter.unusedVariables false
set_option linter.unusedSimpArgs false
set_option maxRecDepth 8000
set_option maxHeartbeats 0
/- AM: the operations one by one (values and addresses). -/
namespace Go.AM
open Go.RowKit (Below)

theorem z8g {P : Program} {w : World} {t : Nat} (h : P.underlying t = some .bool) (a b : Bool) : (Op.equal t (.bool a) (.bool b)).run P w = .ok (a == b) w := by
 rw [Op.equal, show Op.maxDepth = 9999 + 1 from rfl, Op.equalIn]
 simp only [Sem.run_bind, run_underlying h, Result.andThen_ok]
 rfl

section
variable {P : Program} {T : Tab} {eqs : List Nat} {M0 : Foot} {ρ : Nat → Loc} {bs : List Blk} {w : World}

theorem Store.cell (hS : Store M0 ρ bs w) {b g base n rl esz : Nat} {k : Blk} {i j : Nat} {r : List D} {d : D} (hat : ρ b = .at_ g base n rl esz) (hb : bs[b]? = some k)
 (hr : k.rows[i]? = some r) (hd : r[j]? = some d) : ∃ v, w.cell? ⟨g, base + i * esz + j, none⟩ = some v ∧ Rep w (Mof M0 ρ bs) ρ v d := by
 obtain ⟨_, _, _, _, arr, Ty, hg, _, hc⟩ := hS.at_ b k g base n rl esz hb hat
 obtain ⟨v, hv, hrep⟩ := hc i j r d hr hd
 refine ⟨v, by simp [World.cell?, hg, hv], ?_⟩
 split at hrep
 ·exact hrep
 ·exact .imm _ _ hrep

theorem zrd : ∀ l : List Value, zmy l = l.map zof
 | [] => rfl
 | v :: vs => by simp [zmy, zrd vs]

theorem qaa {M : Foot} (v : Value) : Rep w M ρ v (zof v) := by
 have key : ∀ (n : Nat) (v : Value), SizeOf.sizeOf v ≤ n → Rep w M ρ v (zof v) := by
  intro n
  induction n with
  | zero => intro v h; cases v <;> simp at h
  | succ n ih =>
    intro v h
    unfold zof
    split
    ·exact .imm _ _ (.int _ _)
    ·exact .imm _ _ (.bool _)
    ·exact .imm _ _ (.nil _)
    ·rename_i cs
     refine .agg _ _ (by simp [zrd]) fun i u d hu hd => ?_
     rw [zrd, List.getElem?_map] at hd
     have hu' : cs.toList[i]? = some u := by simpa using hu
     rw [hu'] at hd
     cases hd
     refine ih u ?_
     have hm : u ∈ cs := Array.mem_of_getElem? hu
     have h1 := Array.sizeOf_lt_of_mem hm
     simp only [Value.agg.sizeOf_spec] at h
     omega
    ·split
     ·rename_i vs h0
      have : vs = #[] := Array.eq_empty_of_size_eq_zero h0
      subst this
      exact .tup _ _ rfl fun i u d hu hd => by simp at hu
     ·exact .undef _
    ·exact .undef _
 exact key _ v (Nat.le_refl _)

theorem z9r {M : Foot} {v : Value} (h : (zof v).flat = true) : RepI w M v (zof v) := by
 unfold zof at h ⊢
 split
 ·exact .int _ _
 ·exact .bool _
 ·exact .nil _
 ·simp [D.flat] at h
 ·split
  ·rename_i h0; simp [h0, D.flat] at h
  ·exact .undef _
 ·exact .undef _

theorem zr3 {M : Foot} {v : Value} {d : D} (h : Rep w M ρ v d) (hd : d.isCell = true) : v.oneCell' = true := by
 cases h with
 | imm _ _ h => cases h <;> first | rfl | cases hd
 | agg => cases hd
 | tup => cases hd
 | _ => rfl

def outV : D → Value
 | .int k n => .int k n
 | .bool b => .bool b
 | _ => Go.undef

theorem z83 {op : BinOp} {t : Nat} {k k' : IntKind} {a b : Int} {d : D} {ox oy : Operand} {M : Foot} (h : binInt op k k' a b = some d) :
 (do eqGuard op t ox oy (.int k a) (.int k' b); binOp op t (.int k a) (.int k' b) : Sem Value).run P w = .ok (outV d) w ∧ Rep w M ρ (outV d) d := by
 have hg : (eqGuard op t ox oy (.int k a) (.int k' b)).run P w = .ok () w := by unfold eqGuard; cases op <;> simp
 simp only [Sem.run_bind, hg, Result.andThen_ok]
 clear hg
 cases op <;> simp only [binInt, arith] at h
 case shl =>
  by_cases hb : b < 0
  ·simp [hb] at h
  ·simp only [hb, if_false, Option.some.injEq] at h
   subst h
   exact ⟨by simp [binOp, Op.shift, hb, outV], .imm _ _ (.int _ _)⟩
 case shr =>
  by_cases hb : b < 0
  ·simp [hb] at h
  ·simp only [hb, if_false, Option.some.injEq] at h
   subst h
   exact ⟨by simp [binOp, Op.shift, hb, outV], .imm _ _ (.int _ _)⟩
 all_goals
  by_cases hk : k = k'
  ·subst hk
   simp only [if_true] at h
   first
    | (simp only [Option.some.injEq] at h
       subst h
       first
        | exact ⟨by simp [binOp, Op.intArith, Op.intBits, Op.intCmp, outV], .imm _ _ (.int _ _)⟩
        | exact ⟨by simp [binOp, Op.intArith, Op.intBits, Op.intCmp, outV], .imm _ _ (.bool _)⟩)
    | (by_cases hb : b = 0
       ·simp [hb] at h
       ·simp only [hb, if_false, Option.some.injEq] at h
        subst h
        exact ⟨by simp [binOp, Op.intDiv, hb, outV], .imm _ _ (.int _ _)⟩)
    | cases h
  ·simp [hk] at h

theorem z30 {op : BinOp} {t : Nat} {a b : Bool} {d : D} {ox oy : Operand} {M : Foot} (hT : TabOk P T eqs) (h : zz9 op (T t).d a b = some d) :
 (do eqGuard op t ox oy (.bool a) (.bool b); binOp op t (.bool a) (.bool b) : Sem Value).run P w = .ok (outV d) w ∧ Rep w M ρ (outV d) d := by
 have hg : (eqGuard op t ox oy (.bool a) (.bool b)).run P w = .ok () w := by unfold eqGuard; cases op <;> simp
 simp only [Sem.run_bind, hg, Result.andThen_ok]
 clear hg
 unfold zz9 at h
 split at h
 ·rename_i ht
  obtain ⟨d', hd, ho⟩ := zg8 hT (t := t) (by rw [ht]; rfl)
  rw [ht] at ho
  cases d' <;> simp [za0] at ho
  have he := z8g (w := w) hd a b
  cases op <;> simp only [Option.some.injEq] at h <;> try cases h
  ·exact ⟨by simp only [binOp, Sem.run_bind, he, Result.andThen_ok]; rfl, .imm _ _ (.bool _)⟩
  ·exact ⟨by simp only [binOp, Sem.run_bind, he, Result.andThen_ok]; rfl, .imm _ _ (.bool _)⟩
 ·cases h

theorem z8p {op : BinOp} {t : Nat} {as bs : List D} {xs ys : Array Value} {d : D} {ox oy : Operand} {M : Foot} (hT : TabOk P T eqs) (hm : t ∈ eqs) (hxs : xs.size = as.length) (hys : ys.size = bs.length) (hl : as.length = (T t).size)
 (hxr : ∀ (i : Nat) (v : Value) (d : D), xs[i]? = some v → as[i]? = some d → Rep w M ρ v d) (hyr : ∀ (i : Nat) (v : Value) (d : D), ys[i]? = some v → bs[i]? = some d → Rep w M ρ v d)
 (h : binAgg T op t as bs = some d) :
 (do eqGuard op t ox oy (.agg xs) (.agg ys); binOp op t (.agg xs) (.agg ys) : Sem Value).run P w = .ok (outV d) w ∧ Rep w M ρ (outV d) d := by
 obtain ⟨hg0, heq⟩ := hT.eqs t hm
 have hg : (eqGuard op t ox oy (.agg xs) (.agg ys)).run P w = .ok () w := by
  unfold eqGuard
  cases op <;> simp [hg0]
 simp only [Sem.run_bind, hg, Result.andThen_ok]
 clear hg
 unfold binAgg at h
 cases hz : zh3 (T t).zero as with
 | none => simp [hz] at h
 | some z =>
   cases hx' : zh3 as bs with
   | none => simp [hz, hx'] at h
   | some x =>
     have hrun := heq w M ρ xs ys as bs z x hxs hys hl hxr hyr hz hx'
     simp only [hz, hx'] at h
     cases op <;> simp only [Option.some.injEq] at h <;> first
      | (subst h; exact ⟨by simp [binOp, hrun, outV], .imm _ _ (.bool _)⟩)
      | cases h

theorem qgd {op : BinOp} {t : Nat} {x y d : D} {vx vy : Value} {ox oy : Operand} {M : Foot} (hT : TabOk P T eqs) (hx : Rep w M ρ vx x) (hy : Rep w M ρ vy y) (h : binD T eqs op t x y = some d) :
 (do eqGuard op t ox oy vx vy; binOp op t vx vy : Sem Value).run P w = .ok (outV d) w ∧ Rep w M ρ (outV d) d := by
 unfold binD at h
 split at h
 ·have e1 := hx.int_inv
  have e2 := hy.int_inv
  subst e1 e2
  exact z83 h
 ·have e1 := hx.bool_inv
  have e2 := hy.bool_inv
  subst e1 e2
  exact z30 hT h
 ·split at h
  ·rename_i hc
   obtain ⟨hmem, hl1, hl2⟩ := hc
   obtain ⟨xs, rfl, hxs, hxr⟩ := hx.agg_inv
   obtain ⟨ys, rfl, hys, hyr⟩ := hy.agg_inv
   exact z8p hT (by simpa using hmem) hxs hys hl1 hxr hyr h
  ·cases h
 ·cases h

theorem z2r {x : D} {vx : Value} {M : Foot} {b : Bool} (hx : Rep w M ρ vx x) (h : isNilD x = some b) : ∃ a n c, vx = .slice a n c ∧ b = a.isNone := by
 unfold isNilD at h
 split at h
 ·cases h
  obtain ⟨a, cap, rfl, hb⟩ := hx.zs_inv
  exact ⟨a, 0, cap, rfl, hb⟩
 ·rename_i rows len
  split at h
  ·rename_i hl
   cases h
   have hi := hx.sl_inv
   cases hi with
   | sl a len cap rows esz g off vals h1 h2 hr ha hc hv =>
     have hne : rows ≠ [] := by rintro rfl; simp at h1; omega
     exact ⟨a, len, cap, rfl, by rw [ha hne]; rfl⟩
  ·cases h
 ·split at h
  ·rename_i hl
   cases h
   rcases hx.ref_inv with ⟨cap, g, base, n, rl, esz, rfl, _⟩ | ⟨a, rfl, _, _, rfl⟩
   ·exact ⟨_, _, _, rfl, rfl⟩
   ·omega
  ·cases h
 ·cases h

theorem qfh {op : BinOp} {t : Nat} {x y d : D} {vx vy : Value} {ox oy : Operand} {M : Foot} (hT : TabOk P T eqs) (hx : Rep w M ρ vx x) (hy : Rep w M ρ vy y) (hyv : ∀ v, oy = .const v → vy = v) (h : binX T eqs op t x oy y = some d) :
 (do eqGuard op t ox oy vx vy; binOp op t vx vy : Sem Value).run P w = .ok (outV d) w ∧ Rep w M ρ (outV d) d := by
 unfold binX at h
 split at h
 ·rename_i b hb
  cases h
  unfold nilCmp at hb
  split at hb
  ·rename_i n c
   have hvy := hyv _ rfl
   subst hvy
   split at hb
   ·rename_i e he
    obtain ⟨hu, _⟩ := zdb hT he
    split at hb
    ·obtain ⟨a, n', c', rfl, rfl⟩ := z2r hx hb
     refine ⟨?_, .imm _ _ (.bool _)⟩
     have := Lib.run_eql_slice_nil (P := P) w t e a n' c' n c hu
     simp [Sem.run_bind, eqGuard, this, outV]
    ·rw [Option.map_eq_some_iff] at hb
     obtain ⟨b', hb, rfl⟩ := hb
     obtain ⟨a, n', c', rfl, rfl⟩ := z2r hx hb
     refine ⟨?_, .imm _ _ (.bool _)⟩
     have := Lib.run_equalIn_slice_nil (P := P) w 9999 t e a n' c' n c hu
     simp [Sem.run_bind, eqGuard, binOp, Op.equal, Op.maxDepth, this, outV]
    ·cases hb
   ·cases hb
  ·cases hb
 ·exact qgd hT hx hy h

theorem qix {op : UnOp} {x d : D} {vx : Value} {M : Foot} (hx : Rep w M ρ vx x) (h : unD op x = some d) : ∃ v, (Op.unary op vx).run P w = .ok v w ∧ Rep w M ρ v d := by
 unfold unD at h
 split at h
 ·rename_i k n
  have e1 := hx.int_inv
  subst e1
  cases op <;> simp only [Option.some.injEq] at h <;> try cases h
  exact ⟨_, by simp [Op.unary, Op.intArith], .imm _ _ (.int _ _)⟩
 ·have e1 := hx.bool_inv
  subst e1
  cases op <;> simp only [Option.some.injEq] at h <;> try cases h
  exact ⟨_, by simp [Op.unary], .imm _ _ (.bool _)⟩
 ·cases h

theorem qdp {src dst : Nat} {k k' : IntKind} {n : Int} {vx : Value} {M : Foot} (hT : TabOk P T eqs) (hs : (T src).d.known = true) (hx : Rep w M ρ vx (.int k' n)) (ht : (T dst).d = .int k) :
 (convert src dst vx).run P w = .ok (.int k (k.wrap n)) w := by
 have e1 := hx.int_inv
 subst e1
 obtain ⟨d1, hd1, _⟩ := zg8 hT hs
 obtain ⟨d, hd, ho⟩ := zg8 hT (t := dst) (by rw [ht]; rfl)
 rw [ht] at ho
 cases d <;> simp [za0] at ho
 subst ho
 simp [convert, run_underlying hd1, run_underlying hd, Conv.intToInt]

theorem qgm {t : Nat} {e : Nat} {ty : Nat} {x d : D} {vx : Value} {M : Foot} (hT : TabOk P T eqs) (ht : (T t).d = .slice e) (hx : Rep w M ρ vx x) (h : lenD x = some d) :
 ∃ v, (Builtin.len_ #[t] ty #[vx]).run P w = .ok v w ∧ Rep w M ρ v d := by
 obtain ⟨hu, _⟩ := zdb hT ht
 have key : ∀ a n c, (Builtin.len_ #[t] ty #[Value.slice a n c]).run P w = .ok (.int .i64 (n : Int)) w := fun a n c => by
  simp [Builtin.len_, run_underlying hu, goInt]
 unfold lenD at h
 split at h
 ·cases h
  obtain ⟨a, rfl⟩ := hx.nil_inv
  exact ⟨_, key a 0 0, .imm _ _ (.int _ _)⟩
 ·cases h
  obtain ⟨a, cap, rfl, _⟩ := hx.zs_inv
  exact ⟨_, key a 0 cap, .imm _ _ (.int _ _)⟩
 ·cases h
  have hi := hx.sl_inv
  cases hi with
  | sl a len cap rows esz g off vals h1 h2 hr ha hc hv => exact ⟨_, key _ _ _, .imm _ _ (.int _ _)⟩
 ·cases h
  rcases hx.ref_inv with ⟨cap, g, base, n, rl, esz, rfl, _⟩ | ⟨a, rfl, _, _, rfl⟩
  ·exact ⟨_, key _ _ _, .imm _ _ (.int _ _)⟩
  ·exact ⟨_, key _ _ _, .imm _ _ (.int _ _)⟩
 ·cases h

theorem qfd {M : Foot} (f : Int → Int → Int) (op : Value → Value → Sem Value) (hop : ∀ k k' x y w, (op (.int k x) (.int k' y)).run P w = .ok (.int k (f x y)) w) :
 ∀ (ds : List D) (vs : List Value) (k : IntKind) (n : Int) (r : IntKind × Int), vs.length = ds.length → (∀ (i : Nat) (v : Value) (d : D), vs[i]? = some v → ds[i]? = some d → Rep w M ρ v d) →
   minF f k n ds = some r → (vs.foldlM op (.int k n)).run P w = .ok (.int r.1 r.2) w := by
 intro ds
 induction ds with
 | nil => intro vs k n r hl _ h; cases vs with | nil => simp [minF] at h; subst h; simp | cons => simp at hl
 | cons d ds ih =>
   intro vs k n r hl hr h
   cases vs with
   | nil => simp at hl
   | cons v vs =>
     have h0 := hr 0 v d rfl rfl
     cases d <;> simp only [minF] at h <;> try cases h
     rename_i k' m
     have e := h0.int_inv
     subst e
     simp only [List.foldlM_cons, Sem.run_bind, hop, Result.andThen_ok]
     exact ih vs k (f n m) r (by simpa using hl) (fun i v d hv hd => hr (i + 1) v d hv hd) h

theorem qac {M : Foot} (f : Int → Int → Int) (op : Value → Value → Sem Value) (hop : ∀ k k' x y w, (op (.int k x) (.int k' y)).run P w = .ok (.int k (f x y)) w)
 (ds : List D) (vs : List Value) (r : IntKind × Int) (hl : vs.length = ds.length) (hr : ∀ (i : Nat) (v : Value) (d : D), vs[i]? = some v → ds[i]? = some d → Rep w M ρ v d) (h : minL f ds = some r) :
 ∃ v rest, vs = v :: rest ∧ (rest.foldlM op v).run P w = .ok (.int r.1 r.2) w := by
 cases ds with
 | nil => cases h
 | cons d ds =>
   cases vs with
   | nil => simp at hl
   | cons v vs =>
     have h0 := hr 0 v d rfl rfl
     cases d <;> simp only [minL] at h <;> try cases h
     rename_i k n
     have e := h0.int_inv
     subst e
     exact ⟨_, _, rfl, qfd f op hop ds vs k n r (by simpa using hl) (fun i v d hv hd => hr (i + 1) v d hv hd) h⟩
end
end Go.AM
/- AM: the operations one by one (memory that is read). -/
namespace Go.AM
open Go.RowKit (Below)

section
variable {P : Program} {T : Tab} {eqs : List Nat} {M0 : Foot} {ρ : Nat → Loc} {bs bsE : List Blk} {w : World}

theorem RepI.drop {M : Foot} {g off : Nat} {cs : List D} (k : Nat) (h : RepI w M (.pointer (some ⟨g, off, none⟩)) (.mem cs)) : RepI w M (.pointer (some ⟨g, off + k, none⟩)) (.mem (cs.drop k)) := by
 cases h with
 | mem g off cs vals hc hv =>
   refine .mem g (off + k) (cs.drop k) (fun j => vals (k + j)) (fun j hj => ?_) (fun j d hd => ?_)
   ·have := hc (k + j) (by simp at hj; omega)
    rwa [← Nat.add_assoc] at this
   ·rw [List.getElem?_drop] at hd
    exact hv _ _ hd

theorem RepI.mem_addr {M : Foot} {v : Value} {cs : List D} (h : RepI w M v (.mem cs)) : ∃ g off, v = .pointer (some ⟨g, off, none⟩) := by
 cases h with
 | mem g off cs vals hc hv => exact ⟨g, off, rfl⟩

theorem RepI.mem_cell {M : Foot} {g off : Nat} {cs : List D} (h : RepI w M (.pointer (some ⟨g, off, none⟩)) (.mem cs)) (j : Nat) (d : D) (hd : cs[j]? = some d) :
 ∃ v, w.cell? ⟨g, off + j, none⟩ = some v ∧ RepI w M v d := by
 cases h with
 | mem g off cs vals hc hv =>
   exact ⟨_, (hc j (by rw [List.getElem?_eq_some_iff] at hd; exact hd.1)).2, hv j d hd⟩

theorem zzt {s f : Nat} {d d' : D} {v : Value} {M : Foot} (hT : TabOk P T eqs) (hv : Rep w M ρ v d) (h : zlg T s d f = some d') :
 ∃ v', (Instr.fieldAt s v f).run P w = .ok v' w ∧ Rep w M ρ v' d' := by
 unfold zlg at h
 split at h
 ·rename_i fs hs
  split at h
  ·rename_i off ft hf
   split at h
   ·cases h
   ·rename_i hz
    obtain ⟨fields, hu, hmap, hk⟩ := zr7 hT hs
    have hft : (T ft).d.known = true := hk (off, ft) (List.mem_of_getElem? hf)
    have hf' : ∃ fd, fields[f]? = some fd ∧ fd.offset = off ∧ fd.type = ft := by
     rw [← hmap, List.getElem?_map] at hf
     cases hx : fields.toList[f]? with
     | none => simp [hx] at hf
     | some fd =>
       simp [hx] at hf
       exact ⟨fd, by simpa using hx, hf.1, hf.2⟩
    obtain ⟨fd, hfd, rfl, rfl⟩ := hf'
    have hsz := zb4 (P := P) hT (w := w) hft
    split at h
    ·cases h
     obtain ⟨g, o, rfl⟩ := hv.mem_inv.mem_addr
     exact ⟨_, by simp [Instr.fieldAt, run_underlying hu, hfd, Instr.sureAddr, fieldPlace, hsz, hz, Addr.add_plain], .imm _ _ (hv.mem_inv.drop _)⟩
    ·cases h
     obtain ⟨g, base, n, rl, esz, rfl, hat⟩ := hv.ptr_inv
     refine ⟨_, by simp [Instr.fieldAt, run_underlying hu, hfd, Instr.sureAddr, fieldPlace, hsz, hz, Addr.add_plain]; rfl, ?_⟩
     rw [Nat.add_assoc]
     exact .ptr _ _ _ g base n rl esz hat
    ·cases h
  ·cases h
 ·cases h

theorem z6t {t off : Nat} {vs : Array Value} {cs : List D} {d : D} {M : Foot} (hT : TabOk P T eqs) (hk : (T t).d.known = true) (hs : vs.size = cs.length)
 (hv : ∀ (i : Nat) (v : Value) (d : D), vs[i]? = some v → cs[i]? = some d → Rep w M ρ v d) (h : partD T t cs off = some d) : ∃ v, (part t vs off).run P w = .ok v w ∧ Rep w M ρ v d := by
 have ha := zuo (P := P) hT (w := w) hk
 have hsz := zb4 (P := P) hT (w := w) hk
 unfold partD at h
 cases hg : (T t).d.agg with
 | true =>
   simp only [hg, if_true] at h
   split at h
   ·rename_i hle
    cases h
    refine ⟨_, by simp [part, ha, hg, hsz]; rfl, .agg _ _ (by simp; omega) fun i v d h1 h2 => ?_⟩
    rw [List.getElem?_take] at h2
    split at h2
    ·rename_i hlt
     rw [List.getElem?_drop] at h2
     refine hv (off + i) v d ?_ h2
     rw [Array.getElem?_extract] at h1
     split at h1
     ·exact h1
     ·cases h1
    ·cases h2
   ·cases h
 | false =>
   simp only [hg, Bool.false_eq_true, if_false] at h
   have hlt : off < vs.size := by rw [hs]; exact (List.getElem?_eq_some_iff.1 h).1
   have hx : vs[off]? = some vs[off] := by simp [hlt]
   exact ⟨vs[off], by simp [part, ha, hg, hx], hv off _ _ hx h⟩

theorem qc7 {s f : Nat} {d d' : D} {v : Value} {M : Foot} (hT : TabOk P T eqs) (hv : Rep w M ρ v d) (h : fieldD T s d f = some d') :
 ∃ v', (Instr.field s v f).run P w = .ok v' w ∧ Rep w M ρ v' d' := by
 unfold fieldD at h
 split at h
 ·rename_i fs hs
  split at h
  ·rename_i off ft hf
   split at h
   ·obtain ⟨fields, hu, hmap, hk⟩ := zr7 hT hs
    have hft : (T ft).d.known = true := hk (off, ft) (List.mem_of_getElem? hf)
    have hf' : ∃ fd, fields[f]? = some fd ∧ fd.offset = off ∧ fd.type = ft := by
     rw [← hmap, List.getElem?_map] at hf
     cases hx : fields.toList[f]? with
     | none => simp [hx] at hf
     | some fd =>
       simp [hx] at hf
       exact ⟨fd, by simpa using hx, hf.1, hf.2⟩
    obtain ⟨fd, hfd, rfl, rfl⟩ := hf'
    obtain ⟨vs, rfl, hs, hr⟩ := hv.agg_inv
    obtain ⟨v', hrun, hrep⟩ := z6t hT hft hs hr h
    exact ⟨v', by simp [Instr.field, run_underlying hu, hfd, asAgg, hrun], hrep⟩
   ·cases h
  ·cases h
 ·cases h

theorem qaz {t : Nat} {d d' : D} {v : Value} {k : IntKind} {i : Int} {M : Foot} (hT : TabOk P T eqs) (hv : Rep w M ρ v d) (h : indexD T t d i = some d') :
 ∃ v', (Instr.index t v (.int k i)).run P w = .ok v' w ∧ Rep w M ρ v' d' := by
 unfold indexD at h
 split at h
 ·rename_i n e ht
  obtain ⟨hu, hk⟩ := z4q hT ht
  split at h
  ·rename_i hi
   split at h
   ·obtain ⟨vs, rfl, hs, hr⟩ := hv.agg_inv
    obtain ⟨v', hrun, hrep⟩ := z6t hT hk hs hr h
    have hsz := zb4 (P := P) hT (w := w) hk
    exact ⟨v', by simp [Instr.index, asIntOf, run_underlying hu, hi, hsz, hrun], hrep⟩
   ·cases h
  ·cases h
 ·cases h

theorem zyl {t : Nat} {d d' : D} {v : Value} {k : IntKind} {i : Int} (hT : TabOk P T eqs) (hS : Store M0 ρ bs w) (hE : Ext bsE bs) (hv : Rep w (Mof M0 ρ bs) ρ v d) (h : zlj T bsE t d i = some d') :
 ∃ v', (Instr.indexAt t v (.int k i)).run P w = .ok v' w ∧ Rep w (Mof M0 ρ bs) ρ v' d' := by
 unfold zlj at h
 split at h
 ·rename_i e ht
  obtain ⟨hu, hk⟩ := zdb hT ht
  have hsz := zb4 (P := P) hT (w := w) hk
  split at h
  ·rename_i rows len
   split at h
   ·rename_i hi
    split at h
    ·rename_i r hr
     split at h
     ·rename_i hl
      cases h
      have hI := hv.sl_inv
      cases hI with
      | sl a _ cap _ esz g off vals h1 h2 hrow ha hc hvv =>
        have hmem : r ∈ rows := List.mem_of_getElem? hr
        have hne : rows ≠ [] := by intro h0; rw [h0] at hmem; cases hmem
        have ha' := ha hne
        subst ha'
        have hesz : esz = (T e).size := by rw [← hl]; exact (hrow r hmem).symm
        subst hesz
        refine ⟨_, by simp [Instr.indexAt, asIntOf, run_underlying hu, hi, hsz, Addr.add_plain]; rfl, .imm _ _ ?_⟩
        have hlt : i.toNat < rows.length := (List.getElem?_eq_some_iff.1 hr).1
        refine .mem g (off + i.toNat * (T e).size) r (fun j => vals i.toNat j) (fun j hj => ?_) (fun j d hd => hvv i.toNat j r d hr hd)
        exact hc i.toNat j hlt (by rw [← hl]; exact hj)
     ·cases h
    ·cases h
   ·cases h
  ·rename_i b off len
   split at h
   ·rename_i hi
    split at h
    ·rename_i kb hb
     split at h
     ·rename_i hesz
      cases h
      obtain ⟨kb', hb', hlike⟩ := hE b kb hb
      rcases hv.ref_inv with ⟨cap, g, base, n, rl, esz, rfl, hat, h1, h2, h3⟩ | ⟨a, rfl, _, _, rfl⟩
      ·have hA := hS.at_ b kb' g base n rl esz hb' hat
       have hz : esz = (T e).size := by rw [hA.hesz, hlike.esz, hesz]
       subst hz
       refine ⟨_, by simp [Instr.indexAt, asIntOf, run_underlying hu, hi, hsz, Addr.add_plain]; rfl, ?_⟩
       have : base + off * (T e).size + i.toNat * (T e).size = base + (off + i.toNat) * (T e).size + 0 := by rw [Nat.add_mul]; omega
       rw [this]
       exact .ptr _ _ _ g base n rl _ hat
      ·omega
     ·cases h
    ·cases h
   ·cases h
  ·cases h
 ·rename_i n e ht
  obtain ⟨hu, hk⟩ := z4q hT ht
  have hsz := zb4 (P := P) hT (w := w) hk
  split at h
  ·rename_i hi
   split at h
   ·cases h
    obtain ⟨g, o, rfl⟩ := hv.mem_inv.mem_addr
    exact ⟨_, by simp [Instr.indexAt, asIntOf, run_underlying hu, hi, hsz, Addr.add_plain, Instr.sureAddr], .imm _ _ (hv.mem_inv.drop _)⟩
   ·cases h
    obtain ⟨g, base, n, rl, esz, rfl, hat⟩ := hv.ptr_inv
    refine ⟨_, by simp [Instr.indexAt, asIntOf, run_underlying hu, hi, hsz, Addr.add_plain, Instr.sureAddr]; rfl, ?_⟩
    rw [Nat.add_assoc]
    exact .ptr _ _ _ g base n rl esz hat
   ·cases h
  ·cases h
 ·cases h

theorem Store.row_cells (hS : Store M0 ρ bs w) (hE : Ext bsE bs) {b g base n rl esz i j : Nat} {k : Blk} {r : List D} (hat : ρ b = .at_ g base n rl esz) (hb : bsE[b]? = some k) (hr : k.rows[i]? = some r) :
 ∀ (m : Nat) (d : D), (r.drop j)[m]? = some d → ∃ v, w.cell? ⟨g, base + i * esz + j + m, none⟩ = some v ∧ Rep w (Mof M0 ρ bs) ρ v d := by
 intro m d hd
 obtain ⟨k', hb', hlike⟩ := hE b k hb
 rw [List.getElem?_drop] at hd
 have := hS.cell (i := i) (j := j + m) hat hb' (by rw [hlike.rows]; exact hr) hd
 rwa [← Nat.add_assoc] at this

theorem qeh {t : Nat} {d d' : D} {v : Value} (hT : TabOk P T eqs) (hS : Store M0 ρ bs w) (hE : Ext bsE bs) (hv : Rep w (Mof M0 ρ bs) ρ v d)
 (h : loadD T bsE t d = some d') :
 ∃ v', (Instr.loadAt t v).run P w = .ok v' w ∧ Rep w (Mof M0 ρ bs) ρ v' d' := by
 cases d <;> simp only [loadD] at h <;> try cases h
 ·rename_i cs
  obtain ⟨g, o, rfl⟩ := hv.mem_inv.mem_addr
  obtain ⟨v', hrun, hrep⟩ := z6h hT (w := w) (M := Mof M0 ρ bs) (ρ := ρ) h (fun j d hd => by
   obtain ⟨u, hu, hr⟩ := hv.mem_inv.mem_cell j d hd
   exact ⟨u, hu, .imm _ _ hr⟩)
  exact ⟨v', by simp [Instr.loadAt, Instr.sureAddr, hrun], hrep⟩
 ·rename_i b i j
  split at h
  ·rename_i k hb
   split at h
   ·rename_i r hr
    obtain ⟨g, base, n, rl, esz, rfl, hat⟩ := hv.ptr_inv
    obtain ⟨v', hrun, hrep⟩ := z6h hT (w := w) (M := Mof M0 ρ bs) (ρ := ρ) h (hS.row_cells hE hat hb hr)
    exact ⟨v', by simp [Instr.loadAt, Instr.sureAddr, hrun], hrep⟩
   ·cases h
  ·cases h
end
end Go.AM
/- AM: slices of slices; what stays. -/
namespace Go.AM
open Go.RowKit (Below)

section
variable {P : Program} {T : Tab} {eqs : List Nat} {M0 : Foot} {ρ : Nat → Loc} {bs bsE : List Blk} {w : World}

theorem Store.stable (hS : Store M0 ρ bs w) {b g base n rl esz o : Nat} {k : Blk} (hb : bs[b]? = some k) (hat : ρ b = .at_ g base n rl esz) (hk : k.kind ≠ .box ∧ k.kind ≠ .mut) (ho : o < base + rl * esz) :
 ¬ Mof M0 ρ bs g o := by
 rintro (h | ⟨i, b', base', n', rl', esz', hi, hat', hk'⟩)
 ·exact hS.m0 b g _ _ _ _ hat o h
 ·have := hS.inj i b g _ _ _ _ _ _ _ _ hat' hat
  subst this
  rw [hat] at hat'
  cases hat'
  rw [hb] at hi
  cases hi
  rcases hk' with h | h | h
  ·exact hk.1 h
  ·exact hk.2 h
  ·omega

theorem Store.frz_ref (hS : Store M0 ρ bs w) {M' : Foot} (hp : Pres w (Mof M0 ρ bs) w M') {b off len : Nat} {k : Blk} {v : Value} (hb : bs[b]? = some k)
 (hst : ∀ g base n rl esz, ρ b = .at_ g base n rl esz → ∀ o, o < base + rl * esz → ¬ M' g o) (hbox : k.kind.isBox = false)
 (hv : Rep w (Mof M0 ρ bs) ρ v (.ref b off len)) : RepI w M' v (.sl (k.rows.drop off) len) := by
 rcases hv.ref_inv with ⟨cap, g, base, n, rl, esz, rfl, hat, h1, h2, h3⟩ | ⟨a, rfl, hvirt, rfl, rfl⟩
 ·have hA := hS.at_ b k g base n rl esz hb hat
  obtain ⟨arr, Ty, hg, hs, hc⟩ := hA.cells
  have hrl := hA.hrl
  refine .sl _ len cap _ esz g (base + off * esz) (fun i j => (arr[base + (off + i) * esz + j]?).getD Go.undef) (by simp; omega) (by simp; omega) (fun r hr => hA.hrow r (List.mem_of_mem_drop hr)) (fun _ => rfl) ?_ ?_
  ·intro i j hi hj
   have hi' : off + i < k.rows.length := by simp at hi; omega
   have hpos : base + off * esz + i * esz + j = base + (off + i) * esz + j := by rw [Nat.add_mul]; omega
   have hbound : base + (off + i) * esz + j < base + rl * esz := by
    have : (off + i + 1) * esz ≤ rl * esz := Nat.mul_le_mul_right _ (by omega)
    rw [Nat.add_mul (off + i) 1 esz] at this
    omega
   rw [hpos]
   refine ⟨hst _ _ _ _ _ hat _ hbound, ?_⟩
   have hrow : k.rows[off + i].length = esz := hA.hrow _ (List.getElem_mem hi')
   obtain ⟨u, hu, _⟩ := hc (off + i) j k.rows[off + i] (k.rows[off + i][j]'(by omega)) (by simp [hi']) (by simp)
   simp [World.cell?, hg, hu]
  ·intro i j r d hr hd
   rw [List.getElem?_drop] at hr
   obtain ⟨u, hu, hrep⟩ := hc (off + i) j r d hr hd
   simp only [hu, Option.getD_some]
   rw [if_neg (by simp [hbox])] at hrep
   exact hrep.move hp
 ·have := (hS.virt b k hb hvirt).1
  rw [this]
  exact .sl _ 0 0 _ 0 0 0 (fun _ _ => Go.undef) (by simp) (by simp) (by simp) (by simp) (by simp) (by simp)

def zli (w : World) (M : Foot) (ρ : Nat → Loc) : Option Value → Option D → Prop
 | none, none => True
 | some v, some d => Rep w M ρ v d
 | _, _ => False

theorem zuw {M : Foot} {x' : Option Value} {x : Option D} {dflt n : Int} (hx : zli w M ρ x' x) (h : za8 dflt x = some n) : (x' = none ∧ n = dflt) ∨ ∃ k, x' = some (.int k n) := by
 cases x' <;> cases x <;> simp only [zli] at hx
 ·simp [za8] at h; exact .inl ⟨rfl, h.symm⟩
 ·rename_i v d
  cases d <;> simp [za8] at h
  subst h
  rw [hx.int_inv]
  exact .inr ⟨_, rfl⟩

theorem zlw {M : Foot} {lo' hi' : Option Value} {lo hi : Option D} {len cap : Nat} {l h : Int} (hlo : zli w M ρ lo' lo) (hhi : zli w M ρ hi' hi) (h1 : za8 0 lo = some l) (h2 : za8 len hi = some h)
 (h3 : 0 ≤ l) (h4 : l ≤ h) (h5 : h ≤ cap) : (Instr.sliceBounds true len cap lo' hi' none).run P w = .ok (l.toNat, h.toNat, cap) w := by
 rcases zuw hlo h1 with ⟨rfl, rfl⟩ | ⟨k, rfl⟩ <;> rcases zuw hhi h2 with ⟨rfl, rfl⟩ | ⟨k', rfl⟩
 ·simp [Instr.sliceBounds]
 ·simp [Instr.sliceBounds, run_sliceBound _ k' h cap _ (by omega) h5]
 ·simp [Instr.sliceBounds, run_sliceBound _ k l len _ h3 (by omega)]
 ·have hh : (h.toNat : Int) = h := by omega
  simp [Instr.sliceBounds, run_sliceBound _ k' h cap _ (by omega) h5, run_sliceBound _ k l h.toNat _ h3 (by omega)]

theorem zpq {M : Foot} {lo' : Option Value} {lo : Option D} {kh km : IntKind} {len cap : Nat} {l h m : Int} (hlo : zli w M ρ lo' lo) (h1 : za8 0 lo = some l)
 (h3 : 0 ≤ l) (h4 : l ≤ h) (h5 : h ≤ m) (h6 : m ≤ cap) : (Instr.sliceBounds true len cap lo' (some (.int kh h)) (some (.int km m))).run P w = .ok (l.toNat, h.toNat, m.toNat) w := by
 rcases zuw hlo h1 with ⟨rfl, rfl⟩ | ⟨k, rfl⟩
 ·simp [Instr.sliceBounds, run_sliceBound _ km m cap _ (by omega) h6, run_sliceBound _ kh h m.toNat _ (by omega) (by omega)]
 ·simp [Instr.sliceBounds, run_sliceBound _ km m cap _ (by omega) h6, run_sliceBound _ kh h m.toNat _ (by omega) (by omega), run_sliceBound _ k l h.toNat _ h3 (by omega)]

theorem RepI.cut {M : Foot} {a : Option Addr} {len cap l h m : Nat} {rows : List (List D)} {sz : Nat} (hv : RepI w M (.slice a len cap) (.sl rows len)) (hl : l ≤ h) (hh : h ≤ m) (hm : m ≤ cap) (hr : h ≤ rows.length)
 (hall : ∀ r ∈ rows, r.length = sz) : RepI w M (.slice (if m = l then a else a.map (·.add (l * sz))) (h - l) (m - l)) (.sl ((rows.drop l).take (m - l)) (h - l)) := by
 cases hv with
 | sl _ _ _ _ esz g off vals h1 h2 hrow ha hc hvv =>
   refine .sl _ _ _ _ sz g (off + l * sz) (fun i j => vals (l + i) j) (by simp; omega) (by simp; omega) (fun r hx => hall r (List.mem_of_mem_drop (List.mem_of_mem_take hx))) ?_ ?_ ?_
   ·intro hne
    have hlt : l < rows.length ∧ l < m := by
     constructor
     ·rcases Nat.lt_or_ge l rows.length with h' | h'
      ·exact h'
      ·rw [List.drop_eq_nil_of_le h'] at hne; simp at hne
     ·rcases Nat.lt_or_ge l m with h' | h'
      ·exact h'
      ·rw [show m - l = 0 by omega] at hne; simp at hne
    rw [if_neg (by omega), ha (by intro h0; rw [h0] at hlt; simp at hlt)]
    simp [Addr.add_plain]
   ·intro i j hi hj
    have hi' : l + i < rows.length := by simp at hi; omega
    have hesz : esz = sz := by rw [← hall _ (List.getElem_mem hi'), hrow _ (List.getElem_mem hi')]
    subst hesz
    have := hc (l + i) j hi' hj
    rwa [show off + (l + i) * esz + j = off + l * esz + i * esz + j by rw [Nat.add_mul]; omega] at this
   ·intro i j r d hr' hd
    rw [List.getElem?_take] at hr'
    split at hr'
    ·rw [List.getElem?_drop] at hr'
     exact hvv (l + i) j r d hr' hd
    ·cases hr'

theorem qc0 {t : Nat} {d : D} {v : Value} {lo' hi' mx' : Option Value} {lo hi mx : Option D} {out : Out} (hT : TabOk P T eqs) (hS : Store M0 ρ bs w) (hE : Ext bsE bs)
 (hv : Rep w (Mof M0 ρ bs) ρ v d) (hlo : zli w (Mof M0 ρ bs) ρ lo' lo) (hhi : zli w (Mof M0 ρ bs) ρ hi' hi) (hmx : zli w (Mof M0 ρ bs) ρ mx' mx)
 (h : zjm T bsE t d lo hi mx = some out) (hdown : ∀ b ∈ out.down, ∀ k, bs[b]? = some k → k.kind ≠ .box ∧ k.kind ≠ .mut) :
 out.news = [] ∧ ∃ v', (Instr.sliceAt t v lo' hi' mx').run P w = .ok v' w ∧ Rep w (Mof M0 ρ bs) ρ v' out.d := by
 unfold zjm at h
 split at h
 ·rename_i e ht
  obtain ⟨hu, hk⟩ := zdb hT ht
  have hsz := zb4 (P := P) hT (w := w) hk
  cases mx with
  | none =>
    have hmx' : mx' = none := by cases mx' <;> simp [zli] at hmx ⊢
    subst hmx'
    simp only at h
    split at h
    ·-- nil
     obtain ⟨a, rfl⟩ := hv.nil_inv
     split at h
     ·rename_i l hh h1 h2
      split at h
      ·rename_i hc
       obtain ⟨rfl, rfl⟩ := hc
       cases h
       have hb := zlw (P := P) (len := 0) (cap := 0) hlo hhi h1 h2 (by omega) (by omega) (by omega)
       exact ⟨rfl, _, by simp [Instr.sliceAt, Instr.slice, run_underlying hu, hb, hsz], .imm _ _ (.nil a)⟩
      ·cases h
     ·cases h
    ·-- what stays
     rename_i rows len
     have hI := hv.sl_inv
     obtain ⟨a, cap, rfl, hcap⟩ : ∃ a cap, v = .slice a len cap ∧ rows.length ≤ cap := by cases hI with | sl a _ cap _ _ _ _ _ _ h2 => exact ⟨a, cap, rfl, h2⟩
     split at h
     ·rename_i l hh h1 h2
      split at h
      ·rename_i hc
       obtain ⟨h3, h4, h5⟩ := hc
       split at h
       ·rename_i hall
        cases h
        have hb := zlw (P := P) (len := len) (cap := cap) hlo hhi h1 h2 h3 h4 (by omega)
        refine ⟨rfl, _, by simp [Instr.sliceAt, Instr.slice, run_underlying hu, hb, hsz]; rfl, .imm _ _ ?_⟩
        have hcut := hI.cut (l := l.toNat) (h := hh.toNat) (m := cap) (by omega) (by omega) (by omega) (by omega) hall
        rw [List.take_of_length_le (by simp; omega)] at hcut
        rw [show (hh - l).toNat = hh.toNat - l.toNat by omega]
        exact hcut
       ·cases h
      ·cases h
     ·cases h
    ·-- an own block
     rename_i b off len
     split at h
     ·rename_i l hh k h1 h2 hb
      split at h
      ·rename_i hc
       obtain ⟨h3, h4, h5, h6⟩ := hc
       obtain ⟨k', hb', hlike⟩ := hE b k hb
       rcases hv.ref_inv with ⟨cap, g, base, n, rl, esz, rfl, hat, g1, g2, g3⟩ | ⟨a, rfl, hvirt, rfl, rfl⟩
       ·have hA := hS.at_ b k' g base n rl esz hb' hat
        have hz : esz = (T e).size := by rw [hA.hesz, hlike.esz, h6]
        have hrl : rl = k.rows.length := by rw [hA.hrl, hlike.rows]
        have hbr := zlw (P := P) (len := len) (cap := cap) hlo hhi h1 h2 h3 h4 (by omega)
        split at h
        ·rename_i hl0
         subst hl0
         cases h
         refine ⟨rfl, _, by simp [Instr.sliceAt, Instr.slice, run_underlying hu, hbr, hsz, Addr.add]; rfl, ?_⟩
         exact .ref b off hh.toNat cap g base n rl esz hat (by omega) g2 g3
        ·rename_i hl0
         split at h
         ·rename_i hlt
          cases h
          refine ⟨rfl, _, by simp [Instr.sliceAt, Instr.slice, run_underlying hu, hbr, hsz, Addr.add_plain, show cap ≠ l.toNat by omega]; rfl, ?_⟩
          rw [show (hh - l).toNat = hh.toNat - l.toNat by omega, ← hz, show base + off * esz + l.toNat * esz = base + (off + l.toNat) * esz by rw [Nat.add_mul]; omega]
          refine .ref b (off + l.toNat) (hh.toNat - l.toNat) (cap - l.toNat) g base n rl esz hat (by omega) (by omega) ?_
          rw [show off + l.toNat + (cap - l.toNat) = off + cap by omega]
          exact g3
         ·cases h
          refine ⟨rfl, _, by simp [Instr.sliceAt, Instr.slice, run_underlying hu, hbr, hsz]; rfl, .imm _ _ ?_⟩
          rw [show hh.toNat - l.toNat = 0 by omega]
          exact .sl _ 0 _ _ 0 0 0 (fun _ _ => Go.undef) (by simp) (by simp) (by simp) (by simp) (by simp) (by simp)
       ·have hrows := (hS.virt b k' hb' hvirt).1
        rw [hlike.rows] at hrows
        rw [hrows] at h5
        simp at h5
        obtain ⟨rfl, rfl⟩ : l = 0 ∧ hh = 0 := by omega
        have hbr := zlw (P := P) (len := 0) (cap := 0) hlo hhi h1 h2 h3 h4 (by omega)
        simp at h
        cases h
        exact ⟨rfl, _, by simp [Instr.sliceAt, Instr.slice, run_underlying hu, hbr, hsz], .refV b a hvirt⟩
      ·cases h
     ·cases h
    ·cases h
  | some m =>
    cases h1 : za8 0 lo with
    | none => simp [h1] at h
    | some l =>
     cases hi with
     | none => simp [h1] at h
     | some dh =>
      cases dh <;> simp only [h1] at h <;> try cases h
      rename_i kh hh
      cases m <;> simp only at h <;> try cases h
      rename_i km mm
      obtain ⟨vm, rfl⟩ : ∃ vm, mx' = some vm := by cases mx' <;> simp [zli] at hmx ⊢
      obtain ⟨vh, rfl⟩ : ∃ vh, hi' = some vh := by cases hi' <;> simp [zli] at hhi ⊢
      have e1 := Rep.int_inv (show Rep w _ ρ vm _ from hmx)
      have e2 := Rep.int_inv (show Rep w _ ρ vh _ from hhi)
      subst e1 e2
      split at h
      ·rename_i hc
       obtain ⟨h3, h4, h5⟩ := hc
       have imm : ∀ (rows : List (List D)) (a : Option Addr) (len cap : Nat), RepI w (Mof M0 ρ bs) (.slice a len cap) (.sl rows len) → rows.length ≤ cap → mm ≤ rows.length → (∀ r ∈ rows, r.length = (T e).size) →
        ∃ v', (Instr.sliceAt t (.slice a len cap) lo' (some (.int kh hh)) (some (.int km mm))).run P w = .ok v' w ∧
          RepI w (Mof M0 ρ bs) v' (.sl ((rows.drop l.toNat).take (mm - l).toNat) (hh - l).toNat) ∧ (mm = l → ∃ a, v' = .slice a 0 0) := by
        intro rows a len cap hI hcap hm hall
        have hb := zpq (P := P) (len := len) (cap := cap) (kh := kh) (km := km) hlo h1 h3 h4 h5 (by omega)
        refine ⟨_, by simp [Instr.sliceAt, Instr.slice, run_underlying hu, hb, hsz]; rfl, ?_, ?_⟩
        ·have hcut := hI.cut (l := l.toNat) (h := hh.toNat) (m := mm.toNat) (by omega) (by omega) (by omega) (by omega) hall
         rw [show (hh - l).toNat = hh.toNat - l.toNat by omega, show (mm - l).toNat = mm.toNat - l.toNat by omega]
         exact hcut
        ·intro he
         rw [show hh.toNat - l.toNat = 0 by omega, show mm.toNat - l.toNat = 0 by omega]
         exact ⟨_, rfl⟩
       have zero : ∀ (a : Option Addr) (len cap : Nat), mm ≤ cap → mm = l → ∃ v' a', (Instr.sliceAt t (.slice a len cap) lo' (some (.int kh hh)) (some (.int km mm))).run P w = .ok v' w ∧ v' = .slice a' 0 0 := by
        intro a len cap hm he
        have hb := zpq (P := P) (len := len) (cap := cap) (kh := kh) (km := km) hlo h1 h3 h4 h5 hm
        refine ⟨.slice (if mm.toNat = l.toNat then a else a.map (·.add (l.toNat * (T e).size))) 0 0, _, ?_, rfl⟩
        simp [Instr.sliceAt, Instr.slice, run_underlying hu, hb, hsz]
        omega
       split at h
       ·split at h
        ·rename_i hm0
         cases h
         obtain ⟨a, rfl⟩ := hv.nil_inv
         obtain ⟨v', a', hrun, rfl⟩ := zero a 0 0 (by omega) (by omega)
         exact ⟨rfl, _, hrun, .imm _ _ (.nil _)⟩
        ·cases h
       ·rename_i rows len
        have hI := hv.sl_inv
        obtain ⟨a, cap, rfl, hcap⟩ : ∃ a cap, v = .slice a len cap ∧ rows.length ≤ cap := by cases hI with | sl a _ cap _ _ _ _ _ _ h2 => exact ⟨a, cap, rfl, h2⟩
        split at h
        ·rename_i hm
         split at h
         ·rename_i he
          cases h
          obtain ⟨v', a', hrun, rfl⟩ := zero a len cap (by omega) he
          exact ⟨rfl, _, hrun, .imm _ _ (.nil _)⟩
         ·split at h
          ·rename_i hall
           cases h
           obtain ⟨v', hrun, hrep, _⟩ := imm rows a len cap hI hcap hm hall
           exact ⟨rfl, _, hrun, .imm _ _ hrep⟩
          ·cases h
        ·cases h
       ·rename_i b off len
        split at h
        ·rename_i k hb
         obtain ⟨k', hb', hlike⟩ := hE b k hb
         split at h
         ·rename_i hc
          obtain ⟨hm, hes, hbox⟩ := hc
          split at h
          ·rename_i he
           cases h
           rcases hv.ref_inv with ⟨cap, g, base, n, rl, esz, rfl, hat, g1, g2, g3⟩ | ⟨a, rfl, hvirt, rfl, rfl⟩
           ·have hA := hS.at_ b k' g base n rl esz hb' hat
            have hrl : rl = k.rows.length := by rw [hA.hrl, hlike.rows]
            obtain ⟨v', a', hrun, rfl⟩ := zero (some ⟨g, base + off * esz, none⟩) len cap (by omega) he
            exact ⟨rfl, _, hrun, .imm _ _ (.nil _)⟩
           ·have hrows := (hS.virt b k' hb' hvirt).1
            rw [hlike.rows] at hrows
            rw [hrows] at hm
            simp at hm
            obtain ⟨v', a', hrun, rfl⟩ := zero a 0 0 (by omega) he
            exact ⟨rfl, _, hrun, .imm _ _ (.nil _)⟩
          ·rename_i he
           cases h
           have hkk := hdown b (by simp) k' hb'
           have hI := hS.frz_ref (Pres.refl _ _) hb' (fun g base n rl esz hat o ho => hS.stable hb' hat hkk ho) (by rw [hlike.box]; exact hbox) hv
           rw [hlike.rows] at hI
           have hall : ∀ r ∈ k.rows.drop off, r.length = (T e).size := by
            intro r hr
            rcases hv.ref_inv with ⟨cap, g, base, n, rl, esz, rfl, hat, g1, g2, g3⟩ | ⟨a, rfl, hvirt, rfl, rfl⟩
            ·have hA := hS.at_ b k' g base n rl esz hb' hat
             rw [hA.hrow r (by rw [hlike.rows]; exact List.mem_of_mem_drop hr), hA.hesz, hlike.esz, hes]
            ·have hrows := (hS.virt b k' hb' hvirt).1
             rw [hlike.rows] at hrows
             rw [hrows] at hr
             simp at hr
           obtain ⟨a, cap, rfl, hcap⟩ : ∃ a cap, v = .slice a len cap ∧ (k.rows.drop off).length ≤ cap := by cases hI with | sl a _ cap _ _ _ _ _ _ h2 => exact ⟨a, cap, rfl, h2⟩
           obtain ⟨v', hrun, hrep, _⟩ := imm (k.rows.drop off) a len cap hI hcap (by simp; omega) hall
           rw [List.drop_drop] at hrep
           exact ⟨rfl, _, hrun, .imm _ _ hrep⟩
         ·cases h
        ·cases h
       ·cases h
      ·cases h
 ·cases h
end
end Go.AM
/- AM: what is frozen; what is built. -/
namespace Go.AM
open Go.RowKit (Below)

section
variable {P : Program} {T : Tab} {eqs : List Nat} {M0 : Foot} {ρ : Nat → Loc} {bs bsE : List Blk} {w : World}

def zrx (ρ : Nat → Loc) (M' : Foot) (b : Nat) : Prop := ∀ g base n rl esz, ρ b = .at_ g base n rl esz → ∀ o, o < base + rl * esz → ¬ M' g o

theorem zor {cs : List D} {d : D} {b : Nat} (hd : d ∈ cs) (hb : b ∈ d.ids) : b ∈ idsL cs := by
 induction cs with
 | nil => cases hd
 | cons c cs ih =>
   simp only [idsL, List.mem_append]
   cases hd with
   | head => exact .inl hb
   | tail _ h => exact .inr (ih h)

theorem RepI.freeze0 {M : Foot} {v : Value} {d : D} (h : RepI w M v d) (bsE : List Blk) : d.freeze0 bsE = d := by
 cases h <;> rfl

theorem Store.freeze0 (hS : Store M0 ρ bs w) (hE : Ext bsE bs) {M' : Foot} (hp : Pres w (Mof M0 ρ bs) w M') {v : Value} {d : D} (hv : Rep w (Mof M0 ρ bs) ρ v d) (hst : ∀ b ∈ d.ids, zrx ρ M' b) :
 RepI w M' v (d.freeze0 bsE) := by
 cases hv with
 | imm _ _ h => rw [h.freeze0]; exact h.move hp
 | ref b off len cap g base n rl esz hρ h1 h2 h3 =>
   simp only [D.freeze0, zpp]
   split
   ·rename_i k hb
    split
    ·exact .undef _
    ·rename_i hbox
     obtain ⟨k', hb', hlike⟩ := hE b k hb
     have := hS.frz_ref hp hb' (hst b (by simp [D.ids])) (by rw [hlike.box]; simpa using hbox) (.ref b off len cap g base n rl esz hρ h1 h2 h3)
     rwa [hlike.rows] at this
   ·exact .undef _
 | refV b a hρ =>
   simp only [D.freeze0, zpp]
   split
   ·rename_i k hb
    split
    ·exact .undef _
    ·rename_i hbox
     obtain ⟨k', hb', hlike⟩ := hE b k hb
     have := hS.frz_ref hp hb' (hst b (by simp [D.ids])) (by rw [hlike.box]; simpa using hbox) (.refV b a hρ)
     rwa [hlike.rows] at this
   ·exact .undef _
 | _ => exact .undef _

def zry : Nat → Loc := fun _ => .absent

theorem z9m {bs : List Blk} {b i : Nat} {k : Blk} {r : List D} {d : D} {x : Nat} (hb : bs[b]? = some k) (hr : k.rows[i]? = some r) (hd : d ∈ r) (hx : x ∈ d.ids) : x ∈ zrr bs b := by
 simp only [zrr, hb, List.mem_flatMap]
 exact ⟨r, List.mem_of_getElem? hr, zor hd hx⟩

theorem znq {bs : List Blk} {ids : List Nat} {b x : Nat} (hb : b ∈ ids) (hx : x = b ∨ x ∈ zrr bs b) : x ∈ reach bs ids := by
 simp only [reach, List.mem_append, List.mem_flatMap]
 rcases hx with rfl | hx
 ·exact .inl hb
 ·exact .inr ⟨b, hb, hx⟩

theorem Store.frzPtr (hS : Store M0 ρ bs w) (hE : Ext bsE bs) {M' : Foot} (hp : Pres w (Mof M0 ρ bs) w M') {v : Value} {b i j : Nat} (hv : Rep w (Mof M0 ρ bs) ρ v (.ptr b i j))
 (hst : ∀ x, x = b ∨ x ∈ zrr bsE b → zrx ρ M' x) : RepI w M' v (frzPtr bsE b i j) := by
 unfold AM.frzPtr
 split
 ·rename_i k hb
  split
  ·rename_i r hr
   obtain ⟨g, base, n, rl, esz, rfl, hat⟩ := hv.ptr_inv
   obtain ⟨k', hb', hlike⟩ := hE b k hb
   have hA := hS.at_ b k' g base n rl esz hb' hat
   obtain ⟨arr, Ty, hg, hs, hc⟩ := hA.cells
   have hlen : r.length = esz := hA.hrow r (by rw [hlike.rows]; exact List.mem_of_getElem? hr)
   have hi : i < rl := by rw [hA.hrl, hlike.rows]; exact (List.getElem?_eq_some_iff.1 hr).1
   refine .mem g (base + i * esz + j) _ (fun m => (arr[base + i * esz + j + m]?).getD Go.undef) (fun m hm => ?_) (fun m d hd => ?_)
   ·simp only [List.length_map, List.length_drop] at hm
    have hbound : base + i * esz + j + m < base + rl * esz := by
     have h1 : (i + 1) * esz ≤ rl * esz := Nat.mul_le_mul_right _ (by omega)
     rw [Nat.add_mul i 1 esz] at h1
     omega
    refine ⟨hst b (.inl rfl) _ _ _ _ _ hat _ hbound, ?_⟩
    obtain ⟨u, hu, _⟩ := hc i (j + m) r (r[j + m]'(by omega)) (by rw [hlike.rows]; exact hr) (by simp)
    rw [← Nat.add_assoc] at hu
    simp [World.cell?, hg, hu]
   ·rw [List.getElem?_map, List.getElem?_drop] at hd
    cases hx : r[j + m]? with
    | none => simp [hx] at hd
    | some d0 =>
      simp [hx] at hd
      subst hd
      obtain ⟨u, hu, hrep⟩ := hc i (j + m) r d0 (by rw [hlike.rows]; exact hr) hx
      rw [← Nat.add_assoc] at hu
      simp only [hu, Option.getD_some]
      refine hS.freeze0 hE hp ?_ (fun x hxx => hst x (.inr (z9m hb hr (List.mem_of_getElem? hx) hxx)))
      split at hrep
      ·exact hrep
      ·exact .imm _ _ hrep
  ·exact .undef _
 ·exact .undef _

theorem Store.freeze (hS : Store M0 ρ bs w) (hE : Ext bsE bs) {M' : Foot} (hp : Pres w (Mof M0 ρ bs) w M') {v : Value} {d : D} (hv : Rep w (Mof M0 ρ bs) ρ v d)
 (hst : ∀ x ∈ reach bsE d.ids, zrx ρ M' x) : Rep w M' zry v (d.freeze bsE) := by
 have lift : ∀ (vs : Array Value) (cs : List D), (∀ (i : Nat) (v : Value) (d : D), vs[i]? = some v → cs[i]? = some d → (∀ x ∈ reach bsE d.ids, zrx ρ M' x) → Rep w M' zry v (d.freeze bsE)) →
  (∀ x ∈ reach bsE (idsL cs), zrx ρ M' x) → ∀ (i : Nat) (v : Value) (d : D), vs[i]? = some v → (cs.map (D.freeze bsE))[i]? = some d → Rep w M' zry v d := by
  intro vs cs h hst i v d hv hd
  rw [List.getElem?_map] at hd
  cases hc : cs[i]? with
  | none => simp [hc] at hd
  | some d0 =>
    simp [hc] at hd
    subst hd
    refine h i v d0 hv hc fun x hx => hst x ?_
    simp only [reach, List.mem_append, List.mem_flatMap] at hx ⊢
    rcases hx with hx | ⟨b, hb, hx⟩
    ·exact .inl (zor (List.mem_of_getElem? hc) hx)
    ·exact .inr ⟨b, zor (List.mem_of_getElem? hc) hb, hx⟩
 have sub : ∀ {a b : List Nat}, (∀ x, x ∈ a → x ∈ b) → ∀ x, x ∈ reach bsE a → x ∈ reach bsE b := by
  intro a b h x hx
  simp only [reach, List.mem_append, List.mem_flatMap] at hx ⊢
  rcases hx with hx | ⟨y, hy, hx⟩
  ·exact .inl (h x hx)
  ·exact .inr ⟨y, h y hy, hx⟩
 unfold D.freeze at *
 induction hv with
 | imm v d h => rw [h.mapR]; exact .imm _ _ (h.move hp)
 | ref b off len cap g base n rl esz hρ h1 h2 h3 =>
   have := hS.freeze0 hE hp (.ref b off len cap g base n rl esz hρ h1 h2 h3) (fun x hx => hst x (znq hx (.inl rfl)))
   exact .imm _ _ this
 | refV b a hρ =>
   have := hS.freeze0 hE hp (.refV b a hρ) (fun x hx => hst x (znq hx (.inl rfl)))
   exact .imm _ _ this
 | ptr b i j g base n rl esz hρ =>
   exact .imm _ _ (hS.frzPtr hE hp (.ptr b i j g base n rl esz hρ) (fun x hx => hst x (znq (by simp [D.ids]) hx)))
 | agg vs cs hs _ ih => simp only [D.mapR, zlp]; exact .agg vs _ (by simpa using hs) (lift _ _ ih hst)
 | tup vs cs hs _ ih => simp only [D.mapR, zlp]; exact .tup vs _ (by simpa using hs) (lift _ _ ih hst)
 | fn f va vc a c ha hc _ _ ih1 ih2 =>
   simp only [D.mapR, zlp]
   exact .fn f va vc _ _ (by simpa using ha) (by simpa using hc) (lift _ _ ih1 fun x hx => hst x (sub (fun y hy => by simp [D.ids, hy]) x hx))
    (lift _ _ ih2 fun x hx => hst x (sub (fun y hy => by simp [D.ids, hy]) x hx))

theorem z62 (off : Nat) : ∀ (cs : List Value) (j0 : Nat) (arr : Array Value) (i : Nat), off + j0 + cs.length ≤ arr.size →
 ((cs.zipIdx j0).foldl (fun (a : Array Value) (p : Value × Nat) => a.setIfInBounds (off + p.2) p.1) arr)[i]? =
   if off + j0 ≤ i ∧ i < off + j0 + cs.length then cs[i - (off + j0)]? else arr[i]? := by
 intro cs
 induction cs with
 | nil => intro j0 arr i h; simp only [List.zipIdx_nil, List.foldl_nil]; rw [if_neg (by simp only [List.length_nil]; omega)]
 | cons c cs ih =>
   intro j0 arr i h
   simp only [List.length_cons] at h
   simp only [List.zipIdx_cons, List.foldl_cons]
   rw [ih (j0 + 1) _ i (by simp; omega)]
   by_cases h1 : off + (j0 + 1) ≤ i ∧ i < off + (j0 + 1) + cs.length
   ·rw [if_pos h1, if_pos (by simp only [List.length_cons]; omega), show i - (off + j0) = (i - (off + (j0 + 1))) + 1 by omega, List.getElem?_cons_succ]
   ·rw [if_neg h1]
    by_cases h2 : i = off + j0
    ·subst h2
     rw [if_pos (by simp only [List.length_cons]; omega), Array.getElem?_setIfInBounds_self_of_lt (by omega)]
     simp
    ·rw [if_neg (by simp only [List.length_cons]; omega), Array.getElem?_setIfInBounds_ne (by omega)]

theorem z26 (off : Nat) : ∀ (l : List (Value × Nat)) (arr : Array Value), (l.foldl (fun (a : Array Value) (p : Value × Nat) => a.setIfInBounds (off + p.2) p.1) arr).size = arr.size := by
 intro l
 induction l with
 | nil => intro arr; rfl
 | cons p l ih => intro arr; simp only [List.foldl_cons]; rw [ih]; simp

theorem zt3 (off : Nat) (vs arr : Array Value) : vs.zipIdx.foldl (fun cs (x : Value × Nat) => match x with | (c, j) => cs.setIfInBounds (off + j) c) arr =
 (vs.toList.zipIdx 0).foldl (fun (a : Array Value) (p : Value × Nat) => a.setIfInBounds (off + p.2) p.1) arr := by
 rw [← Array.foldl_toList]
 congr 1
 simp

theorem zr5 {cs new : List D} {off : Nat} (h : off + new.length ≤ cs.length) (i : Nat) : (zm0 cs off new)[i]? = if off ≤ i ∧ i < off + new.length then new[i - off]? else cs[i]? := by
 unfold zm0
 by_cases h1 : i < off
 ·rw [if_neg (by omega), List.append_assoc, List.getElem?_append_left (by simp; omega), List.getElem?_take_of_lt h1]
 ·by_cases h2 : i < off + new.length
  ·rw [if_pos ⟨by omega, h2⟩, List.append_assoc, List.getElem?_append_right (by simp; omega), List.getElem?_append_left (by simp; omega)]
   congr 1
   simp; omega
  ·rw [if_neg (by omega), List.getElem?_append_right (by simp; omega), List.getElem?_drop]
   congr 1
   simp; omega

theorem zl6 {cs new : List D} {off : Nat} (h : off + new.length ≤ cs.length) : (zm0 cs off new).length = cs.length := by
 simp [zm0]; omega

theorem z6q {M : Foot} {place : Nat → Option (Nat × Nat)} : ∀ (parts : List (Nat × Value)) (parts' : List (Nat × D)) (arr : Array Value) (cs cs' : List D),
 parts.length = parts'.length → (∀ (i : Nat) (p : Nat × Value) (p' : Nat × D), parts[i]? = some p → parts'[i]? = some p' → p.1 = p'.1 ∧ Rep w M ρ p.2 p'.2) →
 arr.size = cs.length → (∀ (i : Nat) (v : Value) (d : D), arr[i]? = some v → cs[i]? = some d → Rep w M ρ v d) → fillD place cs parts' = some cs' →
 ∃ arr', Instr.fill place arr parts = some arr' ∧ arr'.size = cs'.length ∧ ∀ (i : Nat) (v : Value) (d : D), arr'[i]? = some v → cs'[i]? = some d → Rep w M ρ v d := by
 intro parts
 induction parts with
 | nil =>
   intro parts' arr cs cs' hl _ hs hr h
   cases parts' with
   | nil => simp only [fillD, Option.some.injEq] at h; subst h; exact ⟨arr, rfl, hs, hr⟩
   | cons => simp at hl
 | cons p parts ih =>
   intro parts' arr cs cs' hl hp hs hr h
   cases parts' with
   | nil => simp at hl
   | cons p' parts' =>
     obtain ⟨i, v⟩ := p
     obtain ⟨i', d⟩ := p'
     have h0 := hp 0 (i, v) (i', d) rfl rfl
     have h01 : i = i' := h0.1
     subst h01
     have hrep : Rep w M ρ v d := h0.2
     clear h0
     simp only [fillD] at h
     split at h
     ·rename_i off size new hpl hcells
      split at h
      ·rename_i hc
       obtain ⟨hc1, hc2⟩ := hc
       obtain ⟨hvs, hvr⟩ := hrep.cells hcells
       have hfit : off + new.length ≤ cs.length := by omega
       have step := ih parts' (v.cells.zipIdx.foldl (fun cs (x : Value × Nat) => match x with | (c, j) => cs.setIfInBounds (off + j) c) arr) (zm0 cs off new) cs' (by simpa using hl)
        (fun k p p' h1 h2 => hp (k + 1) p p' h1 h2) (by rw [zt3, z26, zl6 hfit]; exact hs) (by
          intro k u e hu he
          rw [zt3, z62 off _ 0 arr k (by simp; omega)] at hu
          rw [zr5 hfit] at he
          simp only [Nat.add_zero, Array.length_toList, hvs] at hu
          split at hu
          ·rename_i hk
           rw [if_pos hk] at he
           exact hvr (k - off) u e (by simpa using hu) he
          ·rename_i hk
           rw [if_neg hk] at he
           exact hr k u e hu he) h
       obtain ⟨arr', hfill, hsz, hrr⟩ := step
       refine ⟨arr', ?_, hsz, hrr⟩
       simp only [Instr.fill, hpl]
       rw [if_neg (by simp; omega)]
       exact hfill
      ·cases h
     ·cases h
end
end Go.AM
/- AM: an operation that is no zdg and no call. -/
namespace Go.AM
open Go.RowKit (Below)

section
variable {P : Program} {T : Tab} {eqs : List Nat} {M0 : Foot} {ρ : Nat → Loc} {bs bsE : List Blk} {w : World}

theorem zip {ti : TyI} {z : Value} {M : Foot} (hz : zmy z.cells.toList = ti.zero) (hf : ti.zero.all D.flat = true) :
 z.cells.size = ti.zero.length ∧ ∀ (j : Nat) (v : Value) (d : D), z.cells[j]? = some v → ti.zero[j]? = some d → RepI w M v d := by
 rw [zrd] at hz
 refine ⟨by rw [← hz]; simp, fun j v d hv hd => ?_⟩
 have hfd : d.flat = true := by
  rw [List.all_eq_true] at hf
  exact hf d (List.mem_of_getElem? hd)
 rw [← hz, List.getElem?_map] at hd
 have : z.cells.toList[j]? = some v := by simpa using hv
 rw [this] at hd
 simp at hd
 subst hd
 exact z9r hfd

theorem zei {t : Nat} (hT : TabOk P T eqs) (hk : (T t).d.known = true) : ∃ z i, P.info? t = some i ∧ i.zero = some z ∧ i.bytes = (T t).bytes ∧ (∀ w, (zeroValue t).run P w = .ok z w) ∧ zmy z.cells.toList = (T t).zero ∧ (T t).zero.all D.flat = true ∧ (T t).zero.length = (T t).size ∧ i.size = (T t).size := by
 obtain ⟨i, z, hi, hz, hs, hb, hc, hf, hl⟩ := (hT.ty t hk).info
 exact ⟨z, i, hi, hz, hb, fun w => by simp [zeroValue, typeInfo, hi, hz], hc, hf, hl, hs⟩

def NewAt (M0 : Foot) (ρ : Nat → Loc) (bs : List Blk) (nb : Nat) (news : List Blk) : Prop := ∀ (k : Nat) (b : Blk), news[k]? = some b → ∃ b', bs[nb + k]? = some b' ∧ b.like b' ∧ ρ (nb + k) = .absent

theorem z6n (hS : Store M0 ρ bs w) (hm0 : ∀ g o, M0 g o → g < w.heap.size) {nb : Nat} {cs : List D} {k : Kind} (hk : k.isBox = true) (hn : NewAt M0 ρ bs nb [⟨[cs], cs.length, k⟩]) {cells : Array Value} {t : TypeId} (hs : cells.size = cs.length)
 (hr : ∀ (i : Nat) (v : Value) (d : D), cells[i]? = some v → cs[i]? = some d → Rep w (Mof M0 ρ bs) ρ v d) :
 ∃ ρ', Rep (w.alloc (.cells cells t)) (Mof M0 ρ' bs) ρ' (.pointer (some ⟨w.heap.size, 0, none⟩)) (.ptr nb 0 0) ∧ Grow M0 w ρ (w.alloc (.cells cells t)) ρ' bs nb 1 := by
 obtain ⟨b', hb', hlike, habs⟩ := hn 0 _ rfl
 rw [Nat.add_zero] at hb' habs
 have hg := hS.born (w' := w.alloc (.cells cells t)) (arr := cells) (T := t) (base := 0) (rl := 1) (esz := cs.length) hm0 hb' habs rfl rfl rfl rfl (by rw [hlike.rows]; rfl) (by rw [hlike.esz])
  (by rw [hlike.rows]; simp) (by omega) (by
    intro i j r d hi hj
    rw [hlike.rows] at hi
    cases i with
    | succ i => simp at hi
    | zero =>
      simp at hi
      subst hi
      have hlt : j < cells.size := by rw [hs]; exact (List.getElem?_eq_some_iff.1 hj).1
      refine ⟨cells[j], by simp [hlt], ?_⟩
      rw [if_pos (by rw [hlike.box]; exact hk)]
      exact hr j _ d (by simp [hlt]) hj)
 refine ⟨_, ?_, hg⟩
 have := Rep.ptr (w := w.alloc (.cells cells t)) (M := Mof M0 (updL ρ nb (.at_ w.heap.size 0 cells.size 1 cs.length)) bs) nb 0 0 w.heap.size 0 cells.size 1 cs.length (zbb ρ nb _)
 simpa using this

theorem ztt (hS : Store M0 ρ bs w) (hm0 : ∀ g o, M0 g o → g < w.heap.size) {nb : Nat} {rows : List (List D)} {esz : Nat} {k : Kind} (hk : k.isBox = false) (hn : NewAt M0 ρ bs nb [⟨rows, esz, k⟩]) (hrow : ∀ r ∈ rows, r.length = esz)
 {w' : World} {arr : Array Value} {t : TypeId} (hheap : w'.heap = w.heap.push (.cells arr t (0, 0))) (hos : w'.os = w.os) (htape : w'.tape = w.tape) (hout : w'.output = w.output) (hfit : rows.length * esz ≤ arr.size)
 (hr : ∀ (i j : Nat) (r : List D) (d : D), rows[i]? = some r → r[j]? = some d → ∃ v, arr[i * esz + j]? = some v ∧ RepI w (Mof M0 ρ bs) v d) {cap : Nat} (h1 : rows.length ≤ cap) (h2 : cap * esz ≤ arr.size) (len : Nat) (hlen : len ≤ rows.length) :
 ∃ ρ', Rep w' (Mof M0 ρ' bs) ρ' (.slice (some ⟨w.heap.size, 0, none⟩) len cap) (.ref nb 0 len) ∧ Grow M0 w ρ w' ρ' bs nb 1 := by
 obtain ⟨b', hb', hlike, habs⟩ := hn 0 _ rfl
 rw [Nat.add_zero] at hb' habs
 have hg := hS.born (w' := w') (arr := arr) (T := t) (base := 0) (rl := rows.length) (esz := esz) hm0 hb' habs hheap hos htape hout (by rw [hlike.rows]) (by rw [hlike.esz])
  (by rw [hlike.rows]; exact hrow) (by omega) (by
    intro i j r d hi hj
    rw [hlike.rows] at hi
    obtain ⟨v, hv, hrep⟩ := hr i j r d hi hj
    refine ⟨v, by rw [Nat.zero_add]; exact hv, ?_⟩
    rw [if_neg (by rw [hlike.box]; simp [hk])]
    exact hrep)
 refine ⟨_, ?_, hg⟩
 have := Rep.ref (w := w') (M := Mof M0 (updL ρ nb (.at_ w.heap.size 0 arr.size rows.length esz)) bs) nb 0 len cap w.heap.size 0 arr.size rows.length esz (zbb ρ nb _) (by omega) (by omega) (by simpa using h2)
 simpa using this

theorem D.cells_ids {d e : D} {new : List D} {x : Nat} (h : d.cells? = some new) (he : e ∈ new) (hx : x ∈ e.ids) : x ∈ d.ids := by
 cases d with
 | agg cs => cases h; exact zor he hx
 | undef => cases h
 | tup => cases h
 | _ => cases h; rw [List.mem_singleton.1 he] at hx; exact hx

def placeRow (esz : Nat) (i : Nat) : Option (Nat × Nat) := some (i * esz, esz)

theorem qe3 {M' : Foot} (hS : Store M0 ρ bs w) (hE : Ext bsE bs) (hp : Pres w (Mof M0 ρ bs) w M') {esz : Nat} : ∀ (parts : List (Nat × Value)) (parts' : List (Nat × D)) (arr : Array Value) (rows rows' : List (List D)),
 parts.length = parts'.length → (∀ (i : Nat) (p : Nat × Value) (p' : Nat × D), parts[i]? = some p → parts'[i]? = some p' → p.1 = p'.1 ∧ Rep w (Mof M0 ρ bs) ρ p.2 p'.2 ∧ ∀ x ∈ p'.2.ids, zrx ρ M' x) →
 arr.size = rows.length * esz → (∀ r ∈ rows, r.length = esz) → (∀ (i j : Nat) (r : List D) (d : D), rows[i]? = some r → r[j]? = some d → ∃ v, arr[i * esz + j]? = some v ∧ RepI w M' v d) → rowsD esz bsE rows parts' = some rows' →
 ∃ arr', Instr.fill (placeRow esz) arr parts = some arr' ∧ arr'.size = rows'.length * esz ∧ rows'.length = rows.length ∧ (∀ r ∈ rows', r.length = esz) ∧
   ∀ (i j : Nat) (r : List D) (d : D), rows'[i]? = some r → r[j]? = some d → ∃ v, arr'[i * esz + j]? = some v ∧ RepI w M' v d := by
 intro parts
 induction parts with
 | nil =>
   intro parts' arr rows rows' hl _ hs hrow hr h
   cases parts' with
   | nil => simp only [rowsD, Option.some.injEq] at h; subst h; exact ⟨arr, rfl, hs, rfl, hrow, hr⟩
   | cons => simp at hl
 | cons p parts ih =>
   intro parts' arr rows rows' hl hpr hs hrow hr h
   cases parts' with
   | nil => simp at hl
   | cons p' parts' =>
     obtain ⟨i, v⟩ := p
     obtain ⟨i', d⟩ := p'
     have h0 := hpr 0 (i, v) (i', d) rfl rfl
     have h01 : i = i' := h0.1
     subst h01
     have hrep : Rep w (Mof M0 ρ bs) ρ v d := h0.2.1
     have hids : ∀ x ∈ d.ids, zrx ρ M' x := h0.2.2
     clear h0
     simp only [rowsD] at h
     split at h
     ·rename_i new hcells
      split at h
      ·rename_i hc
       obtain ⟨hc1, hc2⟩ := hc
       obtain ⟨hvs, hvr⟩ := hrep.cells hcells
       have hsub : ∀ e ∈ new, ∀ x ∈ e.ids, x ∈ d.ids := fun e he x hx => D.cells_ids hcells he hx
       have hbound : i * esz + esz ≤ arr.size := by
        have : (i + 1) * esz ≤ rows.length * esz := Nat.mul_le_mul_right _ (by omega)
        rw [Nat.add_mul] at this
        omega
       have step := ih parts' (v.cells.zipIdx.foldl (fun cs (x : Value × Nat) => match x with | (c, j) => cs.setIfInBounds (i * esz + j) c) arr) (rows.set i (new.map (D.freeze0 bsE))) rows' (by simpa using hl)
        (fun k p p' h1 h2 => hpr (k + 1) p p' h1 h2) (by rw [zt3, z26]; simpa using hs) (by
          intro r hr'
          rcases List.mem_or_eq_of_mem_set hr' with h' | h'
          ·exact hrow r h'
          ·rw [h']; simpa using hc1) (by
          intro k j r e hk hj
          rw [zt3, z62 _ _ 0 arr _ (by simp; omega)]
          simp only [Nat.add_zero, Array.length_toList, hvs, hc1]
          by_cases hki : k = i
          ·subst hki
           rw [List.getElem?_set_self (by omega)] at hk
           cases hk
           have hj' : j < esz := by have := (List.getElem?_eq_some_iff.1 hj).1; simp at this; omega
           rw [if_pos ⟨by omega, by omega⟩, show k * esz + j - k * esz = j by omega]
           rw [List.getElem?_map] at hj
           cases hx : new[j]? with
           | none => simp [hx] at hj
           | some e0 =>
             simp [hx] at hj
             subst hj
             have hlt : j < v.cells.size := by omega
             refine ⟨v.cells[j], by simp [hlt], ?_⟩
             exact hS.freeze0 hE hp (hvr j _ e0 (by simp [hlt]) hx) (fun x hxx => hids x (hsub e0 (List.mem_of_getElem? hx) x hxx))
          ·rw [List.getElem?_set_ne (by omega)] at hk
           have hj' : j < esz := by have := (List.getElem?_eq_some_iff.1 hj).1; rw [hrow r (List.mem_of_getElem? hk)] at this; exact this
           rw [if_neg (by
            intro ⟨ha, hb⟩
            rcases Nat.lt_or_gt_of_ne hki with h' | h'
            ·have : (k + 1) * esz ≤ i * esz := Nat.mul_le_mul_right _ (by omega)
             rw [Nat.add_mul] at this
             omega
            ·have : (i + 1) * esz ≤ k * esz := Nat.mul_le_mul_right _ (by omega)
             rw [Nat.add_mul] at this
             omega)]
           exact hr k j r e hk hj) h
       obtain ⟨arr', hfill, hsz, hl', hrow', hrr⟩ := step
       refine ⟨arr', ?_, hsz, by rw [hl']; simp, hrow', hrr⟩
       simp only [Instr.fill, placeRow]
       rw [if_neg (by simp; omega)]
       exact hfill
      ·cases h
     ·cases h

theorem zio {M : Foot} {ti : TyI} {z : Value} {n : Nat} (hz : zmy z.cells.toList = ti.zero) (hf : ti.zero.all D.flat = true) (arr : Array Value)
 (harr : ∀ i j, i < n → j < ti.zero.length → arr[i * ti.zero.length + j]? = z.cells[j]?) :
 ∀ (i j : Nat) (r : List D) (d : D), (zas n ti.zero)[i]? = some r → r[j]? = some d → ∃ v, arr[i * ti.zero.length + j]? = some v ∧ RepI w M v d := by
 intro i j r d hi hj
 obtain ⟨hs, hr⟩ := zip (w := w) (M := M) hz hf
 have hlt : i < n := by have := (List.getElem?_eq_some_iff.1 hi).1; simpa [zas] using this
 have hr0 : r = ti.zero := by
  have := (List.getElem?_eq_some_iff.1 hi).2
  simp [zas] at this
  exact this.symm
 subst hr0
 have hjl := (List.getElem?_eq_some_iff.1 hj).1
 have hlt' : j < z.cells.size := by omega
 exact ⟨z.cells[j], by rw [harr i j hlt hjl]; simp [hlt'], hr j _ d (by simp [hlt']) hj⟩

end
end Go.AM
/- AM: an operation that is no zdg and no call does what opFn says. -/
namespace Go.AM
open Go.RowKit (Below)

section
variable {P : Program} {T : Tab} {eqs : List Nat} {M0 : Foot} {ρ : Nat → Loc} {bs bsE : List Blk} {w : World}

theorem zys {M : Foot} {ev' : Operand → Value} {ev : Operand → D} {x : Option Operand} (h : ∀ y, x = some y → Rep w M ρ (ev' y) (ev y)) : zli w M ρ (x.map ev') (x.map ev) := by
 cases x with
 | none => trivial
 | some y => exact h y rfl

theorem zjy {M : Foot} {ev' : Operand → Value} {ev : Operand → D} {xs : Array Operand} (h : ∀ y ∈ xs, Rep w M ρ (ev' y) (ev y)) :
 ∀ (i : Nat) (v : Value) (d : D), (xs.map ev')[i]? = some v → (xs.toList.map ev)[i]? = some d → Rep w M ρ v d := by
 intro i v d hv hd
 rw [Array.getElem?_map] at hv
 rw [List.getElem?_map] at hd
 cases hx : xs[i]? with
 | none => simp [hx] at hv
 | some y =>
   have hx' : xs.toList[i]? = some y := by simpa using hx
   simp [hx] at hv
   simp [hx'] at hd
   subst hv hd
   exact h y (Array.mem_of_getElem? hx)

theorem zuy {M : Foot} {ev' : Operand → Value} {ev : Operand → D} {ps : Array (Nat × Operand)} (h : ∀ y ∈ (ps.toList.map (·.2)), Rep w M ρ (ev' y) (ev y)) :
 ∀ (i : Nat) (p : Nat × Value) (p' : Nat × D), (ps.map fun (x : Nat × Operand) => match x with | (i, x) => (i, ev' x)).toList[i]? = some p → (ps.toList.map fun p => (p.1, ev p.2))[i]? = some p' → p.1 = p'.1 ∧ Rep w M ρ p.2 p'.2 ∧ ∃ q ∈ ps.toList, p'.2 = ev q.2 := by
 intro i p p' hp hp'
 rw [Array.toList_map, List.getElem?_map] at hp
 rw [List.getElem?_map] at hp'
 cases hx : ps.toList[i]? with
 | none => simp [hx] at hp
 | some y =>
   obtain ⟨n, y⟩ := y
   simp [hx] at hp hp'
   subst hp hp'
   exact ⟨rfl, h y (List.mem_map.2 ⟨(n, y), List.mem_of_getElem? hx, rfl⟩), (n, y), List.mem_of_getElem? hx, rfl⟩

theorem qae {t : Nat} {ev' : Operand → Value} {ev : Operand → D} {ps : Array (Nat × Operand)} {cs' : List D} {M : Foot} (hT : TabOk P T eqs) (hk : (T t).d.known = true) (h : ∀ y ∈ (ps.toList.map (·.2)), Rep w M ρ (ev' y) (ev y))
 (hb : (match (T t).d with
   | .struct fs => fillD (fun (i : Nat) => (fs[i]?).map fun (f : Nat × Nat) => (f.1, (T f.2).size)) (T t).zero (ps.toList.map fun p => (p.1, ev p.2))
   | .arr _ e => fillD (fun i => some (i * (T e).size, (T e).size)) (T t).zero (ps.toList.map fun p => (p.1, ev p.2))
   | _ => none) = some cs') :
 ∃ v, (Instr.build t (ps.map fun (i, x) => (i, ev' x))).run P w = .ok v w ∧ Rep w M ρ v (.agg cs') := by
 obtain ⟨z, i, hi, hz, _, hzr, hzc, hzf, hzl, _⟩ := zei hT hk
 obtain ⟨hzs, hzrep⟩ := zip (w := w) (M := M) hzc hzf
 split at hb
 ·rename_i fs hd
  obtain ⟨fields, hu, hmap, hkids⟩ := zr7 hT hd
  have hplaces : (fields.mapM fun f => (do pure (f.offset, ← sizeOf f.type) : Sem (Nat × Nat))).run P w = .ok (fields.map fun f => (f.offset, (T f.type).size)) w := by
   have key : ∀ (l : List Field), (∀ f ∈ l, (T f.type).d.known = true) → (l.mapM fun f => (do pure (f.offset, ← sizeOf f.type) : Sem (Nat × Nat))).run P w = .ok (l.map fun f => (f.offset, (T f.type).size)) w := by
    intro l
    induction l with
    | nil => intro _; simp
    | cons f l ih =>
      intro hl
      have h1 := zb4 (P := P) hT (w := w) (hl f (by simp))
      have h2 := ih fun g hg => hl g (List.mem_cons_of_mem _ hg)
      simp only [bind_pure_comp] at h2
      simp [List.mapM_cons, h1, h2]
   rw [Array.mapM_eq_mapM_toList]
   have := key fields.toList fun f hf => hkids (f.offset, f.type) (by rw [← hmap]; exact List.mem_map.2 ⟨f, hf, rfl⟩)
   simp only [Sem.run_map, this, Result.andThen_ok]
   congr 1
   apply Array.ext'
   simp
  obtain ⟨arr', hfill, hs', hr'⟩ := z6q (M := M) (place := fun (i : Nat) => (fs[i]?).map fun (f : Nat × Nat) => (f.1, (T f.2).size)) (ps.map fun (i, x) => (i, ev' x)).toList _ z.cells (T t).zero cs' (by simp) (fun i p p' h1 h2 => by
   have := zuy h i p p' h1 h2; exact ⟨this.1, this.2.1⟩) hzs (fun i v d h1 h2 => .imm _ _ (hzrep i v d h1 h2)) hb
  refine ⟨.agg arr', ?_, .agg _ _ hs' hr'⟩
  have hpl : (fun i => (fields.map fun f => (f.offset, (T f.type).size))[i]?) = fun (i : Nat) => (fs[i]?).map fun (f : Nat × Nat) => (f.1, (T f.2).size) := by
   funext i
   rw [← hmap]
   simp [Function.comp_def]
  simp only [Instr.build, Sem.run_bind, hzr, Result.andThen_ok, run_underlying hu, hplaces, hpl]
  simp only [hfill]
  rfl
 ·rename_i n e hd
  obtain ⟨hu, hke⟩ := z4q hT hd
  have hsz := zb4 (P := P) hT (w := w) hke
  obtain ⟨arr', hfill, hs', hr'⟩ := z6q (M := M) (place := fun i => some (i * (T e).size, (T e).size)) (ps.map fun (i, x) => (i, ev' x)).toList _ z.cells (T t).zero cs' (by simp) (fun i p p' h1 h2 => by
   have := zuy h i p p' h1 h2; exact ⟨this.1, this.2.1⟩) hzs (fun i v d h1 h2 => .imm _ _ (hzrep i v d h1 h2)) hb
  refine ⟨.agg arr', ?_, .agg _ _ hs' hr'⟩
  simp only [Instr.build, Sem.run_bind, hzr, Result.andThen_ok, run_underlying hu, hsz]
  simp only [hfill]
  rfl
 ·cases hb

theorem qgs {i j n : Nat} (h : j < n) : (i * n + j) % n = j := by
 rw [Nat.mul_comm, Nat.mul_add_mod]
 exact Nat.mod_eq_of_lt h

theorem zq0 {i j n m : Nat} (hi : i < m) (hj : j < n) : i * n + j < m * n := by
 have : (i + 1) * n ≤ m * n := Nat.mul_le_mul_right _ (by omega)
 rw [Nat.add_mul] at this
 omega

theorem zqk {z : Array Value} {n m : Nat} (hz : z.size = n) (arr : Array Value) (harr : arr = (Array.range (m * n)).map (fun i => z[i % z.size]!)) : ∀ i j, i < m → j < n → arr[i * n + j]? = z[j]? := by
 intro i j hi hj
 subst harr
 have hlt := zq0 hi hj
 simp only [Array.getElem?_map, Array.getElem?_range, hlt]
 simp [hz, qgs hj, hj]

theorem zww {t e len : Nat} {ev' : Operand → Value} {ev : Operand → D} {ps : Array (Nat × Operand)} {rows : List (List D)} {nb : Nat} (hT : TabOk P T eqs) (hS : Store M0 ρ bs w) (hm0 : ∀ g o, M0 g o → g < w.heap.size) (hE : Ext bsE bs)
 (hd : (T t).d = .slice e) (h : ∀ y ∈ (ps.toList.map (·.2)), Rep w (Mof M0 ρ bs) ρ (ev' y) (ev y)) (hlen : len * (T e).size ≤ 65536)
 (hb : rowsD (T e).size bsE (zas len (T e).zero) (ps.toList.map fun p => (p.1, ev p.2)) = some rows) (hn : NewAt M0 ρ bs nb [⟨rows, (T e).size, .mut⟩])
 (hdown : ∀ b ∈ ps.toList.flatMap (fun p => (ev p.2).ids), zrx ρ (Mof M0 ρ bs) b) :
 ∃ v w' ρ', (Instr.buildSlice t len (ps.map fun (i, x) => (i, ev' x))).run P w = .ok v w' ∧ Rep w' (Mof M0 ρ' bs) ρ' v (.ref nb 0 len) ∧ Grow M0 w ρ w' ρ' bs nb 1 := by
 obtain ⟨hu, hk⟩ := zdb hT hd
 have hsz := zb4 (P := P) hT (w := w) hk
 obtain ⟨z, i, hi, hz, _, hzr, hzc, hzf, hzl, _⟩ := zei hT hk
 obtain ⟨hzs, hzrep⟩ := zip (w := w) (M := Mof M0 ρ bs) hzc hzf
 generalize harr : (Array.range (len * (T e).size)).map (fun i => z.cells[i % z.cells.size]!) = arr0
 have hget := zqk (z := z.cells) (n := (T e).size) (m := len) (by rw [hzs, hzl]) arr0 harr.symm
 obtain ⟨arr', hfill, hs', hl', hrow', hr'⟩ := qe3 (M' := Mof M0 ρ bs) hS hE (Pres.refl _ _) (esz := (T e).size) (ps.map fun (i, x) => (i, ev' x)).toList _ arr0 (zas len (T e).zero) rows (by simp)
  (fun i p p' h1 h2 => by
    obtain ⟨a, b, q, hq, hqe⟩ := zuy h i p p' h1 h2
    exact ⟨a, b, fun x hx => hdown x (List.mem_flatMap.2 ⟨q, hq, by rw [← hqe]; exact hx⟩)⟩)
  (by subst harr; simp [zas]) (by intro r hr; simp [zas] at hr; rw [hr.2, hzl]) (by
    have := zio (w := w) (M := Mof M0 ρ bs) (n := len) hzc hzf arr0 (fun i j hi hj => by rw [hzl] at hj ⊢; exact hget i j hi hj)
    rwa [hzl] at this) hb
 have hlr : rows.length = len := by rw [hl']; simp [zas]
 have hfill0 : Instr.fill (fun i => some (i * (T e).size, (T e).size)) ((Array.range (len * (T e).size)).map (fun i => (if len * (T e).size = 0 then (#[] : Array Value) else z.cells)[i % (if len * (T e).size = 0 then (#[] : Array Value) else z.cells).size]!)) (ps.map fun (i, x) => (i, ev' x)).toList = some arr' := by
  by_cases h0 : len * (T e).size = 0
  ·have ha0 : arr0 = #[] := by rw [← harr, h0]; simp
   rw [ha0] at hfill
   have e0 : ∀ f : Nat → Value, (Array.range 0).map f = #[] := fun f => by simp
   simp only [h0, if_true, e0]
   exact hfill
  ·rw [if_neg h0, harr]
   exact hfill
 obtain ⟨ρ', hrep, hg⟩ := ztt (w' := w.alloc (.cells arr' e)) (arr := arr') (t := e) (cap := len) hS hm0 rfl hn hrow' rfl rfl rfl rfl (by rw [hs']; exact Nat.le_refl _) hr' (by omega) (by rw [hs', hlr]; exact Nat.le_refl _) len (by omega)
 refine ⟨_, _, ρ', ?_, hrep, hg⟩
 have h24 : ¬ len * (T e).size > 2 ^ 24 := by omega
 simp only [Instr.buildSlice, Sem.run_bind, run_underlying hu, Result.andThen_ok, hsz]
 rw [if_neg h24]
 by_cases h0 : len * (T e).size = 0
 ·simp only [h0, if_true] at hfill0 ⊢
  simp only [Sem.run_bind, Sem.run_pure, Result.andThen_ok, hfill0]
  simp [newRow]
 ·simp only [h0, if_false] at hfill0 ⊢
  simp only [Sem.run_bind, hzr, Sem.run_pure, Result.andThen_ok, hfill0]
  simp [newRow]
end
end Go.AM
/- AM: an operation that is no zdg and no call, in all. -/
namespace Go.AM
open Go.RowKit (Below)

section
variable {P : Program} {T : Tab} {eqs : List Nat} {M0 : Foot} {ρ : Nat → Loc} {bs bsE : List Blk} {w : World}

theorem zz1 {t e : Nat} {k k' : IntKind} {n m : Int} {nb : Nat} (hT : TabOk P T eqs) (hS : Store M0 ρ bs w) (hm0 : ∀ g o, M0 g o → g < w.heap.size)
 (hd : (T t).d = .slice e) (h1 : 0 ≤ n) (h2 : n ≤ m) (h3 : m * (T e).bytes ≤ 140737488355328) (h4 : m ≤ 9223372036854775807) (hn : NewAt M0 ρ bs nb [⟨zas m.toNat (T e).zero, (T e).size, .mut⟩]) :
 ∃ v w' ρ', (Instr.makeSlice t (.int k n) (.int k' m)).run P w = .ok v w' ∧ Rep w' (Mof M0 ρ' bs) ρ' v (.ref nb 0 n.toNat) ∧ Grow M0 w ρ w' ρ' bs nb 1 := by
 obtain ⟨hu, hk⟩ := zdb hT hd
 have hsz := zb4 (P := P) hT (w := w) hk
 obtain ⟨z, i, hi, hz, hib, hzr, hzc, hzf, hzl, his⟩ := zei hT hk
 obtain ⟨hzs, hzrep⟩ := zip (w := w) (M := Mof M0 ρ bs) hzc hzf
 have hwn : IntKind.i64.wrap n = n := IntWalk.i64_in n ⟨by omega, by omega⟩
 have hwm : IntKind.i64.wrap m = m := IntWalk.i64_in m ⟨by omega, by omega⟩
 generalize harr : (Array.range (m.toNat * (T e).size)).map (fun i => z.cells[i % z.cells.size]!) = arr0
 have hget := zqk (z := z.cells) (n := (T e).size) (m := m.toNat) (by rw [hzs, hzl]) arr0 harr.symm
 have hrep := zio (w := w) (M := Mof M0 ρ bs) (n := m.toNat) hzc hzf arr0 (fun i j hi hj => by rw [hzl] at hj ⊢; exact hget i j hi hj)
 rw [hzl] at hrep
 have hl : (zas m.toNat (T e).zero).length = m.toNat := by simp [zas]
 have hs0 : arr0.size = m.toNat * (T e).size := by rw [← harr]; simp
 obtain ⟨ρ', hrep', hg⟩ := ztt (w' := w.alloc (.cells arr0 e)) (arr := arr0) (t := e) (cap := m.toNat) hS hm0 rfl hn (by intro r hr; simp [zas] at hr; rw [hr.2, hzl]) rfl rfl rfl rfl
  (by rw [hl, hs0]; exact Nat.le_refl _) hrep (by omega) (by rw [hs0]; exact Nat.le_refl _) n.toNat (by omega)
 refine ⟨_, _, ρ', ?_, hrep', hg⟩
 have hb : ¬ ((T e).bytes * m > 2 ^ 48) := by rw [Int.mul_comm]; omega
 have harr' : ∀ zz : Array Value, (m.toNat * (T e).size = 0 ∨ zz = z.cells) → (Array.range (m.toNat * (T e).size)).map (fun i => zz[i % zz.size]!) = arr0 := by
  intro zz hh
  rcases hh with hh | hh
  ·rw [← harr, hh]; simp
  ·rw [hh, harr]
 unfold Instr.makeSlice
 simp only [Sem.run_bind, run_underlying hu, Result.andThen_ok, asInt, asIntOf, Sem.run_pure, typeInfo, run_program, hi, hwn, hwm, hib, hsz]
 have hc : ((decide (m < 0) || decide ((T e).bytes * m > 2 ^ 48) || decide (n < 0) || decide (n > m)) = false) := by
  simp; omega
 rw [if_neg (by rw [hc]; simp)]
 simp only [Sem.run_bind, run_askRoom, Result.andThen_ok, hsz]
 by_cases h0 : m.toNat * (T e).size = 0
 ·rw [if_pos h0]
  simp only [Sem.run_bind, Sem.run_pure, Result.andThen_ok]
  rw [harr' _ (.inl h0)]
  simp [newRow]
 ·rw [if_neg h0]
  simp only [Sem.run_bind, hzr, Sem.run_pure, Result.andThen_ok]
  rw [harr' _ (.inr rfl)]
  simp [newRow]

theorem zh2 {o : Oper} {ev' : Operand → Value} {d : D} {v : Value} {nb : Nat} {news : List Blk} (hS : Store M0 ρ bs w) (hrun : (execOp ev' o).run P w = .ok (.value v) w) (hrep : Rep w (Mof M0 ρ bs) ρ v d) :
 ∃ v w' ρ', (execOp ev' o).run P w = .ok (.value v) w' ∧ Rep w' (Mof M0 ρ' bs) ρ' v d ∧ Grow M0 w ρ w' ρ' bs nb news.length :=
 ⟨v, w, ρ, hrun, hrep, .refl hS⟩

theorem zex {α β : Type} {f : α → β} {x : Option α} {y : β} (h : x.map f = some y) : ∃ a, x = some a ∧ f a = y := by
 cases x with
 | none => cases h
 | some a => exact ⟨a, rfl, by simpa using h⟩

theorem z70 {ev' : Operand → Value} {ev : Operand → D} {o : Oper} {out : Out} {nb : Nat} (hT : TabOk P T eqs) (hS : Store M0 ρ bs w) (hm0 : ∀ g o, M0 g o → g < w.heap.size) (hE : Ext bsE bs)
 (hcv : ∀ v, ev' (.const v) = v) (hops : ∀ x ∈ o.op.operands, Rep w (Mof M0 ρ bs) ρ (ev' x) (ev x)) (h : opFn T eqs nb bsE ev o.type o.op = some out) (hn : NewAt M0 ρ bs nb out.news)
 (hdown : ∀ b ∈ out.down, ∀ k, bs[b]? = some k → k.kind ≠ .box ∧ k.kind ≠ .mut) :
 ∃ v w' ρ', (execOp ev' o).run P w = .ok (.value v) w' ∧ Rep w' (Mof M0 ρ' bs) ρ' v out.d ∧ Grow M0 w ρ w' ρ' bs nb out.news.length := by
 have hstill : ∀ b ∈ out.down, zrx ρ (Mof M0 ρ bs) b := by
  intro b hb g base n rl esz hat o ho
  have hlt : b < bs.length := by
   rcases Nat.lt_or_ge b bs.length with h' | h'
   ·exact h'
   ·have := hS.out b h'
    rw [this] at hat
    cases hat
  exact hS.stable (by simp [hlt]) hat (hdown b hb bs[b] (by simp [hlt])) ho
 obtain ⟨dst, op, ty, pos, after, guard⟩ := o
 cases op <;> simp only [opFn, Op.operands] at h hops <;> try (cases h; done)
 case move x => cases h; exact zh2 hS (by simp [execOp]) (hops x (by simp))
 case assign x =>
  have plain : out = { d := ev x } → ∃ v w' ρ', (execOp ev' ⟨dst, .assign x, ty, pos, after, guard⟩).run P w = .ok (.value v) w' ∧ Rep w' (Mof M0 ρ' bs) ρ' v out.d ∧ Grow M0 w ρ w' ρ' bs nb out.news.length := by
   rintro rfl
   exact zh2 hS (by simp [execOp]) (hops x (by simp))
  split at h
  ·split at h
   ·rename_i e ht
    cases h
    obtain ⟨b', hb', hlike, habs⟩ := hn 0 _ rfl
    rw [Nat.add_zero] at hb' habs
    have hg := hS.bornV hb' habs hlike.rows hlike.box
    refine ⟨.slice none 0 0, w, _, by simp [execOp, hcv], .refV nb none (zbb ρ nb _), hg⟩
   ·exact plain (Option.some.inj h).symm
  ·exact plain (Option.some.inj h).symm
 case pick c a b =>
  split at h
  ·rename_i x hx
   cases h
   have hc := hops c (by simp)
   rw [hx] at hc
   have := hc.bool_inv
   cases x
   ·exact zh2 hS (by simp [execOp, this, asBool]) (hops b (by simp))
   ·exact zh2 hS (by simp [execOp, this, asBool]) (hops a (by simp))
  ·cases h
 case alloc e =>
  split at h
  ·rename_i hk
   cases h
   obtain ⟨z, i, hi, hz, _, hzr, hzc, hzf, hzl, _⟩ := zei hT hk
   obtain ⟨hzs, hzrep⟩ := zip (w := w) (M := Mof M0 ρ bs) hzc hzf
   obtain ⟨ρ', hrep, hg⟩ := z6n hS hm0 (k := .box) rfl hn (cells := z.cells) (t := e) hzs (fun i v d h1 h2 => .imm _ _ (hzrep i v d h1 h2))
   exact ⟨_, _, ρ', by simp [execOp, Instr.alloc, hzr, newVar, newRow], hrep, hg⟩
  ·cases h
 case box e x =>
  split at h
  ·rename_i cs hc
   cases h
   obtain ⟨hs, hr⟩ := (hops x (by simp)).cells hc
   obtain ⟨ρ', hrep, hg⟩ := z6n hS hm0 (k := .box) rfl hn (cells := (ev' x).cells) (t := e) hs hr
   exact ⟨_, _, ρ', by simp [execOp, Instr.box, newVar, newRow], hrep, hg⟩
  ·cases h
 case build t ps =>
  have hops' : ∀ y ∈ ps.toList.map (·.2), Rep w (Mof M0 ρ bs) ρ (ev' y) (ev y) := fun y hy => hops y (by simpa using hy)
  have hcs : ∃ cs', (match (T t).d with
   | .struct fs => fillD (fun (i : Nat) => (fs[i]?).map fun (f : Nat × Nat) => (f.1, (T f.2).size)) (T t).zero (ps.toList.map fun p => (p.1, ev p.2))
   | .arr _ e => fillD (fun i => some (i * (T e).size, (T e).size)) (T t).zero (ps.toList.map fun p => (p.1, ev p.2))
   | _ => none) = some cs' ∧ out = { d := .agg cs' } ∧ (T t).d.known = true := by
   cases hd : (T t).d <;> simp only [hd] at h ⊢ <;> try (cases h; done)
   ·obtain ⟨cs', h1, rfl⟩ := zex h
    exact ⟨cs', h1, rfl, rfl⟩
   ·obtain ⟨cs', h1, rfl⟩ := zex h
    exact ⟨cs', h1, rfl, rfl⟩
  obtain ⟨cs', hcs', rfl, hk⟩ := hcs
  obtain ⟨v, hrun, hrep⟩ := qae hT hk hops' hcs'
  exact zh2 hS (by simp only [execOp, Sem.run_bind, hrun, Result.andThen_ok]; rfl) hrep
 case buildSlice t len ps =>
  have hops' : ∀ y ∈ ps.toList.map (·.2), Rep w (Mof M0 ρ bs) ρ (ev' y) (ev y) := fun y hy => hops y (by simpa using hy)
  split at h
  ·rename_i e hd
   split at h
   ·rename_i hc
    obtain ⟨rows, hrows, rfl⟩ := zex h
    obtain ⟨v, w', ρ', hrun, hrep, hg⟩ := zww hT hS hm0 hE hd hops' hc.1 hrows hn (fun b hb => hstill b (znq hb (.inl rfl)))
    exact ⟨v, w', ρ', by simp only [execOp, Sem.run_bind, hrun, Result.andThen_ok]; rfl, hrep, hg⟩
   ·cases h
  ·cases h
 case load t a =>
  obtain ⟨d, hd, rfl⟩ := zex h
  obtain ⟨v, hrun, hrep⟩ := qeh hT hS hE (hops a (by simp)) hd
  exact zh2 hS (by simp [execOp, hrun]) hrep
 case nilCheck x =>
  have hx := hops x (by simp)
  split at h
  ·rename_i cs he
   cases h
   rw [he] at hx
   obtain ⟨g, off, hv⟩ := hx.mem_inv.mem_addr
   exact zh2 hS (v := ev' x) (by simp [execOp, hv]) hx
  ·rename_i b i j he
   cases h
   rw [he] at hx
   obtain ⟨g, base, n, rl, esz, hv, _⟩ := hx.ptr_inv
   exact zh2 hS (v := ev' x) (by simp [execOp, hv]) hx
  ·rename_i f a c he
   cases h
   rw [he] at hx
   obtain ⟨va, vc, hv, _⟩ := hx.fn_inv
   exact zh2 hS (v := ev' x) (by simp [execOp, hv]) hx
  ·cases h
 case binOp op t x y yt =>
  obtain ⟨d, hd, rfl⟩ := zex h
  obtain ⟨hrun, hrep⟩ := qfh (P := P) (ox := x) (oy := y) hT (hops x (by simp)) (hops y (by simp)) (fun v e => by rw [e]; exact hcv v) hd
  exact zh2 hS (by simp only [execOp]; rw [Sem.run_bind, hrun]; rfl) hrep
 case unOp op t x =>
  obtain ⟨d, hd, rfl⟩ := zex h
  obtain ⟨v, hrun, hrep⟩ := qix (P := P) (hops x (by simp)) hd
  exact zh2 hS (by simp [execOp, hrun]) hrep
 case convert src t x =>
  split at h
  ·rename_i k k' n hk ht hx
   cases h
   have hr := hops x (by simp)
   rw [hx] at hr
   exact zh2 hS (by simp [execOp, qdp hT hk hr ht]) (.imm _ _ (.int _ _))
  ·cases h
 case makeFunc fn first caps =>
  cases fn <;> simp only at h <;> try (cases h; done)
  rename_i f
  cases h
  refine zh2 hS (v := .func (.func f) (first.map ev') (caps.map ev')) (by simp [execOp, Instr.makeFunc]) ?_
  exact .fn f _ _ _ _ (by simp) (by simp) (zjy fun y hy => hops y (by simp [hy])) (zjy fun y hy => hops y (by simp [hy]))
 case makeSlice t l c =>
  split at h
  ·rename_i e k n k' m hd hl hc
   split at h
   ·rename_i hcond
    cases h
    obtain ⟨h1, h2, h3, h4, h5⟩ := hcond
    have hrl := hops l (by simp)
    have hrc := hops c (by simp)
    rw [hl] at hrl
    rw [hc] at hrc
    obtain ⟨v, w', ρ', hrun, hrep, hg⟩ := zz1 (k := k) (k' := k') hT hS hm0 hd h1 h2 h3 h4 hn
    exact ⟨v, w', ρ', by simp [execOp, hrl.int_inv, hrc.int_inv, hrun], hrep, hg⟩
   ·cases h
  ·cases h
 case slice t x lo hi mx =>
  obtain ⟨hnews, v, hrun, hrep⟩ := qc0 hT hS hE (hops x (by simp)) (zys fun y hy => hops y (by simp [hy])) (zys fun y hy => hops y (by simp [hy])) (zys fun y hy => hops y (by simp [hy])) h hdown
  exact zh2 hS (by simp [execOp, hrun]) hrep
 case fieldAddr s x f =>
  obtain ⟨d, hd, rfl⟩ := zex h
  obtain ⟨v, hrun, hrep⟩ := zzt (P := P) hT (hops x (by simp)) hd
  exact zh2 hS (by simp [execOp, hrun]) hrep
 case field s x f =>
  obtain ⟨d, hd, rfl⟩ := zex h
  obtain ⟨v, hrun, hrep⟩ := qc7 (P := P) hT (hops x (by simp)) hd
  exact zh2 hS (by simp [execOp, hrun]) hrep
 case indexAddr t x i =>
  split at h
  ·rename_i k n hi
   obtain ⟨d, hd, rfl⟩ := zex h
   have hri := hops i (by simp)
   rw [hi] at hri
   obtain ⟨v, hrun, hrep⟩ := zyl (P := P) (k := k) hT hS hE (hops x (by simp)) hd
   exact zh2 hS (by simp [execOp, hri.int_inv, hrun]) hrep
  ·cases h
 case index t x i =>
  split at h
  ·rename_i k n hi
   obtain ⟨d, hd, rfl⟩ := zex h
   have hri := hops i (by simp)
   rw [hi] at hri
   obtain ⟨v, hrun, hrep⟩ := qaz (P := P) (k := k) hT (hops x (by simp)) hd
   exact zh2 hS (by simp [execOp, hri.int_inv, hrun]) hrep
  ·cases h
 case extract x n =>
  split at h
  ·rename_i vs hx
   obtain ⟨d, hd, rfl⟩ := zex h
   have hr := hops x (by simp)
   rw [hx] at hr
   obtain ⟨us, hu, hs, hrr⟩ := hr.tup_inv
   have hlt : n < us.size := by rw [hs]; exact (List.getElem?_eq_some_iff.1 hd).1
   have hg : us[n]? = some us[n] := by simp [hlt]
   exact zh2 hS (by simp [execOp, Instr.extract, hu, hg]) (hrr n _ d hg hd)
  ·cases h
 case call c =>
  obtain ⟨callee, args, argTypes⟩ := c
  simp only [Call.operands] at hops
  cases callee <;> simp only at h <;> try (cases h; done)
  rename_i b
  have hargs : ∀ y ∈ args, Rep w (Mof M0 ρ bs) ρ (ev' y) (ev y) := fun y hy => hops y (by simp [hy])
  cases b <;> simp only at h <;> try (cases h; done)
  case len =>
   split at h
   ·rename_i x t hx ht
    split at h
    ·rename_i e hd
     obtain ⟨d, hdd, rfl⟩ := zex h
     have ha : args = #[x] := Array.toList_inj.1 (by simpa using hx)
     have hat : argTypes = #[t] := Array.toList_inj.1 (by simpa using ht)
     subst ha hat
     obtain ⟨v, hrun, hrep⟩ := qgm (P := P) (ty := ty) hT hd (hargs x (by simp)) hdd
     exact zh2 hS (by simp [execOp, resolve, invoke, builtin, hrun]) hrep
    ·cases h
   ·cases h
  case min =>
   obtain ⟨r, hr, rfl⟩ := zex h
   obtain ⟨v, rest, hv, hrun⟩ := qac (P := P) (w := w) (M := Mof M0 ρ bs) (ρ := ρ) _ Builtin.min2 (fun k k' x y w => by simp [Builtin.min2]) _ (args.map ev').toList r (by simp) (fun i v d h1 h2 => zjy hargs i v d (by simpa using h1) h2) hr
   have hv' : args.toList.map ev' = v :: rest := by simpa using hv
   refine zh2 hS (v := .int r.1 r.2) ?_ (.imm _ _ (.int _ _))
   simp [execOp, resolve, invoke, builtin, Builtin.min_, hv', hrun]
  case max =>
   obtain ⟨r, hr, rfl⟩ := zex h
   obtain ⟨v, rest, hv, hrun⟩ := qac (P := P) (w := w) (M := Mof M0 ρ bs) (ρ := ρ) _ Builtin.max2 (fun k k' x y w => by simp [Builtin.max2]) _ (args.map ev').toList r (by simp) (fun i v d h1 h2 => zjy hargs i v d (by simpa using h1) h2) hr
   have hv' : args.toList.map ev' = v :: rest := by simpa using hv
   refine zh2 hS (v := .int r.1 r.2) ?_ (.imm _ _ (.int _ _))
   simp [execOp, resolve, invoke, builtin, Builtin.max_, hv', hrun]
end
end Go.AM
/- AM: a call that is lent nothing; whatever is no zdg. -/
namespace Go.AM
open Go.RowKit (Below)

section
variable {P : Program} {T : Tab} {eqs : List Nat} {M0 : Foot} {ρ : Nat → Loc} {bs bsE : List Blk} {w : World}

theorem zea (ids : List Nat) (bs : List Blk) (i : Nat) : (zar ids bs)[i]? = (bs[i]?).map fun b => if ids.contains i then { b with kind := b.kind.down } else b := by
 simp only [zar, List.getElem?_mapIdx]

theorem Kind.down_isBox (k : Kind) : k.down.isBox = k.isBox := by cases k <;> rfl
theorem Kind.down_box (k : Kind) : k.down ≠ .box ∧ k.down ≠ .mut := by cases k <;> exact ⟨by simp [Kind.down], by simp [Kind.down]⟩
theorem Kind.down_id {k : Kind} (h : k ≠ .box ∧ k ≠ .mut) : k.down = k := by cases k <;> first | rfl | exact absurd rfl h.1 | exact absurd rfl h.2

theorem ze3 {ids : List Nat} {bs : List Blk} {i : Nat} {b' : Blk} (h : (zar ids bs)[i]? = some b') : ∃ b, bs[i]? = some b ∧ b.like b' := by
 rw [zea] at h
 cases hb : bs[i]? with
 | none => simp [hb] at h
 | some b =>
   simp only [hb, Option.map_some, Option.some.injEq] at h
   refine ⟨b, rfl, ?_⟩
   split at h
   ·subst h; exact ⟨rfl, rfl, Kind.down_isBox _, .inr rfl⟩
   ·subst h; exact .refl b

theorem zow (ids : List Nat) (bs : List Blk) : Ext bs (zar ids bs) := by
 intro i k h
 have := zea ids bs i
 rw [h] at this
 obtain ⟨b, hb, hl⟩ := ze3 this
 rw [h] at hb
 cases hb
 exact ⟨_, this, hl⟩

theorem Ext.trans {a b c : List Blk} (h : Ext a b) (h' : Ext b c) : Ext a c := by
 intro i k hk
 obtain ⟨k1, h1, l1⟩ := h i k hk
 obtain ⟨k2, h2, l2⟩ := h' i k1 h1
 refine ⟨k2, h2, l2.rows.trans l1.rows, l2.esz.trans l1.esz, l2.box.trans l1.box, ?_⟩
 have dd : ∀ k : Kind, k.down.down = k.down := by intro k; cases k <;> rfl
 rcases l1.down with e1 | e1 <;> rcases l2.down with e2 | e2 <;> rw [e2, e1]
 ·exact .inl rfl
 ·exact .inr rfl
 ·exact .inr rfl
 ·exact .inr (dd _)

theorem zl9 {ids : List Nat} {bs : List Blk} {i : Nat} {b' : Blk} (h : (zar ids bs)[i]? = some b') (hi : i ∈ ids) : b'.kind ≠ .box ∧ b'.kind ≠ .mut := by
 rw [zea] at h
 cases hb : bs[i]? with
 | none => simp [hb] at h
 | some b =>
   have hc : ids.contains i = true := by simpa using hi
   simp only [hb, Option.map_some, Option.some.injEq, hc, if_true] at h
   subst h
   exact Kind.down_box _

theorem zv6 {ids : List Nat} {bs : List Blk} (h : ∀ b ∈ ids, ∀ k, bs[b]? = some k → k.kind ≠ .box ∧ k.kind ≠ .mut) : zar ids bs = bs := by
 apply List.ext_getElem?
 intro i
 rw [zea]
 cases hb : bs[i]? with
 | none => rfl
 | some b =>
   simp only [Option.map_some, Option.some.injEq]
   split
   ·rename_i hc
    rw [Kind.down_id (h i (by simpa using hc) b hb)]
   ·rfl

theorem zq3 {bs bs' : List Blk} (h : ∀ (i : Nat) (b' : Blk), bs'[i]? = some b' → ∃ b : Blk, bs[i]? = some b ∧ b.like b') {g o : Nat} (hm : Mof M0 ρ bs' g o) : Mof M0 ρ bs g o := by
 rcases hm with hm | ⟨i, b', base, n, rl, esz, hi, hat, hk⟩
 ·exact .inl hm
 ·obtain ⟨b, hb, hl⟩ := h i b' hi
  refine .inr ⟨i, b, base, n, rl, esz, hb, hat, ?_⟩
  rcases hk with hk | hk | hk
  ·rcases hl.down with e | e
   ·exact .inl (e ▸ hk)
   ·exact absurd (e ▸ hk) (Kind.down_box _).1
  ·rcases hl.down with e | e
   ·exact .inr (.inl (e ▸ hk))
   ·exact absurd (e ▸ hk) (Kind.down_box _).2
  ·exact .inr (.inr hk)

theorem Pres.sub {w : World} {M M' : Foot} (h : ∀ g o, M' g o → M g o) : Pres w M w M' := fun g o v hn hv => ⟨fun hm => hn (h g o hm), hv⟩

theorem BlkAt.like {M M' : Foot} {b b' : Blk} {g base n rl esz : Nat} (h : BlkAt w M ρ b g base n rl esz) (hl : b.like b') (hp : Pres w M w M') : BlkAt w M' ρ b' g base n rl esz := by
 obtain ⟨h1, h2, h3, h4, arr, Ty, hg, hs, hc⟩ := h.move (ρ' := ρ) rfl hp fun _ _ => rfl
 exact ⟨by rw [hl.rows]; exact h1, by rw [hl.esz]; exact h2, by rw [hl.rows]; exact h3, h4, arr, Ty, hg, hs, by rw [hl.rows, hl.box]; exact hc⟩

theorem Store.down (hS : Store M0 ρ bs w) (ids : List Nat) : Store M0 ρ (zar ids bs) w := by
 have hsub : ∀ g o, Mof M0 ρ (zar ids bs) g o → Mof M0 ρ bs g o := fun g o => zq3 fun i b' h => ze3 h
 refine ⟨?_, ?_, ?_, hS.inj, hS.m0⟩
 ·intro i b' g base n rl esz hi hat
  obtain ⟨b, hb, hl⟩ := ze3 hi
  exact (hS.at_ i b g base n rl esz hb hat).like hl (Pres.sub hsub)
 ·intro i b' hi hv
  obtain ⟨b, hb, hl⟩ := ze3 hi
  obtain ⟨h1, h2⟩ := hS.virt i b hb hv
  exact ⟨hl.rows.trans h1, hl.box.trans h2⟩
 ·intro i hi
  exact hS.out i (by simpa [zar] using hi)

theorem z3k (M : Foot) (ρ : Nat → Loc) : Mof M ρ [] = M := by
 funext g o
 apply propext
 constructor
 ·rintro (h | ⟨i, b, _, _, _, _, hi, _⟩)
  ·exact h
  ·simp at hi
 ·exact .inl

theorem Store.empty (M : Foot) (w : World) : Store M zry [] w :=
 ⟨fun i b _ _ _ _ _ h => (by simp at h), fun i b h => (by simp at h), fun _ _ => rfl, fun i j g _ _ _ _ _ _ _ _ h => (by cases h), fun i g _ _ _ _ h => (by cases h)⟩

mutual
theorem z06 {w : World} {M : Foot} {ρ : Nat → Loc} {w' : World} {M' : Foot} {ρ' : Nat → Loc} : ∀ (d : D) (v : Value), d.plain = true → Rep w M ρ v d → Rep w' M' ρ' v d
 | .undef, v, _, _ => .imm _ _ (.undef v)
 | .int k n, v, _, h => by rw [h.int_inv]; exact .imm _ _ (.int k n)
 | .bool b, v, _, h => by rw [h.bool_inv]; exact .imm _ _ (.bool b)
 | .nil, v, _, h => by obtain ⟨a, rfl⟩ := h.nil_inv; exact .imm _ _ (.nil a)
 | .zs _, v, _, h => by obtain ⟨a, cap, rfl, rfl⟩ := h.zs_inv; exact .imm _ _ (.zs a cap)
 | .sl _ _, v, hp, _ => by simp [D.plain] at hp
 | .mem _, v, hp, _ => by simp [D.plain] at hp
 | .ref _ _ _, v, hp, _ => by simp [D.plain] at hp
 | .ptr _ _ _, v, hp, _ => by simp [D.plain] at hp
 | .agg cs, v, hp, h => by
   obtain ⟨vs, rfl, hs, hr⟩ := h.agg_inv
   exact .agg vs cs hs fun i v d h1 h2 => zkv cs (by simpa [D.plain] using hp) i v d h2 (hr i v d h1 h2)
 | .tup cs, v, hp, h => by
   obtain ⟨vs, rfl, hs, hr⟩ := h.tup_inv
   exact .tup vs cs hs fun i v d h1 h2 => zkv cs (by simpa [D.plain] using hp) i v d h2 (hr i v d h1 h2)
 | .fn f a c, v, hp, h => by
   obtain ⟨va, vc, rfl, ha, hc, h1, h2⟩ := h.fn_inv
   simp only [D.plain, Bool.and_eq_true] at hp
   exact .fn f va vc a c ha hc (fun i v d e1 e2 => zkv a hp.1 i v d e2 (h1 i v d e1 e2)) (fun i v d e1 e2 => zkv c hp.2 i v d e2 (h2 i v d e1 e2))
theorem zkv {w : World} {M : Foot} {ρ : Nat → Loc} {w' : World} {M' : Foot} {ρ' : Nat → Loc} : ∀ (cs : List D), zod cs = true → ∀ (i : Nat) (v : Value) (d : D), cs[i]? = some d → Rep w M ρ v d → Rep w' M' ρ' v d
 | [], _, i, v, d, h, _ => by simp at h
 | c :: cs, hp, 0, v, d, h, hr => by
   simp only [List.getElem?_cons_zero, Option.some.injEq] at h
   subst h
   simp only [zod, Bool.and_eq_true] at hp
   exact z06 c v hp.1 hr
 | c :: cs, hp, i + 1, v, d, h, hr => by
   simp only [zod, Bool.and_eq_true] at hp
   exact zkv cs hp.2 i v d (by simpa using h) hr
end

theorem zom {M : Foot} {xs ys : Array Value} {as cs : List D} (hl : xs.size = as.length) (h1 : ∀ (i : Nat) (v : Value) (d : D), xs[i]? = some v → as[i]? = some d → Rep w M ρ v d)
 (h2 : ∀ (i : Nat) (v : Value) (d : D), ys[i]? = some v → cs[i]? = some d → Rep w M ρ v d) : ∀ (i : Nat) (v : Value) (d : D), (xs ++ ys)[i]? = some v → (as ++ cs)[i]? = some d → Rep w M ρ v d := by
 intro i v d hv hd
 by_cases hi : i < xs.size
 ·rw [Array.getElem?_append_left hi] at hv
  rw [List.getElem?_append_left (by omega)] at hd
  exact h1 i v d hv hd
 ·rw [Array.getElem?_append_right (by omega)] at hv
  rw [List.getElem?_append_right (by omega), ← hl] at hd
  exact h2 _ v d hv hd

theorem Around.below {w w' : World} {ρ ρ' : Nat → Loc} (h : Around w ρ 0 w' ρ') : Below w.heap.size w w' := ⟨h.os, h.tape, h.output, h.size, fun k hk => h.keep k hk fun i hi => by omega⟩

theorem zk3 {w w' : World} (h : Below w.heap.size w w') (M : Foot) : Pres w M w' M := fun g o v hn hv => ⟨hn, by rw [World.cell?_of_block (w := w) (h.block g (zma hv))]; exact hv⟩

theorem Store.below (hS : Store M0 ρ bs w) {w' : World} (h : Below w.heap.size w w') : Store M0 ρ bs w' :=
 ⟨fun i b g base n rl esz hi hat => (hS.at_ i b g base n rl esz hi hat).move (h.block g (hS.lt hat)) (zk3 h _) fun _ _ => rfl, hS.virt, hS.out, hS.inj, hS.m0⟩

theorem zou (hS : Store M0 ρ bs w) {w' : World} (h : Below w.heap.size w w') (nb n : Nat) : Grow M0 w ρ w' ρ bs nb n :=
 ⟨h, fun _ _ => rfl, fun _ h1 h2 => absurd h1 h2, zk3 h _, hS.below h⟩

theorem Store.taken {w' : World} {ρ'' : Nat → Loc} {nbs : List Blk} {nb : Nat} (hS : Store M0 ρ bs w) (hm0 : ∀ g o, M0 g o → g < w.heap.size) (hb : Below w.heap.size w w')
 (hS2 : Store (Mof M0 ρ bs) ρ'' nbs w') (hfresh : ∀ i g base n rl esz, ρ'' i = .at_ g base n rl esz → w.heap.size ≤ g) (hbox : ∀ b ∈ nbs, b.kind.isBox = false) (hn : NewAt M0 ρ bs nb nbs)
 {v : Value} {r : D} (hr : Rep w' (Mof (Mof M0 ρ bs) ρ'' nbs) ρ'' v r) :
 ∃ ρ', Rep w' (Mof M0 ρ' bs) ρ' v (r.shift nb) ∧ Grow M0 w ρ w' ρ' bs nb nbs.length := by
 let ρ' : Nat → Loc := fun i => if nb ≤ i ∧ i < nb + nbs.length then ρ'' (i - nb) else ρ i
 have hnew : ∀ k, k < nbs.length → ρ' (nb + k) = ρ'' k := fun k hk => by
  show (if nb ≤ nb + k ∧ nb + k < nb + nbs.length then _ else _) = _
  rw [if_pos ⟨by omega, by omega⟩, show nb + k - nb = k by omega]
 have hout : ∀ i, ¬ (nb ≤ i ∧ i < nb + nbs.length) → ρ' i = ρ i := fun i hi => by
  show (if nb ≤ i ∧ i < nb + nbs.length then _ else _) = _
  rw [if_neg hi]
 have habs : ∀ i, nb ≤ i ∧ i < nb + nbs.length → ρ i = .absent := by
  intro i hi
  have hk : nbs[i - nb]? = some nbs[i - nb] := by simp
  obtain ⟨_, _, _, ha⟩ := hn (i - nb) _ hk
  rwa [show nb + (i - nb) = i by omega] at ha
 have hold : ∀ i, ρ i ≠ .absent → ρ' i = ρ i := fun i hi => hout i fun h => hi (habs i h)
 have hlt2 : ∀ k, ρ'' k ≠ .absent → k < nbs.length := by
  intro k hk
  rcases Nat.lt_or_ge k nbs.length with h | h
  ·exact h
  ·exact absurd (hS2.out k h) hk
 have hM : ∀ g o, Mof M0 ρ' bs g o → Mof (Mof M0 ρ bs) ρ'' nbs g o := by
  rintro g o (h | ⟨i, b', base, n, rl, esz, hi, hat, hk⟩)
  ·exact .inl (.inl h)
  ·by_cases hin : nb ≤ i ∧ i < nb + nbs.length
   ·have hkk : nbs[i - nb]? = some nbs[i - nb] := by simp
    obtain ⟨b1, hb1, hl, _⟩ := hn (i - nb) _ hkk
    rw [show nb + (i - nb) = i by omega, hi] at hb1
    cases hb1
    have hat2 := hnew (i - nb) (by omega)
    rw [show nb + (i - nb) = i by omega, hat] at hat2
    refine .inr ⟨i - nb, _, base, n, rl, esz, hkk, hat2.symm, ?_⟩
    rcases hk with hk | hk | hk
    ·rcases hl.down with e | e
     ·exact .inl (e ▸ hk)
     ·exact absurd (e ▸ hk) (Kind.down_box _).1
    ·rcases hl.down with e | e
     ·exact .inr (.inl (e ▸ hk))
     ·exact absurd (e ▸ hk) (Kind.down_box _).2
    ·exact .inr (.inr hk)
   ·rw [hout i hin] at hat
    exact .inl (.inr ⟨i, b', base, n, rl, esz, hi, hat, hk⟩)
 have hMlt : ∀ g o, Mof M0 ρ bs g o → g < w.heap.size := by
  rintro g o (h | ⟨i, b', base, n, rl, esz, hi, hat, hk⟩)
  ·exact hm0 g o h
  ·exact hS.lt hat
 have hpres : Pres w (Mof M0 ρ bs) w' (Mof M0 ρ' bs) := by
  intro g o v hn' hv
  have hg := zma hv
  refine ⟨fun hm => ?_, (zk3 hb (Mof M0 ρ bs) g o v hn' hv).2⟩
  rcases hM g o hm with h | ⟨i, b', base, n, rl, esz, hi, hat, hk⟩
  ·exact hn' h
  ·have := hfresh i g _ _ _ _ hat
   omega
 refine ⟨ρ', ?_, hb, hold, ?_, hpres, ?_⟩
 ·refine hr.carry (Pres.sub hM) ?_ ?_
  ·intro v b o l h
   rcases h.ref_inv with ⟨cap, g, base, n, rl, esz, rfl, hat, h1, h2, h3⟩ | ⟨a, rfl, hv, rfl, rfl⟩
   ·exact .ref _ _ _ cap g base n rl esz ((hnew b (hlt2 b (by simp [hat]))).trans hat) h1 h2 h3
   ·exact .refV _ a ((hnew b (hlt2 b (by simp [hv]))).trans hv)
  ·intro v b i j h
   obtain ⟨g, base, n, rl, esz, rfl, hat⟩ := h.ptr_inv
   exact .ptr _ _ _ g base n rl esz ((hnew b (hlt2 b (by simp [hat]))).trans hat)
 ·intro b h1 h2
  by_cases hin : nb ≤ b ∧ b < nb + nbs.length
  ·refine ⟨hin.1, hin.2, fun g base n rl esz hat => ?_⟩
   have h3 := hnew (b - nb) (by omega)
   rw [show nb + (b - nb) = b by omega, hat] at h3
   exact hfresh _ _ _ _ _ _ h3.symm
  ·rw [hout b hin] at h2
   exact absurd h1 h2
 ·refine ⟨?_, ?_, ?_, ?_, ?_⟩
  ·intro i b' g base n rl esz hi hat
   by_cases hin : nb ≤ i ∧ i < nb + nbs.length
   ·have hkk : nbs[i - nb]? = some nbs[i - nb] := by simp
    obtain ⟨b1, hb1, hl, _⟩ := hn (i - nb) _ hkk
    rw [show nb + (i - nb) = i by omega, hi] at hb1
    cases hb1
    have hat2 := hnew (i - nb) (by omega)
    rw [show nb + (i - nb) = i by omega, hat] at hat2
    have hA := (hS2.at_ (i - nb) _ g base n rl esz hkk hat2.symm).like hl (Pres.sub hM)
    have hbx : b'.kind.isBox = false := by rw [hl.box]; exact hbox _ (List.mem_of_getElem? hkk)
    obtain ⟨h1, h2, h3, h4, arr, Ty, hg, hs, hc⟩ := hA
    refine ⟨h1, h2, h3, h4, arr, Ty, hg, hs, fun k j r d hr hd => ?_⟩
    obtain ⟨v, hv, hrep⟩ := hc k j r d hr hd
    refine ⟨v, hv, ?_⟩
    rw [hbx] at hrep ⊢
    exact hrep
   ·rw [hout i hin] at hat
    exact (hS.at_ i b' g base n rl esz hi hat).move (hb.block g (hS.lt hat)) hpres hold
  ·intro i b' hi hv
   by_cases hin : nb ≤ i ∧ i < nb + nbs.length
   ·have hkk : nbs[i - nb]? = some nbs[i - nb] := by simp
    obtain ⟨b1, hb1, hl, _⟩ := hn (i - nb) _ hkk
    rw [show nb + (i - nb) = i by omega, hi] at hb1
    cases hb1
    have h3 := hnew (i - nb) (by omega)
    rw [show nb + (i - nb) = i by omega, hv] at h3
    obtain ⟨e1, e2⟩ := hS2.virt _ _ hkk h3.symm
    exact ⟨hl.rows.trans e1, hl.box.trans e2⟩
   ·rw [hout i hin] at hv
    exact hS.virt i b' hi hv
  ·intro i hi
   have hin : ¬ (nb ≤ i ∧ i < nb + nbs.length) := by
    intro hin
    have hkk : nbs[i - nb]? = some nbs[i - nb] := by simp
    obtain ⟨b1, hb1, _⟩ := hn (i - nb) _ hkk
    rw [show nb + (i - nb) = i by omega, List.getElem?_eq_none hi] at hb1
    cases hb1
   rw [hout i hin]
   exact hS.out i hi
  ·intro i j g base1 n1 rl1 esz1 base2 n2 rl2 esz2 hi hj
   by_cases hin : nb ≤ i ∧ i < nb + nbs.length
   ·have h3 := hnew (i - nb) (by omega)
    rw [show nb + (i - nb) = i by omega, hi] at h3
    by_cases hjn : nb ≤ j ∧ j < nb + nbs.length
    ·have h4 := hnew (j - nb) (by omega)
     rw [show nb + (j - nb) = j by omega, hj] at h4
     have := hS2.inj _ _ g _ _ _ _ _ _ _ _ h3.symm h4.symm
     omega
    ·rw [hout j hjn] at hj
     have := hfresh _ _ _ _ _ _ h3.symm
     have := hS.lt hj
     omega
   ·rw [hout i hin] at hi
    by_cases hjn : nb ≤ j ∧ j < nb + nbs.length
    ·have h4 := hnew (j - nb) (by omega)
     rw [show nb + (j - nb) = j by omega, hj] at h4
     have := hfresh _ _ _ _ _ _ h4.symm
     have := hS.lt hi
     omega
    ·rw [hout j hjn] at hj
     exact hS.inj i j g _ _ _ _ _ _ _ _ hi hj
  ·intro i g base n rl esz hi o hm
   by_cases hin : nb ≤ i ∧ i < nb + nbs.length
   ·have h3 := hnew (i - nb) (by omega)
    rw [show nb + (i - nb) = i by omega, hi] at h3
    have := hfresh _ _ _ _ _ _ h3.symm
    have := hm0 g o hm
    omega
   ·rw [hout i hin] at hi
    exact hS.m0 i g _ _ _ _ hi o hm
end
end Go.AM
