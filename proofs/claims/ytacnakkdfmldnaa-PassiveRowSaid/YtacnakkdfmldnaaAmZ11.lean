/- What the proof of this claim stands on, part 11. -/
import Derived.Test.YtacnakkdfmldnaaAmZ10
/- AM: what the library's functions over slices step through: slices of own blocks, rows written over others. -/
namespace Go.AM
set_option linter.unusedSimpArgs false
set_option linter.unusedVariables false

section
variable {c : Cfg} {K : St → Prop} {st : St} {dst : Option Nat} {p : Prop} [Decidable p]
theorem overK_if {d : D} {a b : Option St} (hp : p) (h : overK dst d a K) : overK dst d (if p then a else b) K := by rw [if_pos hp]; exact h
theorem appK2_else {a b : Option (D × St)} (hp : ¬ p) (h : appK2 dst b K) : appK2 dst (if p then a else b) K := by rw [if_neg hp]; exact h
theorem overK_else {d : D} {a b : Option St} (hp : ¬ p) (h : overK dst d b K) : overK dst d (if p then a else b) K := by rw [if_neg hp]; exact h
theorem optK_if {a b : Option St} (hp : p) (h : optK a K) : optK (if p then a else b) K := by rw [if_pos hp]; exact h
theorem outK_if {a b : Option Out} (hp : p) (h : outK st dst a K) : outK st dst (if p then a else b) K := by rw [if_pos hp]; exact h
theorem appK_if {e : Nat} {base : D} {a b : Option (List (List D))} (hp : p) (h : appK c dst e base a st K) : appK c dst e base (if p then a else b) st K := by rw [if_pos hp]; exact h
/-- A part of a slice in an own block. -/
theorem outK_slice {T : Tab} {t b off len e : Nat} {lo hi : Option D} {k : Blk} (l h : Nat) (hT : (T t).d = .slice e) (hb : st.bs[b]? = some k) (hlo : boundD 0 lo = some (l : Int)) (hhi : boundD len hi = some (h : Int))
    (h1 : l ≤ h) (h2 : off + h ≤ k.rows.length) (h3 : k.esz = (T e).size) (hne : l = 0 ∨ off + l < k.rows.length) (hK : K (st.put dst (.ref b (off + l) (h - l)))) : outK st dst (sliceD T st.bs t (.ref b off len) lo hi none) K := by
  have : sliceD T st.bs t (.ref b off len) lo hi none = some { d := .ref b (off + l) (h - l) } := by
    unfold sliceD
    rw [hT]
    simp only [hlo, hhi, hb]
    rw [if_pos (by refine ⟨by omega, by omega, by omega, h3⟩)]
    by_cases hl : l = 0
    · subst hl
      simp
    · rw [if_neg (by omega), if_pos (by simp; omega)]
      have : ((h : Int) - l).toNat = h - l := by omega
      simp [this]
  rw [this]
  refine ⟨by simp, ?_⟩
  rw [out_quiet]
  exact hK
/-- A part of a slice whose cells stay. -/
theorem outK_sliceS {T : Tab} {bs : List Blk} {t len e : Nat} {rows : List (List D)} {lo hi : Option D} (l h : Nat) (hT : (T t).d = .slice e) (hlo : boundD 0 lo = some (l : Int)) (hhi : boundD len hi = some (h : Int))
    (h1 : l ≤ h) (h2 : h ≤ rows.length) (h3 : ∀ r ∈ rows, r.length = (T e).size) (hK : K (st.put dst (.sl (rows.drop l) (h - l)))) : outK st dst (sliceD T bs t (.sl rows len) lo hi none) K := by
  have : sliceD T bs t (.sl rows len) lo hi none = some { d := .sl (rows.drop l) (h - l) } := by
    unfold sliceD
    rw [hT]
    simp only [hlo, hhi]
    rw [if_pos (by omega), if_pos h3]
    have : ((h : Int) - l).toNat = h - l := by omega
    simp [this]
  rw [this]
  refine ⟨by simp, ?_⟩
  rw [out_quiet]
  exact hK
/-- The empty part at the end of a block. -/
theorem outK_sliceE {T : Tab} {t b off len e : Nat} {lo hi : Option D} {k : Blk} (l : Nat) (hT : (T t).d = .slice e) (hb : st.bs[b]? = some k) (hlo : boundD 0 lo = some (l : Int)) (hhi : boundD len hi = some (l : Int))
    (h2 : off + l = k.rows.length) (h3 : k.esz = (T e).size) (hl : l ≠ 0) (hK : K (st.put dst (.sl [] 0))) : outK st dst (sliceD T st.bs t (.ref b off len) lo hi none) K := by
  have : sliceD T st.bs t (.ref b off len) lo hi none = some { d := .sl [] 0 } := by
    unfold sliceD
    rw [hT]
    simp only [hlo, hhi, hb]
    rw [if_pos (by refine ⟨by omega, by omega, by omega, h3⟩), if_neg (by omega), if_neg (by simp; omega)]
  rw [this]
  refine ⟨by simp, ?_⟩
  rw [out_quiet]
  exact hK
end

theorem outRows_of {esz j o l : Nat} {k' : Blk} {bs' : List Blk} {R : List (List D)} (hj : bs'[j]? = some k') (hm : k'.kind = .mut) (he : k'.esz = esz) (hl : o + l ≤ k'.rows.length) (hR : R = (k'.rows.drop o).take l) (h0 : j = 0 ∨ 0 < l) : outRows esz (.ref j o l) bs' R :=
  ⟨j, o, l, k', rfl, hj, hm, he, hl, hR, h0⟩

/-- It names no own block. -/
def D.still : D → Bool
  | .int _ _ => true
  | .bool _ => true
  | .nil => true
  | .zs _ => true
  | .sl _ _ => true
  | .mem _ => true
  | .undef => true
  | _ => false
def StillR (rows : List (List D)) : Prop := ∀ r ∈ rows, ∀ d ∈ r, d.still = true
theorem still_rids {d : D} (h : d.still = true) : d.rids = [] := by cases d <;> first | rfl | cases h
theorem still_mapR {d : D} (h : d.still = true) (fr fp : Nat → Nat → Nat → D) : d.mapR fr fp = d := by cases d <;> first | rfl | cases h
theorem still_ridsL : ∀ {r : List D}, (∀ d ∈ r, d.still = true) → ridsL r = [] := by
  intro r
  induction r with
  | nil => intro _; rfl
  | cons d ds ih =>
    intro h
    simp only [ridsL, still_rids (h d (by simp)), ih fun d hd => h d (by simp [hd])]
    rfl
theorem StillR.mapR {rows : List (List D)} (h : StillR rows) (fr fp : Nat → Nat → Nat → D) : rows.map (fun r => r.map (D.mapR fr fp)) = rows := by
  rw [List.map_congr_left (g := id), List.map_id]
  intro r hr
  rw [List.map_congr_left (g := id), List.map_id]
  · rfl
  · intro d hd
    exact still_mapR (h r hr d hd) fr fp
/-- A given block of whatever capacity: the rows that are known, and rows of nothing. -/
theorem gives_of {G : Con} {f esz : Nat} {rows : List (List D)} {rest : List D} {R : List (List D)} (hf : ∀ r ∈ rows, r.length = esz) (hst : StillR rows)
    (h : ∀ fl : List (List D), rows.length ≤ fl.length → (∀ r ∈ fl, r.length = esz) → StillR fl → fl.take rows.length = rows → (∀ i, i < rows.length → fl[i]? = rows[i]?) →
      ∃ r bs', G f (.ref 0 0 rows.length :: rest) [⟨fl, esz, .mut⟩] r bs' ∧ outRows esz r bs' R) : GivesC G f rows esz rest R := by
  intro cp hcp
  refine h _ (by simp) ?_ ?_ (by simp) ?_
  · intro r hr
    rcases List.mem_append.1 hr with h | h
    · exact hf r h
    · rw [(List.mem_replicate.1 h).2]; simp
  · intro r hr d hd
    rcases List.mem_append.1 hr with h | h
    · exact hst r h d hd
    · rw [(List.mem_replicate.1 h).2] at hd
      rw [(List.mem_replicate.1 hd).2]
      rfl
  · intro i hi
    rw [List.getElem?_append_left hi]
theorem StillR.append {a b : List (List D)} (h1 : StillR a) (h2 : StillR b) : StillR (a ++ b) := by
  intro r hr
  rcases List.mem_append.1 hr with h | h
  · exact h1 r h
  · exact h2 r h
theorem StillR.take {a : List (List D)} (h1 : StillR a) (n : Nat) : StillR (a.take n) := fun r hr => h1 r (List.mem_of_mem_take hr)
theorem StillR.drop {a : List (List D)} (h1 : StillR a) (n : Nat) : StillR (a.drop n) := fun r hr => h1 r (List.mem_of_mem_drop hr)
theorem StillR.ovr {a b : List (List D)} (h1 : StillR a) (h2 : StillR b) (p : Nat) : StillR (ovr a p b) := ((h1.take _).append h2).append (h1.drop _)
theorem StillR.set {a : List (List D)} {r : List D} (h1 : StillR a) (h2 : ∀ d ∈ r, d.still = true) (i : Nat) : StillR (a.set i r) := by
  intro x hx
  rcases List.mem_or_eq_of_mem_set hx with h | h
  · exact h1 x h
  · rw [h]; exact h2
theorem StillR.map {α : Type} (f : α → List D) (l : List α) (h : ∀ a ∈ l, ∀ d ∈ f a, d.still = true) : StillR (l.map f) := by
  intro r hr
  obtain ⟨a, ha, rfl⟩ := List.mem_map.1 hr
  exact h a ha
def insL {α : Type} (xs : List α) (i : Nat) (x : α) : List α := xs.take i ++ x :: xs.drop i
theorem insL_map {α β : Type} (f : α → β) (xs : List α) (i : Nat) (x : α) : (insL xs i x).map f = insL (xs.map f) i (f x) := by simp [insL, List.map_take, List.map_drop]
theorem insL_get {α : Type} {xs : List α} {i : Nat} {x : α} (hi : i ≤ xs.length) (j : Nat) : (insL xs i x)[j]? = if j < i then xs[j]? else if j = i then some x else xs[j - 1]? := by
  unfold insL
  have hl : (xs.take i).length = i := by simp; omega
  by_cases h1 : j < i
  · rw [if_pos h1, List.getElem?_append_left (by omega), List.getElem?_take_of_lt h1]
  · rw [if_neg h1, List.getElem?_append_right (by omega), hl]
    by_cases h2 : j = i
    · subst h2; simp
    · rw [if_neg h2]
      obtain ⟨m, hm⟩ : ∃ m, j - i = m + 1 := ⟨j - i - 1, by omega⟩
      rw [hm, List.getElem?_cons_succ, List.getElem?_drop]
      congr 1
      omega
@[simp] theorem insL_length {α : Type} (xs : List α) (i : Nat) (x : α) : (insL xs i x).length = xs.length + 1 := by simp [insL]; omega
@[simp] theorem fits_rep {esz m : Nat} {z : List D} : Fits esz (List.replicate m z) = (m = 0 ∨ (z.length = esz ∧ z.all D.isCell = true)) := by
  apply propext
  constructor
  · intro h
    by_cases hm : m = 0
    · exact .inl hm
    · exact .inr (h z (by simp [hm]))
  · rintro (rfl | h) r hr
    · simp at hr
    · rw [(List.mem_replicate.1 hr).2]; exact h
theorem StillR.sweep {rows : List (List D)} (h : StillR rows) (S : Nat → Bool) : rows.map (fun r => r.map (D.sweep S)) = rows := h.mapR _ _
theorem lent_still {bs : List Blk} (h : ∀ k ∈ bs, StillR k.rows) : lentRids bs = [] ∧ ∀ fr fp, bs.map (Blk.mapR fr fp) = bs := by
  constructor
  · unfold lentRids
    rw [List.flatMap_eq_nil_iff]
    intro k hk
    rw [List.flatMap_eq_nil_iff]
    intro r hr
    exact still_ridsL fun d hd => h k hk r hr d hd
  · intro fr fp
    rw [List.map_congr_left (g := id), List.map_id]
    intro k hk
    show { k with rows := _ } = k
    have := (h k hk).mapR fr fp
    rw [this]
theorem leave_lent {n0 b o l : Nat} {st : St} (hb : b < n0) (h : ∀ k ∈ st.bs.take n0, StillR k.rows) : leave n0 st (.ref b o l) = some (.ref b o l, st.bs.take n0) := by
  obtain ⟨h1, h2⟩ := lent_still h
  unfold leave
  simp only [D.rids, h1, List.append_nil]
  have : [b].filter (fun b => decide (n0 ≤ b)) = [] := by simp; omega
  rw [this]
  simp [expRef, hb, h2]
theorem leave_new {n0 b o l : Nat} {st : St} {k : Blk} (hb : n0 ≤ b) (hk : st.bs[b]? = some k) (hbox : k.kind.isBox = false) (h : ∀ k ∈ st.bs.take n0, StillR k.rows) : leave n0 st (.ref b o l) = some (.ref n0 o l, st.bs.take n0 ++ [k]) := by
  obtain ⟨h1, h2⟩ := lent_still h
  unfold leave
  simp only [D.rids, h1, List.append_nil]
  have : [b].filter (fun b => decide (n0 ≤ b)) = [b] := by simp; omega
  rw [this]
  have hnb : ¬ b < n0 := by omega
  have hnk : k.kind ≠ .box ∧ k.kind ≠ .ibox := by
    constructor <;> (intro h; rw [h] at hbox; cases hbox)
  simp [expRef, hnb, h2, hk]
  cases hkk : k.kind <;> simp [hkk] at hnk ⊢
section
variable {rows fl : List (List D)} {v : List D} {at_ n : Nat}
theorem ins_get (hn : rows.length = n) (hat : at_ ≤ n) (hfl : n ≤ fl.length) (htake : fl.take n = rows) (i : Nat) : (insL rows at_ v)[i]? = if i < at_ then fl[i]? else if i = at_ then some v else if i ≤ n then fl[i - 1]? else none := by
  rw [insL_get (by omega)]
  have hr : ∀ j, rows[j]? = if j < n then fl[j]? else none := by
    intro j
    rw [← htake, List.getElem?_take]
  rw [hr, hr]
  by_cases h1 : i < at_
  · rw [if_pos h1, if_pos h1, if_pos (by omega)]
  · rw [if_neg h1, if_neg h1]
    by_cases h2 : i = at_
    · rw [if_pos h2, if_pos h2]
    · rw [if_neg h2, if_neg h2]
      by_cases h3 : i ≤ n
      · rw [if_pos h3, if_pos (by omega)]
      · rw [if_neg h3, if_neg (by omega)]
theorem ins_rows1 (hn : rows.length = n) (hfl : n + 1 ≤ fl.length) (htake : fl.take n = rows) : insL rows n v = ((ovr fl n [v]).drop 0).take (n + 1) := by
  apply List.ext_getElem?
  intro i
  rw [ins_get hn (Nat.le_refl _) (by omega) htake, List.drop_zero, List.getElem?_take, ovr_get (by simpa using hfl)]
  simp only [List.length_singleton]
  by_cases h1 : i < n
  · rw [if_pos h1, if_pos (by omega), if_pos h1]
  · rw [if_neg h1]
    by_cases h2 : i = n
    · subst h2; simp
    · rw [if_neg h2, if_neg (by omega), if_neg (by omega)]
theorem ins_rows2 (hn : rows.length = n) (htake : fl.take n = rows) : insL rows n v = ((fl.take n ++ [v]).drop 0).take (n + 1) := by
  rw [htake, List.drop_zero, List.take_of_length_le (by simp; omega)]
  simp [insL, ← hn]
theorem ins_rowsC (hn : rows.length = n) (hat : at_ < n) (hfl : n + 1 ≤ fl.length) (htake : fl.take n = rows) :
    insL rows at_ v = ((ovr (ovr fl (at_ + 1) ((fl.drop at_).take (n - at_))) at_ [v]).drop 0).take (n + 1) := by
  have hl : ((fl.drop at_).take (n - at_)).length = n - at_ := by simp; omega
  have hl2 := ovr_length (rows := fl) (p := at_ + 1) (ys := (fl.drop at_).take (n - at_)) (by omega)
  apply List.ext_getElem?
  intro i
  rw [ins_get hn (by omega) (by omega) htake, List.drop_zero, List.getElem?_take, ovr_get (by simp; omega), ovr_get (by omega)]
  simp only [List.length_singleton, hl]
  by_cases h1 : i < at_
  · rw [if_pos h1, if_pos (by omega), if_pos h1, if_pos (by omega)]
  · rw [if_neg h1]
    by_cases h2 : i = at_
    · subst h2; simp; omega
    · rw [if_neg h2]
      by_cases h3 : i ≤ n
      · rw [if_pos h3, if_pos (by omega), if_neg h1, if_neg (by omega), if_neg (by omega), if_pos (by omega), List.getElem?_take_of_lt (by omega), List.getElem?_drop]
        congr 1
        omega
      · rw [if_neg h3, if_neg (by omega)]
theorem ins_rowsB {z : List D} (hn : rows.length = n) (hat : at_ < n) (hfl : fl.length = n) (htake : fl.take n = rows) :
    insL rows at_ v = ((ovr (ovr (fl.take at_ ++ List.replicate (n + 1 - at_) z) at_ [v]) (at_ + 1) ((fl.drop at_).take (n - at_))).drop 0).take (n + 1) := by
  have hl : ((fl.drop at_).take (n - at_)).length = n - at_ := by simp; omega
  have hl0 : (fl.take at_ ++ List.replicate (n + 1 - at_) z).length = n + 1 := by simp; omega
  have hl2 := ovr_length (rows := fl.take at_ ++ List.replicate (n + 1 - at_) z) (p := at_) (ys := [v]) (by rw [hl0]; simp; omega)
  apply List.ext_getElem?
  intro i
  rw [ins_get hn (by omega) (by omega) htake, List.drop_zero, List.getElem?_take, ovr_get (by rw [hl2, hl0]; omega), ovr_get (by rw [hl0]; simp; omega)]
  simp only [List.length_singleton, hl]
  by_cases h1 : i < at_
  · rw [if_pos h1, if_pos (by omega), if_pos (by omega), if_pos h1, List.getElem?_append_left (by simp; omega), List.getElem?_take_of_lt h1]
  · rw [if_neg h1]
    by_cases h2 : i = at_
    · subst h2; simp; omega
    · rw [if_neg h2]
      by_cases h3 : i ≤ n
      · rw [if_pos h3, if_pos (by omega), if_neg (by omega), if_pos (by omega), List.getElem?_take_of_lt (by omega), List.getElem?_drop]
        congr 1
        omega
      · rw [if_neg h3, if_neg (by omega)]
end
/-- A slice, with the rows of its length alone. -/
def D.cut : D → D
  | .sl rows len => .sl (rows.take len) len
  | d => d
theorem RepI.cutLen {w : World} {M : Foot} {v : Value} {rows : List (List D)} {len : Nat} (h : RepI w M v (.sl rows len)) : RepI w M v (.sl (rows.take len) len) := by
  cases h with
  | sl a _ cap _ esz g off vals h1 h2 hr ha hc hv =>
    refine .sl a len cap _ esz g off vals (by simp; omega) (by simp; omega) (fun r hx => hr r (List.mem_of_mem_take hx)) (fun hne => ha (by rintro rfl; exact hne (by simp))) (fun i j hi hj => hc i j (by simp at hi; omega) hj) ?_
    intro i j r d hi hj
    rw [List.getElem?_take] at hi
    split at hi
    · exact hv i j r d hi hj
    · cases hi
theorem Rep.cut {w : World} {M : Foot} {ρ : Nat → Loc} {v : Value} {d : D} (h : Rep w M ρ v d) : Rep w M ρ v d.cut := by
  cases d <;> try exact h
  exact .imm _ _ h.sl_inv.cutLen
theorem den_cut {P : Program} {f : Nat} {args : List D} {bs : List Blk} {r : D} {bs' : List Blk} (h : Den P f (args.map D.cut) bs r bs') : Den P f args bs r bs' := by
  refine ⟨h.1, fun w M0 ρ vals hM hS hs ha => h.2 w M0 ρ vals hM hS (by simpa using hs) ?_⟩
  intro i v d hv hd
  rw [List.getElem?_map] at hd
  cases hc : args[i]? with
  | none => simp [hc] at hd
  | some d0 => simp [hc] at hd; subst hd; exact (ha i v d0 hv hc).cut
attribute [simp] D.cut
@[simp] theorem take_map_app {α β : Type} (f : α → β) (l : List α) (r : List β) : (l.map f ++ r).take l.length = l.map f := List.take_left' (by simp)
/-- nil is an empty array of one's own. -/
theorem den_virt {P : Program} {f : Nat} {args : List D} (esz : Nat) (h : Den P f args [] .nil []) : Den P f args [] (.ref 0 0 0) [⟨[], esz, .mut⟩] := by
  refine ⟨h.1, fun w M0 ρ vals hM hS hs ha => (h.2 w M0 ρ vals hM hS hs ha).mono ?_⟩
  rintro e w' ⟨v, ρ', rfl, hr, hS', hlen, hlent, hp, har⟩
  obtain ⟨a, rfl⟩ := hr.nil_inv
  have hMM : Mof M0 (updL ρ' 0 .virt) [⟨[], esz, .mut⟩] = Mof M0 ρ' [] := by
    rw [Mof_nil]
    funext g o
    apply propext
    constructor
    · rintro (h | ⟨i, b', base, n, rl, ez, hi, hat, _⟩)
      · exact h
      · cases i with
        | zero => rw [updL_same] at hat; cases hat
        | succ i => simp at hi
    · exact .inl
  have hno : ∀ i, ρ' i = .absent := fun i => hS'.out i (Nat.zero_le _)
  have hat : ∀ i g base n rl ez, updL ρ' 0 .virt i ≠ .at_ g base n rl ez := by
    intro i g base n rl ez h
    by_cases hi : i = 0
    · subst hi; rw [updL_same] at h; cases h
    · rw [updL_ne _ _ hi, hno] at h; cases h
  refine ⟨_, updL ρ' 0 .virt, rfl, .refV 0 a (updL_same _ _ _), ⟨fun i b g base n rl ez _ h => absurd h (hat _ _ _ _ _ _), ?_, ?_, fun i j g _ _ _ _ _ _ _ _ h => absurd h (hat _ _ _ _ _ _), fun i g _ _ _ _ h => absurd h (hat _ _ _ _ _ _)⟩, by simp, fun i hi => absurd hi (by simp), by rw [hMM]; exact hp, ⟨har.size, har.os, har.tape, har.output, har.keep, fun i g base n rl ez _ h => absurd h (hat _ _ _ _ _ _)⟩⟩
  · intro i b hi hv
    cases i with
    | zero => simp at hi; subst hi; exact ⟨rfl, rfl⟩
    | succ i => simp at hi
  · intro i hi
    rw [updL_ne _ _ (by simp at hi; omega)]
    exact hno i
/-- A loop that counts to n. -/
theorem count_rule {c : Cfg} {k id : Nat} {x y : SC} {Q : Ex → St → Prop} {st : St} (n : Nat) (P : Nat → St → Prop) (N R : St → Prop) (hx : x = y)
    (h0 : P 0 st) (hlast : ∀ st, P n st → sCode c y st (roundQ (fun _ => False) id N R)) (hstep : ∀ i st, i < n → P i st → sCode c y st (roundQ (onK (P (i + 1)) k) id N R))
    (hN : ∀ st, N st → Q .normal st) (hR : ∀ st, R st → Q .ret st) : anyLoop c k x (blockQ id Q) st := by
  refine loop_rule n (fun m st => m ≤ n ∧ P (n - m) st) N R hx ⟨Nat.le_refl _, by simpa using h0⟩ (fun st h => hlast st (by simpa using h.2)) (fun m st h => ?_) hN hR
  have := hstep (n - (m + 1)) st (by omega) h.2
  rw [show n - (m + 1) + 1 = n - m by omega] at this
  refine sCode_mono _ _ _ _ ?_ this
  intro ex st' h'
  cases ex with
  | normal => exact ⟨by omega, h'⟩
  | exit i => exact h'
  | ret => exact h'
@[simp] theorem wrap_zero : IntKind.wrap .i64 0 = 0 := wrap_in (by omega) (by omega)
theorem splice_map {α : Type} (f : α → D) (W : List α) (k : Nat) (b : α) (hk : k < W.length) : List.take k (List.map f W) ++ f b :: List.drop (k + 1) (List.map f W) = List.map f (W.set k b) := by
  rw [List.map_set, List.set_eq_take_append_cons_drop, if_pos (by simpa using hk)]
end Go.AM
/- AM: contracts: the library's functions over slices. -/
namespace Go.AM
set_option linter.unusedSimpArgs false
set_option linter.unusedVariables false
set_option maxRecDepth 8000
set_option maxHeartbeats 0
theorem clone_int (rows : List (List D)) (hf : Fits 1 rows) (hl : rows.length * 8 ≤ 140737488355328) : Den PP 39 [.sl rows rows.length] [] (.ref 0 0 rows.length) [⟨rows, 1, .mut⟩] := by
  cases hr : rows with
  | nil =>
    refine den_zs (pre := []) (post := []) ?_ ?_
    · refine den_of [] [] is_slices_Clone_int_int ?_
      simp -implicitDefEqProofs [c_slices_Clone_int_int]
    · refine den_of [] [] is_slices_Clone_int_int ?_
      simp -implicitDefEqProofs [c_slices_Clone_int_int, Fits]
  | cons r rs =>
    rw [hr] at hf hl
    have h63 : (r :: rs).length ≤ 9223372036854775807 := by omega
    have hlen : 0 < (r :: rs).length := by simp
    generalize hn : (r :: rs).length = n at *
    generalize r :: rs = rows at *
    refine den_of [] [] is_slices_Clone_int_int ?_
    simp -implicitDefEqProofs [c_slices_Clone_int_int, hlen, List.take_of_length_le (Nat.le_of_eq hn), hf, hn, hl, h63]
theorem insert_int (rows : List (List D)) (v : List D) (at_ : Nat) (hf : Fits 1 rows) (hst : StillR rows) (hv : Fits 1 [v]) (hvs : ∀ d ∈ v, d.still = true) (hat : at_ ≤ rows.length) (hl : rows.length ≤ 1000000) :
    GivesC (DenF PP [0]) 40 rows 1 [.int .i64 at_, .sl [v] 1] (insL rows at_ v) := by
  refine gives_of (fun r hr => (hf r hr).1) hst fun fl hfl hrow hfs htake hget => ?_
  have hv1 : v.length = 1 := (hv v (by simp)).1
  obtain ⟨c0, cs0, hvv⟩ : ∃ c0 cs0, v = c0 :: cs0 := by
    cases v with
    | nil => simp at hv1
    | cons a b => exact ⟨a, b, rfl⟩
  have hvS : StillR [v] := by intro r hr; rw [List.mem_singleton.1 hr]; exact hvs
  generalize hn : rows.length = n at *
  have w1 : IntKind.wrap .i64 ((n : Int) + 1) = n + 1 := wrap_in (by omega) (by omega)
  have w2 : IntKind.wrap .i64 ((at_ : Int) + 1) = at_ + 1 := wrap_in (by omega) (by omega)
  have w3 : IntKind.wrap .i64 ((n : Int) + 1 - at_) = ((n + 1 - at_ : Nat) : Int) := by rw [wrap_in (by omega) (by omega)]; omega
  by_cases h1 : at_ = n
  · subst h1
    by_cases h2 : at_ + 1 ≤ fl.length
    · refine ⟨.ref 0 0 (at_ + 1), [⟨ovr fl at_ [v], 1, .mut⟩], ?_, ?_⟩
      · refine denF_of [] [66] [] [54] (by simp) ovls54 is_slices_Insert_int_int ?_
        simp -implicitDefEqProofs [-leave, c_slices_Insert_int_int]
        refine outK_slice (at_) (at_) (by simp; rfl) rfl (by first | rfl | omega | (simp [boundD]; done) | (simp [boundD]; omega) | (simp; done) | (simp; omega) | (simp [*]; done) | (simp [*]; omega)) (by first | rfl | omega | (simp [boundD]; done) | (simp [boundD]; omega) | (simp; done) | (simp; omega) | (simp [*]; done) | (simp [*]; omega)) (by omega) (by first | rfl | omega | (simp [boundD]; done) | (simp [boundD]; omega) | (simp; done) | (simp; omega) | (simp [*]; done) | (simp [*]; omega)) rfl (by first | rfl | omega | (simp [boundD]; done) | (simp [boundD]; omega) | (simp; done) | (simp; omega) | (simp [*]; done) | (simp [*]; omega)) ?_
        simp -implicitDefEqProofs [-leave, hv]
        repeat' (first | (refine appK2_if (by omega) ?_) | (refine appK2_else (by omega) ?_))
        simp -implicitDefEqProofs [-leave, hv, h2]
        rw [leave_lent (by omega) (by simpa using ((hfs.take _).append hvS).append (hfs.drop _))]
        simp [ovr]
      · exact outRows_of rfl rfl rfl (by rw [ovr_length (by simpa using h2)]; omega) (ins_rows1 hn h2 htake) (.inl rfl)
    · have h3 : fl.length = at_ := by omega
      refine ⟨.ref 1 0 (at_ + 1), [⟨fl, 1, .mut⟩, ⟨fl.take at_ ++ [v], 1, .mut⟩], ?_, ?_⟩
      · refine denF_of [] [66] [] [54] (by simp) ovls54 is_slices_Insert_int_int ?_
        simp -implicitDefEqProofs [-leave, c_slices_Insert_int_int]
        by_cases h0 : at_ = 0
        · refine outK_slice (at_) (at_) (by simp; rfl) rfl (by first | rfl | omega | (simp [boundD]; done) | (simp [boundD]; omega) | (simp; done) | (simp; omega) | (simp [*]; done) | (simp [*]; omega)) (by first | rfl | omega | (simp [boundD]; done) | (simp [boundD]; omega) | (simp; done) | (simp; omega) | (simp [*]; done) | (simp [*]; omega)) (by omega) (by first | rfl | omega | (simp [boundD]; done) | (simp [boundD]; omega) | (simp; done) | (simp; omega) | (simp [*]; done) | (simp [*]; omega)) rfl (by first | rfl | omega | (simp [boundD]; done) | (simp [boundD]; omega) | (simp; done) | (simp; omega) | (simp [*]; done) | (simp [*]; omega)) ?_
          simp -implicitDefEqProofs [-leave, hv, h3]
          repeat' (first | (refine appK2_if (by omega) ?_) | (refine appK2_else (by omega) ?_))
          simp -implicitDefEqProofs [-leave, hv, h3]
          rw [leave_new (by omega) rfl rfl (by simpa using hfs)]
          rfl
        · refine outK_sliceE (at_) (by simp; rfl) rfl (by first | rfl | omega | (simp [boundD]; done) | (simp [boundD]; omega) | (simp; done) | (simp; omega) | (simp [*]; done) | (simp [*]; omega)) (by first | rfl | omega | (simp [boundD]; done) | (simp [boundD]; omega) | (simp; done) | (simp; omega) | (simp [*]; done) | (simp [*]; omega)) (by first | rfl | omega | (simp [boundD]; done) | (simp [boundD]; omega) | (simp; done) | (simp; omega) | (simp [*]; done) | (simp [*]; omega)) rfl (by omega) ?_
          simp -implicitDefEqProofs [-leave, hv, h3]
          repeat' (first | (refine appK2_if (by omega) ?_) | (refine appK2_else (by omega) ?_))
          simp -implicitDefEqProofs [-leave, hv, h3]
          rw [leave_new (by omega) rfl rfl (by simpa using hfs)]
          rfl
      · exact outRows_of rfl rfl rfl (by simp; omega) (ins_rows2 hn htake) (.inr (by omega))
  · have hlt : at_ < n := by omega
    have hT1 : ∀ X : List (List D), List.take (n - at_) (List.take (n + 1 - at_) X) = List.take (n - at_) X := by
      intro X
      rw [List.take_take]
      congr 1
      omega
    have hfit : Fits 1 (List.take (n - at_) (List.drop at_ fl)) := by
      intro r hr
      rw [← List.drop_take, htake] at hr
      exact hf r (List.mem_of_mem_drop hr)
    have hrr : ∀ m, ∀ r ∈ List.take m (List.drop at_ fl), r.length = 1 := fun m r hr => hrow r (List.mem_of_mem_drop (List.mem_of_mem_take hr))
    have hT3 : ∀ X : List (List D), List.take (n - at_) (List.take (n - at_) X) = List.take (n - at_) X := by intro X; rw [List.take_take]; congr 1; omega
    have hT2 : List.take (n + 1 - at_) [v] = [v] := List.take_of_length_le (by simp; omega)
    have hap : ∀ (fl' : List (List D)) (bs : List Blk) (o l : Nat), apartD (⟨fl', 1, .mut⟩ :: bs) [.sl [v] 1, .ref 0 o l] = true := by
      intro _ _ _ _
      rw [hvv]
      rfl
    have hyl : (List.take (n - at_) (List.drop at_ fl)).length = n - at_ := by simp; omega
    have hne : ¬ (at_ : Int) = n := by omega
    by_cases h2 : n + 1 ≤ fl.length
    · have h2' : ¬ ((fl.length : Int) < (n : Int) + 1) := by omega
      refine ⟨.ref 0 0 (n + 1), [⟨ovr (ovr fl (at_ + 1) ((fl.drop at_).take (n - at_))) at_ [v], 1, .mut⟩], ?_, ?_⟩
      · refine denF_of [] [66] [] [54] (by simp) ovls54 is_slices_Insert_int_int ?_
        simp -implicitDefEqProofs [-leave, c_slices_Insert_int_int]
        refine outK_slice (at_) (n) (by simp; rfl) rfl (by first | rfl | omega | (simp [boundD]; done) | (simp [boundD]; omega) | (simp; done) | (simp; omega) | (simp [*]; done) | (simp [*]; omega)) (by first | rfl | omega | (simp [boundD]; done) | (simp [boundD]; omega) | (simp; done) | (simp; omega) | (simp [*]; done) | (simp [*]; omega)) (by omega) (by first | rfl | omega | (simp [boundD]; done) | (simp [boundD]; omega) | (simp; done) | (simp; omega) | (simp [*]; done) | (simp [*]; omega)) rfl (by first | rfl | omega | (simp [boundD]; done) | (simp [boundD]; omega) | (simp; done) | (simp; omega) | (simp [*]; done) | (simp [*]; omega)) ?_
        simp -implicitDefEqProofs [-leave, hv, h1, hne, w1, w2, h2']
        refine outK_slice (0) (n + 1) (by simp; rfl) rfl (by first | rfl | omega | (simp [boundD]; done) | (simp [boundD]; omega) | (simp; done) | (simp; omega) | (simp [*]; done) | (simp [*]; omega)) (by first | rfl | omega | (simp [boundD]; done) | (simp [boundD]; omega) | (simp; done) | (simp; omega) | (simp [*]; done) | (simp [*]; omega)) (by omega) (by first | rfl | omega | (simp [boundD]; done) | (simp [boundD]; omega) | (simp; done) | (simp; omega) | (simp [*]; done) | (simp [*]; omega)) rfl (by first | rfl | omega | (simp [boundD]; done) | (simp [boundD]; omega) | (simp; done) | (simp; omega) | (simp [*]; done) | (simp [*]; omega)) ?_
        simp -implicitDefEqProofs [-leave, hv, h1, hne, w1, w2, h2']
        refine outK_slice (at_ + 1) (n + 1) (by simp; rfl) rfl (by first | rfl | omega | (simp [boundD]; done) | (simp [boundD]; omega) | (simp; done) | (simp; omega) | (simp [*]; done) | (simp [*]; omega)) (by first | rfl | omega | (simp [boundD]; done) | (simp [boundD]; omega) | (simp; done) | (simp; omega) | (simp [*]; done) | (simp [*]; omega)) (by omega) (by first | rfl | omega | (simp [boundD]; done) | (simp [boundD]; omega) | (simp; done) | (simp; omega) | (simp [*]; done) | (simp [*]; omega)) rfl (by first | rfl | omega | (simp [boundD]; done) | (simp [boundD]; omega) | (simp; done) | (simp; omega) | (simp [*]; done) | (simp [*]; omega)) ?_
        simp -implicitDefEqProofs [-leave, hv, h1, hne, w1, w2, h2', hap]
        refine outK_slice (at_ + 1) (n + 1) (by simp; rfl) rfl (by first | rfl | omega | (simp [boundD]; done) | (simp [boundD]; omega) | (simp; done) | (simp; omega) | (simp [*]; done) | (simp [*]; omega)) (by first | rfl | omega | (simp [boundD]; done) | (simp [boundD]; omega) | (simp; done) | (simp; omega) | (simp [*]; done) | (simp [*]; omega)) (by omega) (by first | rfl | omega | (simp [boundD]; done) | (simp [boundD]; omega) | (simp; done) | (simp; omega) | (simp [*]; done) | (simp [*]; omega)) rfl (by first | rfl | omega | (simp [boundD]; done) | (simp [boundD]; omega) | (simp; done) | (simp; omega) | (simp [*]; done) | (simp [*]; omega)) ?_
        simp -implicitDefEqProofs [-leave, hv, h1, hne, w1, w2, h2']
        refine outK_slice (at_) (n + 1) (by simp; rfl) rfl (by first | rfl | omega | (simp [boundD]; done) | (simp [boundD]; omega) | (simp; done) | (simp; omega) | (simp [*]; done) | (simp [*]; omega)) (by first | rfl | omega | (simp [boundD]; done) | (simp [boundD]; omega) | (simp; done) | (simp; omega) | (simp [*]; done) | (simp [*]; omega)) (by omega) (by first | rfl | omega | (simp [boundD]; done) | (simp [boundD]; omega) | (simp; done) | (simp; omega) | (simp [*]; done) | (simp [*]; omega)) rfl (by first | rfl | omega | (simp [boundD]; done) | (simp [boundD]; omega) | (simp; done) | (simp; omega) | (simp [*]; done) | (simp [*]; omega)) ?_
        simp -implicitDefEqProofs [-leave, hv, h1, hne, w1, w2, h2', hT1, hfit]
        refine ⟨hrr _, ?_⟩
        try refine overK_if (by first | omega | (simp; done) | (simp; omega)) ?_
        have hB1 := ovr_length (rows := fl) (p := at_ + 1) (ys := List.take (n - at_) (List.drop at_ fl)) (by omega)
        have hBS := hfs.ovr ((hfs.drop at_).take (n - at_)) (at_ + 1)
        generalize hB : ovr fl (at_ + 1) (List.take (n - at_) (List.drop at_ fl)) = B at *
        simp -implicitDefEqProofs [-leave, hv, h1, hne, w1, w2, h2']
        refine outK_slice (at_) (n + 1) (by simp; rfl) rfl (by first | rfl | omega | (simp [boundD]; done) | (simp [boundD]; omega) | (simp; done) | (simp; omega) | (simp [*]; done) | (simp [*]; omega)) (by first | rfl | omega | (simp [boundD]; done) | (simp [boundD]; omega) | (simp; done) | (simp; omega) | (simp [*]; done) | (simp [*]; omega)) (by omega) (by first | rfl | omega | (simp [boundD]; done) | (simp [boundD]; omega) | (simp; done) | (simp; omega) | (simp [*]; done) | (simp [*]; omega)) rfl (by first | rfl | omega | (simp [boundD]; done) | (simp [boundD]; omega) | (simp; done) | (simp; omega) | (simp [*]; done) | (simp [*]; omega)) ?_
        simp -implicitDefEqProofs [-leave, hv, h1, hne, w1, w2, h2', hv1, hT2]
        try refine overK_if (by first | omega | (simp; done) | (simp; omega)) ?_
        simp -implicitDefEqProofs [-leave, hv, h1, hne, w1, w2, h2']
        rw [leave_lent (by omega) (by simpa using hBS.ovr hvS at_)]
        rfl
      · exact outRows_of rfl rfl rfl (by show 0 + (n + 1) ≤ (ovr (ovr fl (at_ + 1) _) at_ [v]).length; rw [ovr_length (by rw [ovr_length (by omega)]; simp; omega), ovr_length (by omega)]; omega) (ins_rowsC hn hlt h2 htake) (.inl rfl)
    · have h3 : fl.length = n := by omega
      have h3' : (n : Int) < (n : Int) + 1 := by omega
      refine ⟨.ref 1 0 (n + 1), [⟨fl, 1, .mut⟩, ⟨ovr (ovr (fl.take at_ ++ List.replicate (n + 1 - at_) (TT 3).zero) at_ [v]) (at_ + 1) ((fl.drop at_).take (n - at_)), 1, .mut⟩], ?_, ?_⟩
      · refine denF_of [] [66] [] [54] (by simp) ovls54 is_slices_Insert_int_int ?_
        simp -implicitDefEqProofs [-leave, c_slices_Insert_int_int]
        refine outK_slice (at_) (n) (by simp; rfl) rfl (by first | rfl | omega | (simp [boundD]; done) | (simp [boundD]; omega) | (simp; done) | (simp; omega) | (simp [*]; done) | (simp [*]; omega)) (by first | rfl | omega | (simp [boundD]; done) | (simp [boundD]; omega) | (simp; done) | (simp; omega) | (simp [*]; done) | (simp [*]; omega)) (by omega) (by first | rfl | omega | (simp [boundD]; done) | (simp [boundD]; omega) | (simp; done) | (simp; omega) | (simp [*]; done) | (simp [*]; omega)) rfl (by first | rfl | omega | (simp [boundD]; done) | (simp [boundD]; omega) | (simp; done) | (simp; omega) | (simp [*]; done) | (simp [*]; omega)) ?_
        simp -implicitDefEqProofs [-leave, hv, h1, hne, w1, w2, h3, h3']
        refine outK_slice (0) (at_) (by simp; rfl) rfl (by first | rfl | omega | (simp [boundD]; done) | (simp [boundD]; omega) | (simp; done) | (simp; omega) | (simp [*]; done) | (simp [*]; omega)) (by first | rfl | omega | (simp [boundD]; done) | (simp [boundD]; omega) | (simp; done) | (simp; omega) | (simp [*]; done) | (simp [*]; omega)) (by omega) (by first | rfl | omega | (simp [boundD]; done) | (simp [boundD]; omega) | (simp; done) | (simp; omega) | (simp [*]; done) | (simp [*]; omega)) rfl (by first | rfl | omega | (simp [boundD]; done) | (simp [boundD]; omega) | (simp; done) | (simp; omega) | (simp [*]; done) | (simp [*]; omega)) ?_
        simp -implicitDefEqProofs [-leave, hv, h1, hne, w1, w2, w3, h3, h3']
        refine appK_if (by omega) ?_
        have e1 : at_ + (n + 1 - at_) = n + 1 := by omega
        simp -implicitDefEqProofs [-leave, hv, h1, hne, w1, w2, w3, h3, h3', e1]
        repeat' (first | (refine appK2_if (by omega) ?_) | (refine appK2_else (by omega) ?_))
        simp -implicitDefEqProofs [-leave, hv, h1, hne, w1, w2, w3, h3, h3', e1]
        have hA1 : (List.take at_ fl ++ List.replicate (n + 1 - at_) [D.int IntKind.i64 0]).length = n + 1 := by simp; omega
        generalize hA : List.take at_ fl ++ List.replicate (n + 1 - at_) [D.int IntKind.i64 0] = A at *
        refine outK_slice (at_) (n + 1) (by simp; rfl) rfl (by first | rfl | omega | (simp [boundD]; done) | (simp [boundD]; omega) | (simp; done) | (simp; omega) | (simp [*]; done) | (simp [*]; omega)) (by first | rfl | omega | (simp [boundD]; done) | (simp [boundD]; omega) | (simp; done) | (simp; omega) | (simp [*]; done) | (simp [*]; omega)) (by omega) (by first | rfl | omega | (simp [boundD]; done) | (simp [boundD]; omega) | (simp; done) | (simp; omega) | (simp [*]; done) | (simp [*]; omega)) rfl (by first | rfl | omega | (simp [boundD]; done) | (simp [boundD]; omega) | (simp; done) | (simp; omega) | (simp [*]; done) | (simp [*]; omega)) ?_
        simp -implicitDefEqProofs [-leave, hv, h1, hne, w1, w2, h3, hv1, hT2]
        try refine overK_if (by first | omega | (simp; done) | (simp; omega)) ?_
        have hB1 := ovr_length (rows := A) (p := at_) (ys := [v]) (by simp; omega)
        generalize hB : ovr A at_ [v] = B at *
        simp -implicitDefEqProofs [-leave, hv, h1, hne, w1, w2, h3]
        refine outK_slice (at_ + 1) (n + 1) (by simp; rfl) rfl (by first | rfl | omega | (simp [boundD]; done) | (simp [boundD]; omega) | (simp; done) | (simp; omega) | (simp [*]; done) | (simp [*]; omega)) (by first | rfl | omega | (simp [boundD]; done) | (simp [boundD]; omega) | (simp; done) | (simp; omega) | (simp [*]; done) | (simp [*]; omega)) (by omega) (by first | rfl | omega | (simp [boundD]; done) | (simp [boundD]; omega) | (simp; done) | (simp; omega) | (simp [*]; done) | (simp [*]; omega)) rfl (by first | rfl | omega | (simp [boundD]; done) | (simp [boundD]; omega) | (simp; done) | (simp; omega) | (simp [*]; done) | (simp [*]; omega)) ?_
        simp -implicitDefEqProofs [-leave, hv, h1, hne, w1, w2, h3]
        refine outK_slice (at_) (n) (by simp; rfl) rfl (by first | rfl | omega | (simp [boundD]; done) | (simp [boundD]; omega) | (simp; done) | (simp; omega) | (simp [*]; done) | (simp [*]; omega)) (by first | rfl | omega | (simp [boundD]; done) | (simp [boundD]; omega) | (simp; done) | (simp; omega) | (simp [*]; done) | (simp [*]; omega)) (by omega) (by first | rfl | omega | (simp [boundD]; done) | (simp [boundD]; omega) | (simp; done) | (simp; omega) | (simp [*]; done) | (simp [*]; omega)) rfl (by first | rfl | omega | (simp [boundD]; done) | (simp [boundD]; omega) | (simp; done) | (simp; omega) | (simp [*]; done) | (simp [*]; omega)) ?_
        simp -implicitDefEqProofs [-leave, hv, h1, hne, w1, w2, h3, hfit, hT3]
        refine ⟨hrr _, ?_⟩
        try refine overK_if (by first | omega | (simp; done) | (simp; omega)) ?_
        try simp -implicitDefEqProofs [-leave, hv, h1, hne, w1, w2, h3]
        rw [leave_new (by omega) rfl rfl (by simpa using hfs)]
        simp [hA, hB]
      · exact outRows_of rfl rfl rfl (by
          have hA1 : (List.take at_ fl ++ List.replicate (n + 1 - at_) (TT 3).zero).length = n + 1 := by simp; omega
          show 0 + (n + 1) ≤ (ovr (ovr _ at_ [v]) (at_ + 1) _).length
          rw [ovr_length (by rw [ovr_length (by rw [hA1]; simp; omega), hA1]; omega), ovr_length (by rw [hA1]; simp; omega), hA1]; omega) (ins_rowsB hn hlt h3 htake) (.inr (by omega))
theorem clone_Peer (rows : List (List D)) (hf : Fits 2 rows) (hl : rows.length * 16 ≤ 140737488355328) : Den PP 47 [.sl rows rows.length] [] (.ref 0 0 rows.length) [⟨rows, 2, .mut⟩] := by
  cases hr : rows with
  | nil =>
    refine den_zs (pre := []) (post := []) ?_ ?_
    · refine den_of [] [] is_slices_Clone_api_Peer_api_Peer ?_
      simp -implicitDefEqProofs [c_slices_Clone_api_Peer_api_Peer]
    · refine den_of [] [] is_slices_Clone_api_Peer_api_Peer ?_
      simp -implicitDefEqProofs [c_slices_Clone_api_Peer_api_Peer, Fits]
  | cons r rs =>
    rw [hr] at hf hl
    have h63 : (r :: rs).length ≤ 9223372036854775807 := by omega
    have hlen : 0 < (r :: rs).length := by simp
    generalize hn : (r :: rs).length = n at *
    generalize r :: rs = rows at *
    refine den_of [] [] is_slices_Clone_api_Peer_api_Peer ?_
    simp -implicitDefEqProofs [c_slices_Clone_api_Peer_api_Peer, hlen, List.take_of_length_le (Nat.le_of_eq hn), hf, hn, hl, h63]
theorem insert_Peer (rows : List (List D)) (v : List D) (at_ : Nat) (hf : Fits 2 rows) (hst : StillR rows) (hv : Fits 2 [v]) (hvs : ∀ d ∈ v, d.still = true) (hat : at_ ≤ rows.length) (hl : rows.length ≤ 1000000) :
    GivesC (DenF PP [0]) 49 rows 2 [.int .i64 at_, .sl [v] 1] (insL rows at_ v) := by
  refine gives_of (fun r hr => (hf r hr).1) hst fun fl hfl hrow hfs htake hget => ?_
  have hv1 : v.length = 2 := (hv v (by simp)).1
  obtain ⟨c0, cs0, hvv⟩ : ∃ c0 cs0, v = c0 :: cs0 := by
    cases v with
    | nil => simp at hv1
    | cons a b => exact ⟨a, b, rfl⟩
  have hvS : StillR [v] := by intro r hr; rw [List.mem_singleton.1 hr]; exact hvs
  generalize hn : rows.length = n at *
  have w1 : IntKind.wrap .i64 ((n : Int) + 1) = n + 1 := wrap_in (by omega) (by omega)
  have w2 : IntKind.wrap .i64 ((at_ : Int) + 1) = at_ + 1 := wrap_in (by omega) (by omega)
  have w3 : IntKind.wrap .i64 ((n : Int) + 1 - at_) = ((n + 1 - at_ : Nat) : Int) := by rw [wrap_in (by omega) (by omega)]; omega
  by_cases h1 : at_ = n
  · subst h1
    by_cases h2 : at_ + 1 ≤ fl.length
    · refine ⟨.ref 0 0 (at_ + 1), [⟨ovr fl at_ [v], 2, .mut⟩], ?_, ?_⟩
      · refine denF_of [] [66] [] [59] (by simp) ovls59 is_slices_Insert_api_Peer_api_Peer ?_
        simp -implicitDefEqProofs [-leave, c_slices_Insert_api_Peer_api_Peer]
        refine outK_slice (at_) (at_) (by simp; rfl) rfl (by first | rfl | omega | (simp [boundD]; done) | (simp [boundD]; omega) | (simp; done) | (simp; omega) | (simp [*]; done) | (simp [*]; omega)) (by first | rfl | omega | (simp [boundD]; done) | (simp [boundD]; omega) | (simp; done) | (simp; omega) | (simp [*]; done) | (simp [*]; omega)) (by omega) (by first | rfl | omega | (simp [boundD]; done) | (simp [boundD]; omega) | (simp; done) | (simp; omega) | (simp [*]; done) | (simp [*]; omega)) rfl (by first | rfl | omega | (simp [boundD]; done) | (simp [boundD]; omega) | (simp; done) | (simp; omega) | (simp [*]; done) | (simp [*]; omega)) ?_
        simp -implicitDefEqProofs [-leave, hv]
        repeat' (first | (refine appK2_if (by omega) ?_) | (refine appK2_else (by omega) ?_))
        simp -implicitDefEqProofs [-leave, hv, h2]
        rw [leave_lent (by omega) (by simpa using ((hfs.take _).append hvS).append (hfs.drop _))]
        simp [ovr]
      · exact outRows_of rfl rfl rfl (by rw [ovr_length (by simpa using h2)]; omega) (ins_rows1 hn h2 htake) (.inl rfl)
    · have h3 : fl.length = at_ := by omega
      refine ⟨.ref 1 0 (at_ + 1), [⟨fl, 2, .mut⟩, ⟨fl.take at_ ++ [v], 2, .mut⟩], ?_, ?_⟩
      · refine denF_of [] [66] [] [59] (by simp) ovls59 is_slices_Insert_api_Peer_api_Peer ?_
        simp -implicitDefEqProofs [-leave, c_slices_Insert_api_Peer_api_Peer]
        by_cases h0 : at_ = 0
        · refine outK_slice (at_) (at_) (by simp; rfl) rfl (by first | rfl | omega | (simp [boundD]; done) | (simp [boundD]; omega) | (simp; done) | (simp; omega) | (simp [*]; done) | (simp [*]; omega)) (by first | rfl | omega | (simp [boundD]; done) | (simp [boundD]; omega) | (simp; done) | (simp; omega) | (simp [*]; done) | (simp [*]; omega)) (by omega) (by first | rfl | omega | (simp [boundD]; done) | (simp [boundD]; omega) | (simp; done) | (simp; omega) | (simp [*]; done) | (simp [*]; omega)) rfl (by first | rfl | omega | (simp [boundD]; done) | (simp [boundD]; omega) | (simp; done) | (simp; omega) | (simp [*]; done) | (simp [*]; omega)) ?_
          simp -implicitDefEqProofs [-leave, hv, h3]
          repeat' (first | (refine appK2_if (by omega) ?_) | (refine appK2_else (by omega) ?_))
          simp -implicitDefEqProofs [-leave, hv, h3]
          rw [leave_new (by omega) rfl rfl (by simpa using hfs)]
          rfl
        · refine outK_sliceE (at_) (by simp; rfl) rfl (by first | rfl | omega | (simp [boundD]; done) | (simp [boundD]; omega) | (simp; done) | (simp; omega) | (simp [*]; done) | (simp [*]; omega)) (by first | rfl | omega | (simp [boundD]; done) | (simp [boundD]; omega) | (simp; done) | (simp; omega) | (simp [*]; done) | (simp [*]; omega)) (by first | rfl | omega | (simp [boundD]; done) | (simp [boundD]; omega) | (simp; done) | (simp; omega) | (simp [*]; done) | (simp [*]; omega)) rfl (by omega) ?_
          simp -implicitDefEqProofs [-leave, hv, h3]
          repeat' (first | (refine appK2_if (by omega) ?_) | (refine appK2_else (by omega) ?_))
          simp -implicitDefEqProofs [-leave, hv, h3]
          rw [leave_new (by omega) rfl rfl (by simpa using hfs)]
          rfl
      · exact outRows_of rfl rfl rfl (by simp; omega) (ins_rows2 hn htake) (.inr (by omega))
  · have hlt : at_ < n := by omega
    have hT1 : ∀ X : List (List D), List.take (n - at_) (List.take (n + 1 - at_) X) = List.take (n - at_) X := by
      intro X
      rw [List.take_take]
      congr 1
      omega
    have hfit : Fits 2 (List.take (n - at_) (List.drop at_ fl)) := by
      intro r hr
      rw [← List.drop_take, htake] at hr
      exact hf r (List.mem_of_mem_drop hr)
    have hrr : ∀ m, ∀ r ∈ List.take m (List.drop at_ fl), r.length = 2 := fun m r hr => hrow r (List.mem_of_mem_drop (List.mem_of_mem_take hr))
    have hT3 : ∀ X : List (List D), List.take (n - at_) (List.take (n - at_) X) = List.take (n - at_) X := by intro X; rw [List.take_take]; congr 1; omega
    have hT2 : List.take (n + 1 - at_) [v] = [v] := List.take_of_length_le (by simp; omega)
    have hap : ∀ (fl' : List (List D)) (bs : List Blk) (o l : Nat), apartD (⟨fl', 2, .mut⟩ :: bs) [.sl [v] 1, .ref 0 o l] = true := by
      intro _ _ _ _
      rw [hvv]
      rfl
    have hyl : (List.take (n - at_) (List.drop at_ fl)).length = n - at_ := by simp; omega
    have hne : ¬ (at_ : Int) = n := by omega
    by_cases h2 : n + 1 ≤ fl.length
    · have h2' : ¬ ((fl.length : Int) < (n : Int) + 1) := by omega
      refine ⟨.ref 0 0 (n + 1), [⟨ovr (ovr fl (at_ + 1) ((fl.drop at_).take (n - at_))) at_ [v], 2, .mut⟩], ?_, ?_⟩
      · refine denF_of [] [66] [] [59] (by simp) ovls59 is_slices_Insert_api_Peer_api_Peer ?_
        simp -implicitDefEqProofs [-leave, c_slices_Insert_api_Peer_api_Peer]
        refine outK_slice (at_) (n) (by simp; rfl) rfl (by first | rfl | omega | (simp [boundD]; done) | (simp [boundD]; omega) | (simp; done) | (simp; omega) | (simp [*]; done) | (simp [*]; omega)) (by first | rfl | omega | (simp [boundD]; done) | (simp [boundD]; omega) | (simp; done) | (simp; omega) | (simp [*]; done) | (simp [*]; omega)) (by omega) (by first | rfl | omega | (simp [boundD]; done) | (simp [boundD]; omega) | (simp; done) | (simp; omega) | (simp [*]; done) | (simp [*]; omega)) rfl (by first | rfl | omega | (simp [boundD]; done) | (simp [boundD]; omega) | (simp; done) | (simp; omega) | (simp [*]; done) | (simp [*]; omega)) ?_
        simp -implicitDefEqProofs [-leave, hv, h1, hne, w1, w2, h2']
        refine outK_slice (0) (n + 1) (by simp; rfl) rfl (by first | rfl | omega | (simp [boundD]; done) | (simp [boundD]; omega) | (simp; done) | (simp; omega) | (simp [*]; done) | (simp [*]; omega)) (by first | rfl | omega | (simp [boundD]; done) | (simp [boundD]; omega) | (simp; done) | (simp; omega) | (simp [*]; done) | (simp [*]; omega)) (by omega) (by first | rfl | omega | (simp [boundD]; done) | (simp [boundD]; omega) | (simp; done) | (simp; omega) | (simp [*]; done) | (simp [*]; omega)) rfl (by first | rfl | omega | (simp [boundD]; done) | (simp [boundD]; omega) | (simp; done) | (simp; omega) | (simp [*]; done) | (simp [*]; omega)) ?_
        simp -implicitDefEqProofs [-leave, hv, h1, hne, w1, w2, h2']
        refine outK_slice (at_ + 1) (n + 1) (by simp; rfl) rfl (by first | rfl | omega | (simp [boundD]; done) | (simp [boundD]; omega) | (simp; done) | (simp; omega) | (simp [*]; done) | (simp [*]; omega)) (by first | rfl | omega | (simp [boundD]; done) | (simp [boundD]; omega) | (simp; done) | (simp; omega) | (simp [*]; done) | (simp [*]; omega)) (by omega) (by first | rfl | omega | (simp [boundD]; done) | (simp [boundD]; omega) | (simp; done) | (simp; omega) | (simp [*]; done) | (simp [*]; omega)) rfl (by first | rfl | omega | (simp [boundD]; done) | (simp [boundD]; omega) | (simp; done) | (simp; omega) | (simp [*]; done) | (simp [*]; omega)) ?_
        simp -implicitDefEqProofs [-leave, hv, h1, hne, w1, w2, h2', hap]
        refine outK_slice (at_ + 1) (n + 1) (by simp; rfl) rfl (by first | rfl | omega | (simp [boundD]; done) | (simp [boundD]; omega) | (simp; done) | (simp; omega) | (simp [*]; done) | (simp [*]; omega)) (by first | rfl | omega | (simp [boundD]; done) | (simp [boundD]; omega) | (simp; done) | (simp; omega) | (simp [*]; done) | (simp [*]; omega)) (by omega) (by first | rfl | omega | (simp [boundD]; done) | (simp [boundD]; omega) | (simp; done) | (simp; omega) | (simp [*]; done) | (simp [*]; omega)) rfl (by first | rfl | omega | (simp [boundD]; done) | (simp [boundD]; omega) | (simp; done) | (simp; omega) | (simp [*]; done) | (simp [*]; omega)) ?_
        simp -implicitDefEqProofs [-leave, hv, h1, hne, w1, w2, h2']
        refine outK_slice (at_) (n + 1) (by simp; rfl) rfl (by first | rfl | omega | (simp [boundD]; done) | (simp [boundD]; omega) | (simp; done) | (simp; omega) | (simp [*]; done) | (simp [*]; omega)) (by first | rfl | omega | (simp [boundD]; done) | (simp [boundD]; omega) | (simp; done) | (simp; omega) | (simp [*]; done) | (simp [*]; omega)) (by omega) (by first | rfl | omega | (simp [boundD]; done) | (simp [boundD]; omega) | (simp; done) | (simp; omega) | (simp [*]; done) | (simp [*]; omega)) rfl (by first | rfl | omega | (simp [boundD]; done) | (simp [boundD]; omega) | (simp; done) | (simp; omega) | (simp [*]; done) | (simp [*]; omega)) ?_
        simp -implicitDefEqProofs [-leave, hv, h1, hne, w1, w2, h2', hT1, hfit]
        refine ⟨hrr _, ?_⟩
        try refine overK_if (by first | omega | (simp; done) | (simp; omega)) ?_
        have hB1 := ovr_length (rows := fl) (p := at_ + 1) (ys := List.take (n - at_) (List.drop at_ fl)) (by omega)
        have hBS := hfs.ovr ((hfs.drop at_).take (n - at_)) (at_ + 1)
        generalize hB : ovr fl (at_ + 1) (List.take (n - at_) (List.drop at_ fl)) = B at *
        simp -implicitDefEqProofs [-leave, hv, h1, hne, w1, w2, h2']
        refine outK_slice (at_) (n + 1) (by simp; rfl) rfl (by first | rfl | omega | (simp [boundD]; done) | (simp [boundD]; omega) | (simp; done) | (simp; omega) | (simp [*]; done) | (simp [*]; omega)) (by first | rfl | omega | (simp [boundD]; done) | (simp [boundD]; omega) | (simp; done) | (simp; omega) | (simp [*]; done) | (simp [*]; omega)) (by omega) (by first | rfl | omega | (simp [boundD]; done) | (simp [boundD]; omega) | (simp; done) | (simp; omega) | (simp [*]; done) | (simp [*]; omega)) rfl (by first | rfl | omega | (simp [boundD]; done) | (simp [boundD]; omega) | (simp; done) | (simp; omega) | (simp [*]; done) | (simp [*]; omega)) ?_
        simp -implicitDefEqProofs [-leave, hv, h1, hne, w1, w2, h2', hv1, hT2]
        try refine overK_if (by first | omega | (simp; done) | (simp; omega)) ?_
        simp -implicitDefEqProofs [-leave, hv, h1, hne, w1, w2, h2']
        rw [leave_lent (by omega) (by simpa using hBS.ovr hvS at_)]
        rfl
      · exact outRows_of rfl rfl rfl (by show 0 + (n + 1) ≤ (ovr (ovr fl (at_ + 1) _) at_ [v]).length; rw [ovr_length (by rw [ovr_length (by omega)]; simp; omega), ovr_length (by omega)]; omega) (ins_rowsC hn hlt h2 htake) (.inl rfl)
    · have h3 : fl.length = n := by omega
      have h3' : (n : Int) < (n : Int) + 1 := by omega
      refine ⟨.ref 1 0 (n + 1), [⟨fl, 2, .mut⟩, ⟨ovr (ovr (fl.take at_ ++ List.replicate (n + 1 - at_) (TT 54).zero) at_ [v]) (at_ + 1) ((fl.drop at_).take (n - at_)), 2, .mut⟩], ?_, ?_⟩
      · refine denF_of [] [66] [] [59] (by simp) ovls59 is_slices_Insert_api_Peer_api_Peer ?_
        simp -implicitDefEqProofs [-leave, c_slices_Insert_api_Peer_api_Peer]
        refine outK_slice (at_) (n) (by simp; rfl) rfl (by first | rfl | omega | (simp [boundD]; done) | (simp [boundD]; omega) | (simp; done) | (simp; omega) | (simp [*]; done) | (simp [*]; omega)) (by first | rfl | omega | (simp [boundD]; done) | (simp [boundD]; omega) | (simp; done) | (simp; omega) | (simp [*]; done) | (simp [*]; omega)) (by omega) (by first | rfl | omega | (simp [boundD]; done) | (simp [boundD]; omega) | (simp; done) | (simp; omega) | (simp [*]; done) | (simp [*]; omega)) rfl (by first | rfl | omega | (simp [boundD]; done) | (simp [boundD]; omega) | (simp; done) | (simp; omega) | (simp [*]; done) | (simp [*]; omega)) ?_
        simp -implicitDefEqProofs [-leave, hv, h1, hne, w1, w2, h3, h3']
        refine outK_slice (0) (at_) (by simp; rfl) rfl (by first | rfl | omega | (simp [boundD]; done) | (simp [boundD]; omega) | (simp; done) | (simp; omega) | (simp [*]; done) | (simp [*]; omega)) (by first | rfl | omega | (simp [boundD]; done) | (simp [boundD]; omega) | (simp; done) | (simp; omega) | (simp [*]; done) | (simp [*]; omega)) (by omega) (by first | rfl | omega | (simp [boundD]; done) | (simp [boundD]; omega) | (simp; done) | (simp; omega) | (simp [*]; done) | (simp [*]; omega)) rfl (by first | rfl | omega | (simp [boundD]; done) | (simp [boundD]; omega) | (simp; done) | (simp; omega) | (simp [*]; done) | (simp [*]; omega)) ?_
        simp -implicitDefEqProofs [-leave, hv, h1, hne, w1, w2, w3, h3, h3']
        refine appK_if (by omega) ?_
        have e1 : at_ + (n + 1 - at_) = n + 1 := by omega
        simp -implicitDefEqProofs [-leave, hv, h1, hne, w1, w2, w3, h3, h3', e1]
        repeat' (first | (refine appK2_if (by omega) ?_) | (refine appK2_else (by omega) ?_))
        simp -implicitDefEqProofs [-leave, hv, h1, hne, w1, w2, w3, h3, h3', e1]
        have hA1 : (List.take at_ fl ++ List.replicate (n + 1 - at_) [D.int IntKind.i64 0, D.int IntKind.i64 0]).length = n + 1 := by simp; omega
        generalize hA : List.take at_ fl ++ List.replicate (n + 1 - at_) [D.int IntKind.i64 0, D.int IntKind.i64 0] = A at *
        refine outK_slice (at_) (n + 1) (by simp; rfl) rfl (by first | rfl | omega | (simp [boundD]; done) | (simp [boundD]; omega) | (simp; done) | (simp; omega) | (simp [*]; done) | (simp [*]; omega)) (by first | rfl | omega | (simp [boundD]; done) | (simp [boundD]; omega) | (simp; done) | (simp; omega) | (simp [*]; done) | (simp [*]; omega)) (by omega) (by first | rfl | omega | (simp [boundD]; done) | (simp [boundD]; omega) | (simp; done) | (simp; omega) | (simp [*]; done) | (simp [*]; omega)) rfl (by first | rfl | omega | (simp [boundD]; done) | (simp [boundD]; omega) | (simp; done) | (simp; omega) | (simp [*]; done) | (simp [*]; omega)) ?_
        simp -implicitDefEqProofs [-leave, hv, h1, hne, w1, w2, h3, hv1, hT2]
        try refine overK_if (by first | omega | (simp; done) | (simp; omega)) ?_
        have hB1 := ovr_length (rows := A) (p := at_) (ys := [v]) (by simp; omega)
        generalize hB : ovr A at_ [v] = B at *
        simp -implicitDefEqProofs [-leave, hv, h1, hne, w1, w2, h3]
        refine outK_slice (at_ + 1) (n + 1) (by simp; rfl) rfl (by first | rfl | omega | (simp [boundD]; done) | (simp [boundD]; omega) | (simp; done) | (simp; omega) | (simp [*]; done) | (simp [*]; omega)) (by first | rfl | omega | (simp [boundD]; done) | (simp [boundD]; omega) | (simp; done) | (simp; omega) | (simp [*]; done) | (simp [*]; omega)) (by omega) (by first | rfl | omega | (simp [boundD]; done) | (simp [boundD]; omega) | (simp; done) | (simp; omega) | (simp [*]; done) | (simp [*]; omega)) rfl (by first | rfl | omega | (simp [boundD]; done) | (simp [boundD]; omega) | (simp; done) | (simp; omega) | (simp [*]; done) | (simp [*]; omega)) ?_
        simp -implicitDefEqProofs [-leave, hv, h1, hne, w1, w2, h3]
        refine outK_slice (at_) (n) (by simp; rfl) rfl (by first | rfl | omega | (simp [boundD]; done) | (simp [boundD]; omega) | (simp; done) | (simp; omega) | (simp [*]; done) | (simp [*]; omega)) (by first | rfl | omega | (simp [boundD]; done) | (simp [boundD]; omega) | (simp; done) | (simp; omega) | (simp [*]; done) | (simp [*]; omega)) (by omega) (by first | rfl | omega | (simp [boundD]; done) | (simp [boundD]; omega) | (simp; done) | (simp; omega) | (simp [*]; done) | (simp [*]; omega)) rfl (by first | rfl | omega | (simp [boundD]; done) | (simp [boundD]; omega) | (simp; done) | (simp; omega) | (simp [*]; done) | (simp [*]; omega)) ?_
        simp -implicitDefEqProofs [-leave, hv, h1, hne, w1, w2, h3, hfit, hT3]
        refine ⟨hrr _, ?_⟩
        try refine overK_if (by first | omega | (simp; done) | (simp; omega)) ?_
        try simp -implicitDefEqProofs [-leave, hv, h1, hne, w1, w2, h3]
        rw [leave_new (by omega) rfl rfl (by simpa using hfs)]
        simp [hA, hB]
      · exact outRows_of rfl rfl rfl (by
          have hA1 : (List.take at_ fl ++ List.replicate (n + 1 - at_) (TT 54).zero).length = n + 1 := by simp; omega
          show 0 + (n + 1) ≤ (ovr (ovr _ at_ [v]) (at_ + 1) _).length
          rw [ovr_length (by rw [ovr_length (by rw [hA1]; simp; omega), hA1]; omega), ovr_length (by rw [hA1]; simp; omega), hA1]; omega) (ins_rowsB hn hlt h3 htake) (.inr (by omega))
end Go.AM
/- AM: contracts: a view's ends, a key's owner. -/
namespace Go.AM
set_option linter.unusedSimpArgs false
set_option linter.unusedVariables false
set_option maxRecDepth 8000
set_option maxHeartbeats 0
end Go.AM
/- AM: contracts: a key's owner. -/
namespace Go.AM
set_option linter.unusedSimpArgs false
set_option linter.unusedVariables false
set_option maxRecDepth 8000
set_option maxHeartbeats 0
end Go.AM
/- AM: contracts: the document's answers about views. -/
namespace Go.AM
set_option linter.unusedSimpArgs false
set_option linter.unusedVariables false
set_option maxRecDepth 8000
set_option maxHeartbeats 0
theorem law_SameInts (xs ys : List Int) (hl : xs.length ≤ cap) : Den PP 18 [intsD xs, intsD ys] [] (.bool (decide (xs = ys))) [] := by
  refine den_of [] [] is_gimmallaw0_SameInts ?_
  simp -implicitDefEqProofs [c_gimmallaw0_SameInts, intsD]
  refine condC_split (fun h => ?_) (fun h => ?_)
  · simp -implicitDefEqProofs
    intro he
    subst he
    simp at h
  have hlen : xs.length = ys.length := by simp at h; omega
  simp -implicitDefEqProofs
  refine anyLoop_of (xs.length + 1) ?_
  have key : ∀ (Q : Ex → St → Prop) (r : Bool) (hQ1 : ∀ fr, r = true → Q .normal ⟨fr, []⟩) (hQ2 : ∀ fr bs, r = false → fr 4 = .bool false → Q .ret ⟨fr, bs⟩) (rest : List Int) (i : Nat) (fr : Nat → D), xs.drop i = rest → i ≤ xs.length →
      fr 0 = .sl (xs.map irow) xs.length → fr 1 = .sl (ys.map irow) ys.length → fr 5 = .int .i64 i → decide (rest = ys.drop i) = r → sLoop (cf 0 [] []) 0 c_gimmallaw0_SameInts_L0 (blockQ 0 Q) (rest.length + 1) ⟨fr, []⟩ := by
    intro Q r hQ1 hQ2 rest
    induction rest with
    | nil =>
      intro i fr e hi h0 h1 h5 hm
      refine sLoop_body c_gimmallaw0_SameInts_L0.eq_1 ?_
      have hi' := drop_nil e hi
      simp -implicitDefEqProofs [h0, h1, h5, hi']
      exact hQ1 _ (by rw [← hm, hi', hlen]; simp)
    | cons x rest ih =>
      intro i fr e hi h0 h1 h5 hm
      refine sLoop_body c_gimmallaw0_SameInts_L0.eq_1 ?_
      obtain ⟨hlt, hget, hd, hl2⟩ := drop_cons e
      have hlt' : (i : Int) < xs.length := by omega
      have hlt2 : (i : Int) < ys.length := by omega
      have hw := wrap_next (n := i) (by unfold cap at hl; omega)
      obtain ⟨y, hy⟩ : ∃ y, ys[i]? = some y := ⟨ys[i], by simp⟩
      have hyd : ys.drop i = y :: ys.drop (i + 1) := by
        rw [List.drop_eq_getElem_cons (by omega)]
        have : ys[i] = y := by
          have := (List.getElem?_eq_some_iff.1 hy).2
          exact this
        rw [this]
      simp -implicitDefEqProofs [h0, h1, h5, hlt', hlt2, hget, hy, irow]
      refine condC_split (fun h2 => ?_) (fun h2 => ?_)
      all_goals simp -implicitDefEqProofs [h2, h0, h1, h5, hw]
      · refine hQ2 _ _ ?_ (by rfl)
        rw [← hm, hyd]
        simp at h2
        simp [h2]
      · refine ih (i + 1) _ hd (by omega) (by simp [h0, h1, h5]) (by simp [h0, h1, h5]) (by simp) ?_
        rw [← hm, hyd]
        simp at h2
        simp [h2]
  refine key _ (decide (xs = ys)) (fun fr h => ?_) (fun fr bs h h2 => ?_) xs 0 _ rfl (Nat.zero_le _) rfl rfl rfl rfl
  · simp -implicitDefEqProofs [h]
  · simp -implicitDefEqProofs [h, h2]

theorem ref_PassiveMay (xs : List Int) (hl : xs.length ≤ cap) : Den PP 21 [intsD xs] [] (.bool (refPassiveMay xs)) [] := by
  have hc := ref_placesMay xs hl
  simp [intsD] at hc
  refine den_of [] [] is_gimmalref1_PassiveMay ?_
  simp -implicitDefEqProofs [c_gimmalref1_PassiveMay, intsD]
  refine anyLoop_of (xs.length + 1) ?_
  have key : ∀ (Q : Ex → St → Prop) (r : Bool) (hQ1 : ∀ fr, r = true → fr 0 = .sl (xs.map irow) xs.length → Q .normal ⟨fr, []⟩) (hQ2 : ∀ fr bs, r = false → fr 2 = .bool false → Q .ret ⟨fr, bs⟩) (n j : Nat) (fr : Nat → D), xs.length - j ≤ n → 1 ≤ j →
      fr 0 = .sl (xs.map irow) xs.length → fr 3 = .int .i64 j → incrAt xs j = r → sLoop (cf 0 [] []) 0 c_gimmalref1_PassiveMay_L0 (blockQ 0 Q) (n + 1) ⟨fr, []⟩ := by
    intro Q r hQ1 hQ2 n
    induction n with
    | zero =>
      intro j fr hn hj h0 h3 hm
      refine sLoop_body c_gimmalref1_PassiveMay_L0.eq_1 ?_
      have hx : ¬ (j < xs.length) := by omega
      simp -implicitDefEqProofs [h0, h3, hx]
      exact hQ1 _ (by rw [← hm]; exact incrAt_end (List.drop_of_length_le (by omega))) (by simp [h0, h3])
    | succ n ih =>
      intro j fr hn hj h0 h3 hm
      refine sLoop_body c_gimmalref1_PassiveMay_L0.eq_1 ?_
      by_cases hx : j < xs.length
      · have hlt' : (j : Int) < xs.length := by omega
        have hw := wrap_next (n := j) (by unfold cap at hl; omega)
        have hwp : IntKind.wrap .i64 ((j : Int) - 1) = ((j - 1 : Nat) : Int) := by unfold cap at hl; rw [wrap_in (by omega) (by omega)]; omega
        have hlt2 : ((j - 1 : Nat) : Int) < xs.length := by omega
        obtain ⟨x, hxv⟩ : ∃ x, xs[j]? = some x := ⟨xs[j], by simp⟩
        obtain ⟨y, hyv⟩ : ∃ y, xs[j - 1]? = some y := ⟨xs[j - 1], by simp⟩
        rw [incrAt_next hj hyv hxv] at hm
        simp -implicitDefEqProofs [h0, h3, hlt', hwp, hlt2, hxv, hyv, irow]
        refine condC_dec (fun h2 => ?_) (fun h2 => ?_)
        all_goals simp -implicitDefEqProofs [h2, h0, h3, hw]
        · exact hQ2 _ _ (by rw [← hm]; simp; intros; omega) (by rfl)
        · exact ih (j + 1) _ (by omega) (by omega) (by simp [h0, h3]) (by simp) (by rw [← hm]; simp [show y < x by omega])
      · simp -implicitDefEqProofs [h0, h3, hx]
        exact hQ1 _ (by rw [← hm]; exact incrAt_end (List.drop_of_length_le (by omega))) (by simp [h0, h3])
  refine key _ (incr xs) (fun fr h h0 => ?_) (fun fr bs h h2 => ?_) xs.length 1 _ (by omega) (by omega) rfl rfl (incrAt_start xs)
  · simp -implicitDefEqProofs [h, h0]
    refine callThen_of hc ?_
    simp -implicitDefEqProofs
    refine gOps_split (fun h2 => ?_) (fun h2 => ?_)
    all_goals simp -implicitDefEqProofs [h2, h, h0, refPassiveMay]
    omega
  · simp -implicitDefEqProofs [h, h2, refPassiveMay]
end Go.AM
/- AM: contracts: the document's peers. -/
namespace Go.AM
set_option linter.unusedSimpArgs false
set_option linter.unusedVariables false
set_option maxRecDepth 8000
set_option maxHeartbeats 0
theorem ref_PeersMay (base : Int) (ps : List Peer) (hl : ps.length ≤ cap) : Den PP 32 [.int .i64 base, peersD ps] [] (.bool (refPeersMay base ps)) [] := by
  refine den_of [] [] is_gimmalref1_PeersMay ?_
  simp -implicitDefEqProofs [c_gimmalref1_PeersMay, peersD]
  refine anyLoop_of (ps.length + 1) ?_
  have key : ∀ (Q : Ex → St → Prop) (r : Bool) (hQ1 : ∀ fr, r = true → fr 0 = .int .i64 base → fr 1 = .sl (ps.map Peer.row) ps.length → Q .normal ⟨fr, []⟩) (hQ2 : ∀ fr bs, r = false → fr 4 = .bool false → Q .ret ⟨fr, bs⟩) (rest : List Peer) (i : Nat) (fr : Nat → D), ps.drop i = rest → i ≤ ps.length →
      fr 0 = .int .i64 base → fr 1 = .sl (ps.map Peer.row) ps.length → fr 5 = .int .i64 i → refPeersOk base (if i = 0 then none else ps[i - 1]?) rest = r → sLoop (cf 0 [] []) 0 c_gimmalref1_PeersMay_L0 (blockQ 0 Q) (rest.length + 1) ⟨fr, []⟩ := by
    intro Q r hQ1 hQ2 rest
    induction rest with
    | nil =>
      intro i fr e hi h0 h1 h5 hm
      refine sLoop_body c_gimmalref1_PeersMay_L0.eq_1 ?_
      have hi' := drop_nil e hi
      simp -implicitDefEqProofs [h0, h1, h5, hi']
      exact hQ1 _ hm.symm (by simp [h0, h1, h5]) (by simp [h0, h1, h5])
    | cons p rest ih =>
      intro i fr e hi h0 h1 h5 hm
      refine sLoop_body c_gimmalref1_PeersMay_L0.eq_1 ?_
      obtain ⟨hlt, hget, hd, hlen⟩ := drop_cons e
      have hlt' : (i : Int) < ps.length := by omega
      have hw := wrap_next (n := i) (by unfold cap at hl; omega)
      have hprev : (if i + 1 = 0 then none else ps[i + 1 - 1]?) = some p := by simp [hget]
      simp only [refPeersOk] at hm
      simp -implicitDefEqProofs [h0, h1, h5, hlt', hget, Peer.row]
      refine callThen_of (ref_PlaceMay p.id) ?_
      simp -implicitDefEqProofs [h0, h1, h5]
      refine gOps_split (fun g1 => ?_) (fun g1 => ?_)
      rotate_left
      · simp -implicitDefEqProofs [g1, h0, h1, h5]
        exact hQ2 _ _ (by rw [← hm]; simp [g1]) (by rfl)
      simp -implicitDefEqProofs [g1, h0, h1, h5, hlt', hget, Peer.row]
      refine gOps_not (fun g2 => ?_) (fun g2 => ?_)
      · simp -implicitDefEqProofs [g2, h0, h1, h5]
        exact hQ2 _ _ (by rw [← hm]; simp at g2; simp [g2]) (by rfl)
      simp -implicitDefEqProofs [g2, h0, h1, h5, hlt', hget, Peer.row]
      refine gOps_ndec (fun g3 => ?_) (fun g3 => ?_)
      · simp -implicitDefEqProofs [g3, h0, h1, h5]
        exact hQ2 _ _ (by rw [← hm]; simp; intros; omega) (by rfl)
      simp -implicitDefEqProofs [g3, h0, h1, h5, hlt', hget, Peer.row]
      refine gOps_ndec (fun g4 => ?_) (fun g4 => ?_)
      · simp -implicitDefEqProofs [g4, h0, h1, h5]
        exact hQ2 _ _ (by rw [← hm]; simp; intros; omega) (by rfl)
      simp -implicitDefEqProofs [g4, h0, h1, h5, hlt', hget, Peer.row]
      have g2' : decide (p.id ≠ base) = true := by simp at g2; simp [g2]
      rw [g1, g2', decide_eq_true (show 0 ≤ p.missed by omega), decide_eq_true (show p.missed < 3 by omega)] at hm
      by_cases hi0 : i = 0
      · simp -implicitDefEqProofs [hi0, h0, h1, h5]
        rw [hi0] at hw
        simp -implicitDefEqProofs at hw
        simp -implicitDefEqProofs [hw]
        refine ih 1 _ (by rw [← hd, hi0]) (by omega) (by simp [h0, h1, h5]) (by simp [h0, h1, h5]) (by simp) ?_
        rw [hi0] at hprev hm
        rw [← hm]
        simp at hprev ⊢
        rw [hprev]
      · have hpos : 0 < i := by omega
        have hwp : IntKind.wrap .i64 ((i : Int) - 1) = ((i - 1 : Nat) : Int) := by unfold cap at hl; rw [wrap_in (by omega) (by omega)]; omega
        have hlt2 : ((i - 1 : Nat) : Int) < ps.length := by omega
        obtain ⟨q, hq⟩ : ∃ q, ps[i - 1]? = some q := ⟨ps[i - 1], by simp⟩
        rw [if_neg hi0, hq] at hm
        simp -implicitDefEqProofs [hpos, h0, h1, h5, hwp, hlt2, hq, Peer.row]
        refine callThen_of (ref_far base q.id) ?_
        simp -implicitDefEqProofs [h0, h1, h5, hlt', hget, Peer.row]
        refine callThen_of (ref_far base p.id) ?_
        simp -implicitDefEqProofs [h0, h1, h5]
        refine condC_dec (fun h2 => ?_) (fun h2 => ?_)
        all_goals simp -implicitDefEqProofs [h2, h0, h1, h5, hw]
        · exact hQ2 _ _ (by rw [← hm]; simp; intros; omega) (by rfl)
        · refine ih (i + 1) _ hd (by omega) (by simp [h0, h1, h5]) (by simp [h0, h1, h5]) (by simp) ?_
          rw [hprev, ← hm]
          simp [show far base q.id < far base p.id by omega]
  refine key _ (refPeersOk base none ps) (fun fr h h0 h1 => ?_) (fun fr bs h h4 => ?_) ps 0 _ rfl (Nat.zero_le _) rfl rfl rfl rfl
  · simp -implicitDefEqProofs [h, h0, h1]
    refine callThen_of (ref_PlaceMay base) ?_
    simp -implicitDefEqProofs [h0, h1]
    refine gOps_split (fun h2 => ?_) (fun h2 => ?_)
    all_goals simp -implicitDefEqProofs [h2, h, h0, h1, refPeersMay]
    omega
  · simp -implicitDefEqProofs [h, h4, refPeersMay]
end Go.AM
/- AM: contracts: the document's answers about views. -/
namespace Go.AM
set_option linter.unusedSimpArgs false
set_option linter.unusedVariables false
set_option maxRecDepth 8000
set_option maxHeartbeats 0
def inv_Heard (base : Int) (ps : List Peer) (id : Int) (i : Nat) (rest : List Peer) : St → Prop := fun ⟨fr, bs⟩ => ∃ acc inn, bs = [⟨[], 2, .mut⟩, ⟨acc.map Peer.row, 2, .mut⟩] ∧ acc.length ≤ 2 * i ∧ acc ++ hearG base id inn rest = hearG base id false ps ∧
  fr 0 = .int .i64 base ∧ fr 1 = .sl (ps.map Peer.row) ps.length ∧ fr 2 = .int .i64 id ∧ fr 8 = .ref 1 0 acc.length ∧ fr 9 = .bool inn ∧ fr 10 = .int .i64 i
def end_Heard (base : Int) (ps : List Peer) (id : Int) : St → Prop := fun ⟨fr, bs⟩ => ∃ acc inn, bs = [⟨[], 2, .mut⟩, ⟨acc.map Peer.row, 2, .mut⟩] ∧ acc.length ≤ 2 * ps.length ∧ acc ++ hearG base id inn [] = hearG base id false ps ∧
  fr 2 = .int .i64 id ∧ fr 8 = .ref 1 0 acc.length ∧ fr 9 = .bool inn
theorem ref_Heard (base : Int) (ps : List Peer) (id : Int) (hl : ps.length ≤ cap16) :
    Den PP 27 [.int .i64 base, peersD ps, .int .i64 id] [] (.tup [.ref 0 0 (refHeard base ps id).1.length, .int .i64 (refHeard base ps id).2]) [⟨(refHeard base ps id).1.map Peer.row, 2, .mut⟩] := by
  have hc := ref_PeersMay base ps (cap_of hl)
  simp [peersD] at hc
  refine den_of [] [] is_gimmalref1_Heard ?_
  simp -implicitDefEqProofs [c_gimmalref1_Heard, peersD]
  repeat' (first | (refine callThen_of (by first | exact hc | exact ref_PlaceMay _) ?_; simp -implicitDefEqProofs [*, refHeard]) | (with_reducible refine gOps_dec (fun _ => ?_) (fun _ => ?_) <;> simp -implicitDefEqProofs [*, refHeard]) | (with_reducible refine gOps_ndec (fun _ => ?_) (fun _ => ?_) <;> simp -implicitDefEqProofs [*, refHeard]) | (with_reducible refine gOps_and (fun hq => ?_) (fun hq => ?_) <;> (try simp at hq) <;> simp -implicitDefEqProofs [*, refHeard]) | (with_reducible refine gOps_or (fun hq => ?_) (fun hq => ?_) <;> (try simp at hq) <;> simp -implicitDefEqProofs [*, refHeard]) | (with_reducible refine gOps_not (fun hq => ?_) (fun hq => ?_) <;> (try simp at hq) <;> simp -implicitDefEqProofs [*, refHeard]) | (with_reducible refine gOps_split (fun hq => ?_) (fun hq => ?_) <;> (try simp at hq) <;> simp -implicitDefEqProofs [*, refHeard]) | (with_reducible refine condC_dec (fun _ => ?_) (fun _ => ?_) <;> simp -implicitDefEqProofs [*, refHeard]) | (with_reducible refine condC_ndec (fun _ => ?_) (fun _ => ?_) <;> simp -implicitDefEqProofs [*, refHeard]) | (with_reducible refine condC_and (fun hq => ?_) (fun hq => ?_) <;> (try simp at hq) <;> simp -implicitDefEqProofs [*, refHeard]) | (with_reducible refine condC_or (fun hq => ?_) (fun hq => ?_) <;> (try simp at hq) <;> simp -implicitDefEqProofs [*, refHeard]) | (with_reducible refine condC_not (fun hq => ?_) (fun hq => ?_) <;> (try simp at hq) <;> simp -implicitDefEqProofs [*, refHeard]) | (with_reducible refine condC_split (fun hq => ?_) (fun hq => ?_) <;> (try simp at hq) <;> simp -implicitDefEqProofs [*, refHeard]) | (refine appK2_if (by omega) ?_; simp -implicitDefEqProofs [*, refHeard]) | (refine pureV_if (by omega) ?_; simp -implicitDefEqProofs [*, refHeard]))
  have hps : ps.length ≤ 16 := by
    have := ‹refPeersMay base ps = true›
    simp [refPeersMay] at this
    omega
  refine list_rule ps (inv_Heard base ps id) (end_Heard base ps id) (fun _ => False) c_gimmalref1_Heard_L0.eq_1 ?_ ?_ ?_ ?_ ?_
  · exact ⟨[], false, rfl, by simp, rfl, rfl, rfl, rfl, rfl, rfl, rfl⟩
  · rintro i ⟨fr, bs⟩ hi ⟨acc, inn, hb, hal, he, h0, h1, h2, h8, h9, h10⟩
    simp -implicitDefEqProofs [*]
    exact ⟨acc, inn, by simp [*], by simpa [hi] using hal, he, by simp [*], by simp [*], by simp [*]⟩
  · rintro i p rest ⟨fr, bs⟩ hlt hget hg hd hd2 ⟨acc, inn, hb, hal, he, h0, h1, h2, h8, h9, h10⟩
    have hlt' : (i : Int) < ps.length := by omega
    have hw := wrap_next (n := i) (by unfold cap16 at hl; omega)
    simp only [hearG] at he
    subst hb
    simp -implicitDefEqProofs [h0, h1, h2, h8, h9, h10, hlt', hget, Peer.row]
    have r1 := ref_far base p.id
    have r2 := ref_far base id
    repeat' (first | (refine callThen_of (by first | exact r1 | exact r2) ?_; simp -implicitDefEqProofs [*, Peer.row, Fits]) | (with_reducible refine gOps_dec (fun _ => ?_) (fun _ => ?_) <;> simp -implicitDefEqProofs [*, Peer.row, Fits]) | (with_reducible refine gOps_ndec (fun _ => ?_) (fun _ => ?_) <;> simp -implicitDefEqProofs [*, Peer.row, Fits]) | (with_reducible refine gOps_and (fun hq => ?_) (fun hq => ?_) <;> (try simp at hq) <;> simp -implicitDefEqProofs [*, Peer.row, Fits]) | (with_reducible refine gOps_or (fun hq => ?_) (fun hq => ?_) <;> (try simp at hq) <;> simp -implicitDefEqProofs [*, Peer.row, Fits]) | (with_reducible refine gOps_not (fun hq => ?_) (fun hq => ?_) <;> (try simp at hq) <;> simp -implicitDefEqProofs [*, Peer.row, Fits]) | (with_reducible refine gOps_split (fun hq => ?_) (fun hq => ?_) <;> (try simp at hq) <;> simp -implicitDefEqProofs [*, Peer.row, Fits]) | (with_reducible refine condC_dec (fun _ => ?_) (fun _ => ?_) <;> simp -implicitDefEqProofs [*, Peer.row, Fits]) | (with_reducible refine condC_ndec (fun _ => ?_) (fun _ => ?_) <;> simp -implicitDefEqProofs [*, Peer.row, Fits]) | (with_reducible refine condC_and (fun hq => ?_) (fun hq => ?_) <;> (try simp at hq) <;> simp -implicitDefEqProofs [*, Peer.row, Fits]) | (with_reducible refine condC_or (fun hq => ?_) (fun hq => ?_) <;> (try simp at hq) <;> simp -implicitDefEqProofs [*, Peer.row, Fits]) | (with_reducible refine condC_not (fun hq => ?_) (fun hq => ?_) <;> (try simp at hq) <;> simp -implicitDefEqProofs [*, Peer.row, Fits]) | (with_reducible refine condC_split (fun hq => ?_) (fun hq => ?_) <;> (try simp at hq) <;> simp -implicitDefEqProofs [*, Peer.row, Fits]) | (refine appK2_if (by omega) ?_; simp -implicitDefEqProofs [*, Peer.row, Fits]) | (refine pureV_if (by omega) ?_; simp -implicitDefEqProofs [*, Peer.row, Fits]))
    all_goals
      refine ⟨acc ++ ((if inn = false ∧ far base id ≤ far base p.id then [⟨id, 0⟩] else []) ++ (if p.id = id then [] else [p])), inn || decide (far base id ≤ far base p.id), ?_⟩
      simp [*, Peer.row]
      grind
  · rintro ⟨fr, bs⟩ ⟨acc, inn, rfl, hal, he, h2, h8, h9⟩
    simp only [hearG] at he
    simp -implicitDefEqProofs [h2, h8, h9]
    repeat' (first | (with_reducible refine gOps_dec (fun _ => ?_) (fun _ => ?_) <;> simp -implicitDefEqProofs [*, Fits, Peer.row]) | (with_reducible refine gOps_ndec (fun _ => ?_) (fun _ => ?_) <;> simp -implicitDefEqProofs [*, Fits, Peer.row]) | (with_reducible refine gOps_and (fun hq => ?_) (fun hq => ?_) <;> (try simp at hq) <;> simp -implicitDefEqProofs [*, Fits, Peer.row]) | (with_reducible refine gOps_or (fun hq => ?_) (fun hq => ?_) <;> (try simp at hq) <;> simp -implicitDefEqProofs [*, Fits, Peer.row]) | (with_reducible refine gOps_not (fun hq => ?_) (fun hq => ?_) <;> (try simp at hq) <;> simp -implicitDefEqProofs [*, Fits, Peer.row]) | (with_reducible refine gOps_split (fun hq => ?_) (fun hq => ?_) <;> (try simp at hq) <;> simp -implicitDefEqProofs [*, Fits, Peer.row]) | (with_reducible refine condC_dec (fun _ => ?_) (fun _ => ?_) <;> simp -implicitDefEqProofs [*, Fits, Peer.row]) | (with_reducible refine condC_ndec (fun _ => ?_) (fun _ => ?_) <;> simp -implicitDefEqProofs [*, Fits, Peer.row]) | (with_reducible refine condC_and (fun hq => ?_) (fun hq => ?_) <;> (try simp at hq) <;> simp -implicitDefEqProofs [*, Fits, Peer.row]) | (with_reducible refine condC_or (fun hq => ?_) (fun hq => ?_) <;> (try simp at hq) <;> simp -implicitDefEqProofs [*, Fits, Peer.row]) | (with_reducible refine condC_not (fun hq => ?_) (fun hq => ?_) <;> (try simp at hq) <;> simp -implicitDefEqProofs [*, Fits, Peer.row]) | (with_reducible refine condC_split (fun hq => ?_) (fun hq => ?_) <;> (try simp at hq) <;> simp -implicitDefEqProofs [*, Fits, Peer.row]) | (refine appK2_if (by omega) ?_; simp -implicitDefEqProofs [*, Fits, Peer.row]) | (refine pureV_if (by omega) ?_; simp -implicitDefEqProofs [*, Fits, Peer.row]))
    all_goals grind [Peer.row]
  · rintro ⟨fr, bs⟩ h
    exact h.elim

theorem ref_WithoutPassive (xs : List Int) (x : Int) (hl : xs.length ≤ cap) :
    Den PP 17 [intsD xs, .int .i64 x] [] (.tup [.ref 0 0 (refWithout xs x).1.length, .int .i64 (refWithout xs x).2]) [⟨(refWithout xs x).1.map irow, 1, .mut⟩] := by
  have hc := ref_PassiveMay xs hl
  simp [intsD] at hc
  refine den_of [] [] is_gimmalref1_WithoutPassive ?_
  simp -implicitDefEqProofs [c_gimmalref1_WithoutPassive, intsD]
  repeat' (first | (refine callThen_of (by first | exact hc | exact ref_PlaceMay _) ?_; simp -implicitDefEqProofs [*, refWithout]) | (with_reducible refine gOps_dec (fun _ => ?_) (fun _ => ?_) <;> simp -implicitDefEqProofs [*, refWithout]) | (with_reducible refine gOps_ndec (fun _ => ?_) (fun _ => ?_) <;> simp -implicitDefEqProofs [*, refWithout]) | (with_reducible refine gOps_and (fun hq => ?_) (fun hq => ?_) <;> (try simp at hq) <;> simp -implicitDefEqProofs [*, refWithout]) | (with_reducible refine gOps_or (fun hq => ?_) (fun hq => ?_) <;> (try simp at hq) <;> simp -implicitDefEqProofs [*, refWithout]) | (with_reducible refine gOps_not (fun hq => ?_) (fun hq => ?_) <;> (try simp at hq) <;> simp -implicitDefEqProofs [*, refWithout]) | (with_reducible refine gOps_split (fun hq => ?_) (fun hq => ?_) <;> (try simp at hq) <;> simp -implicitDefEqProofs [*, refWithout]) | (with_reducible refine condC_dec (fun _ => ?_) (fun _ => ?_) <;> simp -implicitDefEqProofs [*, refWithout]) | (with_reducible refine condC_ndec (fun _ => ?_) (fun _ => ?_) <;> simp -implicitDefEqProofs [*, refWithout]) | (with_reducible refine condC_and (fun hq => ?_) (fun hq => ?_) <;> (try simp at hq) <;> simp -implicitDefEqProofs [*, refWithout]) | (with_reducible refine condC_or (fun hq => ?_) (fun hq => ?_) <;> (try simp at hq) <;> simp -implicitDefEqProofs [*, refWithout]) | (with_reducible refine condC_not (fun hq => ?_) (fun hq => ?_) <;> (try simp at hq) <;> simp -implicitDefEqProofs [*, refWithout]) | (with_reducible refine condC_split (fun hq => ?_) (fun hq => ?_) <;> (try simp at hq) <;> simp -implicitDefEqProofs [*, refWithout]) | (refine appK2_if (by omega) ?_; simp -implicitDefEqProofs [*, refWithout]) | (refine pureV_if (by omega) ?_; simp -implicitDefEqProofs [*, refWithout]))
  refine list_rule xs (fun i rest => fun ⟨fr, bs⟩ => bs = [⟨[], 1, .mut⟩, ⟨((xs.take i).filter (fun y => !decide (y = x))).map irow, 1, .mut⟩] ∧ fr 0 = .sl (xs.map irow) xs.length ∧ fr 1 = .int .i64 x ∧ fr 6 = .ref 1 0 ((xs.take i).filter (fun y => !decide (y = x))).length ∧ fr 7 = .int .i64 i)
    (fun ⟨fr, bs⟩ => bs = [⟨[], 1, .mut⟩, ⟨(xs.filter (fun y => !decide (y = x))).map irow, 1, .mut⟩] ∧ fr 6 = .ref 1 0 (xs.filter (fun y => !decide (y = x))).length) (fun _ => False) c_gimmalref1_WithoutPassive_L0.eq_1 ?_ ?_ ?_ ?_ ?_
  · exact ⟨rfl, rfl, rfl, rfl, rfl⟩
  · rintro i ⟨fr, bs⟩ hi ⟨rfl, h0, h1, h6, h7⟩
    simp -implicitDefEqProofs [*]
  · rintro i a rest ⟨fr, bs⟩ hlt hget hg hd hd2 ⟨rfl, h0, h1, h6, h7⟩
    have hlt' : (i : Int) < xs.length := by omega
    have hw := wrap_next (n := i) (by unfold cap at hl; omega)
    have hlf := List.length_filter_le (fun y => !decide (y = x)) (xs.take i)
    have hlt2 : (xs.take i).length ≤ i := by simp; omega
    have htk : xs.take (i + 1) = xs.take i ++ [a] := by rw [List.take_add_one, hget]; rfl
    unfold cap at hl
    simp -implicitDefEqProofs [*, irow]
    repeat' (first | (with_reducible refine gOps_dec (fun _ => ?_) (fun _ => ?_) <;> simp -implicitDefEqProofs [*, irow, Fits]) | (with_reducible refine gOps_ndec (fun _ => ?_) (fun _ => ?_) <;> simp -implicitDefEqProofs [*, irow, Fits]) | (with_reducible refine gOps_and (fun hq => ?_) (fun hq => ?_) <;> (try simp at hq) <;> simp -implicitDefEqProofs [*, irow, Fits]) | (with_reducible refine gOps_or (fun hq => ?_) (fun hq => ?_) <;> (try simp at hq) <;> simp -implicitDefEqProofs [*, irow, Fits]) | (with_reducible refine gOps_not (fun hq => ?_) (fun hq => ?_) <;> (try simp at hq) <;> simp -implicitDefEqProofs [*, irow, Fits]) | (with_reducible refine gOps_split (fun hq => ?_) (fun hq => ?_) <;> (try simp at hq) <;> simp -implicitDefEqProofs [*, irow, Fits]) | (with_reducible refine condC_dec (fun _ => ?_) (fun _ => ?_) <;> simp -implicitDefEqProofs [*, irow, Fits]) | (with_reducible refine condC_ndec (fun _ => ?_) (fun _ => ?_) <;> simp -implicitDefEqProofs [*, irow, Fits]) | (with_reducible refine condC_and (fun hq => ?_) (fun hq => ?_) <;> (try simp at hq) <;> simp -implicitDefEqProofs [*, irow, Fits]) | (with_reducible refine condC_or (fun hq => ?_) (fun hq => ?_) <;> (try simp at hq) <;> simp -implicitDefEqProofs [*, irow, Fits]) | (with_reducible refine condC_not (fun hq => ?_) (fun hq => ?_) <;> (try simp at hq) <;> simp -implicitDefEqProofs [*, irow, Fits]) | (with_reducible refine condC_split (fun hq => ?_) (fun hq => ?_) <;> (try simp at hq) <;> simp -implicitDefEqProofs [*, irow, Fits]) | (refine appK2_if (by omega) ?_; simp -implicitDefEqProofs [*, irow, Fits]) | (refine pureV_if (by omega) ?_; simp -implicitDefEqProofs [*, irow, Fits]))
  · rintro ⟨fr, bs⟩ ⟨rfl, h6⟩
    simp -implicitDefEqProofs [*, refWithout]
  · rintro ⟨fr, bs⟩ h
    exact h.elim

theorem law_SamePeers (xs ys : List Peer) (hl : xs.length ≤ cap) : Den PP 30 [peersD xs, peersD ys] [] (.bool (decide (xs = ys))) [] := by
  refine den_of [] [] is_gimmallaw0_SamePeers ?_
  simp -implicitDefEqProofs [c_gimmallaw0_SamePeers, peersD]
  refine condC_split (fun h => ?_) (fun h => ?_)
  · simp -implicitDefEqProofs
    grind
  have hlen : xs.length = ys.length := by simp at h; omega
  simp -implicitDefEqProofs
  refine list_rule xs (fun i rest => fun ⟨fr, bs⟩ => bs = [] ∧ fr 0 = .sl (xs.map Peer.row) xs.length ∧ fr 1 = .sl (ys.map Peer.row) ys.length ∧ fr 5 = .int .i64 i ∧ (rest = ys.drop i ↔ xs = ys))
    (fun ⟨fr, bs⟩ => bs = [] ∧ xs = ys) (fun ⟨fr, bs⟩ => fr 4 = .bool false ∧ ¬ xs = ys) c_gimmallaw0_SamePeers_L0.eq_1 ?_ ?_ ?_ ?_ ?_
  · exact ⟨rfl, rfl, rfl, rfl, by simp⟩
  · rintro i ⟨fr, bs⟩ hi ⟨rfl, h0, h1, h5, he⟩
    simp -implicitDefEqProofs [*]
    grind
  · rintro i a rest ⟨fr, bs⟩ hlt hget hg hd hd2 ⟨rfl, h0, h1, h5, he⟩
    have hlt' : (i : Int) < xs.length := by omega
    have hlt2 : i < ys.length := by omega
    have hlt3 : (i : Int) < ys.length := by omega
    have hw := wrap_next (n := i) (by unfold cap at hl; omega)
    rw [List.drop_eq_getElem_cons hlt2] at he
    generalize hy : ys[i] = b at he
    simp -implicitDefEqProofs [h0, h1, h5, hlt, hlt', hlt2, hlt3, hget, hg, hy, Peer.row, EQS]
    repeat' (first | (with_reducible refine gOps_dec (fun _ => ?_) (fun _ => ?_) <;> simp -implicitDefEqProofs [*, EQS]) | (with_reducible refine gOps_ndec (fun _ => ?_) (fun _ => ?_) <;> simp -implicitDefEqProofs [*, EQS]) | (with_reducible refine gOps_and (fun hq => ?_) (fun hq => ?_) <;> (try simp at hq) <;> simp -implicitDefEqProofs [*, EQS]) | (with_reducible refine gOps_or (fun hq => ?_) (fun hq => ?_) <;> (try simp at hq) <;> simp -implicitDefEqProofs [*, EQS]) | (with_reducible refine gOps_not (fun hq => ?_) (fun hq => ?_) <;> (try simp at hq) <;> simp -implicitDefEqProofs [*, EQS]) | (with_reducible refine gOps_split (fun hq => ?_) (fun hq => ?_) <;> (try simp at hq) <;> simp -implicitDefEqProofs [*, EQS]) | (with_reducible refine condC_dec (fun _ => ?_) (fun _ => ?_) <;> simp -implicitDefEqProofs [*, EQS]) | (with_reducible refine condC_ndec (fun _ => ?_) (fun _ => ?_) <;> simp -implicitDefEqProofs [*, EQS]) | (with_reducible refine condC_and (fun hq => ?_) (fun hq => ?_) <;> (try simp at hq) <;> simp -implicitDefEqProofs [*, EQS]) | (with_reducible refine condC_or (fun hq => ?_) (fun hq => ?_) <;> (try simp at hq) <;> simp -implicitDefEqProofs [*, EQS]) | (with_reducible refine condC_not (fun hq => ?_) (fun hq => ?_) <;> (try simp at hq) <;> simp -implicitDefEqProofs [*, EQS]) | (with_reducible refine condC_split (fun hq => ?_) (fun hq => ?_) <;> (try simp at hq) <;> simp -implicitDefEqProofs [*, EQS]) | (refine appK2_if (by omega) ?_; simp -implicitDefEqProofs [*, EQS]) | (refine pureV_if (by omega) ?_; simp -implicitDefEqProofs [*, EQS]))
    all_goals (obtain ⟨a1, a2⟩ := a; obtain ⟨b1, b2⟩ := b; grind)
  · rintro ⟨fr, bs⟩ ⟨rfl, h6⟩
    simp -implicitDefEqProofs [*]
  · rintro ⟨fr, bs⟩ h
    simp -implicitDefEqProofs [h.1, h.2]
end Go.AM
/- Plain law: places put in their row, taken out. -/
namespace Go.AM
set_option linter.unusedSimpArgs false
set_option linter.unusedVariables false

/-- Two rising rows of the same numbers are one. -/
theorem rising_ext : ∀ {xs ys : List Int}, xs.Pairwise (· < ·) → ys.Pairwise (· < ·) → (∀ a, a ∈ xs ↔ a ∈ ys) → xs = ys := by
  intro xs
  induction xs with
  | nil =>
    intro ys _ _ h
    cases ys with
    | nil => rfl
    | cons y ys => exact absurd ((h y).2 (by simp)) (by simp)
  | cons x xs ih =>
    intro ys hx hy h
    cases ys with
    | nil => exact absurd ((h x).1 (by simp)) (by simp)
    | cons y ys =>
      rw [List.pairwise_cons] at hx hy
      have hxy : x = y := by
        have h1 := (h x).1 (by simp)
        have h2 := (h y).2 (by simp)
        rcases List.mem_cons.1 h1 with h1 | h1
        · exact h1
        · rcases List.mem_cons.1 h2 with h2 | h2
          · exact h2.symm
          · have := hy.1 _ h1
            have := hx.1 _ h2
            omega
      subst hxy
      congr 1
      refine ih hx.2 hy.2 fun a => ?_
      have := h a
      simp only [List.mem_cons] at this
      constructor
      · intro ha
        rcases this.1 (.inr ha) with h' | h'
        · subst h'; exact absurd (hx.1 _ ha) (by omega)
        · exact h'
      · intro ha
        rcases this.2 (.inr ha) with h' | h'
        · subst h'; exact absurd (hy.1 _ ha) (by omega)
        · exact h'
theorem incr_iff : ∀ xs : List Int, incr xs = true ↔ xs.Pairwise (· < ·) := by
  intro xs
  induction xs with
  | nil => simp [incr]
  | cons x xs ih =>
    cases xs with
    | nil => simp [incr]
    | cons y ys =>
      simp only [incr, Bool.and_eq_true, decide_eq_true_eq, ih, List.pairwise_cons, List.mem_cons]
      constructor
      · rintro ⟨h1, h2, h3⟩
        refine ⟨?_, h2, h3⟩
        rintro a (rfl | ha)
        · exact h1
        · have := h2 a ha
          omega
      · rintro ⟨h1, h2, h3⟩
        exact ⟨h1 y (.inl rfl), h2, h3⟩
theorem passiveMay_iff (xs : List Int) : passiveMay xs = true ↔ xs.Pairwise (· < ·) ∧ (∀ x ∈ xs, place x = true) ∧ xs.length ≤ 16 := by
  rw [← passiveMay_eq]
  simp only [refPassiveMay, Bool.and_eq_true, incr_iff, decide_eq_true_eq, List.all_eq_true]
  constructor
  · rintro ⟨⟨h1, h2⟩, h3⟩; exact ⟨h1, h2, h3⟩
  · rintro ⟨h1, h2, h3⟩; exact ⟨⟨h1, h2⟩, h3⟩

def posI (xs : List Int) (id : Int) : Nat := (xs.takeWhile fun x => decide (x < id)).length
theorem posI_le (xs : List Int) (id : Int) : posI xs id ≤ xs.length := (List.takeWhile_prefix _).length_le
def insU (id : Int) : List Int → List Int
  | [] => [id]
  | x :: xs => if x < id then x :: insU id xs else id :: x :: xs
theorem insL_insU (id : Int) : ∀ xs : List Int, insL xs (posI xs id) id = insU id xs := by
  intro xs
  induction xs with
  | nil => rfl
  | cons x xs ih =>
    unfold insU
    by_cases h : x < id
    · rw [if_pos h, ← ih]
      simp [posI, insL, List.takeWhile_cons, h]
    · rw [if_neg h]
      simp [posI, insL, List.takeWhile_cons, h]
theorem mem_insU {id a : Int} : ∀ {xs : List Int}, a ∈ insU id xs ↔ a = id ∨ a ∈ xs := by
  intro xs
  induction xs with
  | nil => simp [insU]
  | cons x xs ih =>
    unfold insU
    split
    · simp only [List.mem_cons, ih]
      constructor
      · rintro (h | h | h)
        · exact .inr (.inl h)
        · exact .inl h
        · exact .inr (.inr h)
      · rintro (h | h | h)
        · exact .inr (.inl h)
        · exact .inl h
        · exact .inr (.inr h)
    · simp
theorem insU_length (id : Int) (xs : List Int) : (insU id xs).length = xs.length + 1 := by rw [← insL_insU, insL_length]
theorem rising_insU {id : Int} : ∀ {xs : List Int}, xs.Pairwise (· < ·) → id ∉ xs → (insU id xs).Pairwise (· < ·) := by
  intro xs
  induction xs with
  | nil => intro _ _; simp [insU]
  | cons x xs ih =>
    intro h hn
    rw [List.pairwise_cons] at h
    simp only [List.mem_cons, not_or] at hn
    unfold insU
    split
    · rename_i hlt
      rw [List.pairwise_cons]
      refine ⟨fun a ha => ?_, ih h.2 hn.2⟩
      rcases mem_insU.1 ha with rfl | ha
      · exact hlt
      · exact h.1 a ha
    · rename_i hge
      rw [List.pairwise_cons, List.pairwise_cons]
      refine ⟨?_, h⟩
      intro a ha
      rcases List.mem_cons.1 ha with rfl | ha
      · omega
      · have := h.1 a ha
        omega
theorem posI_lo {xs : List Int} {id : Int} (i : Nat) (x : Int) (h : i < posI xs id) (hx : xs[i]? = some x) : x < id := by simpa using takeWhile_get _ xs i x h hx
theorem rising_get {xs : List Int} (h : xs.Pairwise (· < ·)) {i j : Nat} {x y : Int} (hij : i < j) (hx : xs[i]? = some x) (hy : xs[j]? = some y) : x < y := by
  obtain ⟨hi, rfl⟩ := List.getElem?_eq_some_iff.1 hx
  obtain ⟨hj, rfl⟩ := List.getElem?_eq_some_iff.1 hy
  exact List.pairwise_iff_getElem.1 h i j hi hj hij
theorem posI_hi {xs : List Int} {id : Int} (h : xs.Pairwise (· < ·)) (i : Nat) (x : Int) (hi : posI xs id ≤ i) (hx : xs[i]? = some x) : id ≤ x := by
  have hlt : posI xs id < xs.length := by
    have := (List.getElem?_eq_some_iff.1 hx).1
    omega
  have hq : xs[posI xs id]? = some xs[posI xs id] := by simp [hlt]
  have h1 := takeWhile_end _ xs _ hq
  simp at h1
  rcases Nat.lt_or_ge (posI xs id) i with h2 | h2
  · have := rising_get h h2 hq hx
    omega
  · have : i = posI xs id := by omega
    subst this
    rw [hq] at hx
    cases hx
    exact h1
theorem posI_mem {xs : List Int} {id : Int} (h : xs.Pairwise (· < ·)) : xs[posI xs id]? = some id ↔ id ∈ xs := by
  constructor
  · intro h'
    exact List.mem_of_getElem? h'
  · intro h'
    obtain ⟨j, hj⟩ := List.getElem?_of_mem h'
    rcases Nat.lt_trichotomy j (posI xs id) with h1 | h1 | h1
    · have := posI_lo j id h1 hj
      omega
    · rw [← h1]; exact hj
    · have hlt := (List.getElem?_eq_some_iff.1 hj).1
      have hq : xs[posI xs id]? = some (xs[posI xs id]'(by omega)) := by simp
      have h2 := rising_get h h1 hq hj
      have h3 := posI_hi h (posI xs id) _ (Nat.le_refl _) hq
      omega

def withP (xs : List Int) (id : Int) : List Int × Int :=
  if passiveMay xs && place id then (if id ∈ xs then (xs, 0) else if xs.length = 16 then ([], 801) else (insU id xs, 0)) else ([], 800)
def refWith (xs : List Int) (id : Int) : List Int × Int :=
  if refPassiveMay xs && place id then (if 16 < (((List.range 256).map fun (i : Nat) => (i : Int)).filter fun x => decide (x = id) || decide (x ∈ xs)).length then ([], 801) else (((List.range 256).map fun (i : Nat) => (i : Int)).filter fun x => decide (x = id) || decide (x ∈ xs), 0)) else ([], 800)
theorem rising_range : ((List.range 256).map fun (i : Nat) => (i : Int)).Pairwise (· < ·) := by
  rw [List.pairwise_map]
  exact List.pairwise_lt_range.imp fun h => by omega
theorem mem_range256 (x : Int) : x ∈ ((List.range 256).map fun (i : Nat) => (i : Int)) ↔ place x = true := by
  rw [place_iff]
  simp only [List.mem_map, List.mem_range]
  constructor
  · rintro ⟨i, hi, rfl⟩; omega
  · rintro ⟨h1, h2⟩; exact ⟨x.toNat, by omega, by omega⟩
theorem refWith_eq (xs : List Int) (id : Int) : refWith xs id = withP xs id := by
  unfold refWith withP
  rw [passiveMay_eq]
  by_cases h : (passiveMay xs && place id) = true
  · rw [if_pos h, if_pos h]
    rw [Bool.and_eq_true] at h
    obtain ⟨h1, hp⟩ := h
    obtain ⟨hr, hpl, hl⟩ := (passiveMay_iff xs).1 h1
    have hf : (((List.range 256).map fun (i : Nat) => (i : Int)).filter fun x => decide (x = id) || decide (x ∈ xs)) = if id ∈ xs then xs else insU id xs := by
      refine rising_ext (rising_range.filter _) ?_ ?_
      · split
        · exact hr
        · rename_i hn; exact rising_insU hr hn
      · intro a
        rw [List.mem_filter, mem_range256]
        simp only [Bool.or_eq_true, decide_eq_true_eq]
        split
        · rename_i hm
          constructor
          · rintro ⟨_, rfl | h⟩
            · exact hm
            · exact h
          · intro h; exact ⟨hpl a h, .inr h⟩
        · rw [mem_insU]
          constructor
          · exact fun h => h.2
          · rintro (rfl | h)
            · exact ⟨hp, .inl rfl⟩
            · exact ⟨hpl a h, .inr h⟩
    rw [hf]
    by_cases hm : id ∈ xs
    · simp only [hm, if_true]
      rw [if_neg (by omega)]
    · simp only [hm, if_false, insU_length]
      by_cases hf : xs.length = 16
      · rw [if_pos hf, if_pos (by omega)]
      · rw [if_neg hf, if_neg (by omega)]
  · rw [if_neg h, if_neg h]
def withoutP (xs : List Int) (id : Int) : List Int × Int := if passiveMay xs && place id then (xs.filter (fun y => !decide (y = id)), 0) else ([], 800)
theorem refWithout_eq (xs : List Int) (id : Int) : refWithout xs id = withoutP xs id := by
  unfold refWithout withoutP
  rw [passiveMay_eq]
theorem passiveMay_filter {xs : List Int} {p : Int → Bool} (h : passiveMay xs = true) : passiveMay (xs.filter p) = true := by
  obtain ⟨h1, h2, h3⟩ := (passiveMay_iff xs).1 h
  refine (passiveMay_iff _).2 ⟨h1.filter _, fun x hx => h2 x (List.mem_filter.1 hx).1, Nat.le_trans (List.length_filter_le _ _) h3⟩
theorem passiveMay_insU {xs : List Int} {id : Int} (h : passiveMay xs = true) (hp : place id = true) (hn : id ∉ xs) (hl : xs.length ≠ 16) : passiveMay (insU id xs) = true := by
  obtain ⟨h1, h2, h3⟩ := (passiveMay_iff xs).1 h
  refine (passiveMay_iff _).2 ⟨rising_insU h1 hn, fun x hx => ?_, by rw [insU_length]; omega⟩
  rcases mem_insU.1 hx with rfl | hx
  · exact hp
  · exact h2 x hx
theorem filter_insU (id : Int) : ∀ xs : List Int, (insU id xs).filter (fun y => !decide (y = id)) = xs.filter (fun y => !decide (y = id)) := by
  intro xs
  induction xs with
  | nil => simp [insU]
  | cons x xs ih =>
    unfold insU
    split
    · simp only [List.filter_cons, ih]
    · simp [List.filter_cons]
theorem filter_out {xs : List Int} {id : Int} (h : id ∉ xs) : xs.filter (fun y => !decide (y = id)) = xs := by
  rw [List.filter_eq_self]
  intro a ha
  simp
  rintro rfl
  exact h ha
theorem filter_one {xs : List Int} {id : Int} (h : xs.Pairwise (· < ·)) (hm : id ∈ xs) : xs.length = (xs.filter (fun y => !decide (y = id))).length + 1 := by
  have : xs = insU id (xs.filter (fun y => !decide (y = id))) := by
    refine rising_ext h (rising_insU (h.filter _) (by simp)) fun a => ?_
    rw [mem_insU, List.mem_filter]
    simp
    constructor
    · intro ha
      by_cases h' : a = id
      · exact .inl h'
      · exact .inr ⟨ha, h'⟩
    · rintro (rfl | ⟨ha, _⟩)
      · exact hm
      · exact ha
  have h2 := congrArg List.length this
  rw [insU_length] at h2
  exact h2
theorem withP_len (xs : List Int) (id : Int) : (withP xs id).1.length ≤ 16 := by
  unfold withP
  split
  · rename_i h
    rw [Bool.and_eq_true] at h
    have hl := ((passiveMay_iff xs).1 h.1).2.2
    split
    · exact hl
    · split
      · simp
      · rw [insU_length]; omega
  · simp
theorem withoutP_len (xs : List Int) (id : Int) : (withoutP xs id).1.length ≤ 16 := by
  unfold withoutP
  split
  · rename_i h
    rw [Bool.and_eq_true] at h
    have hl := ((passiveMay_iff xs).1 h.1).2.2
    exact Nat.le_trans (List.length_filter_le _ _) hl
  · simp
theorem fIdx_spec0 (p : Int → Bool) : ∀ (xs : List Int) (i : Nat), (fIdx p i xs = -1 ∧ xs.filter (fun x => !p x) = xs) ∨ ∃ f, fIdx p i xs = ((i + f : Nat) : Int) ∧ f < xs.length ∧ (xs.take (f + 1)).filter (fun x => !p x) = xs.take f := by
  intro xs
  induction xs with
  | nil => intro i; exact .inl ⟨rfl, rfl⟩
  | cons x xs ih =>
    intro i
    simp only [fIdx]
    by_cases h : p x = true
    · right
      exact ⟨0, by simp [h], by simp, by simp [h]⟩
    · have h' : p x = false := by simpa using h
      rw [if_neg h]
      rcases ih (i + 1) with ⟨h1, h2⟩ | ⟨f, h1, h2, h3⟩
      · left
        refine ⟨h1, ?_⟩
        rw [List.filter_cons]
        simp [h', h2]
      · right
        refine ⟨f + 1, by rw [h1]; congr 1; omega, by simpa using h2, ?_⟩
        rw [List.take_succ_cons, List.filter_cons, h3]
        simp [h']
theorem fIdx_spec (p : Int → Bool) (xs : List Int) : (fIdx p 0 xs = -1 ∧ xs.filter (fun x => !p x) = xs) ∨ ∃ f : Nat, fIdx p 0 xs = (f : Int) ∧ f < xs.length ∧ (xs.take (f + 1)).filter (fun x => !p x) = xs.take f := by
  rcases fIdx_spec0 p xs 0 with h | ⟨f, h⟩
  · exact .inl h
  · exact .inr ⟨f, by simpa using h⟩
theorem take_ovr {cur ys : List (List D)} {i : Nat} (h : i ≤ cur.length) : (ovr cur i ys).take i = cur.take i := by
  unfold ovr
  rw [List.append_assoc, List.take_append_of_le_length (by simp; omega), List.take_take, Nat.min_self]
/-- A filter of the numbers below n, one by one. -/
theorem filter_count (p : Int → Bool) (n : Nat) : ∃ F : Nat → List Int, F 0 = [] ∧ (∀ i, i < n → F (i + 1) = if p (i : Int) = true then F i ++ [(i : Int)] else F i) ∧ F n = ((List.range n).map fun (i : Nat) => (i : Int)).filter p ∧ ∀ i, (F i).length ≤ i := by
  refine ⟨fun i => ((List.range i).map fun (i : Nat) => (i : Int)).filter p, rfl, fun i hi => ?_, rfl, fun i => Nat.le_trans (List.length_filter_le _ _) (by simp)⟩
  simp only [List.range_succ, List.map_append, List.filter_append, List.map_cons, List.map_nil]
  by_cases h : p (i : Int) = true
  · simp [h]
  · simp [h]
/-- The tens that are wanted. -/
def idsOf (W : List Bool) (n : Nat) : List Int := ((List.range n).filter fun k => W.getD k false).map fun (k : Nat) => 10 * (k : Int)
theorem mem_idsOf {W : List Bool} {n : Nat} {x : Int} : x ∈ idsOf W n ↔ ∃ k : Nat, k < n ∧ W.getD k false = true ∧ x = 10 * (k : Int) := by
  unfold idsOf
  simp only [List.mem_map, List.mem_filter, List.mem_range]
  constructor
  · rintro ⟨k, ⟨h1, h2⟩, rfl⟩; exact ⟨k, h1, h2, rfl⟩
  · rintro ⟨k, h1, h2, rfl⟩; exact ⟨k, ⟨h1, h2⟩, rfl⟩
theorem rising_idsOf (W : List Bool) (n : Nat) : (idsOf W n).Pairwise (· < ·) := by
  unfold idsOf
  rw [List.pairwise_map]
  exact (List.pairwise_lt_range.filter _).imp fun h => by omega
theorem idsOf_may (W : List Bool) : passiveMay (idsOf W 16) = true := by
  refine (passiveMay_iff _).2 ⟨rising_idsOf W 16, fun x hx => ?_, ?_⟩
  · obtain ⟨k, h1, _, rfl⟩ := mem_idsOf.1 hx
    rw [place_iff]
    omega
  · unfold idsOf
    rw [List.length_map]
    exact Nat.le_trans (List.length_filter_le _ _) (by simp)
theorem boolSet {W : List Bool} {k j : Nat} {b : Bool} (hk : k < W.length) : (W.set k b).getD j false = if j = k then b else W.getD j false := by
  simp only [List.getD_eq_getElem?_getD, List.getElem?_set]
  by_cases h : k = j
  · subst h; simp [hk]
  · rw [if_neg h, if_neg (Ne.symm h)]
theorem place_ten {k : Nat} (hk : k < 16) : place (10 * (k : Int)) = true := by rw [place_iff]; omega
theorem withP_ids {W : List Bool} (hW : W.length = 16) {k : Nat} (hk : k < 16) : withP (idsOf W 16) (10 * (k : Int)) = (idsOf (W.set k true) 16, 0) := by
  unfold withP
  rw [if_pos (by rw [idsOf_may, place_ten hk]; rfl)]
  have hin : 10 * (k : Int) ∈ idsOf W 16 ↔ W.getD k false = true := by
    rw [mem_idsOf]
    constructor
    · rintro ⟨j, _, h, he⟩
      have : k = j := by omega
      subst this
      exact h
    · intro h; exact ⟨k, hk, h, rfl⟩
  have key : ∀ a, a ∈ idsOf (W.set k true) 16 ↔ a = 10 * (k : Int) ∨ a ∈ idsOf W 16 := by
    intro a
    rw [mem_idsOf, mem_idsOf]
    constructor
    · rintro ⟨j, h1, h2, rfl⟩
      rw [boolSet (by omega)] at h2
      split at h2
      · rename_i hjk; left; rw [hjk]
      · right; exact ⟨j, h1, h2, rfl⟩
    · rintro (rfl | ⟨j, h1, h2, rfl⟩)
      · exact ⟨k, hk, by rw [boolSet (by omega)]; simp, rfl⟩
      · refine ⟨j, h1, ?_, rfl⟩
        rw [boolSet (by omega)]
        split
        · rfl
        · exact h2
  by_cases h : 10 * (k : Int) ∈ idsOf W 16
  · rw [if_pos h]
    congr 1
    refine rising_ext (rising_idsOf _ _) (rising_idsOf _ _) fun a => ?_
    rw [key]
    constructor
    · exact .inr
    · rintro (rfl | h')
      · exact h
      · exact h'
  · rw [if_neg h]
    have he : insU (10 * (k : Int)) (idsOf W 16) = idsOf (W.set k true) 16 := rising_ext (rising_insU (rising_idsOf _ _) h) (rising_idsOf _ _) fun a => by rw [mem_insU, key]
    have hl := insU_length (10 * (k : Int)) (idsOf W 16)
    rw [he] at hl
    have hl2 := ((passiveMay_iff _).1 (idsOf_may (W.set k true))).2.2
    rw [if_neg (by omega), he]
theorem withoutP_ids {W : List Bool} (hW : W.length = 16) {k : Nat} (hk : k < 16) : withoutP (idsOf W 16) (10 * (k : Int)) = (idsOf (W.set k false) 16, 0) := by
  unfold withoutP
  rw [if_pos (by rw [idsOf_may, place_ten hk]; rfl)]
  congr 1
  refine rising_ext ((rising_idsOf _ _).filter _) (rising_idsOf _ _) fun a => ?_
  rw [List.mem_filter, mem_idsOf, mem_idsOf]
  constructor
  · rintro ⟨⟨j, h1, h2, rfl⟩, h3⟩
    refine ⟨j, h1, ?_, rfl⟩
    rw [boolSet (by omega), if_neg (by rintro rfl; simp at h3)]
    exact h2
  · rintro ⟨j, h1, h2, rfl⟩
    rw [boolSet (by omega)] at h2
    split at h2
    · cases h2
    · rename_i hjk
      exact ⟨⟨j, h1, h2, rfl⟩, by simp; omega⟩
theorem idsOf_succ (W : List Bool) (n : Nat) : idsOf W (n + 1) = if W.getD n false = true then idsOf W n ++ [10 * (n : Int)] else idsOf W n := by
  unfold idsOf
  rw [List.range_succ, List.filter_append, List.map_append]
  by_cases h : W.getD n false = true
  · rw [if_pos h, List.filter_cons, if_pos h]; rfl
  · rw [if_neg h, List.filter_cons, if_neg h]; simp
end Go.AM
/- AM: contracts: binary search, places put and taken out. -/
namespace Go.AM
set_option linter.unusedSimpArgs false
set_option linter.unusedVariables false
set_option maxRecDepth 8000
set_option maxHeartbeats 0
theorem slices_isNaN (a : Int) : Den PP 53 [.int .i64 a] [] (.bool false) [] := by
  refine den_of [] [] is_slices_isNaN_int ?_
  simp -implicitDefEqProofs [c_slices_isNaN_int]
theorem cmp_Less (a b : Int) : Den PP 52 [.int .i64 a, .int .i64 b] [] (.bool (decide (a < b))) [] := by
  refine den_of [] [] is_cmp_Less_int ?_
  simp -implicitDefEqProofs [c_cmp_Less_int]
  repeat' (first | (refine callThen_of (by first | exact cmp_isNaN _) ?_; simp -implicitDefEqProofs [*]) | (with_reducible refine gOps_dec (fun _ => ?_) (fun _ => ?_) <;> simp -implicitDefEqProofs [*]) | (with_reducible refine gOps_ndec (fun _ => ?_) (fun _ => ?_) <;> simp -implicitDefEqProofs [*]) | (with_reducible refine gOps_and (fun hq => ?_) (fun hq => ?_) <;> (try simp at hq) <;> simp -implicitDefEqProofs [*]) | (with_reducible refine gOps_or (fun hq => ?_) (fun hq => ?_) <;> (try simp at hq) <;> simp -implicitDefEqProofs [*]) | (with_reducible refine gOps_not (fun hq => ?_) (fun hq => ?_) <;> (try simp at hq) <;> simp -implicitDefEqProofs [*]) | (with_reducible refine gOps_split (fun hq => ?_) (fun hq => ?_) <;> (try simp at hq) <;> simp -implicitDefEqProofs [*]) | (with_reducible refine condC_dec (fun _ => ?_) (fun _ => ?_) <;> simp -implicitDefEqProofs [*]) | (with_reducible refine condC_ndec (fun _ => ?_) (fun _ => ?_) <;> simp -implicitDefEqProofs [*]) | (with_reducible refine condC_and (fun hq => ?_) (fun hq => ?_) <;> (try simp at hq) <;> simp -implicitDefEqProofs [*]) | (with_reducible refine condC_or (fun hq => ?_) (fun hq => ?_) <;> (try simp at hq) <;> simp -implicitDefEqProofs [*]) | (with_reducible refine condC_not (fun hq => ?_) (fun hq => ?_) <;> (try simp at hq) <;> simp -implicitDefEqProofs [*]) | (with_reducible refine condC_split (fun hq => ?_) (fun hq => ?_) <;> (try simp at hq) <;> simp -implicitDefEqProofs [*]) | (refine appK2_if (by omega) ?_; simp -implicitDefEqProofs [*]) | (refine pureV_if (by omega) ?_; simp -implicitDefEqProofs [*]))
theorem bsearch_int (xs : List Int) (id : Int) (hl : xs.length ≤ cap) (hr : xs.Pairwise (· < ·)) :
    Den PP 38 [intsD xs, .int .i64 id] [] (.tup [.int .i64 (posI xs id), .bool (decide (xs[posI xs id]? = some id))]) [] := by
  have hlo := fun i x => posI_lo (xs := xs) (id := id) i x
  have hhi := fun i x => posI_hi (id := id) hr i x
  have hat := posI_le xs id
  generalize posI xs id = at_ at *
  refine den_of [] [] is_slices_BinarySearch_int_int ?_
  simp -implicitDefEqProofs [c_slices_BinarySearch_int_int, intsD]
  refine loop_rule xs.length (fun m ⟨fr, bs⟩ => ∃ lo hi : Nat, bs = [] ∧ hi - lo ≤ m ∧ lo ≤ at_ ∧ at_ ≤ hi ∧ hi ≤ xs.length ∧ fr 0 = intsD xs ∧ fr 1 = .int .i64 id ∧ fr 6 = .int .i64 xs.length ∧ fr 7 = .int .i64 lo ∧ fr 8 = .int .i64 hi)
    (fun ⟨fr, bs⟩ => bs = [] ∧ fr 0 = intsD xs ∧ fr 1 = .int .i64 id ∧ fr 6 = .int .i64 xs.length ∧ fr 7 = .int .i64 at_) (fun _ => False) c_slices_BinarySearch_int_int_L0.eq_1 ?_ ?_ ?_ ?_ ?_
  · exact ⟨0, xs.length, rfl, by omega, by omega, hat, by omega, rfl, rfl, rfl, rfl, rfl⟩
  · rintro ⟨fr, bs⟩ ⟨lo, hi, rfl, h1, h2, h3, h4, h0, h5, h6, h7, h8⟩
    have e1 : lo = at_ := by omega
    have e2 : hi = at_ := by omega
    simp -implicitDefEqProofs [h0, h5, h6, h7, h8, e1, e2]
  · rintro m ⟨fr, bs⟩ ⟨lo, hi, rfl, h1, h2, h3, h4, h0, h5, h6, h7, h8⟩
    by_cases hlt : lo < hi
    · have hlt' : (lo : Int) < hi := by omega
      have hm := mid_eq (lo := lo) (hi := hi) (by omega) (by omega)
      have hml : (lo + hi) / 2 < xs.length := by omega
      have hml' : (((lo + hi) / 2 : Nat) : Int) < xs.length := by omega
      have hw := wrap_next (n := (lo + hi) / 2) (by unfold cap at hl; omega)
      have hb1 : lo ≤ (lo + hi) / 2 := by omega
      have hb2 : (lo + hi) / 2 < hi := by omega
      generalize (lo + hi) / 2 = mid at *
      obtain ⟨x, hx⟩ : ∃ x, xs[mid] = x := ⟨_, rfl⟩
      have hx' : xs[mid]? = some x := by simp [hml, hx]
      simp -implicitDefEqProofs [h0, h5, h6, h7, h8, hlt', hlt, hm, hml, hml', irow, hx, intsD]
      refine callThen_of (cmp_Less x id) ?_
      simp -implicitDefEqProofs
      refine condC_dec (fun hc => ?_) (fun hc => ?_)
      all_goals simp -implicitDefEqProofs [h0, h5, h6, h7, h8, hc, hw, intsD]
      · have : mid < at_ := by
          apply Classical.byContradiction
          intro hx2
          have := hhi mid x (by omega) hx'
          omega
        exact ⟨mid + 1, hi, by omega, by omega, by omega, by omega, by simp, by simp⟩
      · have : at_ ≤ mid := by
          apply Classical.byContradiction
          intro hx2
          have := hlo mid x (by omega) hx'
          omega
        exact ⟨lo, mid, by omega, by omega, by omega, by omega, by simp, by simp⟩
    · have e1 : lo = at_ := by omega
      have e2 : hi = at_ := by omega
      simp -implicitDefEqProofs [h0, h5, h6, h7, h8, e1, e2]
  · rintro ⟨fr, bs⟩ ⟨rfl, h0, h1, h6, h7⟩
    simp -implicitDefEqProofs [h0, h1, h6, h7]
    refine gOps_dec (fun hc => ?_) (fun hc => ?_)
    · obtain ⟨x, hx⟩ : ∃ x, xs[at_] = x := ⟨_, rfl⟩
      simp -implicitDefEqProofs [h0, h1, h6, h7, hc, irow, hx, intsD]
      repeat' (first | (refine callThen_of (by first | exact slices_isNaN _) ?_; simp -implicitDefEqProofs [*, h0, h1, h6, h7, hc, irow, hx, intsD]) | (with_reducible refine gOps_dec (fun _ => ?_) (fun _ => ?_) <;> simp -implicitDefEqProofs [*, h0, h1, h6, h7, hc, irow, hx, intsD]) | (with_reducible refine gOps_ndec (fun _ => ?_) (fun _ => ?_) <;> simp -implicitDefEqProofs [*, h0, h1, h6, h7, hc, irow, hx, intsD]) | (with_reducible refine gOps_and (fun hq => ?_) (fun hq => ?_) <;> (try simp at hq) <;> simp -implicitDefEqProofs [*, h0, h1, h6, h7, hc, irow, hx, intsD]) | (with_reducible refine gOps_or (fun hq => ?_) (fun hq => ?_) <;> (try simp at hq) <;> simp -implicitDefEqProofs [*, h0, h1, h6, h7, hc, irow, hx, intsD]) | (with_reducible refine gOps_not (fun hq => ?_) (fun hq => ?_) <;> (try simp at hq) <;> simp -implicitDefEqProofs [*, h0, h1, h6, h7, hc, irow, hx, intsD]) | (with_reducible refine gOps_split (fun hq => ?_) (fun hq => ?_) <;> (try simp at hq) <;> simp -implicitDefEqProofs [*, h0, h1, h6, h7, hc, irow, hx, intsD]) | (with_reducible refine condC_dec (fun _ => ?_) (fun _ => ?_) <;> simp -implicitDefEqProofs [*, h0, h1, h6, h7, hc, irow, hx, intsD]) | (with_reducible refine condC_ndec (fun _ => ?_) (fun _ => ?_) <;> simp -implicitDefEqProofs [*, h0, h1, h6, h7, hc, irow, hx, intsD]) | (with_reducible refine condC_and (fun hq => ?_) (fun hq => ?_) <;> (try simp at hq) <;> simp -implicitDefEqProofs [*, h0, h1, h6, h7, hc, irow, hx, intsD]) | (with_reducible refine condC_or (fun hq => ?_) (fun hq => ?_) <;> (try simp at hq) <;> simp -implicitDefEqProofs [*, h0, h1, h6, h7, hc, irow, hx, intsD]) | (with_reducible refine condC_not (fun hq => ?_) (fun hq => ?_) <;> (try simp at hq) <;> simp -implicitDefEqProofs [*, h0, h1, h6, h7, hc, irow, hx, intsD]) | (with_reducible refine condC_split (fun hq => ?_) (fun hq => ?_) <;> (try simp at hq) <;> simp -implicitDefEqProofs [*, h0, h1, h6, h7, hc, irow, hx, intsD]) | (refine appK2_if (by omega) ?_; simp -implicitDefEqProofs [*, h0, h1, h6, h7, hc, irow, hx, intsD]) | (refine pureV_if (by omega) ?_; simp -implicitDefEqProofs [*, h0, h1, h6, h7, hc, irow, hx, intsD]))
    · have hp : xs[at_]? = none := by rw [List.getElem?_eq_none]; omega
      simp -implicitDefEqProofs [h0, h1, h6, h7, hc, hp, intsD]
  · rintro ⟨fr, bs⟩ h
    exact h.elim
theorem deleteFunc_int (xs : List Int) (g : Nat) (caps : List D) (p : Int → Bool) (hp : TellsI g caps p xs) (hl : xs.length ≤ 1000000) :
    GivesC (DenF PP [0]) 44 (xs.map irow) 1 [.fn g [] caps] ((xs.filter fun x => !p x).map irow) := by
  refine gives_of (fun r hr => by obtain ⟨a, _, rfl⟩ := List.mem_map.1 hr; rfl) (StillR.map _ _ fun a _ d hd => by rw [List.mem_singleton.1 hd]; rfl) fun fl hfl hrow hfs htake hget => ?_
  have hi0 := slices_IndexFunc_int xs (by unfold cap; omega) g caps p hp
  have hi1 : Den PP 56 [.sl fl xs.length, .fn g [] caps] [] (.int .i64 (fIdx p 0 xs)) [] := den_cut (by
    simp only [List.map_cons, List.map_nil, D.cut]
    rw [List.length_map] at htake
    rw [htake]
    exact hi0)
  simp only [List.length_map] at *
  rcases fIdx_spec p xs with ⟨he, hf⟩ | ⟨f, he, hf, hff⟩
  · rw [he] at hi1
    refine ⟨.ref 0 0 xs.length, [⟨fl, 1, .mut⟩], ?_, ?_⟩
    · refine denF_of [] [] [] [] (by simp) (fun _ h => absurd h List.not_mem_nil) is_slices_DeleteFunc_int_int ?_
      simp -implicitDefEqProofs [-leave, c_slices_DeleteFunc_int_int, hp.2.1]
      refine callThen_of hi1 ?_
      simp -implicitDefEqProofs [-leave, hp.2.1]
      rw [leave_lent (by omega) (by simpa using hfs)]
      rfl
    · rw [hf]
      exact outRows_of rfl rfl rfl (by simpa using hfl) (by simpa using htake.symm) (.inl rfl)
  · rw [he] at hi1
    have hfl' : f < fl.length := by omega
    have hw := wrap_next (n := f) (by omega)
    have hne : ¬ (f : Int) = -1 := by omega
    have hm1 := List.length_filter_le (fun x => !p x) xs
    obtain ⟨m, hm⟩ : ∃ m, (xs.filter fun x => !p x).length = m := ⟨_, rfl⟩
    rw [hm] at hm1
    have hcells : ∀ k, k < xs.length → fl[k]? = (xs[k]?).map irow := by
      intro k hk
      rw [hget k hk, List.getElem?_map]
    refine ⟨.ref 0 0 m, [⟨(xs.filter fun x => !p x).map irow ++ List.replicate (xs.length - m) [.int .i64 0] ++ fl.drop xs.length, 1, .mut⟩], ?_, ?_⟩
    · refine denF_of [] [] [] [] (by simp) (fun _ h => absurd h List.not_mem_nil) is_slices_DeleteFunc_int_int ?_
      simp -implicitDefEqProofs [-leave, c_slices_DeleteFunc_int_int, hp.2.1]
      refine callThen_of hi1 ?_
      simp -implicitDefEqProofs [-leave, hp.2.1, hne, hw]
      refine loop_rule (xs.length - (f + 1)) (fun q ⟨fr, bs⟩ => ∃ (i j : Nat) (cur : List (List D)), bs = [⟨cur, 1, .mut⟩, ⟨[], 1, .mut⟩] ∧ xs.length - j ≤ q ∧ j ≤ xs.length ∧ i < j ∧ cur.length = fl.length ∧ StillR cur ∧
          (∀ r ∈ cur, r.length = 1) ∧ cur.take i = ((xs.take j).filter fun x => !p x).map irow ∧ cur.drop j = fl.drop j ∧ fr 0 = .ref 0 0 xs.length ∧ fr 1 = .fn g [] caps ∧ fr 5 = .int .i64 i ∧ fr 6 = .int .i64 j)
        (fun ⟨fr, bs⟩ => ∃ cur : List (List D), bs = [⟨cur, 1, .mut⟩, ⟨[], 1, .mut⟩] ∧ m < xs.length ∧ cur.length = fl.length ∧ StillR cur ∧ cur.take m = (xs.filter fun x => !p x).map irow ∧ cur.drop xs.length = fl.drop xs.length ∧ fr 0 = .ref 0 0 xs.length ∧ fr 5 = .int .i64 m)
        (fun _ => False) c_slices_DeleteFunc_int_int_L0.eq_1 ?_ ?_ ?_ ?_ ?_
      · refine ⟨f, f + 1, fl, rfl, by omega, by omega, by omega, rfl, hfs, hrow, ?_, rfl, rfl, rfl, rfl, rfl⟩
        rw [hff, List.map_take, ← htake, List.take_take]
        congr 1
        omega
      · rintro ⟨fr, bs⟩ ⟨i, j, cur, rfl, hq, hj, hij, hcl, hcs, hcr, hct, hcd, h0, h1, h5, h6⟩
        have hje : j = xs.length := by omega
        subst hje
        rw [List.take_length] at hct
        have him : i = m := by
          have := congrArg List.length hct
          simp at this
          omega
        subst him
        simp -implicitDefEqProofs [-leave, h0, h1, h5, h6]
        exact ⟨hij, hcl, hcs, hct, hcd⟩
      · rintro q ⟨fr, bs⟩ ⟨i, j, cur, rfl, hq, hj, hij, hcl, hcs, hcr, hct, hcd, h0, h1, h5, h6⟩
        by_cases hjx : j = xs.length
        · subst hjx
          rw [List.take_length] at hct
          have him : i = m := by
            have := congrArg List.length hct
            simp at this
            omega
          subst him
          simp -implicitDefEqProofs [-leave, h0, h1, h5, h6]
          exact ⟨hij, hcl, hcs, hct, hcd⟩
        · have hjl : j < xs.length := by omega
          have hjl' : (j : Int) < xs.length := by omega
          obtain ⟨x, hx⟩ : ∃ x, xs[j] = x := ⟨_, rfl⟩
          have hx' : xs[j]? = some x := by simp [hjl, hx]
          have hcj : cur[j]? = some [.int .i64 x] := by
            have h7 : (cur.drop j)[0]? = (fl.drop j)[0]? := by rw [hcd]
            rw [List.getElem?_drop, List.getElem?_drop, Nat.add_zero, hcells j hjl, hx'] at h7
            exact h7
          have hwj := wrap_next (n := j) (by omega)
          have hwi := wrap_next (n := i) (by omega)
          have hil' : (i : Int) < xs.length := by omega
          obtain ⟨r0, hr0⟩ : ∃ r0, cur[i]? = some r0 := ⟨cur[i]'(by omega), by simp⟩
          have hr0l : r0.length = 1 := hcr r0 (List.mem_of_getElem? hr0)
          obtain ⟨d0, rfl⟩ := List.length_eq_one_iff.1 hr0l
          have hsw := hcs.sweep
          have hicl : i < cur.length := by omega
          have htk : xs.take (j + 1) = xs.take j ++ [x] := by rw [List.take_add_one, hx']; rfl
          simp -implicitDefEqProofs [-leave, h0, h1, h5, h6, hjl', hcj, hp.1, hp.2.1]
          refine callThen_of (hp.2.2 x (List.mem_of_getElem? hx')) ?_
          simp -implicitDefEqProofs [-leave]
          refine condC_not (fun hpx => ?_) (fun hpx => ?_)
          all_goals simp -implicitDefEqProofs [-leave, h0, h1, h5, h6, hwi, hwj, hil', hr0, hp.1, hp.2.1, hsw]
          · refine ⟨i, j + 1, ?_⟩
            simp
            refine ⟨by omega, by omega, by omega, hcl, hcs, hcr, ?_, ?_⟩
            · rw [htk, List.filter_append, hct]
              simp [hpx]
            · rw [← List.drop_drop, ← List.drop_drop, hcd]
          · refine ⟨i + 1, j + 1, ?_⟩
            simp
            refine ⟨by omega, by omega, by omega, hcl, hcs.set (by simp [D.still]) i, ?_, ?_, ?_⟩
            · intro r hr
              rcases List.mem_or_eq_of_mem_set hr with h | h
              · exact hcr r h
              · rw [h]; rfl
            · rw [htk, List.filter_append, List.map_append, ← hct, List.take_add_one]
              simp [hpx, irow, List.take_set, hicl]
              rw [List.set_eq_of_length_le (by simp; omega)]
            · rw [List.drop_set_of_lt (by omega), ← List.drop_drop, ← List.drop_drop, hcd]
      · rintro ⟨fr, bs⟩ ⟨cur, rfl, hlt, hcl, hcs, hct, hcd, h0, h5⟩
        simp -implicitDefEqProofs [-leave, h0, h5]
        refine outK_slice (m) (xs.length) (by simp; rfl) rfl (by first | rfl | omega | (simp [boundD]; done) | (simp [boundD]; omega) | (simp; done) | (simp; omega)) (by first | rfl | omega | (simp [boundD]; done) | (simp [boundD]; omega) | (simp; done) | (simp; omega)) (by omega) (by first | rfl | omega | (simp [boundD]; done) | (simp [boundD]; omega) | (simp; done) | (simp; omega)) rfl (by first | rfl | omega | (simp [boundD]; done) | (simp [boundD]; omega) | (simp; done) | (simp; omega)) ?_
        simp -implicitDefEqProofs [-leave, h0, h5]
        try refine overK_if (by first | omega | (simp; done) | (simp; omega)) ?_
        try simp -implicitDefEqProofs [-leave, h0, h5]
        have hov := ovr_length (rows := cur) (p := m) (ys := List.replicate (xs.length - m) [D.int IntKind.i64 0]) (by simp; omega)
        refine outK_slice (0) (m) (by simp; rfl) rfl (by first | rfl | omega | (simp [boundD]; done) | (simp [boundD]; omega) | (simp; done) | (simp; omega)) (by first | rfl | omega | (simp [boundD]; done) | (simp [boundD]; omega) | (simp; done) | (simp; omega)) (by omega) (by first | rfl | omega | (simp [boundD]; done) | (simp [boundD]; omega) | (simp; done) | (simp; omega)) rfl (by first | rfl | omega | (simp [boundD]; done) | (simp [boundD]; omega) | (simp; done) | (simp; omega)) ?_
        simp -implicitDefEqProofs [-leave, h0, h5]
        rw [leave_lent (by omega) (by simpa using hcs.ovr (b := List.replicate (xs.length - m) [D.int IntKind.i64 0]) (fun r hr d hd => by rw [(List.mem_replicate.1 hr).2] at hd; rw [List.mem_singleton.1 hd]; rfl) m)]
        simp only [List.take_succ_cons, List.take_zero, ovr, List.length_replicate, hct, show m + (xs.length - m) = xs.length by omega, hcd, List.append_assoc]
      · rintro ⟨fr, bs⟩ h
        exact h.elim
    · refine outRows_of rfl rfl rfl ?_ ?_ (.inl rfl)
      · simp; omega
      · rw [List.drop_zero, List.append_assoc, List.take_left' (by simpa using hm)]
theorem passive_With (xs : List Int) (id : Int) (hl : xs.length ≤ cap) : Den PP 14 [intsD xs, .int .i64 id] [] (.tup [.ref 0 0 (withP xs id).1.length, .int .i64 (withP xs id).2]) [⟨(withP xs id).1.map irow, 1, .mut⟩] := by
  have c1 := passive_May xs hl
  have c2 := fun h : xs.length ≤ 16 => clone_int (xs.map irow) (by simp) (by simp; omega)
  have c3 := fun h => bsearch_int xs id hl h
  simp only [intsD, List.length_map] at c1 c2 c3
  refine den_ofG [25, 31] [31] [31] [] (fun _ h => absurd h List.not_mem_nil) is_passive_With ?_
  simp -implicitDefEqProofs [c_passive_With, intsD]
  refine callThen_of c1 ?_
  simp -implicitDefEqProofs
  refine gOps_split (fun h1 => ?_) (fun h1 => ?_)
  rotate_left
  · simp -implicitDefEqProofs [h1, withP]
  obtain ⟨hr, hp, h16⟩ := (passiveMay_iff xs).1 h1
  simp -implicitDefEqProofs [h1]
  refine callThen_of (ring_Place id) ?_
  simp -implicitDefEqProofs
  refine condC_not (fun h2 => ?_) (fun h2 => ?_)
  rotate_left
  · simp -implicitDefEqProofs [h1, h2, withP]
  simp -implicitDefEqProofs [h1, h2]
  refine callThen_of (c3 hr) ?_
  simp -implicitDefEqProofs
  refine condC_dec (fun h3 => ?_) (fun h3 => ?_)
  · have h4 := (posI_mem hr).1 h3
    simp -implicitDefEqProofs
    refine callThen_of (c2 h16) ?_
    simp -implicitDefEqProofs [h1, h2, h4, withP]
  · have h4 : ¬ id ∈ xs := fun h => h3 ((posI_mem hr).2 h)
    simp -implicitDefEqProofs
    refine condC_dec (fun h5 => ?_) (fun h5 => ?_)
    · have h5' : xs.length = 16 := by omega
      simp -implicitDefEqProofs [h1, h2, h4, h5', withP]
    · have h5' : ¬ xs.length = 16 := by omega
      simp -implicitDefEqProofs
      refine callThen_of (c2 h16) ?_
      simp -implicitDefEqProofs
      refine giveThen_of rfl (by simp) (by simp) (by simp) (insert_int (xs.map irow) (irow id) (posI xs id) (by simp) (StillR.map _ _ fun a _ d hd => by rw [List.mem_singleton.1 hd]; rfl) (by intro r hr; rw [List.mem_singleton.1 hr]; exact ⟨rfl, rfl⟩) (by intro d hd; rw [List.mem_singleton.1 hd]; rfl) (by simpa using posI_le xs id) (by simp; omega)) ?_
      rw [← insL_map, insL_insU]
      simp -implicitDefEqProofs [downTo, h1, h2, h4, h5', withP]
theorem passive_Without_1 (id a : Int) : Den PP 43 [.int .i64 a, .mem [.int .i64 id]] [] (.bool (decide (a = id))) [] := by
  refine den_of [] [] is_passive_Without_1 ?_
  simp -implicitDefEqProofs [c_passive_Without_1]
theorem passive_Without (xs : List Int) (id : Int) (hl : xs.length ≤ cap) : Den PP 16 [intsD xs, .int .i64 id] [] (.tup [.ref 0 0 (withoutP xs id).1.length, .int .i64 (withoutP xs id).2]) [⟨(withoutP xs id).1.map irow, 1, .mut⟩] := by
  have c1 := passive_May xs hl
  have c2 := fun h : xs.length ≤ 16 => clone_int (xs.map irow) (by simp) (by simp; omega)
  have c3 := fun h : xs.length ≤ 16 => deleteFunc_int xs 43 [.mem [.int .i64 id]] (fun a => decide (a = id)) ⟨fun _ => rfl, fun _ _ => rfl, fun a _ => passive_Without_1 id a⟩ (by omega)
  simp only [intsD, List.length_map] at c1 c2
  refine den_ofG [17] [17] [17] [] (fun _ h => absurd h List.not_mem_nil) is_passive_Without ?_
  simp -implicitDefEqProofs [c_passive_Without, intsD]
  refine callThen_of c1 ?_
  simp -implicitDefEqProofs
  refine gOps_split (fun h1 => ?_) (fun h1 => ?_)
  rotate_left
  · simp -implicitDefEqProofs [h1, withoutP]
  obtain ⟨hr, hp, h16⟩ := (passiveMay_iff xs).1 h1
  simp -implicitDefEqProofs [h1]
  refine callThen_of (ring_Place id) ?_
  simp -implicitDefEqProofs
  refine condC_not (fun h2 => ?_) (fun h2 => ?_)
  rotate_left
  · simp -implicitDefEqProofs [h1, h2, withoutP]
  simp -implicitDefEqProofs [h1, h2]
  refine callThen_of (c2 h16) ?_
  simp -implicitDefEqProofs
  refine giveThen_of rfl (by simp) (by simp) (by simp) (c3 h16) ?_
  simp -implicitDefEqProofs [downTo, h1, h2, withoutP]
end Go.AM
/- AM: contracts: the document's answers about views, more. -/
namespace Go.AM
set_option linter.unusedSimpArgs false
set_option linter.unusedVariables false
set_option maxRecDepth 8000
set_option maxHeartbeats 0
end Go.AM
/- AM: contracts: items, stores, nodes. -/
namespace Go.AM
set_option linter.unusedSimpArgs false
set_option linter.unusedVariables false
set_option maxRecDepth 8000
set_option maxHeartbeats 0
end Go.AM
/- AM: contracts: nodes, sharing. -/
namespace Go.AM
set_option linter.unusedSimpArgs false
set_option linter.unusedVariables false
set_option maxRecDepth 8000
set_option maxHeartbeats 0
end Go.AM
/- AM: contracts: what the statements' own helpers do with items, messages, nodes. -/
namespace Go.AM
set_option linter.unusedSimpArgs false
set_option linter.unusedVariables false
set_option maxRecDepth 8000
set_option maxHeartbeats 0
theorem law_SpoilInts_nil : Den PP 22 [.nil] [] (.tup []) [] := by
  refine den_of [] [] is_gimmallaw0_SpoilInts ?_
  simp -implicitDefEqProofs [c_gimmallaw0_SpoilInts]
  refine loop_rule 0 (fun _ ⟨fr, bs⟩ => bs = [] ∧ fr 0 = .nil ∧ fr 2 = .int .i64 0) (fun ⟨fr, bs⟩ => bs = []) (fun _ => False) c_gimmallaw0_SpoilInts_L0.eq_1 ?_ ?_ ?_ ?_ ?_
  · exact ⟨rfl, rfl, rfl⟩
  · rintro ⟨fr, bs⟩ ⟨rfl, h0, h2⟩
    simp -implicitDefEqProofs [h0, h2]
  · rintro m ⟨fr, bs⟩ ⟨rfl, h0, h2⟩
    simp -implicitDefEqProofs [h0, h2]
  · rintro ⟨fr, bs⟩ rfl
    simp -implicitDefEqProofs
  · rintro ⟨fr, bs⟩ h
    exact h.elim
end Go.AM
/- AM: contracts: what the statements' helpers do with slices. -/
namespace Go.AM
set_option linter.unusedSimpArgs false
set_option linter.unusedVariables false
set_option maxRecDepth 8000
set_option maxHeartbeats 0
theorem copy_Int (rows : List (List D)) (hf : Fits 1 rows) (hl : rows.length * 8 ≤ 140737488355328) : Den PP 36 [.sl rows rows.length] [] (.ref 0 0 rows.length) [⟨rows, 1, .mut⟩] := by
  have h63 : rows.length ≤ 9223372036854775807 := by omega
  refine den_of [] [] is_gimmallaw0_CopyInts ?_
  simp -implicitDefEqProofs [c_gimmallaw0_CopyInts, List.take_of_length_le (Nat.le_refl rows.length), hf, hl, h63]
theorem lend_Int (xs : List Int) (hl : xs.length * 8 ≤ 140737488351232) : Den PP 13 [.sl (xs.map irow) xs.length] [] (.ref 0 0 xs.length) [⟨xs.map irow ++ [(-7777), (-8888)].map irow, 1, .mut⟩] := by
  have c1 := copy_Int (xs.map irow) (by simp) (by simp; omega)
  simp only [List.length_map] at c1
  refine den_of [5] [] is_gimmallaw0_LendInts ?_
  simp -implicitDefEqProofs [c_gimmallaw0_LendInts]
  refine callThen_of c1 ?_
  simp -implicitDefEqProofs [downTo]
  refine ⟨by simp [Fits], ?_⟩
  try refine appK2_if (by omega) ?_
  simp -implicitDefEqProofs [downTo]
  refine outK_slice 0 xs.length (by simp; rfl) rfl (by first | rfl | omega | (simp [boundD]; done) | (simp [boundD]; omega) | (simp; done) | (simp; omega)) (by first | rfl | omega | (simp [boundD]; done) | (simp [boundD]; omega) | (simp; done) | (simp; omega)) (by omega) (by first | rfl | omega | (simp [boundD]; done) | (simp [boundD]; omega) | (simp; done) | (simp; omega)) rfl (by first | rfl | omega | (simp [boundD]; done) | (simp [boundD]; omega) | (simp; done) | (simp; omega)) ?_
  simp -implicitDefEqProofs [downTo, irow]
theorem kept_Int (xs : List Int) (hl : xs.length * 8 ≤ 140737488351232) : Den PP 23 [.sl (xs.map irow ++ [(-7777), (-8888)].map irow) xs.length, .sl (xs.map irow) xs.length] [] (.bool true) [] := by
  have c1 : Den PP 18 [.sl (xs.map irow ++ [(-7777), (-8888)].map irow) xs.length, .sl (xs.map irow) xs.length] [] (.bool true) [] := den_cut (by
    have := law_SameInts xs xs (by unfold cap; omega)
    simpa [intsD] using this)
  have hw : IntKind.wrap .i64 ((xs.length : Int) + 2) = ((xs.length + 2 : Nat) : Int) := by rw [wrap_in (by omega) (by omega)]; omega
  have hw1 : IntKind.wrap .i64 ((xs.length : Int) + 1) = ((xs.length + 1 : Nat) : Int) := by rw [wrap_in (by omega) (by omega)]; omega
  have g1 : ((xs.map irow) ++ [(-7777), (-8888)].map irow)[xs.length]? = some (irow (-7777)) := by rw [List.getElem?_append_right (by simp)]; simp
  have g2 : ((xs.map irow) ++ [(-7777), (-8888)].map irow)[xs.length + 1]? = some (irow (-8888)) := by rw [List.getElem?_append_right (by simp)]; simp
  generalize hq : (xs.map irow) ++ [(-7777), (-8888)].map irow = q at *
  have hql : q.length = xs.length + 2 := by rw [← hq]; simp
  have hqr : ∀ r ∈ q, r.length = 1 := by
    intro r hr
    rw [← hq, ← List.map_append] at hr
    obtain ⟨a, _, rfl⟩ := List.mem_map.1 hr
    rfl
  have n1 : ((xs.length : Int) < (xs.length : Int) + 2) := by omega
  have n2 : ((xs.length : Int) + 1 < (xs.length : Int) + 2) := by omega
  have n3 : (((xs.length + 1 : Nat) : Int)).toNat = xs.length + 1 := by omega
  refine den_of [] [] is_gimmallaw0_KeptInts ?_
  simp -implicitDefEqProofs [c_gimmallaw0_KeptInts, hw]
  refine outK_sliceS 0 (xs.length + 2) (by simp; rfl) (by first | rfl | omega | (simp [boundD]; done) | (simp [boundD]; omega) | (simp; done) | (simp; omega)) (by first | rfl | omega | (simp [boundD]; done) | (simp [boundD]; omega) | (simp; done) | (simp; omega)) (by omega) (by omega) (by simpa using hqr) ?_
  simp -implicitDefEqProofs [hw, hw1]
  refine callThen_of c1 ?_
  simp -implicitDefEqProofs [hw, hw1, g1, g2, irow, n1, n2, n3, EQS]
  refine pureV_if (by omega) ?_
  simp -implicitDefEqProofs [hw, hw1, g1, g2, irow, n1, n2, n3, EQS]
def spoilInt (a : Int) : Int := IntKind.wrap .i64 (-9 - a)
theorem spoil_Int (xs : List Int) (hl : xs.length ≤ cap16) : Den PP 22 [.ref 0 0 xs.length] [⟨xs.map irow, 1, .mut⟩] (.tup []) [⟨(xs.map spoilInt).map irow, 1, .mut⟩] := by
  unfold cap16 at hl
  refine den_of [] [] is_gimmallaw0_SpoilInts ?_
  simp -implicitDefEqProofs [c_gimmallaw0_SpoilInts]
  refine list_rule xs (fun i rest => fun ⟨fr, bs⟩ => ∃ done, bs = [⟨(done ++ rest).map irow, 1, .mut⟩] ∧ done.length = i ∧ done ++ rest.map spoilInt = xs.map spoilInt ∧ fr 0 = .ref 0 0 xs.length ∧ fr 2 = .int .i64 i)
    (fun ⟨fr, bs⟩ => bs = [⟨(xs.map spoilInt).map irow, 1, .mut⟩]) (fun ⟨fr, bs⟩ => False) c_gimmallaw0_SpoilInts_L0.eq_1 ?_ ?_ ?_ ?_ ?_
  · exact ⟨[], rfl, rfl, rfl, rfl, rfl⟩
  · rintro i ⟨fr, bs⟩ hi ⟨done, rfl, hd, he, h0, h2⟩
    simp -implicitDefEqProofs [h0, h2, hi]
    simp at he
    simp [he]
  · rintro i a rest ⟨fr, bs⟩ hlt hget hg hd hd2 ⟨done, rfl, hdl, he, h0, h2⟩
    have hlt' : (i : Int) < xs.length := by omega
    have hw := wrap_next (n := i) (by omega)
    have h3 : ∀ (A B : List (List D)) r, A.length = i → (A ++ r :: B)[i]? = some r := by intro A B r h; simp [← h]
    have h4 : ∀ (A B : List (List D)) r r', A.length = i → (A ++ r' :: B).set i r = A ++ r :: B := by intro A B r r' h; simp [← h]
    simp -implicitDefEqProofs [h0, h2, hlt', h3, h4, hdl, irow, hw, reach, downTo]
    exact ⟨done ++ [spoilInt a], by first | (simp [irow, spoilInt]; done) | (simp [irow, spoilInt]; rfl), by simp [hdl], by simpa using he⟩
  · rintro ⟨fr, bs⟩ rfl
    try simp -implicitDefEqProofs
  · rintro ⟨fr, bs⟩ h
    exact h.elim
theorem copy_Peer (rows : List (List D)) (hf : Fits 2 rows) (hl : rows.length * 16 ≤ 140737488355328) : Den PP 46 [.sl rows rows.length] [] (.ref 0 0 rows.length) [⟨rows, 2, .mut⟩] := by
  have h63 : rows.length ≤ 9223372036854775807 := by omega
  refine den_of [] [] is_gimmallaw0_CopyPeers ?_
  simp -implicitDefEqProofs [c_gimmallaw0_CopyPeers, List.take_of_length_le (Nat.le_refl rows.length), hf, hl, h63]
theorem lend_Peer (xs : List Peer) (hl : xs.length * 16 ≤ 140737488351232) : Den PP 25 [.sl (xs.map Peer.row) xs.length] [] (.ref 0 0 xs.length) [⟨xs.map Peer.row ++ [(⟨0, 77777⟩ : Peer), (⟨0, 77777⟩ : Peer)].map Peer.row, 2, .mut⟩] := by
  have c1 := copy_Peer (xs.map Peer.row) (by simp) (by simp; omega)
  simp only [List.length_map] at c1
  refine den_of [5] [] is_gimmallaw0_LendPeers ?_
  simp -implicitDefEqProofs [c_gimmallaw0_LendPeers]
  refine callThen_of c1 ?_
  simp -implicitDefEqProofs [downTo]
  refine ⟨by simp [Fits], ?_⟩
  try refine appK2_if (by omega) ?_
  simp -implicitDefEqProofs [downTo]
  refine outK_slice 0 xs.length (by simp; rfl) rfl (by first | rfl | omega | (simp [boundD]; done) | (simp [boundD]; omega) | (simp; done) | (simp; omega)) (by first | rfl | omega | (simp [boundD]; done) | (simp [boundD]; omega) | (simp; done) | (simp; omega)) (by omega) (by first | rfl | omega | (simp [boundD]; done) | (simp [boundD]; omega) | (simp; done) | (simp; omega)) rfl (by first | rfl | omega | (simp [boundD]; done) | (simp [boundD]; omega) | (simp; done) | (simp; omega)) ?_
  simp -implicitDefEqProofs [downTo, Peer.row]
theorem kept_Peer (xs : List Peer) (hl : xs.length * 16 ≤ 140737488351232) : Den PP 34 [.sl (xs.map Peer.row ++ [(⟨0, 77777⟩ : Peer), (⟨0, 77777⟩ : Peer)].map Peer.row) xs.length, .sl (xs.map Peer.row) xs.length] [] (.bool true) [] := by
  have c1 : Den PP 30 [.sl (xs.map Peer.row ++ [(⟨0, 77777⟩ : Peer), (⟨0, 77777⟩ : Peer)].map Peer.row) xs.length, .sl (xs.map Peer.row) xs.length] [] (.bool true) [] := den_cut (by
    have := law_SamePeers xs xs (by unfold cap; omega)
    simpa [peersD] using this)
  have hw : IntKind.wrap .i64 ((xs.length : Int) + 2) = ((xs.length + 2 : Nat) : Int) := by rw [wrap_in (by omega) (by omega)]; omega
  have hw1 : IntKind.wrap .i64 ((xs.length : Int) + 1) = ((xs.length + 1 : Nat) : Int) := by rw [wrap_in (by omega) (by omega)]; omega
  have g1 : ((xs.map Peer.row) ++ [(⟨0, 77777⟩ : Peer), (⟨0, 77777⟩ : Peer)].map Peer.row)[xs.length]? = some (Peer.row (⟨0, 77777⟩ : Peer)) := by rw [List.getElem?_append_right (by simp)]; simp
  have g2 : ((xs.map Peer.row) ++ [(⟨0, 77777⟩ : Peer), (⟨0, 77777⟩ : Peer)].map Peer.row)[xs.length + 1]? = some (Peer.row (⟨0, 77777⟩ : Peer)) := by rw [List.getElem?_append_right (by simp)]; simp
  generalize hq : (xs.map Peer.row) ++ [(⟨0, 77777⟩ : Peer), (⟨0, 77777⟩ : Peer)].map Peer.row = q at *
  have hql : q.length = xs.length + 2 := by rw [← hq]; simp
  have hqr : ∀ r ∈ q, r.length = 2 := by
    intro r hr
    rw [← hq, ← List.map_append] at hr
    obtain ⟨a, _, rfl⟩ := List.mem_map.1 hr
    rfl
  have n1 : ((xs.length : Int) < (xs.length : Int) + 2) := by omega
  have n2 : ((xs.length : Int) + 1 < (xs.length : Int) + 2) := by omega
  have n3 : (((xs.length + 1 : Nat) : Int)).toNat = xs.length + 1 := by omega
  refine den_of [] [] is_gimmallaw0_KeptPeers ?_
  simp -implicitDefEqProofs [c_gimmallaw0_KeptPeers, hw]
  refine outK_sliceS 0 (xs.length + 2) (by simp; rfl) (by first | rfl | omega | (simp [boundD]; done) | (simp [boundD]; omega) | (simp; done) | (simp; omega)) (by first | rfl | omega | (simp [boundD]; done) | (simp [boundD]; omega) | (simp; done) | (simp; omega)) (by omega) (by omega) (by simpa using hqr) ?_
  simp -implicitDefEqProofs [hw, hw1]
  refine callThen_of c1 ?_
  simp -implicitDefEqProofs [hw, hw1, g1, g2, Peer.row, n1, n2, n3, EQS]
  refine pureV_if (by omega) ?_
  simp -implicitDefEqProofs [hw, hw1, g1, g2, Peer.row, n1, n2, n3, EQS]
def spoilPeer (a : Peer) : Peer := { a with missed := (IntKind.wrap .i64 (BitVec.ofInt IntKind.i64.bits a.missed ^^^ BitVec.ofInt IntKind.i64.bits 90).toNat) }
theorem spoil_Peer (xs : List Peer) (hl : xs.length ≤ cap16) : Den PP 33 [.ref 0 0 xs.length] [⟨xs.map Peer.row, 2, .mut⟩] (.tup []) [⟨(xs.map spoilPeer).map Peer.row, 2, .mut⟩] := by
  unfold cap16 at hl
  refine den_of [] [] is_gimmallaw0_SpoilPeers ?_
  simp -implicitDefEqProofs [c_gimmallaw0_SpoilPeers]
  refine list_rule xs (fun i rest => fun ⟨fr, bs⟩ => ∃ done, bs = [⟨(done ++ rest).map Peer.row, 2, .mut⟩] ∧ done.length = i ∧ done ++ rest.map spoilPeer = xs.map spoilPeer ∧ fr 0 = .ref 0 0 xs.length ∧ fr 2 = .int .i64 i)
    (fun ⟨fr, bs⟩ => bs = [⟨(xs.map spoilPeer).map Peer.row, 2, .mut⟩]) (fun ⟨fr, bs⟩ => False) c_gimmallaw0_SpoilPeers_L0.eq_1 ?_ ?_ ?_ ?_ ?_
  · exact ⟨[], rfl, rfl, rfl, rfl, rfl⟩
  · rintro i ⟨fr, bs⟩ hi ⟨done, rfl, hd, he, h0, h2⟩
    simp -implicitDefEqProofs [h0, h2, hi]
    simp at he
    simp [he]
  · rintro i a rest ⟨fr, bs⟩ hlt hget hg hd hd2 ⟨done, rfl, hdl, he, h0, h2⟩
    have hlt' : (i : Int) < xs.length := by omega
    have hw := wrap_next (n := i) (by omega)
    have h3 : ∀ (A B : List (List D)) r, A.length = i → (A ++ r :: B)[i]? = some r := by intro A B r h; simp [← h]
    have h4 : ∀ (A B : List (List D)) r r', A.length = i → (A ++ r' :: B).set i r = A ++ r :: B := by intro A B r r' h; simp [← h]
    simp -implicitDefEqProofs [h0, h2, hlt', h3, h4, hdl, Peer.row, hw, reach, downTo]
    exact ⟨done ++ [spoilPeer a], by first | (simp [Peer.row, spoilPeer]; done) | (simp [Peer.row, spoilPeer]; rfl), by simp [hdl], by simpa using he⟩
  · rintro ⟨fr, bs⟩ rfl
    try simp -implicitDefEqProofs
  · rintro ⟨fr, bs⟩ h
    exact h.elim
end Go.AM
/- AM: chapter 8's statements: what each comes to. -/
namespace Go.AM
set_option linter.unusedSimpArgs false
set_option linter.unusedVariables false
set_option maxRecDepth 8000
set_option maxHeartbeats 0
theorem ref_WithPassive (xs : List Int) (id : Int) (hl : xs.length ≤ cap) :
    Den PP 15 [intsD xs, .int .i64 id] [] (.tup [.ref 0 0 (withP xs id).1.length, .int .i64 (withP xs id).2]) [⟨(withP xs id).1.map irow, 1, .mut⟩] := by
  have c1 := ref_PassiveMay xs hl
  have c2 := fun x => ref_has xs x hl
  rw [← refWith_eq]
  simp only [intsD] at c1 c2
  refine den_of [] [] is_gimmalref1_WithPassive ?_
  simp -implicitDefEqProofs [c_gimmalref1_WithPassive, intsD]
  repeat' (first | (refine callThen_of (by first | exact c1 | exact ref_PlaceMay _) ?_; simp -implicitDefEqProofs [*, refWith]) | (with_reducible refine gOps_dec (fun _ => ?_) (fun _ => ?_) <;> simp -implicitDefEqProofs [*, refWith]) | (with_reducible refine gOps_ndec (fun _ => ?_) (fun _ => ?_) <;> simp -implicitDefEqProofs [*, refWith]) | (with_reducible refine gOps_and (fun hq => ?_) (fun hq => ?_) <;> (try simp at hq) <;> simp -implicitDefEqProofs [*, refWith]) | (with_reducible refine gOps_or (fun hq => ?_) (fun hq => ?_) <;> (try simp at hq) <;> simp -implicitDefEqProofs [*, refWith]) | (with_reducible refine gOps_not (fun hq => ?_) (fun hq => ?_) <;> (try simp at hq) <;> simp -implicitDefEqProofs [*, refWith]) | (with_reducible refine gOps_split (fun hq => ?_) (fun hq => ?_) <;> (try simp at hq) <;> simp -implicitDefEqProofs [*, refWith]) | (with_reducible refine condC_dec (fun _ => ?_) (fun _ => ?_) <;> simp -implicitDefEqProofs [*, refWith]) | (with_reducible refine condC_ndec (fun _ => ?_) (fun _ => ?_) <;> simp -implicitDefEqProofs [*, refWith]) | (with_reducible refine condC_and (fun hq => ?_) (fun hq => ?_) <;> (try simp at hq) <;> simp -implicitDefEqProofs [*, refWith]) | (with_reducible refine condC_or (fun hq => ?_) (fun hq => ?_) <;> (try simp at hq) <;> simp -implicitDefEqProofs [*, refWith]) | (with_reducible refine condC_not (fun hq => ?_) (fun hq => ?_) <;> (try simp at hq) <;> simp -implicitDefEqProofs [*, refWith]) | (with_reducible refine condC_split (fun hq => ?_) (fun hq => ?_) <;> (try simp at hq) <;> simp -implicitDefEqProofs [*, refWith]) | (refine appK2_if (by omega) ?_; simp -implicitDefEqProofs [*, refWith]) | (refine pureV_if (by omega) ?_; simp -implicitDefEqProofs [*, refWith]))
  obtain ⟨F, hF0, hFs, hFn, hFl⟩ := filter_count (fun x => decide (x = id) || decide (x ∈ xs)) 256
  rw [← hFn]
  clear hFn
  refine count_rule 256 (fun i => fun ⟨fr, bs⟩ => bs = [⟨[], 1, .mut⟩, ⟨(F i).map irow, 1, .mut⟩] ∧ fr 0 = .sl (xs.map irow) xs.length ∧ fr 1 = .int .i64 id ∧ fr 6 = .ref 1 0 (F i).length ∧ fr 7 = .int .i64 i)
    (fun ⟨fr, bs⟩ => bs = [⟨[], 1, .mut⟩, ⟨(F 256).map irow, 1, .mut⟩] ∧ fr 6 = .ref 1 0 (F 256).length) (fun _ => False) c_gimmalref1_WithPassive_L0.eq_1 ?_ ?_ ?_ ?_ ?_
  · simp only [hF0]
    exact ⟨rfl, rfl, rfl, rfl, rfl⟩
  · rintro ⟨fr, bs⟩ ⟨rfl, h0, h1, h6, h7⟩
    simp -implicitDefEqProofs [h0, h1, h6, h7]
  · rintro i ⟨fr, bs⟩ hlt ⟨rfl, h0, h1, h6, h7⟩
    have hlt2 : (i : Int) < 256 := by omega
    have hw := wrap_next (n := i) (by omega)
    have c3 := c2 (i : Int)
    have hs := hFs i hlt
    have hal := hFl i
    generalize F (i + 1) = acc' at *
    generalize F i = acc at *
    clear hFs hFl c2
    by_cases hid : (i : Int) = id
    · have hs' : acc' = acc ++ [(i : Int)] := by rw [hs, if_pos (by simp [hid])]
      subst hs'
      subst hid
      clear hs
      simp -implicitDefEqProofs [h0, h1, h6, h7, hlt2, Fits, irow]
      repeat' (first | (refine callThen_of (by first | exact c3) ?_; simp -implicitDefEqProofs [*, h0, h1, h6, h7, hw, Fits, irow]) | (with_reducible refine gOps_dec (fun _ => ?_) (fun _ => ?_) <;> simp -implicitDefEqProofs [*, h0, h1, h6, h7, hw, Fits, irow]) | (with_reducible refine gOps_ndec (fun _ => ?_) (fun _ => ?_) <;> simp -implicitDefEqProofs [*, h0, h1, h6, h7, hw, Fits, irow]) | (with_reducible refine gOps_and (fun hq => ?_) (fun hq => ?_) <;> (try simp at hq) <;> simp -implicitDefEqProofs [*, h0, h1, h6, h7, hw, Fits, irow]) | (with_reducible refine gOps_or (fun hq => ?_) (fun hq => ?_) <;> (try simp at hq) <;> simp -implicitDefEqProofs [*, h0, h1, h6, h7, hw, Fits, irow]) | (with_reducible refine gOps_not (fun hq => ?_) (fun hq => ?_) <;> (try simp at hq) <;> simp -implicitDefEqProofs [*, h0, h1, h6, h7, hw, Fits, irow]) | (with_reducible refine gOps_split (fun hq => ?_) (fun hq => ?_) <;> (try simp at hq) <;> simp -implicitDefEqProofs [*, h0, h1, h6, h7, hw, Fits, irow]) | (with_reducible refine condC_dec (fun _ => ?_) (fun _ => ?_) <;> simp -implicitDefEqProofs [*, h0, h1, h6, h7, hw, Fits, irow]) | (with_reducible refine condC_ndec (fun _ => ?_) (fun _ => ?_) <;> simp -implicitDefEqProofs [*, h0, h1, h6, h7, hw, Fits, irow]) | (with_reducible refine condC_and (fun hq => ?_) (fun hq => ?_) <;> (try simp at hq) <;> simp -implicitDefEqProofs [*, h0, h1, h6, h7, hw, Fits, irow]) | (with_reducible refine condC_or (fun hq => ?_) (fun hq => ?_) <;> (try simp at hq) <;> simp -implicitDefEqProofs [*, h0, h1, h6, h7, hw, Fits, irow]) | (with_reducible refine condC_not (fun hq => ?_) (fun hq => ?_) <;> (try simp at hq) <;> simp -implicitDefEqProofs [*, h0, h1, h6, h7, hw, Fits, irow]) | (with_reducible refine condC_split (fun hq => ?_) (fun hq => ?_) <;> (try simp at hq) <;> simp -implicitDefEqProofs [*, h0, h1, h6, h7, hw, Fits, irow]) | (refine appK2_if (by omega) ?_; simp -implicitDefEqProofs [*, h0, h1, h6, h7, hw, Fits, irow]) | (refine pureV_if (by omega) ?_; simp -implicitDefEqProofs [*, h0, h1, h6, h7, hw, Fits, irow]))
    · by_cases hm : (i : Int) ∈ xs
      · have hs' : acc' = acc ++ [(i : Int)] := by rw [hs, if_pos (by simp [hm])]
        subst hs'
        clear hs
        simp -implicitDefEqProofs [h0, h1, h6, h7, hlt2, hid]
        repeat' (first | (refine callThen_of (by first | exact c3) ?_; simp -implicitDefEqProofs [*, h0, h1, h6, h7, hw, Fits, irow, hid, hm]) | (with_reducible refine gOps_dec (fun _ => ?_) (fun _ => ?_) <;> simp -implicitDefEqProofs [*, h0, h1, h6, h7, hw, Fits, irow, hid, hm]) | (with_reducible refine gOps_ndec (fun _ => ?_) (fun _ => ?_) <;> simp -implicitDefEqProofs [*, h0, h1, h6, h7, hw, Fits, irow, hid, hm]) | (with_reducible refine gOps_and (fun hq => ?_) (fun hq => ?_) <;> (try simp at hq) <;> simp -implicitDefEqProofs [*, h0, h1, h6, h7, hw, Fits, irow, hid, hm]) | (with_reducible refine gOps_or (fun hq => ?_) (fun hq => ?_) <;> (try simp at hq) <;> simp -implicitDefEqProofs [*, h0, h1, h6, h7, hw, Fits, irow, hid, hm]) | (with_reducible refine gOps_not (fun hq => ?_) (fun hq => ?_) <;> (try simp at hq) <;> simp -implicitDefEqProofs [*, h0, h1, h6, h7, hw, Fits, irow, hid, hm]) | (with_reducible refine gOps_split (fun hq => ?_) (fun hq => ?_) <;> (try simp at hq) <;> simp -implicitDefEqProofs [*, h0, h1, h6, h7, hw, Fits, irow, hid, hm]) | (with_reducible refine condC_dec (fun _ => ?_) (fun _ => ?_) <;> simp -implicitDefEqProofs [*, h0, h1, h6, h7, hw, Fits, irow, hid, hm]) | (with_reducible refine condC_ndec (fun _ => ?_) (fun _ => ?_) <;> simp -implicitDefEqProofs [*, h0, h1, h6, h7, hw, Fits, irow, hid, hm]) | (with_reducible refine condC_and (fun hq => ?_) (fun hq => ?_) <;> (try simp at hq) <;> simp -implicitDefEqProofs [*, h0, h1, h6, h7, hw, Fits, irow, hid, hm]) | (with_reducible refine condC_or (fun hq => ?_) (fun hq => ?_) <;> (try simp at hq) <;> simp -implicitDefEqProofs [*, h0, h1, h6, h7, hw, Fits, irow, hid, hm]) | (with_reducible refine condC_not (fun hq => ?_) (fun hq => ?_) <;> (try simp at hq) <;> simp -implicitDefEqProofs [*, h0, h1, h6, h7, hw, Fits, irow, hid, hm]) | (with_reducible refine condC_split (fun hq => ?_) (fun hq => ?_) <;> (try simp at hq) <;> simp -implicitDefEqProofs [*, h0, h1, h6, h7, hw, Fits, irow, hid, hm]) | (refine appK2_if (by omega) ?_; simp -implicitDefEqProofs [*, h0, h1, h6, h7, hw, Fits, irow, hid, hm]) | (refine pureV_if (by omega) ?_; simp -implicitDefEqProofs [*, h0, h1, h6, h7, hw, Fits, irow, hid, hm]))
      · have hs' : acc' = acc := by rw [hs, if_neg (by simp [hm, hid])]
        subst hs'
        clear hs
        simp -implicitDefEqProofs [h0, h1, h6, h7, hlt2, hid]
        repeat' (first | (refine callThen_of (by first | exact c3) ?_; simp -implicitDefEqProofs [*, h0, h1, h6, h7, hw, Fits, irow, hid, hm]) | (with_reducible refine gOps_dec (fun _ => ?_) (fun _ => ?_) <;> simp -implicitDefEqProofs [*, h0, h1, h6, h7, hw, Fits, irow, hid, hm]) | (with_reducible refine gOps_ndec (fun _ => ?_) (fun _ => ?_) <;> simp -implicitDefEqProofs [*, h0, h1, h6, h7, hw, Fits, irow, hid, hm]) | (with_reducible refine gOps_and (fun hq => ?_) (fun hq => ?_) <;> (try simp at hq) <;> simp -implicitDefEqProofs [*, h0, h1, h6, h7, hw, Fits, irow, hid, hm]) | (with_reducible refine gOps_or (fun hq => ?_) (fun hq => ?_) <;> (try simp at hq) <;> simp -implicitDefEqProofs [*, h0, h1, h6, h7, hw, Fits, irow, hid, hm]) | (with_reducible refine gOps_not (fun hq => ?_) (fun hq => ?_) <;> (try simp at hq) <;> simp -implicitDefEqProofs [*, h0, h1, h6, h7, hw, Fits, irow, hid, hm]) | (with_reducible refine gOps_split (fun hq => ?_) (fun hq => ?_) <;> (try simp at hq) <;> simp -implicitDefEqProofs [*, h0, h1, h6, h7, hw, Fits, irow, hid, hm]) | (with_reducible refine condC_dec (fun _ => ?_) (fun _ => ?_) <;> simp -implicitDefEqProofs [*, h0, h1, h6, h7, hw, Fits, irow, hid, hm]) | (with_reducible refine condC_ndec (fun _ => ?_) (fun _ => ?_) <;> simp -implicitDefEqProofs [*, h0, h1, h6, h7, hw, Fits, irow, hid, hm]) | (with_reducible refine condC_and (fun hq => ?_) (fun hq => ?_) <;> (try simp at hq) <;> simp -implicitDefEqProofs [*, h0, h1, h6, h7, hw, Fits, irow, hid, hm]) | (with_reducible refine condC_or (fun hq => ?_) (fun hq => ?_) <;> (try simp at hq) <;> simp -implicitDefEqProofs [*, h0, h1, h6, h7, hw, Fits, irow, hid, hm]) | (with_reducible refine condC_not (fun hq => ?_) (fun hq => ?_) <;> (try simp at hq) <;> simp -implicitDefEqProofs [*, h0, h1, h6, h7, hw, Fits, irow, hid, hm]) | (with_reducible refine condC_split (fun hq => ?_) (fun hq => ?_) <;> (try simp at hq) <;> simp -implicitDefEqProofs [*, h0, h1, h6, h7, hw, Fits, irow, hid, hm]) | (refine appK2_if (by omega) ?_; simp -implicitDefEqProofs [*, h0, h1, h6, h7, hw, Fits, irow, hid, hm]) | (refine pureV_if (by omega) ?_; simp -implicitDefEqProofs [*, h0, h1, h6, h7, hw, Fits, irow, hid, hm]))
  · rintro ⟨fr, bs⟩ ⟨rfl, h6⟩
    have hal := hFl 256
    clear hFs hFl
    generalize F 256 = acc at *
    simp -implicitDefEqProofs [h6]
    repeat' (first | (with_reducible refine gOps_dec (fun _ => ?_) (fun _ => ?_) <;> simp -implicitDefEqProofs [*, h6]) | (with_reducible refine gOps_ndec (fun _ => ?_) (fun _ => ?_) <;> simp -implicitDefEqProofs [*, h6]) | (with_reducible refine gOps_and (fun hq => ?_) (fun hq => ?_) <;> (try simp at hq) <;> simp -implicitDefEqProofs [*, h6]) | (with_reducible refine gOps_or (fun hq => ?_) (fun hq => ?_) <;> (try simp at hq) <;> simp -implicitDefEqProofs [*, h6]) | (with_reducible refine gOps_not (fun hq => ?_) (fun hq => ?_) <;> (try simp at hq) <;> simp -implicitDefEqProofs [*, h6]) | (with_reducible refine gOps_split (fun hq => ?_) (fun hq => ?_) <;> (try simp at hq) <;> simp -implicitDefEqProofs [*, h6]) | (with_reducible refine condC_dec (fun _ => ?_) (fun _ => ?_) <;> simp -implicitDefEqProofs [*, h6]) | (with_reducible refine condC_ndec (fun _ => ?_) (fun _ => ?_) <;> simp -implicitDefEqProofs [*, h6]) | (with_reducible refine condC_and (fun hq => ?_) (fun hq => ?_) <;> (try simp at hq) <;> simp -implicitDefEqProofs [*, h6]) | (with_reducible refine condC_or (fun hq => ?_) (fun hq => ?_) <;> (try simp at hq) <;> simp -implicitDefEqProofs [*, h6]) | (with_reducible refine condC_not (fun hq => ?_) (fun hq => ?_) <;> (try simp at hq) <;> simp -implicitDefEqProofs [*, h6]) | (with_reducible refine condC_split (fun hq => ?_) (fun hq => ?_) <;> (try simp at hq) <;> simp -implicitDefEqProofs [*, h6]) | (refine appK2_if (by omega) ?_; simp -implicitDefEqProofs [*, h6]) | (refine pureV_if (by omega) ?_; simp -implicitDefEqProofs [*, h6]))
    all_goals grind
  · rintro ⟨fr, bs⟩ h
    exact h.elim
theorem law8_awake : Den PP 24 [] [] (.bool true) [] := by
  have g1 := passive_With [3, 9] 5 (by unfold cap; decide)
  have g2 := passive_Without [3, 5, 9] 9 (by unfold cap; decide)
  have g3 := passive_With [9, 3] 5 (by unfold cap; decide)
  have g4 := passive_Without [] 256 (by unfold cap; decide)
  have g5 := law_SameInts [3, 5, 9] [3, 5, 9] (by unfold cap; decide)
  have g6 := law_SameInts [3, 5] [3, 5] (by unfold cap; decide)
  have g7 := passive_May [3, 5, 9] (by unfold cap; decide)
  have e1 : withP [3, 9] 5 = ([3, 5, 9], 0) := by decide +kernel
  have e2 : withoutP [3, 5, 9] 9 = ([3, 5], 0) := by decide +kernel
  have e3 : withP [9, 3] 5 = ([], 800) := by decide +kernel
  have e4 : withoutP [] 256 = ([], 800) := by decide +kernel
  have e7 : passiveMay [3, 5, 9] = true := by decide +kernel
  rw [e1] at g1
  rw [e2] at g2
  rw [e3] at g3
  rw [e4] at g4
  rw [e7] at g7
  clear e1 e2 e3 e4 e7
  simp [intsD, irow] at g1 g2 g3 g4 g5 g6 g7
  refine den_of [] [] is_gimmallaw8_awake ?_
  simp -implicitDefEqProofs [c_gimmallaw8_awake]
  repeat' (first | (refine callThen_of (by first | exact g1 | exact g2 | exact g3 | exact g4 | exact den_nrm (g4) | exact den_nrm (by simpa using g4) | exact g5 | exact g6 | exact g7 | exact law_Num _) ?_; simp -implicitDefEqProofs [*, irow, downTo]) | (with_reducible refine gOps_dec (fun _ => ?_) (fun _ => ?_) <;> simp -implicitDefEqProofs [*, irow, downTo]) | (with_reducible refine gOps_ndec (fun _ => ?_) (fun _ => ?_) <;> simp -implicitDefEqProofs [*, irow, downTo]) | (with_reducible refine gOps_and (fun hq => ?_) (fun hq => ?_) <;> (try simp at hq) <;> simp -implicitDefEqProofs [*, irow, downTo]) | (with_reducible refine gOps_or (fun hq => ?_) (fun hq => ?_) <;> (try simp at hq) <;> simp -implicitDefEqProofs [*, irow, downTo]) | (with_reducible refine gOps_not (fun hq => ?_) (fun hq => ?_) <;> (try simp at hq) <;> simp -implicitDefEqProofs [*, irow, downTo]) | (with_reducible refine gOps_split (fun hq => ?_) (fun hq => ?_) <;> (try simp at hq) <;> simp -implicitDefEqProofs [*, irow, downTo]) | (with_reducible refine condC_dec (fun _ => ?_) (fun _ => ?_) <;> simp -implicitDefEqProofs [*, irow, downTo]) | (with_reducible refine condC_ndec (fun _ => ?_) (fun _ => ?_) <;> simp -implicitDefEqProofs [*, irow, downTo]) | (with_reducible refine condC_and (fun hq => ?_) (fun hq => ?_) <;> (try simp at hq) <;> simp -implicitDefEqProofs [*, irow, downTo]) | (with_reducible refine condC_or (fun hq => ?_) (fun hq => ?_) <;> (try simp at hq) <;> simp -implicitDefEqProofs [*, irow, downTo]) | (with_reducible refine condC_not (fun hq => ?_) (fun hq => ?_) <;> (try simp at hq) <;> simp -implicitDefEqProofs [*, irow, downTo]) | (with_reducible refine condC_split (fun hq => ?_) (fun hq => ?_) <;> (try simp at hq) <;> simp -implicitDefEqProofs [*, irow, downTo]) | (refine appK2_if (by omega) ?_; simp -implicitDefEqProofs [*, irow, downTo]) | (refine pureV_if (by omega) ?_; simp -implicitDefEqProofs [*, irow, downTo]))
theorem law8_Passives (xs : List Int) (id : Int) (hl : xs.length * 8 ≤ 140737488351232) : Den PP 3 [intsD xs, .int .i64 id] [] (.bool true) [] := by
  have hc : xs.length ≤ cap := by unfold cap; omega
  have g0 := lend_Int xs hl
  have g1 := passive_With xs id hc
  have g2 := ref_WithPassive xs id hc
  have g3 := passive_Without xs id hc
  have g4 := ref_WithoutPassive xs id hc
  rw [refWithout_eq] at g4
  have g5 := passive_May xs hc
  have g6 := ref_PassiveMay xs hc
  rw [passiveMay_eq] at g6
  have g7 := kept_Int xs hl
  have l1 := withP_len xs id
  have l2 := withoutP_len xs id
  generalize withP xs id = A at *
  generalize withoutP xs id = B at *
  obtain ⟨a, e⟩ := A
  obtain ⟨b, f⟩ := B
  simp only at l1 l2 g1 g2 g3 g4
  have g8 := law_SameInts a a (by unfold cap; omega)
  have g9 := law_SameInts b b (by unfold cap; omega)
  have s1 := spoil_Int a (by unfold cap16; omega)
  have s2 := spoil_Int b (by unfold cap16; omega)
  have cut : ∀ {f : Nat} {r : D} {bs' : List Blk} (post : List D), Den PP f (.sl (xs.map irow) xs.length :: post) [] r bs' → post.map D.cut = post → Den PP f (.sl (xs.map irow ++ [-7777, -8888].map irow) xs.length :: post) [] r bs' := by
    intro f r bs' post h hp
    refine den_cut ?_
    simp only [List.map_cons, D.cut, hp, take_map_app]
    exact h
  generalize passiveMay xs = M at *
  simp only [intsD] at g0 g1 g2 g3 g4 g5 g6 g7 g8 g9
  have k1 := cut [.int .i64 id] g1 rfl
  have k3 := cut [.int .i64 id] g3 rfl
  have k5 := cut [] g5 rfl
  generalize hq : xs.map irow ++ [-7777, -8888].map irow = q at *
  refine den_of [19, 31] [69, 71] is_gimmallaw8_Passives ?_
  simp -implicitDefEqProofs [c_gimmallaw8_Passives, intsD]
  refine callThen_of g0 ?_
  skip
  simp -implicitDefEqProofs [downTo]
  refine callThen_of k1 ?_
  simp -implicitDefEqProofs [downTo]
  refine callThen_of g2 ?_
  simp -implicitDefEqProofs [downTo]
  refine callThen_of k3 ?_
  simp -implicitDefEqProofs [downTo]
  refine callThen_of g4 ?_
  simp -implicitDefEqProofs [downTo]
  repeat' (first | (refine callThen_of (by first | exact g8 | exact g9 | exact k5 | exact g6 | exact law_Num _) ?_; simp -implicitDefEqProofs [*]) | (with_reducible refine gOps_dec (fun _ => ?_) (fun _ => ?_) <;> simp -implicitDefEqProofs [*]) | (with_reducible refine gOps_ndec (fun _ => ?_) (fun _ => ?_) <;> simp -implicitDefEqProofs [*]) | (with_reducible refine gOps_and (fun hq => ?_) (fun hq => ?_) <;> (try simp at hq) <;> simp -implicitDefEqProofs [*]) | (with_reducible refine gOps_or (fun hq => ?_) (fun hq => ?_) <;> (try simp at hq) <;> simp -implicitDefEqProofs [*]) | (with_reducible refine gOps_not (fun hq => ?_) (fun hq => ?_) <;> (try simp at hq) <;> simp -implicitDefEqProofs [*]) | (with_reducible refine gOps_split (fun hq => ?_) (fun hq => ?_) <;> (try simp at hq) <;> simp -implicitDefEqProofs [*]) | (with_reducible refine condC_dec (fun _ => ?_) (fun _ => ?_) <;> simp -implicitDefEqProofs [*]) | (with_reducible refine condC_ndec (fun _ => ?_) (fun _ => ?_) <;> simp -implicitDefEqProofs [*]) | (with_reducible refine condC_and (fun hq => ?_) (fun hq => ?_) <;> (try simp at hq) <;> simp -implicitDefEqProofs [*]) | (with_reducible refine condC_or (fun hq => ?_) (fun hq => ?_) <;> (try simp at hq) <;> simp -implicitDefEqProofs [*]) | (with_reducible refine condC_not (fun hq => ?_) (fun hq => ?_) <;> (try simp at hq) <;> simp -implicitDefEqProofs [*]) | (with_reducible refine condC_split (fun hq => ?_) (fun hq => ?_) <;> (try simp at hq) <;> simp -implicitDefEqProofs [*]) | (refine appK2_if (by omega) ?_; simp -implicitDefEqProofs [*]) | (refine pureV_if (by omega) ?_; simp -implicitDefEqProofs [*]))
  refine lendThen_frame [0] rfl (by decide) (by simp) s1 (by simp) (by simp [lentBs]) ?_
  simp -implicitDefEqProofs [framed]
  refine lendThen_frame [1] rfl (by decide) (by simp) s2 (by simp) (by simp [lentBs]) ?_
  simp -implicitDefEqProofs [framed]
  repeat' (first | (refine callThen_of (by first | exact g7 | exact law8_awake) ?_; simp -implicitDefEqProofs [*]) | (with_reducible refine gOps_dec (fun _ => ?_) (fun _ => ?_) <;> simp -implicitDefEqProofs [*]) | (with_reducible refine gOps_ndec (fun _ => ?_) (fun _ => ?_) <;> simp -implicitDefEqProofs [*]) | (with_reducible refine gOps_and (fun hq => ?_) (fun hq => ?_) <;> (try simp at hq) <;> simp -implicitDefEqProofs [*]) | (with_reducible refine gOps_or (fun hq => ?_) (fun hq => ?_) <;> (try simp at hq) <;> simp -implicitDefEqProofs [*]) | (with_reducible refine gOps_not (fun hq => ?_) (fun hq => ?_) <;> (try simp at hq) <;> simp -implicitDefEqProofs [*]) | (with_reducible refine gOps_split (fun hq => ?_) (fun hq => ?_) <;> (try simp at hq) <;> simp -implicitDefEqProofs [*]) | (with_reducible refine condC_dec (fun _ => ?_) (fun _ => ?_) <;> simp -implicitDefEqProofs [*]) | (with_reducible refine condC_ndec (fun _ => ?_) (fun _ => ?_) <;> simp -implicitDefEqProofs [*]) | (with_reducible refine condC_and (fun hq => ?_) (fun hq => ?_) <;> (try simp at hq) <;> simp -implicitDefEqProofs [*]) | (with_reducible refine condC_or (fun hq => ?_) (fun hq => ?_) <;> (try simp at hq) <;> simp -implicitDefEqProofs [*]) | (with_reducible refine condC_not (fun hq => ?_) (fun hq => ?_) <;> (try simp at hq) <;> simp -implicitDefEqProofs [*]) | (with_reducible refine condC_split (fun hq => ?_) (fun hq => ?_) <;> (try simp at hq) <;> simp -implicitDefEqProofs [*]) | (refine appK2_if (by omega) ?_; simp -implicitDefEqProofs [*]) | (refine pureV_if (by omega) ?_; simp -implicitDefEqProofs [*]))
theorem law8_PassiveOther (xs : List Int) (id : Int) (hl : xs.length ≤ cap) : Den PP 6 [intsD xs, .int .i64 id] [] (.bool true) [] := by
  have g1 := passive_With xs id hl
  have g3 := passive_Without xs id hl
  by_cases hm : (passiveMay xs && place id) = true
  · have e3 : withoutP xs id = (xs.filter (fun y => !decide (y = id)), 0) := by unfold withoutP; rw [if_pos hm]
    rw [e3] at g3
    have hm' := hm
    rw [Bool.and_eq_true] at hm'
    obtain ⟨hmay, hpl⟩ := hm'
    obtain ⟨hr, hp, h16⟩ := (passiveMay_iff xs).1 hmay
    have hfm := passiveMay_filter (p := fun y => !decide (y = id)) hmay
    have m2 := passive_May (xs.filter (fun y => !decide (y = id))) (by have := List.length_filter_le (fun y => !decide (y = id)) xs; unfold cap; omega)
    rw [hfm] at m2
    have s2 := law_SameInts (xs.filter (fun y => !decide (y = id))) (xs.filter (fun y => !decide (y = id))) (by have := List.length_filter_le (fun y => !decide (y = id)) xs; unfold cap; omega)
    have hfl := List.length_filter_le (fun y => !decide (y = id)) xs
    by_cases hin : id ∈ xs
    · have e1 : withP xs id = (xs, 0) := by unfold withP; rw [if_pos hm, if_pos hin]
      rw [e1] at g1
      have hone := filter_one hr hin
      have m1 := passive_May xs hl
      rw [hmay] at m1
      generalize xs.filter (fun y => !decide (y = id)) = ys at *
      have w1 : IntKind.wrap .i64 ((ys.length : Int) + 1) = ys.length + 1 := wrap_in (by omega) (by omega)
      simp [intsD, hone] at g1 g3 m1 m2 s2
      clear e1 e3 hm hin hr hp hfm hmay
      refine den_of [] [] is_gimmallaw8_PassiveOther ?_
      simp -implicitDefEqProofs [c_gimmallaw8_PassiveOther, intsD]
      repeat' (first | (refine callThen_of (by first | exact law8_awake | exact g1 | exact g3 | exact m1 | exact m2 | exact s2 | exact law_Num _) ?_; simp -implicitDefEqProofs [*, hone, w1]) | (with_reducible refine gOps_dec (fun _ => ?_) (fun _ => ?_) <;> simp -implicitDefEqProofs [*, hone, w1]) | (with_reducible refine gOps_ndec (fun _ => ?_) (fun _ => ?_) <;> simp -implicitDefEqProofs [*, hone, w1]) | (with_reducible refine gOps_and (fun hq => ?_) (fun hq => ?_) <;> (try simp at hq) <;> simp -implicitDefEqProofs [*, hone, w1]) | (with_reducible refine gOps_or (fun hq => ?_) (fun hq => ?_) <;> (try simp at hq) <;> simp -implicitDefEqProofs [*, hone, w1]) | (with_reducible refine gOps_not (fun hq => ?_) (fun hq => ?_) <;> (try simp at hq) <;> simp -implicitDefEqProofs [*, hone, w1]) | (with_reducible refine gOps_split (fun hq => ?_) (fun hq => ?_) <;> (try simp at hq) <;> simp -implicitDefEqProofs [*, hone, w1]) | (with_reducible refine condC_dec (fun _ => ?_) (fun _ => ?_) <;> simp -implicitDefEqProofs [*, hone, w1]) | (with_reducible refine condC_ndec (fun _ => ?_) (fun _ => ?_) <;> simp -implicitDefEqProofs [*, hone, w1]) | (with_reducible refine condC_and (fun hq => ?_) (fun hq => ?_) <;> (try simp at hq) <;> simp -implicitDefEqProofs [*, hone, w1]) | (with_reducible refine condC_or (fun hq => ?_) (fun hq => ?_) <;> (try simp at hq) <;> simp -implicitDefEqProofs [*, hone, w1]) | (with_reducible refine condC_not (fun hq => ?_) (fun hq => ?_) <;> (try simp at hq) <;> simp -implicitDefEqProofs [*, hone, w1]) | (with_reducible refine condC_split (fun hq => ?_) (fun hq => ?_) <;> (try simp at hq) <;> simp -implicitDefEqProofs [*, hone, w1]) | (refine appK2_if (by omega) ?_; simp -implicitDefEqProofs [*, hone, w1]) | (refine pureV_if (by omega) ?_; simp -implicitDefEqProofs [*, hone, w1]))
    · have hfo := filter_out hin
      rw [hfo] at g3 m2 s2
      by_cases h6 : xs.length = 16
      · have e1 : withP xs id = ([], 801) := by unfold withP; rw [if_pos hm, if_neg hin, if_pos h6]
        rw [e1] at g1
        have g4 := passive_Without [] id (by unfold cap; simp)
        have e4 : withoutP [] id = ([], 0) := by unfold withoutP; rw [if_pos (by rw [hpl]; rfl)]; rfl
        rw [e4] at g4
        simp [intsD, h6] at g1 g3 g4 m2 s2
        clear e1 e3 e4 hm hin hr hp hfm hmay hfo
        refine den_of [] [] is_gimmallaw8_PassiveOther ?_
        simp -implicitDefEqProofs [c_gimmallaw8_PassiveOther, intsD]
        repeat' (first | (refine callThen_of (by first | exact law8_awake | exact g1 | exact g3 | exact g4 | exact den_nrm (g4) | exact den_nrm (by simpa using g4) | exact m2 | exact s2 | exact law_Num _) ?_; simp -implicitDefEqProofs [*, h6]) | (with_reducible refine gOps_dec (fun _ => ?_) (fun _ => ?_) <;> simp -implicitDefEqProofs [*, h6]) | (with_reducible refine gOps_ndec (fun _ => ?_) (fun _ => ?_) <;> simp -implicitDefEqProofs [*, h6]) | (with_reducible refine gOps_and (fun hq => ?_) (fun hq => ?_) <;> (try simp at hq) <;> simp -implicitDefEqProofs [*, h6]) | (with_reducible refine gOps_or (fun hq => ?_) (fun hq => ?_) <;> (try simp at hq) <;> simp -implicitDefEqProofs [*, h6]) | (with_reducible refine gOps_not (fun hq => ?_) (fun hq => ?_) <;> (try simp at hq) <;> simp -implicitDefEqProofs [*, h6]) | (with_reducible refine gOps_split (fun hq => ?_) (fun hq => ?_) <;> (try simp at hq) <;> simp -implicitDefEqProofs [*, h6]) | (with_reducible refine condC_dec (fun _ => ?_) (fun _ => ?_) <;> simp -implicitDefEqProofs [*, h6]) | (with_reducible refine condC_ndec (fun _ => ?_) (fun _ => ?_) <;> simp -implicitDefEqProofs [*, h6]) | (with_reducible refine condC_and (fun hq => ?_) (fun hq => ?_) <;> (try simp at hq) <;> simp -implicitDefEqProofs [*, h6]) | (with_reducible refine condC_or (fun hq => ?_) (fun hq => ?_) <;> (try simp at hq) <;> simp -implicitDefEqProofs [*, h6]) | (with_reducible refine condC_not (fun hq => ?_) (fun hq => ?_) <;> (try simp at hq) <;> simp -implicitDefEqProofs [*, h6]) | (with_reducible refine condC_split (fun hq => ?_) (fun hq => ?_) <;> (try simp at hq) <;> simp -implicitDefEqProofs [*, h6]) | (refine appK2_if (by omega) ?_; simp -implicitDefEqProofs [*, h6]) | (refine pureV_if (by omega) ?_; simp -implicitDefEqProofs [*, h6]))
      · have e1 : withP xs id = (insU id xs, 0) := by unfold withP; rw [if_pos hm, if_neg hin, if_neg h6]
        rw [e1] at g1
        have g4 := passive_Without (insU id xs) id (by rw [insU_length]; unfold cap; omega)
        have e4 : withoutP (insU id xs) id = (xs, 0) := by unfold withoutP; rw [if_pos (by rw [passiveMay_insU hmay hpl hin h6, hpl]; rfl), filter_insU, hfo]
        rw [e4] at g4
        have m1 := passive_May (insU id xs) (by rw [insU_length]; unfold cap; omega)
        rw [passiveMay_insU hmay hpl hin h6] at m1
        have hil := insU_length id xs
        generalize insU id xs = zs at *
        have w1 : IntKind.wrap .i64 ((xs.length : Int) + 1) = xs.length + 1 := wrap_in (by omega) (by omega)
        simp [intsD, hil] at g1 g3 g4 m1 m2 s2
        clear e1 e3 e4 hm hin hr hp hfm hmay hfo
        refine den_of [] [] is_gimmallaw8_PassiveOther ?_
        simp -implicitDefEqProofs [c_gimmallaw8_PassiveOther, intsD]
        repeat' (first | (refine callThen_of (by first | exact law8_awake | exact g1 | exact g3 | exact g4 | exact m1 | exact m2 | exact s2 | exact law_Num _) ?_; simp -implicitDefEqProofs [*, hil, w1]) | (with_reducible refine gOps_dec (fun _ => ?_) (fun _ => ?_) <;> simp -implicitDefEqProofs [*, hil, w1]) | (with_reducible refine gOps_ndec (fun _ => ?_) (fun _ => ?_) <;> simp -implicitDefEqProofs [*, hil, w1]) | (with_reducible refine gOps_and (fun hq => ?_) (fun hq => ?_) <;> (try simp at hq) <;> simp -implicitDefEqProofs [*, hil, w1]) | (with_reducible refine gOps_or (fun hq => ?_) (fun hq => ?_) <;> (try simp at hq) <;> simp -implicitDefEqProofs [*, hil, w1]) | (with_reducible refine gOps_not (fun hq => ?_) (fun hq => ?_) <;> (try simp at hq) <;> simp -implicitDefEqProofs [*, hil, w1]) | (with_reducible refine gOps_split (fun hq => ?_) (fun hq => ?_) <;> (try simp at hq) <;> simp -implicitDefEqProofs [*, hil, w1]) | (with_reducible refine condC_dec (fun _ => ?_) (fun _ => ?_) <;> simp -implicitDefEqProofs [*, hil, w1]) | (with_reducible refine condC_ndec (fun _ => ?_) (fun _ => ?_) <;> simp -implicitDefEqProofs [*, hil, w1]) | (with_reducible refine condC_and (fun hq => ?_) (fun hq => ?_) <;> (try simp at hq) <;> simp -implicitDefEqProofs [*, hil, w1]) | (with_reducible refine condC_or (fun hq => ?_) (fun hq => ?_) <;> (try simp at hq) <;> simp -implicitDefEqProofs [*, hil, w1]) | (with_reducible refine condC_not (fun hq => ?_) (fun hq => ?_) <;> (try simp at hq) <;> simp -implicitDefEqProofs [*, hil, w1]) | (with_reducible refine condC_split (fun hq => ?_) (fun hq => ?_) <;> (try simp at hq) <;> simp -implicitDefEqProofs [*, hil, w1]) | (refine appK2_if (by omega) ?_; simp -implicitDefEqProofs [*, hil, w1]) | (refine pureV_if (by omega) ?_; simp -implicitDefEqProofs [*, hil, w1]))
  · have e1 : withP xs id = ([], 800) := by unfold withP; rw [if_neg hm]
    have e3 : withoutP xs id = ([], 800) := by unfold withoutP; rw [if_neg hm]
    rw [e1] at g1
    rw [e3] at g3
    simp [intsD] at g1 g3
    clear e1 e3 hm
    refine den_of [] [] is_gimmallaw8_PassiveOther ?_
    simp -implicitDefEqProofs [c_gimmallaw8_PassiveOther, intsD]
    repeat' (first | (refine callThen_of (by first | exact law8_awake | exact g1 | exact g3 | exact law_Num _) ?_; simp -implicitDefEqProofs [*]) | (with_reducible refine gOps_dec (fun _ => ?_) (fun _ => ?_) <;> simp -implicitDefEqProofs [*]) | (with_reducible refine gOps_ndec (fun _ => ?_) (fun _ => ?_) <;> simp -implicitDefEqProofs [*]) | (with_reducible refine gOps_and (fun hq => ?_) (fun hq => ?_) <;> (try simp at hq) <;> simp -implicitDefEqProofs [*]) | (with_reducible refine gOps_or (fun hq => ?_) (fun hq => ?_) <;> (try simp at hq) <;> simp -implicitDefEqProofs [*]) | (with_reducible refine gOps_not (fun hq => ?_) (fun hq => ?_) <;> (try simp at hq) <;> simp -implicitDefEqProofs [*]) | (with_reducible refine gOps_split (fun hq => ?_) (fun hq => ?_) <;> (try simp at hq) <;> simp -implicitDefEqProofs [*]) | (with_reducible refine condC_dec (fun _ => ?_) (fun _ => ?_) <;> simp -implicitDefEqProofs [*]) | (with_reducible refine condC_ndec (fun _ => ?_) (fun _ => ?_) <;> simp -implicitDefEqProofs [*]) | (with_reducible refine condC_and (fun hq => ?_) (fun hq => ?_) <;> (try simp at hq) <;> simp -implicitDefEqProofs [*]) | (with_reducible refine condC_or (fun hq => ?_) (fun hq => ?_) <;> (try simp at hq) <;> simp -implicitDefEqProofs [*]) | (with_reducible refine condC_not (fun hq => ?_) (fun hq => ?_) <;> (try simp at hq) <;> simp -implicitDefEqProofs [*]) | (with_reducible refine condC_split (fun hq => ?_) (fun hq => ?_) <;> (try simp at hq) <;> simp -implicitDefEqProofs [*]) | (refine appK2_if (by omega) ?_; simp -implicitDefEqProofs [*]) | (refine pureV_if (by omega) ?_; simp -implicitDefEqProofs [*]))
def full8 : List Int := (List.range 16).map fun (j : Nat) => 2 * (j : Int)
def bad8 (x : Int) (d : D) : Prop := d = .sl [irow 9, irow 3] 2 ∨ d = .sl [irow 3, irow 3] 2 ∨ d = .sl [irow (0 - (1 + x % 1024))] 1 ∨ d = .sl [irow (255 + (1 + x % 1024))] 1
theorem bad_passive (xs : List Int) (h : passiveMay xs = false) (hl : xs.length ≤ cap) :
    Den PP 14 [intsD xs, .int .i64 5] [] (.tup [.ref 0 0 0, .int .i64 800]) [⟨[], 1, .mut⟩] ∧ Den PP 16 [intsD xs, .int .i64 5] [] (.tup [.ref 0 0 0, .int .i64 800]) [⟨[], 1, .mut⟩] ∧ Den PP 20 [intsD xs] [] (.bool false) [] := by
  have g1 := passive_With xs 5 hl
  have g2 := passive_Without xs 5 hl
  have g3 := passive_May xs hl
  rw [show withP xs 5 = ([], 800) by simp [withP, h]] at g1
  rw [show withoutP xs 5 = ([], 800) by simp [withoutP, h]] at g2
  rw [h] at g3
  exact ⟨g1, g2, g3⟩
theorem law8_PassiveForms (which x : Int) : Den PP 4 [.int .i64 which, .int .i64 x] [] (.bool true) [] := by
  have hd : 0 ≤ x % 1024 ∧ x % 1024 < 1024 := by omega
  have w1 : IntKind.wrap .i64 (1 + x % 1024) = 1 + x % 1024 := wrap_in (by omega) (by omega)
  have w4 : IntKind.wrap .i64 (255 + (1 + x % 1024)) = 255 + (1 + x % 1024) := wrap_in (by omega) (by omega)
  have w6 : IntKind.wrap .i64 (-(1 + x % 1024)) = -(1 + x % 1024) := wrap_in (by omega) (by omega)
  have w7 : IntKind.wrap .i64 (2 * (x % 16)) = 2 * (x % 16) := wrap_in (by omega) (by omega)
  have w8 : IntKind.wrap .i64 (1 + 2 * (x % 16)) = 1 + 2 * (x % 16) := wrap_in (by omega) (by omega)
  have w9 : IntKind.wrap .i64 (0 - (1 + x % 1024)) = 0 - (1 + x % 1024) := wrap_in (by omega) (by omega)
  obtain ⟨a1, a2, a3⟩ := bad_passive [9, 3] (by decide +kernel) (by unfold cap; decide)
  obtain ⟨b1, b2, b3⟩ := bad_passive [3, 3] (by decide +kernel) (by unfold cap; decide)
  obtain ⟨c1, c2, c3⟩ := bad_passive [0 - (1 + x % 1024)] (by simp [passiveMay, ups, place]; omega) (by unfold cap; simp)
  obtain ⟨d1, d2, d3⟩ := bad_passive [255 + (1 + x % 1024)] (by simp [passiveMay, ups, place]; omega) (by unfold cap; simp)
  have e1 := passive_With [] (0 - (1 + x % 1024)) (by unfold cap; decide)
  have e2 := passive_Without [] (0 - (1 + x % 1024)) (by unfold cap; decide)
  have e3 := passive_With [] (255 + (1 + x % 1024)) (by unfold cap; decide)
  have e4 := passive_Without [] (255 + (1 + x % 1024)) (by unfold cap; decide)
  have p1 : place (0 - (1 + x % 1024)) = false := by simp [place]; omega
  have p2 : place (255 + (1 + x % 1024)) = false := by simp [place]; omega
  rw [show withP [] (0 - (1 + x % 1024)) = ([], 800) by unfold withP; rw [if_neg (by rw [p1]; simp)]] at e1
  rw [show withoutP [] (0 - (1 + x % 1024)) = ([], 800) by unfold withoutP; rw [if_neg (by rw [p1]; simp)]] at e2
  rw [show withP [] (255 + (1 + x % 1024)) = ([], 800) by unfold withP; rw [if_neg (by rw [p2]; simp)]] at e3
  rw [show withoutP [] (255 + (1 + x % 1024)) = ([], 800) by unfold withoutP; rw [if_neg (by rw [p2]; simp)]] at e4
  have f1 := passive_With full8 (1 + 2 * (x % 16)) (by unfold cap; decide)
  have f2 := passive_With full8 (2 * (x % 16)) (by unfold cap; decide)
  have f3 := passive_May full8 (by unfold cap; decide)
  have f4 := law_SameInts full8 full8 (by unfold cap; decide)
  have hm8 : passiveMay full8 = true := by decide +kernel
  have hmem : ∀ y, y ∈ full8 ↔ ∃ j : Nat, j < 16 ∧ y = 2 * (j : Int) := by
    intro y
    simp only [full8, List.mem_map, List.mem_range]
    constructor
    · rintro ⟨j, h1, h2⟩; exact ⟨j, h1, h2.symm⟩
    · rintro ⟨j, h1, h2⟩; exact ⟨j, h1, h2.symm⟩
  rw [show withP full8 (1 + 2 * (x % 16)) = ([], 801) by
    unfold withP
    rw [if_pos (by rw [hm8]; simp [place]; omega), if_neg (by rw [hmem]; rintro ⟨j, h1, h2⟩; omega), if_pos (by decide)]] at f1
  rw [show withP full8 (2 * (x % 16)) = (full8, 0) by
    unfold withP
    rw [if_pos (by rw [hm8]; simp [place]; omega), if_pos (by rw [hmem]; exact ⟨(x % 16).toNat, by omega, by omega⟩)]] at f2
  rw [hm8] at f3
  have hfl : full8.length = 16 := by decide
  have hfx : full8 = (List.range 16).map fun (j : Nat) => 2 * (j : Int) := rfl
  clear p1 p2 hm8 hmem
  have hfr : (List.range 16).map (fun (j : Nat) => irow (2 * (j : Int))) = full8.map irow := by rw [hfx, List.map_map]; rfl
  clear hfx
  generalize full8 = F at *
  simp [intsD, irow, hfl] at a1 a2 a3 b1 b2 b3 c1 c2 c3 d1 d2 d3 e1 e2 e3 e4
  simp only [intsD, hfl] at f1 f2 f3 f4
  have h4 : which % 4 = 0 ∨ which % 4 = 1 ∨ which % 4 = 2 ∨ which % 4 = 3 := by omega
  refine den_of [] [] is_gimmallaw8_PassiveForms ?_
  simp -implicitDefEqProofs [c_gimmallaw8_PassiveForms]
  refine callThen_of law8_awake ?_
  rcases h4 with h | h | h | h
  all_goals
    have h2 : which % 2 = which % 4 % 2 := by omega
    rw [h] at h2
    simp at h2
    simp -implicitDefEqProofs [h, h2, w1, w4, w6, w9, downTo]
    repeat' (first | (refine callThen_of (by first | exact a1 | exact a2 | exact b1 | exact b2 | exact c1 | exact c2 | exact d1 | exact d2 | exact e1 | exact den_nrm (e1) | exact den_nrm (by simpa using e1) | exact e2 | exact den_nrm (e2) | exact den_nrm (by simpa using e2) | exact e3 | exact den_nrm (e3) | exact den_nrm (by simpa using e3) | exact e4 | exact den_nrm (e4) | exact den_nrm (by simpa using e4)) ?_; simp -implicitDefEqProofs [*, h, h2, w1, w4, w6, w9, downTo]) | (with_reducible refine gOps_dec (fun _ => ?_) (fun _ => ?_) <;> simp -implicitDefEqProofs [*, h, h2, w1, w4, w6, w9, downTo]) | (with_reducible refine gOps_ndec (fun _ => ?_) (fun _ => ?_) <;> simp -implicitDefEqProofs [*, h, h2, w1, w4, w6, w9, downTo]) | (with_reducible refine gOps_and (fun hq => ?_) (fun hq => ?_) <;> (try simp at hq) <;> simp -implicitDefEqProofs [*, h, h2, w1, w4, w6, w9, downTo]) | (with_reducible refine gOps_or (fun hq => ?_) (fun hq => ?_) <;> (try simp at hq) <;> simp -implicitDefEqProofs [*, h, h2, w1, w4, w6, w9, downTo]) | (with_reducible refine gOps_not (fun hq => ?_) (fun hq => ?_) <;> (try simp at hq) <;> simp -implicitDefEqProofs [*, h, h2, w1, w4, w6, w9, downTo]) | (with_reducible refine gOps_split (fun hq => ?_) (fun hq => ?_) <;> (try simp at hq) <;> simp -implicitDefEqProofs [*, h, h2, w1, w4, w6, w9, downTo]) | (with_reducible refine condC_dec (fun _ => ?_) (fun _ => ?_) <;> simp -implicitDefEqProofs [*, h, h2, w1, w4, w6, w9, downTo]) | (with_reducible refine condC_ndec (fun _ => ?_) (fun _ => ?_) <;> simp -implicitDefEqProofs [*, h, h2, w1, w4, w6, w9, downTo]) | (with_reducible refine condC_and (fun hq => ?_) (fun hq => ?_) <;> (try simp at hq) <;> simp -implicitDefEqProofs [*, h, h2, w1, w4, w6, w9, downTo]) | (with_reducible refine condC_or (fun hq => ?_) (fun hq => ?_) <;> (try simp at hq) <;> simp -implicitDefEqProofs [*, h, h2, w1, w4, w6, w9, downTo]) | (with_reducible refine condC_not (fun hq => ?_) (fun hq => ?_) <;> (try simp at hq) <;> simp -implicitDefEqProofs [*, h, h2, w1, w4, w6, w9, downTo]) | (with_reducible refine condC_split (fun hq => ?_) (fun hq => ?_) <;> (try simp at hq) <;> simp -implicitDefEqProofs [*, h, h2, w1, w4, w6, w9, downTo]) | (refine appK2_if (by omega) ?_; simp -implicitDefEqProofs [*, h, h2, w1, w4, w6, w9, downTo]) | (refine pureV_if (by omega) ?_; simp -implicitDefEqProofs [*, h, h2, w1, w4, w6, w9, downTo]))
    refine count_rule 16 (fun i => fun ⟨fr, bs⟩ => ∃ p0 p1 p2 p3 p4 p5 : Blk, bs = [p0, p1, p2, p3, p4, p5, ⟨(List.range i).map fun (j : Nat) => irow (2 * (j : Int)), 1, .mut⟩] ∧ fr 1 = .int .i64 x ∧ bad8 x (fr 6) ∧ fr 8 = .int .i64 800 ∧ fr 10 = .int .i64 800 ∧ fr 13 = .int .i64 800 ∧ fr 15 = .int .i64 800 ∧ fr 16 = .ref 6 0 i ∧ fr 17 = .int .i64 i)
      (fun ⟨fr, bs⟩ => ∃ p0 p1 p2 p3 p4 p5 : Blk, bs = [p0, p1, p2, p3, p4, p5, ⟨(List.range 16).map fun (j : Nat) => irow (2 * (j : Int)), 1, .mut⟩] ∧ fr 1 = .int .i64 x ∧ bad8 x (fr 6) ∧ fr 8 = .int .i64 800 ∧ fr 10 = .int .i64 800 ∧ fr 13 = .int .i64 800 ∧ fr 15 = .int .i64 800 ∧ fr 16 = .ref 6 0 16) (fun _ => False) c_gimmallaw8_PassiveForms_L0.eq_1 ?_ ?_ ?_ ?_ ?_
    · exact ⟨_, _, _, _, _, _, rfl, rfl, by simp [bad8, irow], rfl, rfl, rfl, rfl, rfl, rfl⟩
    · rintro ⟨fr, bs⟩ ⟨p0, p1, p2, p3, p4, p5, rfl, q1, q6, q8, q10, q13, q15, q16, q17⟩
      simp -implicitDefEqProofs [q1, q6, q8, q10, q13, q15, q16, q17]
    · rintro i ⟨fr, bs⟩ hlt ⟨p0, p1, p2, p3, p4, p5, rfl, q1, q6, q8, q10, q13, q15, q16, q17⟩
      have hlt2 : (i : Int) < 16 := by omega
      have w2 : IntKind.wrap .i64 (2 * (i : Int)) = 2 * i := wrap_in (by omega) (by omega)
      have w3 := wrap_next (n := i) (by omega)
      have htk := List.range_succ (n := i)
      have q6' : ∀ f g, D.mapR f g (fr 6) = fr 6 := by rcases q6 with h | h | h | h <;> (rw [h]; intros; rfl)
      clear hfr
      simp -implicitDefEqProofs [q1, q6', q8, q10, q13, q15, q16, q17, hlt2, w2, w3, htk, irow, Fits, downTo]
      repeat' (first | (with_reducible refine gOps_dec (fun _ => ?_) (fun _ => ?_) <;> simp -implicitDefEqProofs [*, irow]) | (with_reducible refine gOps_ndec (fun _ => ?_) (fun _ => ?_) <;> simp -implicitDefEqProofs [*, irow]) | (with_reducible refine gOps_and (fun hq => ?_) (fun hq => ?_) <;> (try simp at hq) <;> simp -implicitDefEqProofs [*, irow]) | (with_reducible refine gOps_or (fun hq => ?_) (fun hq => ?_) <;> (try simp at hq) <;> simp -implicitDefEqProofs [*, irow]) | (with_reducible refine gOps_not (fun hq => ?_) (fun hq => ?_) <;> (try simp at hq) <;> simp -implicitDefEqProofs [*, irow]) | (with_reducible refine gOps_split (fun hq => ?_) (fun hq => ?_) <;> (try simp at hq) <;> simp -implicitDefEqProofs [*, irow]) | (with_reducible refine condC_dec (fun _ => ?_) (fun _ => ?_) <;> simp -implicitDefEqProofs [*, irow]) | (with_reducible refine condC_ndec (fun _ => ?_) (fun _ => ?_) <;> simp -implicitDefEqProofs [*, irow]) | (with_reducible refine condC_and (fun hq => ?_) (fun hq => ?_) <;> (try simp at hq) <;> simp -implicitDefEqProofs [*, irow]) | (with_reducible refine condC_or (fun hq => ?_) (fun hq => ?_) <;> (try simp at hq) <;> simp -implicitDefEqProofs [*, irow]) | (with_reducible refine condC_not (fun hq => ?_) (fun hq => ?_) <;> (try simp at hq) <;> simp -implicitDefEqProofs [*, irow]) | (with_reducible refine condC_split (fun hq => ?_) (fun hq => ?_) <;> (try simp at hq) <;> simp -implicitDefEqProofs [*, irow]) | (refine appK2_if (by omega) ?_; simp -implicitDefEqProofs [*, irow]) | (refine pureV_if (by omega) ?_; simp -implicitDefEqProofs [*, irow]))
    · rintro ⟨fr, bs⟩ ⟨p0, p1, p2, p3, p4, p5, rfl, q1, q6, q8, q10, q13, q15, q16⟩
      rw [hfr]
      clear hfr
      rcases q6 with q6 | q6 | q6 | q6
      all_goals
        simp -implicitDefEqProofs [q1, q6, q8, q10, q13, q15, q16, w7, w8, hfl]
        repeat' (first | (refine callThen_of (by first | exact f1 | exact f2 | exact f3 | exact f4 | exact a3 | exact b3 | exact c3 | exact d3 | exact law_Num _) ?_; simp -implicitDefEqProofs [*, q1, q6, q8, q10, q13, q15, q16, w7, w8, hfl, downTo]) | (with_reducible refine gOps_dec (fun _ => ?_) (fun _ => ?_) <;> simp -implicitDefEqProofs [*, q1, q6, q8, q10, q13, q15, q16, w7, w8, hfl, downTo]) | (with_reducible refine gOps_ndec (fun _ => ?_) (fun _ => ?_) <;> simp -implicitDefEqProofs [*, q1, q6, q8, q10, q13, q15, q16, w7, w8, hfl, downTo]) | (with_reducible refine gOps_and (fun hq => ?_) (fun hq => ?_) <;> (try simp at hq) <;> simp -implicitDefEqProofs [*, q1, q6, q8, q10, q13, q15, q16, w7, w8, hfl, downTo]) | (with_reducible refine gOps_or (fun hq => ?_) (fun hq => ?_) <;> (try simp at hq) <;> simp -implicitDefEqProofs [*, q1, q6, q8, q10, q13, q15, q16, w7, w8, hfl, downTo]) | (with_reducible refine gOps_not (fun hq => ?_) (fun hq => ?_) <;> (try simp at hq) <;> simp -implicitDefEqProofs [*, q1, q6, q8, q10, q13, q15, q16, w7, w8, hfl, downTo]) | (with_reducible refine gOps_split (fun hq => ?_) (fun hq => ?_) <;> (try simp at hq) <;> simp -implicitDefEqProofs [*, q1, q6, q8, q10, q13, q15, q16, w7, w8, hfl, downTo]) | (with_reducible refine condC_dec (fun _ => ?_) (fun _ => ?_) <;> simp -implicitDefEqProofs [*, q1, q6, q8, q10, q13, q15, q16, w7, w8, hfl, downTo]) | (with_reducible refine condC_ndec (fun _ => ?_) (fun _ => ?_) <;> simp -implicitDefEqProofs [*, q1, q6, q8, q10, q13, q15, q16, w7, w8, hfl, downTo]) | (with_reducible refine condC_and (fun hq => ?_) (fun hq => ?_) <;> (try simp at hq) <;> simp -implicitDefEqProofs [*, q1, q6, q8, q10, q13, q15, q16, w7, w8, hfl, downTo]) | (with_reducible refine condC_or (fun hq => ?_) (fun hq => ?_) <;> (try simp at hq) <;> simp -implicitDefEqProofs [*, q1, q6, q8, q10, q13, q15, q16, w7, w8, hfl, downTo]) | (with_reducible refine condC_not (fun hq => ?_) (fun hq => ?_) <;> (try simp at hq) <;> simp -implicitDefEqProofs [*, q1, q6, q8, q10, q13, q15, q16, w7, w8, hfl, downTo]) | (with_reducible refine condC_split (fun hq => ?_) (fun hq => ?_) <;> (try simp at hq) <;> simp -implicitDefEqProofs [*, q1, q6, q8, q10, q13, q15, q16, w7, w8, hfl, downTo]) | (refine appK2_if (by omega) ?_; simp -implicitDefEqProofs [*, q1, q6, q8, q10, q13, q15, q16, w7, w8, hfl, downTo]) | (refine pureV_if (by omega) ?_; simp -implicitDefEqProofs [*, q1, q6, q8, q10, q13, q15, q16, w7, w8, hfl, downTo]))
    · rintro ⟨fr, bs⟩ h
      exact h.elim
end Go.AM
/- AM: chapter 8's statements: places put, or taken, in any row. -/
namespace Go.AM
set_option linter.unusedSimpArgs false
set_option linter.unusedVariables false
set_option maxRecDepth 8000
set_option maxHeartbeats 0
theorem law8_PassiveRow (xs : List Int) (hl : xs.length ≤ cap) : Den PP 5 [intsD xs] [] (.bool true) [] := by
  unfold cap at hl
  refine den_of [] [] is_gimmallaw8_PassiveRow ?_
  simp -implicitDefEqProofs [c_gimmallaw8_PassiveRow, intsD]
  refine callThen_of law8_awake ?_
  simp -implicitDefEqProofs []
  refine count_rule (min xs.length 40) (fun i => fun ⟨fr, bs⟩ => ∃ (kd : Kind) (W : List Bool), W.length = 16 ∧ (kd = .mut ∨ kd = .app) ∧ bs = [⟨[], 1, kd⟩, ⟨[W.map D.bool], 16, .box⟩] ∧ fr 0 = intsD xs ∧ (fr 3 = intsD (idsOf W 16) ∨ (fr 3 = .ref 0 0 0 ∧ idsOf W 16 = [])) ∧ fr 4 = .ptr 1 0 0 ∧ fr 5 = .int .i64 i)
    (fun ⟨fr, bs⟩ => ∃ (kd : Kind) (W : List Bool), W.length = 16 ∧ (kd = .mut ∨ kd = .app) ∧ bs = [⟨[], 1, kd⟩, ⟨[W.map D.bool], 16, .box⟩] ∧ (fr 3 = intsD (idsOf W 16) ∨ (fr 3 = .ref 0 0 0 ∧ idsOf W 16 = [])) ∧ fr 4 = .ptr 1 0 0) (fun _ => False) c_gimmallaw8_PassiveRow_L0.eq_1 ?_ ?_ ?_ ?_ ?_
  · exact ⟨.mut, List.replicate 16 false, rfl, .inl rfl, rfl, rfl, .inr ⟨rfl, rfl⟩, rfl, rfl⟩
  · rintro ⟨fr, bs⟩ ⟨kd, W, hW, hkd, rfl, h0, h3, h4, h5⟩
    by_cases h40 : xs.length ≤ 40
    · have e1 : ¬ ((min xs.length 40 : Nat) : Int) < xs.length := by omega
      generalize min xs.length 40 = m at *
      simp -implicitDefEqProofs [h0, h4, h5, e1, intsD]
      exact ⟨kd, W, hW, hkd, ⟨rfl, rfl⟩, h3⟩
    · have e1 : ((min xs.length 40 : Nat) : Int) < xs.length := by omega
      have e2 : ¬ ((min xs.length 40 : Nat) : Int) < 40 := by omega
      generalize min xs.length 40 = m at *
      simp -implicitDefEqProofs [h0, h4, h5, e1, e2, intsD]
      exact ⟨kd, W, hW, hkd, ⟨rfl, rfl⟩, h3⟩
  · rintro i ⟨fr, bs⟩ hlt ⟨kd, W, hW, hkd, rfl, h0, h3, h4, h5⟩
    have hi1 : (i : Int) < xs.length := by omega
    have hi2 : (i : Int) < 40 := by omega
    have hi3 : i < xs.length := by omega
    have hw := wrap_next (n := i) (by omega)
    obtain ⟨x, hx⟩ : ∃ x, xs[i] = x := ⟨_, rfl⟩
    have hx' : xs[i]? = some x := by simp [hi3, hx]
    obtain ⟨k, hk⟩ : ∃ k : Nat, x % 16 = k := ⟨(x % 16).toNat, by omega⟩
    have hk16 : k < 16 := by omega
    have hk16' : (k : Int) < 16 := by omega
    have hw10 : IntKind.wrap .i64 (10 * (k : Int)) = 10 * k := wrap_in (by omega) (by omega)
    have g1 := passive_With (idsOf W 16) (10 * (k : Int)) (by have := ((passiveMay_iff _).1 (idsOf_may W)).2.2; unfold cap; omega)
    have g2 := passive_Without (idsOf W 16) (10 * (k : Int)) (by have := ((passiveMay_iff _).1 (idsOf_may W)).2.2; unfold cap; omega)
    rw [withP_ids hW hk16] at g1
    rw [withoutP_ids hW hk16] at g2
    simp only [intsD] at g1 g2
    have hset : ∀ b, (W.set k b).length = 16 := by intro b; simp [hW]
    have hsp := fun b => splice_map D.bool W k b (by omega)
    have hk15 : k ≤ 15 := by omega
    generalize hA : idsOf (W.set k true) 16 = A at *
    generalize hB : idsOf (W.set k false) 16 = B at *
    rcases h3 with h3 | ⟨h3, he⟩
    · generalize idsOf W 16 = ids at *
      simp -implicitDefEqProofs [h0, h3, h4, h5, hi1, hi2, hi3, hx, hx', intsD, irow, hk, hw10, hw, hW, hk15, hk16', hsp, downTo]
      refine condC_dec (fun hc => ?_) (fun hc => ?_)
      · simp -implicitDefEqProofs [h0, h3, h4, h5, hi1, hi2, hi3, hx, hx', intsD, irow, hk, hw10, hw, hW, hk15, hk16', hsp, downTo]
        refine callThen_of g1 ?_
        simp -implicitDefEqProofs [h0, h3, h4, h5, hi1, hi2, hi3, hx, hx', intsD, irow, hk, hw10, hw, hW, hk15, hk16', hsp, downTo]
        refine callThen_of (law_Num _) ?_
        simp -implicitDefEqProofs [h0, h3, h4, h5, hi1, hi2, hi3, hx, hx', intsD, irow, hk, hw10, hw, hW, hk15, hk16', hsp, downTo]
        refine ⟨kd, W.set k true, hset _, hkd, ?_⟩
        rw [hA]
        simp [List.map_set]
      · simp -implicitDefEqProofs [h0, h3, h4, h5, hi1, hi2, hi3, hx, hx', intsD, irow, hk, hw10, hw, hW, hk15, hk16', hsp, downTo]
        refine callThen_of g2 ?_
        simp -implicitDefEqProofs [h0, h3, h4, h5, hi1, hi2, hi3, hx, hx', intsD, irow, hk, hw10, hw, hW, hk15, hk16', hsp, downTo]
        refine callThen_of (law_Num _) ?_
        simp -implicitDefEqProofs [h0, h3, h4, h5, hi1, hi2, hi3, hx, hx', intsD, irow, hk, hw10, hw, hW, hk15, hk16', hsp, downTo]
        refine ⟨kd, W.set k false, hset _, hkd, ?_⟩
        rw [hB]
        simp [List.map_set]
    · rw [he] at g1 g2
      simp only [List.map_nil, List.length_nil] at g1 g2
      rcases hkd with rfl | rfl
      · simp -implicitDefEqProofs [h0, h3, h4, h5, hi1, hi2, hi3, hx, hx', intsD, irow, hk, hw10, hw, hW, hk15, hk16', hsp, downTo]
        refine condC_dec (fun hc => ?_) (fun hc => ?_)
        · simp -implicitDefEqProofs [h0, h3, h4, h5, hi1, hi2, hi3, hx, hx', intsD, irow, hk, hw10, hw, hW, hk15, hk16', hsp, downTo]
          refine callThen_of g1 ?_
          simp -implicitDefEqProofs [h0, h3, h4, h5, hi1, hi2, hi3, hx, hx', intsD, irow, hk, hw10, hw, hW, hk15, hk16', hsp, downTo]
          refine callThen_of (law_Num _) ?_
          simp -implicitDefEqProofs [h0, h3, h4, h5, hi1, hi2, hi3, hx, hx', intsD, irow, hk, hw10, hw, hW, hk15, hk16', hsp, downTo]
          refine ⟨.app, W.set k true, hset _, .inr rfl, ?_⟩
          rw [hA]
          simp [List.map_set]
        · simp -implicitDefEqProofs [h0, h3, h4, h5, hi1, hi2, hi3, hx, hx', intsD, irow, hk, hw10, hw, hW, hk15, hk16', hsp, downTo]
          refine callThen_of g2 ?_
          simp -implicitDefEqProofs [h0, h3, h4, h5, hi1, hi2, hi3, hx, hx', intsD, irow, hk, hw10, hw, hW, hk15, hk16', hsp, downTo]
          refine callThen_of (law_Num _) ?_
          simp -implicitDefEqProofs [h0, h3, h4, h5, hi1, hi2, hi3, hx, hx', intsD, irow, hk, hw10, hw, hW, hk15, hk16', hsp, downTo]
          refine ⟨.app, W.set k false, hset _, .inr rfl, ?_⟩
          rw [hB]
          simp [List.map_set]
      · simp -implicitDefEqProofs [h0, h3, h4, h5, hi1, hi2, hi3, hx, hx', intsD, irow, hk, hw10, hw, hW, hk15, hk16', hsp, downTo]
        refine condC_dec (fun hc => ?_) (fun hc => ?_)
        · simp -implicitDefEqProofs [h0, h3, h4, h5, hi1, hi2, hi3, hx, hx', intsD, irow, hk, hw10, hw, hW, hk15, hk16', hsp, downTo]
          refine callThen_of g1 ?_
          simp -implicitDefEqProofs [h0, h3, h4, h5, hi1, hi2, hi3, hx, hx', intsD, irow, hk, hw10, hw, hW, hk15, hk16', hsp, downTo]
          refine callThen_of (law_Num _) ?_
          simp -implicitDefEqProofs [h0, h3, h4, h5, hi1, hi2, hi3, hx, hx', intsD, irow, hk, hw10, hw, hW, hk15, hk16', hsp, downTo]
          refine ⟨.app, W.set k true, hset _, .inr rfl, ?_⟩
          rw [hA]
          simp [List.map_set]
        · simp -implicitDefEqProofs [h0, h3, h4, h5, hi1, hi2, hi3, hx, hx', intsD, irow, hk, hw10, hw, hW, hk15, hk16', hsp, downTo]
          refine callThen_of g2 ?_
          simp -implicitDefEqProofs [h0, h3, h4, h5, hi1, hi2, hi3, hx, hx', intsD, irow, hk, hw10, hw, hW, hk15, hk16', hsp, downTo]
          refine callThen_of (law_Num _) ?_
          simp -implicitDefEqProofs [h0, h3, h4, h5, hi1, hi2, hi3, hx, hx', intsD, irow, hk, hw10, hw, hW, hk15, hk16', hsp, downTo]
          refine ⟨.app, W.set k false, hset _, .inr rfl, ?_⟩
          rw [hB]
          simp [List.map_set]
  · rintro ⟨fr, bs⟩ ⟨kd, W, hW, hkd, rfl, h3, h4⟩
    have hF : ∀ i, idsOf W (i + 1) = if W.getD i false = true then idsOf W i ++ [10 * (i : Int)] else idsOf W i := idsOf_succ W
    have g3 := law_SameInts (idsOf W 16) (idsOf W 16) (by have := ((passiveMay_iff _).1 (idsOf_may W)).2.2; unfold cap; omega)
    have g4 := passive_May (idsOf W 16) (by have := ((passiveMay_iff _).1 (idsOf_may W)).2.2; unfold cap; omega)
    rw [idsOf_may] at g4
    have hlen : ∀ i, (idsOf W i).length ≤ i := by
      intro i
      unfold idsOf
      rw [List.length_map]
      exact Nat.le_trans (List.length_filter_le _ _) (by simp)
    have h0 : idsOf W 0 = [] := rfl
    have hget : ∀ i, i < 16 → ∃ b, W[i]? = some b ∧ W.getD i false = b := by
      intro i hi
      exact ⟨W[i]'(by omega), List.getElem?_eq_getElem (by omega), by rw [List.getD_eq_getElem?_getD, List.getElem?_eq_getElem (by omega)]; rfl⟩
    simp -implicitDefEqProofs [h4]
    refine count_rule 16 (fun i => fun ⟨fr, bs⟩ => bs = [⟨[], 1, kd⟩, ⟨[W.map D.bool], 16, .box⟩, ⟨(idsOf W i).map irow, 1, .mut⟩] ∧ (fr 3 = intsD (idsOf W 16) ∨ (fr 3 = .ref 0 0 0 ∧ idsOf W 16 = [])) ∧ fr 4 = .ptr 1 0 0 ∧ fr 11 = .ref 2 0 (idsOf W i).length ∧ fr 12 = .int .i64 i)
      (fun ⟨fr, bs⟩ => bs = [⟨[], 1, kd⟩, ⟨[W.map D.bool], 16, .box⟩, ⟨(idsOf W 16).map irow, 1, .mut⟩] ∧ (fr 3 = intsD (idsOf W 16) ∨ (fr 3 = .ref 0 0 0 ∧ idsOf W 16 = [])) ∧ fr 11 = .ref 2 0 (idsOf W 16).length) (fun _ => False) c_gimmallaw8_PassiveRow_L1.eq_1 ?_ ?_ ?_ ?_ ?_
    · exact ⟨rfl, h3, h4, rfl, rfl⟩
    · rintro ⟨fr, bs⟩ ⟨rfl, h3, h4, h11, h12⟩
      simp -implicitDefEqProofs [h4, h11, h12]
      exact h3
    · rintro i ⟨fr, bs⟩ hlt ⟨rfl, h3, h4, h11, h12⟩
      obtain ⟨b, hb1, hb2⟩ := hget i hlt
      have hs := hF i
      have hli := hlen i
      have hw := wrap_next (n := i) (by omega)
      have hw10 : IntKind.wrap .i64 (10 * (i : Int)) = 10 * i := wrap_in (by omega) (by omega)
      have hi16 : (i : Int) < 16 := by omega
      rw [hb2] at hs
      clear hF hlen hget
      have q3 : ∀ S : Nat → Bool, S 0 = false → D.mapR (sweepRef S) (sweepPtr S) (fr 3) = fr 3 := by
        intro S hf
        rcases h3 with h | ⟨h, _⟩ <;> (rw [h]; first | rfl | simp [sweepRef, hf])
      cases b
      · have hs' : idsOf W (i + 1) = idsOf W i := hs
        rw [hs']
        simp -implicitDefEqProofs [h4, h11, h12, hi16, hb1, hw]
        rw [q3 _ (by rfl)]
        exact h3
      · have hs' : idsOf W (i + 1) = idsOf W i ++ [10 * (i : Int)] := hs
        rw [hs']
        generalize idsOf W i = acc at *
        simp -implicitDefEqProofs [h4, h11, h12, hi16, hb1, hw10, hw, Fits]
        refine appK2_if (by omega) ?_
        simp -implicitDefEqProofs [h4, h11, h12, hi16, hb1, hw10, hw, Fits, irow]
        rw [q3 _ (by rfl), q3 _ (by rfl)]
        exact h3
    · rintro ⟨fr, bs⟩ ⟨rfl, h3, h11⟩
      simp only [intsD] at g3 g4
      rcases h3 with h3 | ⟨h3, he⟩
      · generalize idsOf W 16 = acc at *
        simp -implicitDefEqProofs [h3, h11, intsD]
        refine callThen_of g3 ?_
        simp -implicitDefEqProofs [h3, h11, intsD]
        refine callThen_of g4 ?_
        simp -implicitDefEqProofs [h3, h11, intsD]
      · rw [he] at g3 g4 h11 ⊢
        simp only [List.map_nil, List.length_nil] at g3 g4 h11 ⊢
        rcases hkd with rfl | rfl
        all_goals
          simp -implicitDefEqProofs [h3, h11, intsD]
          refine callThen_of g3 ?_
          simp -implicitDefEqProofs [h3, h11, intsD]
          refine callThen_of g4 ?_
          simp -implicitDefEqProofs [h3, h11, intsD]
    · rintro ⟨fr, bs⟩ h
      exact h.elim
  · rintro ⟨fr, bs⟩ h
    exact h.elim
end Go.AM
/- AM: what is handed in, told. -/
namespace Go.AM
set_option linter.unusedSimpArgs false
set_option linter.unusedVariables false
set_option maxRecDepth 8000
theorem tell_int {n : Nat} {cs : List D} (h : Tell TT (n + 1) 3 cs) : ∃ x, cs = [.int .i64 x] ∧ in64 x := by
  simp [Tell] at h
  obtain ⟨x, rfl, hx⟩ := h
  exact ⟨x, rfl, wf64 hx⟩
theorem tell_bool {n : Nat} {cs : List D} (h : Tell TT (n + 1) 4 cs) : ∃ x, cs = [.bool x] := by
  simpa [Tell] using h
theorem tell_ints {n : Nat} {cs : List D} (h : Tell TT (n + 2) 22 cs) : ∃ xs : List Int, cs = [intsD xs] ∧ xs.length * 8 ≤ 140737488351232 ∧ ∀ x ∈ xs, in64 x := by
  unfold Tell at h
  simp at h
  obtain ⟨rows, rfl, hl, hr⟩ := h
  obtain ⟨xs, rfl, hx⟩ := rows_of (f := irow) (Q := in64) rows fun r h => by
    obtain ⟨x, rfl, hx⟩ := tell_int (hr r h)
    exact ⟨x, rfl, hx⟩
  exact ⟨xs, by simp [intsD], by simpa using hl, hx⟩
theorem tell_Peer {n : Nat} {cs : List D} (h : Tell TT (n + 2) 54 cs) : ∃ p : Peer, cs = p.row ∧ in64 p.id ∧ in64 p.missed := by
  unfold Tell at h
  simp [Tell.TellFs] at h
  obtain ⟨a, b, rfl, h1, h2⟩ := h
  obtain ⟨x, rfl, hx⟩ := tell_int h1
  obtain ⟨y, rfl, hy⟩ := tell_int h2
  exact ⟨⟨x, y⟩, rfl, hx, hy⟩
theorem tell_peers {n : Nat} {cs : List D} (h : Tell TT (n + 3) 39 cs) : ∃ ps : List Peer, cs = [peersD ps] ∧ ps.length * 16 ≤ 140737488351232 ∧ ∀ p ∈ ps, in64 p.id ∧ in64 p.missed := by
  unfold Tell at h
  simp at h
  obtain ⟨rows, rfl, hl, hr⟩ := h
  obtain ⟨xs, rfl, hx⟩ := rows_of (f := Peer.row) (Q := fun p => in64 p.id ∧ in64 p.missed) rows fun r h => tell_Peer (hr r h)
  exact ⟨xs, by simp [peersD], by simpa using hl, hx⟩
theorem arg_ints {n : Nat} {d : D} (h : TellArg TT (n + 2) 22 d) : ∃ x : List Int, d = intsD x ∧ x.length * 8 ≤ 140737488351232 ∧ ∀ i ∈ x, in64 i := by
  simp [TellArg] at h
  obtain ⟨xs, hx, h2⟩ := tell_ints h
  simp at hx
  exact ⟨xs, hx, h2⟩
theorem arg_peers {n : Nat} {d : D} (h : TellArg TT (n + 3) 39 d) : ∃ x : List Peer, d = peersD x ∧ x.length * 16 ≤ 140737488351232 ∧ ∀ p ∈ x, in64 p.id ∧ in64 p.missed := by
  simp [TellArg] at h
  obtain ⟨xs, hx, h2⟩ := tell_peers h
  simp at hx
  exact ⟨xs, hx, h2⟩
theorem arg_bool {n : Nat} {d : D} (h : TellArg TT (n + 1) 4 d) : ∃ x, d = .bool x ∧ True := by
  simp [TellArg] at h
  obtain ⟨x, hx⟩ := tell_bool h
  simp at hx
  exact ⟨x, hx, trivial⟩
theorem arg_int {n : Nat} {d : D} (h : TellArg TT (n + 1) 3 d) : ∃ x, d = .int .i64 x ∧ in64 x := by
  simp [TellArg] at h
  obtain ⟨x, hx, h2⟩ := tell_int h
  simp at hx
  exact ⟨x, hx, h2⟩
end Go.AM
