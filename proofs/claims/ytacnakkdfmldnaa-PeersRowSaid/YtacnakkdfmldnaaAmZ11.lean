/- What the proof of this claim stands on, part 11. -/
import Derived.Test.YtacnakkdfmldnaaAmZ10
/- AM: what the library's functions over slices step through: slices of own blocks, rows written over others. -/
namespace Go.AM
set_option linter.unusedSimpArgs false
set_option linter.unusedVariables false

section
variable {c : Cfg} {K : St → Prop} {st : St} {dst : Option Nat} {p : Prop} [Decidable p]
theorem overK_if {d : D} {a b : Option St} (hp : p) (h : overK dst d a K) : overK dst d (if p then a else b) K := by rw [if_pos hp]; exact h
theorem appK2_else {a b : Option (D × St)} (hp : ¬ p) (h : appK2 dst b K) : appK2 dst (if p then a else b) K := by rw [if_neg hp]; exact h
theorem overK_else {d : D} {a b : Option St} (hp : ¬ p) (h : overK dst d b K) : overK dst d (if p then a else b) K := by rw [if_neg hp]; exact h
theorem optK_if {a b : Option St} (hp : p) (h : optK a K) : optK (if p then a else b) K := by rw [if_pos hp]; exact h
theorem outK_if {a b : Option Out} (hp : p) (h : outK st dst a K) : outK st dst (if p then a else b) K := by rw [if_pos hp]; exact h
theorem appK_if {e : Nat} {base : D} {a b : Option (List (List D))} (hp : p) (h : appK c dst e base a st K) : appK c dst e base (if p then a else b) st K := by rw [if_pos hp]; exact h
/-- A part of a slice in an own block. -/
theorem outK_slice {T : Tab} {t b off len e : Nat} {lo hi : Option D} {k : Blk} (l h : Nat) (hT : (T t).d = .slice e) (hb : st.bs[b]? = some k) (hlo : boundD 0 lo = some (l : Int)) (hhi : boundD len hi = some (h : Int))
    (h1 : l ≤ h) (h2 : off + h ≤ k.rows.length) (h3 : k.esz = (T e).size) (hne : l = 0 ∨ off + l < k.rows.length) (hK : K (st.put dst (.ref b (off + l) (h - l)))) : outK st dst (sliceD T st.bs t (.ref b off len) lo hi none) K := by
  have : sliceD T st.bs t (.ref b off len) lo hi none = some { d := .ref b (off + l) (h - l) } := by
    unfold sliceD
    rw [hT]
    simp only [hlo, hhi, hb]
    rw [if_pos (by refine ⟨by omega, by omega, by omega, h3⟩)]
    by_cases hl : l = 0
    · subst hl
      simp
    · rw [if_neg (by omega), if_pos (by simp; omega)]
      have : ((h : Int) - l).toNat = h - l := by omega
      simp [this]
  rw [this]
  refine ⟨by simp, ?_⟩
  rw [out_quiet]
  exact hK
/-- A part of a slice whose cells stay. -/
theorem outK_sliceS {T : Tab} {bs : List Blk} {t len e : Nat} {rows : List (List D)} {lo hi : Option D} (l h : Nat) (hT : (T t).d = .slice e) (hlo : boundD 0 lo = some (l : Int)) (hhi : boundD len hi = some (h : Int))
    (h1 : l ≤ h) (h2 : h ≤ rows.length) (h3 : ∀ r ∈ rows, r.length = (T e).size) (hK : K (st.put dst (.sl (rows.drop l) (h - l)))) : outK st dst (sliceD T bs t (.sl rows len) lo hi none) K := by
  have : sliceD T bs t (.sl rows len) lo hi none = some { d := .sl (rows.drop l) (h - l) } := by
    unfold sliceD
    rw [hT]
    simp only [hlo, hhi]
    rw [if_pos (by omega), if_pos h3]
    have : ((h : Int) - l).toNat = h - l := by omega
    simp [this]
  rw [this]
  refine ⟨by simp, ?_⟩
  rw [out_quiet]
  exact hK
/-- The empty part at the end of a block. -/
theorem outK_sliceE {T : Tab} {t b off len e : Nat} {lo hi : Option D} {k : Blk} (l : Nat) (hT : (T t).d = .slice e) (hb : st.bs[b]? = some k) (hlo : boundD 0 lo = some (l : Int)) (hhi : boundD len hi = some (l : Int))
    (h2 : off + l = k.rows.length) (h3 : k.esz = (T e).size) (hl : l ≠ 0) (hK : K (st.put dst (.sl [] 0))) : outK st dst (sliceD T st.bs t (.ref b off len) lo hi none) K := by
  have : sliceD T st.bs t (.ref b off len) lo hi none = some { d := .sl [] 0 } := by
    unfold sliceD
    rw [hT]
    simp only [hlo, hhi, hb]
    rw [if_pos (by refine ⟨by omega, by omega, by omega, h3⟩), if_neg (by omega), if_neg (by simp; omega)]
  rw [this]
  refine ⟨by simp, ?_⟩
  rw [out_quiet]
  exact hK
end

theorem outRows_of {esz j o l : Nat} {k' : Blk} {bs' : List Blk} {R : List (List D)} (hj : bs'[j]? = some k') (hm : k'.kind = .mut) (he : k'.esz = esz) (hl : o + l ≤ k'.rows.length) (hR : R = (k'.rows.drop o).take l) (h0 : j = 0 ∨ 0 < l) : outRows esz (.ref j o l) bs' R :=
  ⟨j, o, l, k', rfl, hj, hm, he, hl, hR, h0⟩

/-- It names no own block. -/
def D.still : D → Bool
  | .int _ _ => true
  | .bool _ => true
  | .nil => true
  | .zs _ => true
  | .sl _ _ => true
  | .mem _ => true
  | .undef => true
  | _ => false
def StillR (rows : List (List D)) : Prop := ∀ r ∈ rows, ∀ d ∈ r, d.still = true
theorem still_rids {d : D} (h : d.still = true) : d.rids = [] := by cases d <;> first | rfl | cases h
theorem still_mapR {d : D} (h : d.still = true) (fr fp : Nat → Nat → Nat → D) : d.mapR fr fp = d := by cases d <;> first | rfl | cases h
theorem still_ridsL : ∀ {r : List D}, (∀ d ∈ r, d.still = true) → ridsL r = [] := by
  intro r
  induction r with
  | nil => intro _; rfl
  | cons d ds ih =>
    intro h
    simp only [ridsL, still_rids (h d (by simp)), ih fun d hd => h d (by simp [hd])]
    rfl
theorem StillR.mapR {rows : List (List D)} (h : StillR rows) (fr fp : Nat → Nat → Nat → D) : rows.map (fun r => r.map (D.mapR fr fp)) = rows := by
  rw [List.map_congr_left (g := id), List.map_id]
  intro r hr
  rw [List.map_congr_left (g := id), List.map_id]
  · rfl
  · intro d hd
    exact still_mapR (h r hr d hd) fr fp
/-- A given block of whatever capacity: the rows that are known, and rows of nothing. -/
theorem gives_of {G : Con} {f esz : Nat} {rows : List (List D)} {rest : List D} {R : List (List D)} (hf : ∀ r ∈ rows, r.length = esz) (hst : StillR rows)
    (h : ∀ fl : List (List D), rows.length ≤ fl.length → (∀ r ∈ fl, r.length = esz) → StillR fl → fl.take rows.length = rows → (∀ i, i < rows.length → fl[i]? = rows[i]?) →
      ∃ r bs', G f (.ref 0 0 rows.length :: rest) [⟨fl, esz, .mut⟩] r bs' ∧ outRows esz r bs' R) : GivesC G f rows esz rest R := by
  intro cp hcp
  refine h _ (by simp) ?_ ?_ (by simp) ?_
  · intro r hr
    rcases List.mem_append.1 hr with h | h
    · exact hf r h
    · rw [(List.mem_replicate.1 h).2]; simp
  · intro r hr d hd
    rcases List.mem_append.1 hr with h | h
    · exact hst r h d hd
    · rw [(List.mem_replicate.1 h).2] at hd
      rw [(List.mem_replicate.1 hd).2]
      rfl
  · intro i hi
    rw [List.getElem?_append_left hi]
theorem StillR.append {a b : List (List D)} (h1 : StillR a) (h2 : StillR b) : StillR (a ++ b) := by
  intro r hr
  rcases List.mem_append.1 hr with h | h
  · exact h1 r h
  · exact h2 r h
theorem StillR.take {a : List (List D)} (h1 : StillR a) (n : Nat) : StillR (a.take n) := fun r hr => h1 r (List.mem_of_mem_take hr)
theorem StillR.drop {a : List (List D)} (h1 : StillR a) (n : Nat) : StillR (a.drop n) := fun r hr => h1 r (List.mem_of_mem_drop hr)
theorem StillR.ovr {a b : List (List D)} (h1 : StillR a) (h2 : StillR b) (p : Nat) : StillR (ovr a p b) := ((h1.take _).append h2).append (h1.drop _)
theorem StillR.set {a : List (List D)} {r : List D} (h1 : StillR a) (h2 : ∀ d ∈ r, d.still = true) (i : Nat) : StillR (a.set i r) := by
  intro x hx
  rcases List.mem_or_eq_of_mem_set hx with h | h
  · exact h1 x h
  · rw [h]; exact h2
theorem StillR.map {α : Type} (f : α → List D) (l : List α) (h : ∀ a ∈ l, ∀ d ∈ f a, d.still = true) : StillR (l.map f) := by
  intro r hr
  obtain ⟨a, ha, rfl⟩ := List.mem_map.1 hr
  exact h a ha
def insL {α : Type} (xs : List α) (i : Nat) (x : α) : List α := xs.take i ++ x :: xs.drop i
theorem insL_map {α β : Type} (f : α → β) (xs : List α) (i : Nat) (x : α) : (insL xs i x).map f = insL (xs.map f) i (f x) := by simp [insL, List.map_take, List.map_drop]
theorem insL_get {α : Type} {xs : List α} {i : Nat} {x : α} (hi : i ≤ xs.length) (j : Nat) : (insL xs i x)[j]? = if j < i then xs[j]? else if j = i then some x else xs[j - 1]? := by
  unfold insL
  have hl : (xs.take i).length = i := by simp; omega
  by_cases h1 : j < i
  · rw [if_pos h1, List.getElem?_append_left (by omega), List.getElem?_take_of_lt h1]
  · rw [if_neg h1, List.getElem?_append_right (by omega), hl]
    by_cases h2 : j = i
    · subst h2; simp
    · rw [if_neg h2]
      obtain ⟨m, hm⟩ : ∃ m, j - i = m + 1 := ⟨j - i - 1, by omega⟩
      rw [hm, List.getElem?_cons_succ, List.getElem?_drop]
      congr 1
      omega
@[simp] theorem insL_length {α : Type} (xs : List α) (i : Nat) (x : α) : (insL xs i x).length = xs.length + 1 := by simp [insL]; omega
@[simp] theorem fits_rep {esz m : Nat} {z : List D} : Fits esz (List.replicate m z) = (m = 0 ∨ (z.length = esz ∧ z.all D.isCell = true)) := by
  apply propext
  constructor
  · intro h
    by_cases hm : m = 0
    · exact .inl hm
    · exact .inr (h z (by simp [hm]))
  · rintro (rfl | h) r hr
    · simp at hr
    · rw [(List.mem_replicate.1 hr).2]; exact h
theorem StillR.sweep {rows : List (List D)} (h : StillR rows) (S : Nat → Bool) : rows.map (fun r => r.map (D.sweep S)) = rows := h.mapR _ _
theorem lent_still {bs : List Blk} (h : ∀ k ∈ bs, StillR k.rows) : lentRids bs = [] ∧ ∀ fr fp, bs.map (Blk.mapR fr fp) = bs := by
  constructor
  · unfold lentRids
    rw [List.flatMap_eq_nil_iff]
    intro k hk
    rw [List.flatMap_eq_nil_iff]
    intro r hr
    exact still_ridsL fun d hd => h k hk r hr d hd
  · intro fr fp
    rw [List.map_congr_left (g := id), List.map_id]
    intro k hk
    show { k with rows := _ } = k
    have := (h k hk).mapR fr fp
    rw [this]
theorem leave_lent {n0 b o l : Nat} {st : St} (hb : b < n0) (h : ∀ k ∈ st.bs.take n0, StillR k.rows) : leave n0 st (.ref b o l) = some (.ref b o l, st.bs.take n0) := by
  obtain ⟨h1, h2⟩ := lent_still h
  unfold leave
  simp only [D.rids, h1, List.append_nil]
  have : [b].filter (fun b => decide (n0 ≤ b)) = [] := by simp; omega
  rw [this]
  simp [expRef, hb, h2]
theorem leave_new {n0 b o l : Nat} {st : St} {k : Blk} (hb : n0 ≤ b) (hk : st.bs[b]? = some k) (hbox : k.kind.isBox = false) (h : ∀ k ∈ st.bs.take n0, StillR k.rows) : leave n0 st (.ref b o l) = some (.ref n0 o l, st.bs.take n0 ++ [k]) := by
  obtain ⟨h1, h2⟩ := lent_still h
  unfold leave
  simp only [D.rids, h1, List.append_nil]
  have : [b].filter (fun b => decide (n0 ≤ b)) = [b] := by simp; omega
  rw [this]
  have hnb : ¬ b < n0 := by omega
  have hnk : k.kind ≠ .box ∧ k.kind ≠ .ibox := by
    constructor <;> (intro h; rw [h] at hbox; cases hbox)
  simp [expRef, hnb, h2, hk]
  cases hkk : k.kind <;> simp [hkk] at hnk ⊢
section
variable {rows fl : List (List D)} {v : List D} {at_ n : Nat}
theorem ins_get (hn : rows.length = n) (hat : at_ ≤ n) (hfl : n ≤ fl.length) (htake : fl.take n = rows) (i : Nat) : (insL rows at_ v)[i]? = if i < at_ then fl[i]? else if i = at_ then some v else if i ≤ n then fl[i - 1]? else none := by
  rw [insL_get (by omega)]
  have hr : ∀ j, rows[j]? = if j < n then fl[j]? else none := by
    intro j
    rw [← htake, List.getElem?_take]
  rw [hr, hr]
  by_cases h1 : i < at_
  · rw [if_pos h1, if_pos h1, if_pos (by omega)]
  · rw [if_neg h1, if_neg h1]
    by_cases h2 : i = at_
    · rw [if_pos h2, if_pos h2]
    · rw [if_neg h2, if_neg h2]
      by_cases h3 : i ≤ n
      · rw [if_pos h3, if_pos (by omega)]
      · rw [if_neg h3, if_neg (by omega)]
theorem ins_rows1 (hn : rows.length = n) (hfl : n + 1 ≤ fl.length) (htake : fl.take n = rows) : insL rows n v = ((ovr fl n [v]).drop 0).take (n + 1) := by
  apply List.ext_getElem?
  intro i
  rw [ins_get hn (Nat.le_refl _) (by omega) htake, List.drop_zero, List.getElem?_take, ovr_get (by simpa using hfl)]
  simp only [List.length_singleton]
  by_cases h1 : i < n
  · rw [if_pos h1, if_pos (by omega), if_pos h1]
  · rw [if_neg h1]
    by_cases h2 : i = n
    · subst h2; simp
    · rw [if_neg h2, if_neg (by omega), if_neg (by omega)]
theorem ins_rows2 (hn : rows.length = n) (htake : fl.take n = rows) : insL rows n v = ((fl.take n ++ [v]).drop 0).take (n + 1) := by
  rw [htake, List.drop_zero, List.take_of_length_le (by simp; omega)]
  simp [insL, ← hn]
theorem ins_rowsC (hn : rows.length = n) (hat : at_ < n) (hfl : n + 1 ≤ fl.length) (htake : fl.take n = rows) :
    insL rows at_ v = ((ovr (ovr fl (at_ + 1) ((fl.drop at_).take (n - at_))) at_ [v]).drop 0).take (n + 1) := by
  have hl : ((fl.drop at_).take (n - at_)).length = n - at_ := by simp; omega
  have hl2 := ovr_length (rows := fl) (p := at_ + 1) (ys := (fl.drop at_).take (n - at_)) (by omega)
  apply List.ext_getElem?
  intro i
  rw [ins_get hn (by omega) (by omega) htake, List.drop_zero, List.getElem?_take, ovr_get (by simp; omega), ovr_get (by omega)]
  simp only [List.length_singleton, hl]
  by_cases h1 : i < at_
  · rw [if_pos h1, if_pos (by omega), if_pos h1, if_pos (by omega)]
  · rw [if_neg h1]
    by_cases h2 : i = at_
    · subst h2; simp; omega
    · rw [if_neg h2]
      by_cases h3 : i ≤ n
      · rw [if_pos h3, if_pos (by omega), if_neg h1, if_neg (by omega), if_neg (by omega), if_pos (by omega), List.getElem?_take_of_lt (by omega), List.getElem?_drop]
        congr 1
        omega
      · rw [if_neg h3, if_neg (by omega)]
theorem ins_rowsB {z : List D} (hn : rows.length = n) (hat : at_ < n) (hfl : fl.length = n) (htake : fl.take n = rows) :
    insL rows at_ v = ((ovr (ovr (fl.take at_ ++ List.replicate (n + 1 - at_) z) at_ [v]) (at_ + 1) ((fl.drop at_).take (n - at_))).drop 0).take (n + 1) := by
  have hl : ((fl.drop at_).take (n - at_)).length = n - at_ := by simp; omega
  have hl0 : (fl.take at_ ++ List.replicate (n + 1 - at_) z).length = n + 1 := by simp; omega
  have hl2 := ovr_length (rows := fl.take at_ ++ List.replicate (n + 1 - at_) z) (p := at_) (ys := [v]) (by rw [hl0]; simp; omega)
  apply List.ext_getElem?
  intro i
  rw [ins_get hn (by omega) (by omega) htake, List.drop_zero, List.getElem?_take, ovr_get (by rw [hl2, hl0]; omega), ovr_get (by rw [hl0]; simp; omega)]
  simp only [List.length_singleton, hl]
  by_cases h1 : i < at_
  · rw [if_pos h1, if_pos (by omega), if_pos (by omega), if_pos h1, List.getElem?_append_left (by simp; omega), List.getElem?_take_of_lt h1]
  · rw [if_neg h1]
    by_cases h2 : i = at_
    · subst h2; simp; omega
    · rw [if_neg h2]
      by_cases h3 : i ≤ n
      · rw [if_pos h3, if_pos (by omega), if_neg (by omega), if_pos (by omega), List.getElem?_take_of_lt (by omega), List.getElem?_drop]
        congr 1
        omega
      · rw [if_neg h3, if_neg (by omega)]
end
/-- A slice, with the rows of its length alone. -/
def D.cut : D → D
  | .sl rows len => .sl (rows.take len) len
  | d => d
theorem RepI.cutLen {w : World} {M : Foot} {v : Value} {rows : List (List D)} {len : Nat} (h : RepI w M v (.sl rows len)) : RepI w M v (.sl (rows.take len) len) := by
  cases h with
  | sl a _ cap _ esz g off vals h1 h2 hr ha hc hv =>
    refine .sl a len cap _ esz g off vals (by simp; omega) (by simp; omega) (fun r hx => hr r (List.mem_of_mem_take hx)) (fun hne => ha (by rintro rfl; exact hne (by simp))) (fun i j hi hj => hc i j (by simp at hi; omega) hj) ?_
    intro i j r d hi hj
    rw [List.getElem?_take] at hi
    split at hi
    · exact hv i j r d hi hj
    · cases hi
theorem Rep.cut {w : World} {M : Foot} {ρ : Nat → Loc} {v : Value} {d : D} (h : Rep w M ρ v d) : Rep w M ρ v d.cut := by
  cases d <;> try exact h
  exact .imm _ _ h.sl_inv.cutLen
theorem den_cut {P : Program} {f : Nat} {args : List D} {bs : List Blk} {r : D} {bs' : List Blk} (h : Den P f (args.map D.cut) bs r bs') : Den P f args bs r bs' := by
  refine ⟨h.1, fun w M0 ρ vals hM hS hs ha => h.2 w M0 ρ vals hM hS (by simpa using hs) ?_⟩
  intro i v d hv hd
  rw [List.getElem?_map] at hd
  cases hc : args[i]? with
  | none => simp [hc] at hd
  | some d0 => simp [hc] at hd; subst hd; exact (ha i v d0 hv hc).cut
attribute [simp] D.cut
@[simp] theorem take_map_app {α β : Type} (f : α → β) (l : List α) (r : List β) : (l.map f ++ r).take l.length = l.map f := List.take_left' (by simp)
/-- nil is an empty array of one's own. -/
theorem den_virt {P : Program} {f : Nat} {args : List D} (esz : Nat) (h : Den P f args [] .nil []) : Den P f args [] (.ref 0 0 0) [⟨[], esz, .mut⟩] := by
  refine ⟨h.1, fun w M0 ρ vals hM hS hs ha => (h.2 w M0 ρ vals hM hS hs ha).mono ?_⟩
  rintro e w' ⟨v, ρ', rfl, hr, hS', hlen, hlent, hp, har⟩
  obtain ⟨a, rfl⟩ := hr.nil_inv
  have hMM : Mof M0 (updL ρ' 0 .virt) [⟨[], esz, .mut⟩] = Mof M0 ρ' [] := by
    rw [Mof_nil]
    funext g o
    apply propext
    constructor
    · rintro (h | ⟨i, b', base, n, rl, ez, hi, hat, _⟩)
      · exact h
      · cases i with
        | zero => rw [updL_same] at hat; cases hat
        | succ i => simp at hi
    · exact .inl
  have hno : ∀ i, ρ' i = .absent := fun i => hS'.out i (Nat.zero_le _)
  have hat : ∀ i g base n rl ez, updL ρ' 0 .virt i ≠ .at_ g base n rl ez := by
    intro i g base n rl ez h
    by_cases hi : i = 0
    · subst hi; rw [updL_same] at h; cases h
    · rw [updL_ne _ _ hi, hno] at h; cases h
  refine ⟨_, updL ρ' 0 .virt, rfl, .refV 0 a (updL_same _ _ _), ⟨fun i b g base n rl ez _ h => absurd h (hat _ _ _ _ _ _), ?_, ?_, fun i j g _ _ _ _ _ _ _ _ h => absurd h (hat _ _ _ _ _ _), fun i g _ _ _ _ h => absurd h (hat _ _ _ _ _ _)⟩, by simp, fun i hi => absurd hi (by simp), by rw [hMM]; exact hp, ⟨har.size, har.os, har.tape, har.output, har.keep, fun i g base n rl ez _ h => absurd h (hat _ _ _ _ _ _)⟩⟩
  · intro i b hi hv
    cases i with
    | zero => simp at hi; subst hi; exact ⟨rfl, rfl⟩
    | succ i => simp at hi
  · intro i hi
    rw [updL_ne _ _ (by simp at hi; omega)]
    exact hno i
/-- A loop that counts to n. -/
theorem count_rule {c : Cfg} {k id : Nat} {x y : SC} {Q : Ex → St → Prop} {st : St} (n : Nat) (P : Nat → St → Prop) (N R : St → Prop) (hx : x = y)
    (h0 : P 0 st) (hlast : ∀ st, P n st → sCode c y st (roundQ (fun _ => False) id N R)) (hstep : ∀ i st, i < n → P i st → sCode c y st (roundQ (onK (P (i + 1)) k) id N R))
    (hN : ∀ st, N st → Q .normal st) (hR : ∀ st, R st → Q .ret st) : anyLoop c k x (blockQ id Q) st := by
  refine loop_rule n (fun m st => m ≤ n ∧ P (n - m) st) N R hx ⟨Nat.le_refl _, by simpa using h0⟩ (fun st h => hlast st (by simpa using h.2)) (fun m st h => ?_) hN hR
  have := hstep (n - (m + 1)) st (by omega) h.2
  rw [show n - (m + 1) + 1 = n - m by omega] at this
  refine sCode_mono _ _ _ _ ?_ this
  intro ex st' h'
  cases ex with
  | normal => exact ⟨by omega, h'⟩
  | exit i => exact h'
  | ret => exact h'
@[simp] theorem wrap_zero : IntKind.wrap .i64 0 = 0 := wrap_in (by omega) (by omega)
theorem splice_map {α : Type} (f : α → D) (W : List α) (k : Nat) (b : α) (hk : k < W.length) : List.take k (List.map f W) ++ f b :: List.drop (k + 1) (List.map f W) = List.map f (W.set k b) := by
  rw [List.map_set, List.set_eq_take_append_cons_drop, if_pos (by simpa using hk)]
end Go.AM
/- AM: contracts: the library's functions over slices. -/
namespace Go.AM
set_option linter.unusedSimpArgs false
set_option linter.unusedVariables false
set_option maxRecDepth 8000
set_option maxHeartbeats 0
theorem clone_int (rows : List (List D)) (hf : Fits 1 rows) (hl : rows.length * 8 ≤ 140737488355328) : Den PP 39 [.sl rows rows.length] [] (.ref 0 0 rows.length) [⟨rows, 1, .mut⟩] := by
  cases hr : rows with
  | nil =>
    refine den_zs (pre := []) (post := []) ?_ ?_
    · refine den_of [] [] is_slices_Clone_int_int ?_
      simp -implicitDefEqProofs [c_slices_Clone_int_int]
    · refine den_of [] [] is_slices_Clone_int_int ?_
      simp -implicitDefEqProofs [c_slices_Clone_int_int, Fits]
  | cons r rs =>
    rw [hr] at hf hl
    have h63 : (r :: rs).length ≤ 9223372036854775807 := by omega
    have hlen : 0 < (r :: rs).length := by simp
    generalize hn : (r :: rs).length = n at *
    generalize r :: rs = rows at *
    refine den_of [] [] is_slices_Clone_int_int ?_
    simp -implicitDefEqProofs [c_slices_Clone_int_int, hlen, List.take_of_length_le (Nat.le_of_eq hn), hf, hn, hl, h63]
theorem insert_int (rows : List (List D)) (v : List D) (at_ : Nat) (hf : Fits 1 rows) (hst : StillR rows) (hv : Fits 1 [v]) (hvs : ∀ d ∈ v, d.still = true) (hat : at_ ≤ rows.length) (hl : rows.length ≤ 1000000) :
    GivesC (DenF PP [0]) 40 rows 1 [.int .i64 at_, .sl [v] 1] (insL rows at_ v) := by
  refine gives_of (fun r hr => (hf r hr).1) hst fun fl hfl hrow hfs htake hget => ?_
  have hv1 : v.length = 1 := (hv v (by simp)).1
  obtain ⟨c0, cs0, hvv⟩ : ∃ c0 cs0, v = c0 :: cs0 := by
    cases v with
    | nil => simp at hv1
    | cons a b => exact ⟨a, b, rfl⟩
  have hvS : StillR [v] := by intro r hr; rw [List.mem_singleton.1 hr]; exact hvs
  generalize hn : rows.length = n at *
  have w1 : IntKind.wrap .i64 ((n : Int) + 1) = n + 1 := wrap_in (by omega) (by omega)
  have w2 : IntKind.wrap .i64 ((at_ : Int) + 1) = at_ + 1 := wrap_in (by omega) (by omega)
  have w3 : IntKind.wrap .i64 ((n : Int) + 1 - at_) = ((n + 1 - at_ : Nat) : Int) := by rw [wrap_in (by omega) (by omega)]; omega
  by_cases h1 : at_ = n
  · subst h1
    by_cases h2 : at_ + 1 ≤ fl.length
    · refine ⟨.ref 0 0 (at_ + 1), [⟨ovr fl at_ [v], 1, .mut⟩], ?_, ?_⟩
      · refine denF_of [] [66] [] [54] (by simp) ovls54 is_slices_Insert_int_int ?_
        simp -implicitDefEqProofs [-leave, c_slices_Insert_int_int]
        refine outK_slice (at_) (at_) (by simp; rfl) rfl (by first | rfl | omega | (simp [boundD]; done) | (simp [boundD]; omega) | (simp; done) | (simp; omega) | (simp [*]; done) | (simp [*]; omega)) (by first | rfl | omega | (simp [boundD]; done) | (simp [boundD]; omega) | (simp; done) | (simp; omega) | (simp [*]; done) | (simp [*]; omega)) (by omega) (by first | rfl | omega | (simp [boundD]; done) | (simp [boundD]; omega) | (simp; done) | (simp; omega) | (simp [*]; done) | (simp [*]; omega)) rfl (by first | rfl | omega | (simp [boundD]; done) | (simp [boundD]; omega) | (simp; done) | (simp; omega) | (simp [*]; done) | (simp [*]; omega)) ?_
        simp -implicitDefEqProofs [-leave, hv]
        repeat' (first | (refine appK2_if (by omega) ?_) | (refine appK2_else (by omega) ?_))
        simp -implicitDefEqProofs [-leave, hv, h2]
        rw [leave_lent (by omega) (by simpa using ((hfs.take _).append hvS).append (hfs.drop _))]
        simp [ovr]
      · exact outRows_of rfl rfl rfl (by rw [ovr_length (by simpa using h2)]; omega) (ins_rows1 hn h2 htake) (.inl rfl)
    · have h3 : fl.length = at_ := by omega
      refine ⟨.ref 1 0 (at_ + 1), [⟨fl, 1, .mut⟩, ⟨fl.take at_ ++ [v], 1, .mut⟩], ?_, ?_⟩
      · refine denF_of [] [66] [] [54] (by simp) ovls54 is_slices_Insert_int_int ?_
        simp -implicitDefEqProofs [-leave, c_slices_Insert_int_int]
        by_cases h0 : at_ = 0
        · refine outK_slice (at_) (at_) (by simp; rfl) rfl (by first | rfl | omega | (simp [boundD]; done) | (simp [boundD]; omega) | (simp; done) | (simp; omega) | (simp [*]; done) | (simp [*]; omega)) (by first | rfl | omega | (simp [boundD]; done) | (simp [boundD]; omega) | (simp; done) | (simp; omega) | (simp [*]; done) | (simp [*]; omega)) (by omega) (by first | rfl | omega | (simp [boundD]; done) | (simp [boundD]; omega) | (simp; done) | (simp; omega) | (simp [*]; done) | (simp [*]; omega)) rfl (by first | rfl | omega | (simp [boundD]; done) | (simp [boundD]; omega) | (simp; done) | (simp; omega) | (simp [*]; done) | (simp [*]; omega)) ?_
          simp -implicitDefEqProofs [-leave, hv, h3]
          repeat' (first | (refine appK2_if (by omega) ?_) | (refine appK2_else (by omega) ?_))
          simp -implicitDefEqProofs [-leave, hv, h3]
          rw [leave_new (by omega) rfl rfl (by simpa using hfs)]
          rfl
        · refine outK_sliceE (at_) (by simp; rfl) rfl (by first | rfl | omega | (simp [boundD]; done) | (simp [boundD]; omega) | (simp; done) | (simp; omega) | (simp [*]; done) | (simp [*]; omega)) (by first | rfl | omega | (simp [boundD]; done) | (simp [boundD]; omega) | (simp; done) | (simp; omega) | (simp [*]; done) | (simp [*]; omega)) (by first | rfl | omega | (simp [boundD]; done) | (simp [boundD]; omega) | (simp; done) | (simp; omega) | (simp [*]; done) | (simp [*]; omega)) rfl (by omega) ?_
          simp -implicitDefEqProofs [-leave, hv, h3]
          repeat' (first | (refine appK2_if (by omega) ?_) | (refine appK2_else (by omega) ?_))
          simp -implicitDefEqProofs [-leave, hv, h3]
          rw [leave_new (by omega) rfl rfl (by simpa using hfs)]
          rfl
      · exact outRows_of rfl rfl rfl (by simp; omega) (ins_rows2 hn htake) (.inr (by omega))
  · have hlt : at_ < n := by omega
    have hT1 : ∀ X : List (List D), List.take (n - at_) (List.take (n + 1 - at_) X) = List.take (n - at_) X := by
      intro X
      rw [List.take_take]
      congr 1
      omega
    have hfit : Fits 1 (List.take (n - at_) (List.drop at_ fl)) := by
      intro r hr
      rw [← List.drop_take, htake] at hr
      exact hf r (List.mem_of_mem_drop hr)
    have hrr : ∀ m, ∀ r ∈ List.take m (List.drop at_ fl), r.length = 1 := fun m r hr => hrow r (List.mem_of_mem_drop (List.mem_of_mem_take hr))
    have hT3 : ∀ X : List (List D), List.take (n - at_) (List.take (n - at_) X) = List.take (n - at_) X := by intro X; rw [List.take_take]; congr 1; omega
    have hT2 : List.take (n + 1 - at_) [v] = [v] := List.take_of_length_le (by simp; omega)
    have hap : ∀ (fl' : List (List D)) (bs : List Blk) (o l : Nat), apartD (⟨fl', 1, .mut⟩ :: bs) [.sl [v] 1, .ref 0 o l] = true := by
      intro _ _ _ _
      rw [hvv]
      rfl
    have hyl : (List.take (n - at_) (List.drop at_ fl)).length = n - at_ := by simp; omega
    have hne : ¬ (at_ : Int) = n := by omega
    by_cases h2 : n + 1 ≤ fl.length
    · have h2' : ¬ ((fl.length : Int) < (n : Int) + 1) := by omega
      refine ⟨.ref 0 0 (n + 1), [⟨ovr (ovr fl (at_ + 1) ((fl.drop at_).take (n - at_))) at_ [v], 1, .mut⟩], ?_, ?_⟩
      · refine denF_of [] [66] [] [54] (by simp) ovls54 is_slices_Insert_int_int ?_
        simp -implicitDefEqProofs [-leave, c_slices_Insert_int_int]
        refine outK_slice (at_) (n) (by simp; rfl) rfl (by first | rfl | omega | (simp [boundD]; done) | (simp [boundD]; omega) | (simp; done) | (simp; omega) | (simp [*]; done) | (simp [*]; omega)) (by first | rfl | omega | (simp [boundD]; done) | (simp [boundD]; omega) | (simp; done) | (simp; omega) | (simp [*]; done) | (simp [*]; omega)) (by omega) (by first | rfl | omega | (simp [boundD]; done) | (simp [boundD]; omega) | (simp; done) | (simp; omega) | (simp [*]; done) | (simp [*]; omega)) rfl (by first | rfl | omega | (simp [boundD]; done) | (simp [boundD]; omega) | (simp; done) | (simp; omega) | (simp [*]; done) | (simp [*]; omega)) ?_
        simp -implicitDefEqProofs [-leave, hv, h1, hne, w1, w2, h2']
        refine outK_slice (0) (n + 1) (by simp; rfl) rfl (by first | rfl | omega | (simp [boundD]; done) | (simp [boundD]; omega) | (simp; done) | (simp; omega) | (simp [*]; done) | (simp [*]; omega)) (by first | rfl | omega | (simp [boundD]; done) | (simp [boundD]; omega) | (simp; done) | (simp; omega) | (simp [*]; done) | (simp [*]; omega)) (by omega) (by first | rfl | omega | (simp [boundD]; done) | (simp [boundD]; omega) | (simp; done) | (simp; omega) | (simp [*]; done) | (simp [*]; omega)) rfl (by first | rfl | omega | (simp [boundD]; done) | (simp [boundD]; omega) | (simp; done) | (simp; omega) | (simp [*]; done) | (simp [*]; omega)) ?_
        simp -implicitDefEqProofs [-leave, hv, h1, hne, w1, w2, h2']
        refine outK_slice (at_ + 1) (n + 1) (by simp; rfl) rfl (by first | rfl | omega | (simp [boundD]; done) | (simp [boundD]; omega) | (simp; done) | (simp; omega) | (simp [*]; done) | (simp [*]; omega)) (by first | rfl | omega | (simp [boundD]; done) | (simp [boundD]; omega) | (simp; done) | (simp; omega) | (simp [*]; done) | (simp [*]; omega)) (by omega) (by first | rfl | omega | (simp [boundD]; done) | (simp [boundD]; omega) | (simp; done) | (simp; omega) | (simp [*]; done) | (simp [*]; omega)) rfl (by first | rfl | omega | (simp [boundD]; done) | (simp [boundD]; omega) | (simp; done) | (simp; omega) | (simp [*]; done) | (simp [*]; omega)) ?_
        simp -implicitDefEqProofs [-leave, hv, h1, hne, w1, w2, h2', hap]
        refine outK_slice (at_ + 1) (n + 1) (by simp; rfl) rfl (by first | rfl | omega | (simp [boundD]; done) | (simp [boundD]; omega) | (simp; done) | (simp; omega) | (simp [*]; done) | (simp [*]; omega)) (by first | rfl | omega | (simp [boundD]; done) | (simp [boundD]; omega) | (simp; done) | (simp; omega) | (simp [*]; done) | (simp [*]; omega)) (by omega) (by first | rfl | omega | (simp [boundD]; done) | (simp [boundD]; omega) | (simp; done) | (simp; omega) | (simp [*]; done) | (simp [*]; omega)) rfl (by first | rfl | omega | (simp [boundD]; done) | (simp [boundD]; omega) | (simp; done) | (simp; omega) | (simp [*]; done) | (simp [*]; omega)) ?_
        simp -implicitDefEqProofs [-leave, hv, h1, hne, w1, w2, h2']
        refine outK_slice (at_) (n + 1) (by simp; rfl) rfl (by first | rfl | omega | (simp [boundD]; done) | (simp [boundD]; omega) | (simp; done) | (simp; omega) | (simp [*]; done) | (simp [*]; omega)) (by first | rfl | omega | (simp [boundD]; done) | (simp [boundD]; omega) | (simp; done) | (simp; omega) | (simp [*]; done) | (simp [*]; omega)) (by omega) (by first | rfl | omega | (simp [boundD]; done) | (simp [boundD]; omega) | (simp; done) | (simp; omega) | (simp [*]; done) | (simp [*]; omega)) rfl (by first | rfl | omega | (simp [boundD]; done) | (simp [boundD]; omega) | (simp; done) | (simp; omega) | (simp [*]; done) | (simp [*]; omega)) ?_
        simp -implicitDefEqProofs [-leave, hv, h1, hne, w1, w2, h2', hT1, hfit]
        refine ⟨hrr _, ?_⟩
        try refine overK_if (by first | omega | (simp; done) | (simp; omega)) ?_
        have hB1 := ovr_length (rows := fl) (p := at_ + 1) (ys := List.take (n - at_) (List.drop at_ fl)) (by omega)
        have hBS := hfs.ovr ((hfs.drop at_).take (n - at_)) (at_ + 1)
        generalize hB : ovr fl (at_ + 1) (List.take (n - at_) (List.drop at_ fl)) = B at *
        simp -implicitDefEqProofs [-leave, hv, h1, hne, w1, w2, h2']
        refine outK_slice (at_) (n + 1) (by simp; rfl) rfl (by first | rfl | omega | (simp [boundD]; done) | (simp [boundD]; omega) | (simp; done) | (simp; omega) | (simp [*]; done) | (simp [*]; omega)) (by first | rfl | omega | (simp [boundD]; done) | (simp [boundD]; omega) | (simp; done) | (simp; omega) | (simp [*]; done) | (simp [*]; omega)) (by omega) (by first | rfl | omega | (simp [boundD]; done) | (simp [boundD]; omega) | (simp; done) | (simp; omega) | (simp [*]; done) | (simp [*]; omega)) rfl (by first | rfl | omega | (simp [boundD]; done) | (simp [boundD]; omega) | (simp; done) | (simp; omega) | (simp [*]; done) | (simp [*]; omega)) ?_
        simp -implicitDefEqProofs [-leave, hv, h1, hne, w1, w2, h2', hv1, hT2]
        try refine overK_if (by first | omega | (simp; done) | (simp; omega)) ?_
        simp -implicitDefEqProofs [-leave, hv, h1, hne, w1, w2, h2']
        rw [leave_lent (by omega) (by simpa using hBS.ovr hvS at_)]
        rfl
      · exact outRows_of rfl rfl rfl (by show 0 + (n + 1) ≤ (ovr (ovr fl (at_ + 1) _) at_ [v]).length; rw [ovr_length (by rw [ovr_length (by omega)]; simp; omega), ovr_length (by omega)]; omega) (ins_rowsC hn hlt h2 htake) (.inl rfl)
    · have h3 : fl.length = n := by omega
      have h3' : (n : Int) < (n : Int) + 1 := by omega
      refine ⟨.ref 1 0 (n + 1), [⟨fl, 1, .mut⟩, ⟨ovr (ovr (fl.take at_ ++ List.replicate (n + 1 - at_) (TT 3).zero) at_ [v]) (at_ + 1) ((fl.drop at_).take (n - at_)), 1, .mut⟩], ?_, ?_⟩
      · refine denF_of [] [66] [] [54] (by simp) ovls54 is_slices_Insert_int_int ?_
        simp -implicitDefEqProofs [-leave, c_slices_Insert_int_int]
        refine outK_slice (at_) (n) (by simp; rfl) rfl (by first | rfl | omega | (simp [boundD]; done) | (simp [boundD]; omega) | (simp; done) | (simp; omega) | (simp [*]; done) | (simp [*]; omega)) (by first | rfl | omega | (simp [boundD]; done) | (simp [boundD]; omega) | (simp; done) | (simp; omega) | (simp [*]; done) | (simp [*]; omega)) (by omega) (by first | rfl | omega | (simp [boundD]; done) | (simp [boundD]; omega) | (simp; done) | (simp; omega) | (simp [*]; done) | (simp [*]; omega)) rfl (by first | rfl | omega | (simp [boundD]; done) | (simp [boundD]; omega) | (simp; done) | (simp; omega) | (simp [*]; done) | (simp [*]; omega)) ?_
        simp -implicitDefEqProofs [-leave, hv, h1, hne, w1, w2, h3, h3']
        refine outK_slice (0) (at_) (by simp; rfl) rfl (by first | rfl | omega | (simp [boundD]; done) | (simp [boundD]; omega) | (simp; done) | (simp; omega) | (simp [*]; done) | (simp [*]; omega)) (by first | rfl | omega | (simp [boundD]; done) | (simp [boundD]; omega) | (simp; done) | (simp; omega) | (simp [*]; done) | (simp [*]; omega)) (by omega) (by first | rfl | omega | (simp [boundD]; done) | (simp [boundD]; omega) | (simp; done) | (simp; omega) | (simp [*]; done) | (simp [*]; omega)) rfl (by first | rfl | omega | (simp [boundD]; done) | (simp [boundD]; omega) | (simp; done) | (simp; omega) | (simp [*]; done) | (simp [*]; omega)) ?_
        simp -implicitDefEqProofs [-leave, hv, h1, hne, w1, w2, w3, h3, h3']
        refine appK_if (by omega) ?_
        have e1 : at_ + (n + 1 - at_) = n + 1 := by omega
        simp -implicitDefEqProofs [-leave, hv, h1, hne, w1, w2, w3, h3, h3', e1]
        repeat' (first | (refine appK2_if (by omega) ?_) | (refine appK2_else (by omega) ?_))
        simp -implicitDefEqProofs [-leave, hv, h1, hne, w1, w2, w3, h3, h3', e1]
        have hA1 : (List.take at_ fl ++ List.replicate (n + 1 - at_) [D.int IntKind.i64 0]).length = n + 1 := by simp; omega
        generalize hA : List.take at_ fl ++ List.replicate (n + 1 - at_) [D.int IntKind.i64 0] = A at *
        refine outK_slice (at_) (n + 1) (by simp; rfl) rfl (by first | rfl | omega | (simp [boundD]; done) | (simp [boundD]; omega) | (simp; done) | (simp; omega) | (simp [*]; done) | (simp [*]; omega)) (by first | rfl | omega | (simp [boundD]; done) | (simp [boundD]; omega) | (simp; done) | (simp; omega) | (simp [*]; done) | (simp [*]; omega)) (by omega) (by first | rfl | omega | (simp [boundD]; done) | (simp [boundD]; omega) | (simp; done) | (simp; omega) | (simp [*]; done) | (simp [*]; omega)) rfl (by first | rfl | omega | (simp [boundD]; done) | (simp [boundD]; omega) | (simp; done) | (simp; omega) | (simp [*]; done) | (simp [*]; omega)) ?_
        simp -implicitDefEqProofs [-leave, hv, h1, hne, w1, w2, h3, hv1, hT2]
        try refine overK_if (by first | omega | (simp; done) | (simp; omega)) ?_
        have hB1 := ovr_length (rows := A) (p := at_) (ys := [v]) (by simp; omega)
        generalize hB : ovr A at_ [v] = B at *
        simp -implicitDefEqProofs [-leave, hv, h1, hne, w1, w2, h3]
        refine outK_slice (at_ + 1) (n + 1) (by simp; rfl) rfl (by first | rfl | omega | (simp [boundD]; done) | (simp [boundD]; omega) | (simp; done) | (simp; omega) | (simp [*]; done) | (simp [*]; omega)) (by first | rfl | omega | (simp [boundD]; done) | (simp [boundD]; omega) | (simp; done) | (simp; omega) | (simp [*]; done) | (simp [*]; omega)) (by omega) (by first | rfl | omega | (simp [boundD]; done) | (simp [boundD]; omega) | (simp; done) | (simp; omega) | (simp [*]; done) | (simp [*]; omega)) rfl (by first | rfl | omega | (simp [boundD]; done) | (simp [boundD]; omega) | (simp; done) | (simp; omega) | (simp [*]; done) | (simp [*]; omega)) ?_
        simp -implicitDefEqProofs [-leave, hv, h1, hne, w1, w2, h3]
        refine outK_slice (at_) (n) (by simp; rfl) rfl (by first | rfl | omega | (simp [boundD]; done) | (simp [boundD]; omega) | (simp; done) | (simp; omega) | (simp [*]; done) | (simp [*]; omega)) (by first | rfl | omega | (simp [boundD]; done) | (simp [boundD]; omega) | (simp; done) | (simp; omega) | (simp [*]; done) | (simp [*]; omega)) (by omega) (by first | rfl | omega | (simp [boundD]; done) | (simp [boundD]; omega) | (simp; done) | (simp; omega) | (simp [*]; done) | (simp [*]; omega)) rfl (by first | rfl | omega | (simp [boundD]; done) | (simp [boundD]; omega) | (simp; done) | (simp; omega) | (simp [*]; done) | (simp [*]; omega)) ?_
        simp -implicitDefEqProofs [-leave, hv, h1, hne, w1, w2, h3, hfit, hT3]
        refine ⟨hrr _, ?_⟩
        try refine overK_if (by first | omega | (simp; done) | (simp; omega)) ?_
        try simp -implicitDefEqProofs [-leave, hv, h1, hne, w1, w2, h3]
        rw [leave_new (by omega) rfl rfl (by simpa using hfs)]
        simp [hA, hB]
      · exact outRows_of rfl rfl rfl (by
          have hA1 : (List.take at_ fl ++ List.replicate (n + 1 - at_) (TT 3).zero).length = n + 1 := by simp; omega
          show 0 + (n + 1) ≤ (ovr (ovr _ at_ [v]) (at_ + 1) _).length
          rw [ovr_length (by rw [ovr_length (by rw [hA1]; simp; omega), hA1]; omega), ovr_length (by rw [hA1]; simp; omega), hA1]; omega) (ins_rowsB hn hlt h3 htake) (.inr (by omega))
theorem clone_Peer (rows : List (List D)) (hf : Fits 2 rows) (hl : rows.length * 16 ≤ 140737488355328) : Den PP 47 [.sl rows rows.length] [] (.ref 0 0 rows.length) [⟨rows, 2, .mut⟩] := by
  cases hr : rows with
  | nil =>
    refine den_zs (pre := []) (post := []) ?_ ?_
    · refine den_of [] [] is_slices_Clone_api_Peer_api_Peer ?_
      simp -implicitDefEqProofs [c_slices_Clone_api_Peer_api_Peer]
    · refine den_of [] [] is_slices_Clone_api_Peer_api_Peer ?_
      simp -implicitDefEqProofs [c_slices_Clone_api_Peer_api_Peer, Fits]
  | cons r rs =>
    rw [hr] at hf hl
    have h63 : (r :: rs).length ≤ 9223372036854775807 := by omega
    have hlen : 0 < (r :: rs).length := by simp
    generalize hn : (r :: rs).length = n at *
    generalize r :: rs = rows at *
    refine den_of [] [] is_slices_Clone_api_Peer_api_Peer ?_
    simp -implicitDefEqProofs [c_slices_Clone_api_Peer_api_Peer, hlen, List.take_of_length_le (Nat.le_of_eq hn), hf, hn, hl, h63]
theorem insert_Peer (rows : List (List D)) (v : List D) (at_ : Nat) (hf : Fits 2 rows) (hst : StillR rows) (hv : Fits 2 [v]) (hvs : ∀ d ∈ v, d.still = true) (hat : at_ ≤ rows.length) (hl : rows.length ≤ 1000000) :
    GivesC (DenF PP [0]) 49 rows 2 [.int .i64 at_, .sl [v] 1] (insL rows at_ v) := by
  refine gives_of (fun r hr => (hf r hr).1) hst fun fl hfl hrow hfs htake hget => ?_
  have hv1 : v.length = 2 := (hv v (by simp)).1
  obtain ⟨c0, cs0, hvv⟩ : ∃ c0 cs0, v = c0 :: cs0 := by
    cases v with
    | nil => simp at hv1
    | cons a b => exact ⟨a, b, rfl⟩
  have hvS : StillR [v] := by intro r hr; rw [List.mem_singleton.1 hr]; exact hvs
  generalize hn : rows.length = n at *
  have w1 : IntKind.wrap .i64 ((n : Int) + 1) = n + 1 := wrap_in (by omega) (by omega)
  have w2 : IntKind.wrap .i64 ((at_ : Int) + 1) = at_ + 1 := wrap_in (by omega) (by omega)
  have w3 : IntKind.wrap .i64 ((n : Int) + 1 - at_) = ((n + 1 - at_ : Nat) : Int) := by rw [wrap_in (by omega) (by omega)]; omega
  by_cases h1 : at_ = n
  · subst h1
    by_cases h2 : at_ + 1 ≤ fl.length
    · refine ⟨.ref 0 0 (at_ + 1), [⟨ovr fl at_ [v], 2, .mut⟩], ?_, ?_⟩
      · refine denF_of [] [66] [] [59] (by simp) ovls59 is_slices_Insert_api_Peer_api_Peer ?_
        simp -implicitDefEqProofs [-leave, c_slices_Insert_api_Peer_api_Peer]
        refine outK_slice (at_) (at_) (by simp; rfl) rfl (by first | rfl | omega | (simp [boundD]; done) | (simp [boundD]; omega) | (simp; done) | (simp; omega) | (simp [*]; done) | (simp [*]; omega)) (by first | rfl | omega | (simp [boundD]; done) | (simp [boundD]; omega) | (simp; done) | (simp; omega) | (simp [*]; done) | (simp [*]; omega)) (by omega) (by first | rfl | omega | (simp [boundD]; done) | (simp [boundD]; omega) | (simp; done) | (simp; omega) | (simp [*]; done) | (simp [*]; omega)) rfl (by first | rfl | omega | (simp [boundD]; done) | (simp [boundD]; omega) | (simp; done) | (simp; omega) | (simp [*]; done) | (simp [*]; omega)) ?_
        simp -implicitDefEqProofs [-leave, hv]
        repeat' (first | (refine appK2_if (by omega) ?_) | (refine appK2_else (by omega) ?_))
        simp -implicitDefEqProofs [-leave, hv, h2]
        rw [leave_lent (by omega) (by simpa using ((hfs.take _).append hvS).append (hfs.drop _))]
        simp [ovr]
      · exact outRows_of rfl rfl rfl (by rw [ovr_length (by simpa using h2)]; omega) (ins_rows1 hn h2 htake) (.inl rfl)
    · have h3 : fl.length = at_ := by omega
      refine ⟨.ref 1 0 (at_ + 1), [⟨fl, 2, .mut⟩, ⟨fl.take at_ ++ [v], 2, .mut⟩], ?_, ?_⟩
      · refine denF_of [] [66] [] [59] (by simp) ovls59 is_slices_Insert_api_Peer_api_Peer ?_
        simp -implicitDefEqProofs [-leave, c_slices_Insert_api_Peer_api_Peer]
        by_cases h0 : at_ = 0
        · refine outK_slice (at_) (at_) (by simp; rfl) rfl (by first | rfl | omega | (simp [boundD]; done) | (simp [boundD]; omega) | (simp; done) | (simp; omega) | (simp [*]; done) | (simp [*]; omega)) (by first | rfl | omega | (simp [boundD]; done) | (simp [boundD]; omega) | (simp; done) | (simp; omega) | (simp [*]; done) | (simp [*]; omega)) (by omega) (by first | rfl | omega | (simp [boundD]; done) | (simp [boundD]; omega) | (simp; done) | (simp; omega) | (simp [*]; done) | (simp [*]; omega)) rfl (by first | rfl | omega | (simp [boundD]; done) | (simp [boundD]; omega) | (simp; done) | (simp; omega) | (simp [*]; done) | (simp [*]; omega)) ?_
          simp -implicitDefEqProofs [-leave, hv, h3]
          repeat' (first | (refine appK2_if (by omega) ?_) | (refine appK2_else (by omega) ?_))
          simp -implicitDefEqProofs [-leave, hv, h3]
          rw [leave_new (by omega) rfl rfl (by simpa using hfs)]
          rfl
        · refine outK_sliceE (at_) (by simp; rfl) rfl (by first | rfl | omega | (simp [boundD]; done) | (simp [boundD]; omega) | (simp; done) | (simp; omega) | (simp [*]; done) | (simp [*]; omega)) (by first | rfl | omega | (simp [boundD]; done) | (simp [boundD]; omega) | (simp; done) | (simp; omega) | (simp [*]; done) | (simp [*]; omega)) (by first | rfl | omega | (simp [boundD]; done) | (simp [boundD]; omega) | (simp; done) | (simp; omega) | (simp [*]; done) | (simp [*]; omega)) rfl (by omega) ?_
          simp -implicitDefEqProofs [-leave, hv, h3]
          repeat' (first | (refine appK2_if (by omega) ?_) | (refine appK2_else (by omega) ?_))
          simp -implicitDefEqProofs [-leave, hv, h3]
          rw [leave_new (by omega) rfl rfl (by simpa using hfs)]
          rfl
      · exact outRows_of rfl rfl rfl (by simp; omega) (ins_rows2 hn htake) (.inr (by omega))
  · have hlt : at_ < n := by omega
    have hT1 : ∀ X : List (List D), List.take (n - at_) (List.take (n + 1 - at_) X) = List.take (n - at_) X := by
      intro X
      rw [List.take_take]
      congr 1
      omega
    have hfit : Fits 2 (List.take (n - at_) (List.drop at_ fl)) := by
      intro r hr
      rw [← List.drop_take, htake] at hr
      exact hf r (List.mem_of_mem_drop hr)
    have hrr : ∀ m, ∀ r ∈ List.take m (List.drop at_ fl), r.length = 2 := fun m r hr => hrow r (List.mem_of_mem_drop (List.mem_of_mem_take hr))
    have hT3 : ∀ X : List (List D), List.take (n - at_) (List.take (n - at_) X) = List.take (n - at_) X := by intro X; rw [List.take_take]; congr 1; omega
    have hT2 : List.take (n + 1 - at_) [v] = [v] := List.take_of_length_le (by simp; omega)
    have hap : ∀ (fl' : List (List D)) (bs : List Blk) (o l : Nat), apartD (⟨fl', 2, .mut⟩ :: bs) [.sl [v] 1, .ref 0 o l] = true := by
      intro _ _ _ _
      rw [hvv]
      rfl
    have hyl : (List.take (n - at_) (List.drop at_ fl)).length = n - at_ := by simp; omega
    have hne : ¬ (at_ : Int) = n := by omega
    by_cases h2 : n + 1 ≤ fl.length
    · have h2' : ¬ ((fl.length : Int) < (n : Int) + 1) := by omega
      refine ⟨.ref 0 0 (n + 1), [⟨ovr (ovr fl (at_ + 1) ((fl.drop at_).take (n - at_))) at_ [v], 2, .mut⟩], ?_, ?_⟩
      · refine denF_of [] [66] [] [59] (by simp) ovls59 is_slices_Insert_api_Peer_api_Peer ?_
        simp -implicitDefEqProofs [-leave, c_slices_Insert_api_Peer_api_Peer]
        refine outK_slice (at_) (n) (by simp; rfl) rfl (by first | rfl | omega | (simp [boundD]; done) | (simp [boundD]; omega) | (simp; done) | (simp; omega) | (simp [*]; done) | (simp [*]; omega)) (by first | rfl | omega | (simp [boundD]; done) | (simp [boundD]; omega) | (simp; done) | (simp; omega) | (simp [*]; done) | (simp [*]; omega)) (by omega) (by first | rfl | omega | (simp [boundD]; done) | (simp [boundD]; omega) | (simp; done) | (simp; omega) | (simp [*]; done) | (simp [*]; omega)) rfl (by first | rfl | omega | (simp [boundD]; done) | (simp [boundD]; omega) | (simp; done) | (simp; omega) | (simp [*]; done) | (simp [*]; omega)) ?_
        simp -implicitDefEqProofs [-leave, hv, h1, hne, w1, w2, h2']
        refine outK_slice (0) (n + 1) (by simp; rfl) rfl (by first | rfl | omega | (simp [boundD]; done) | (simp [boundD]; omega) | (simp; done) | (simp; omega) | (simp [*]; done) | (simp [*]; omega)) (by first | rfl | omega | (simp [boundD]; done) | (simp [boundD]; omega) | (simp; done) | (simp; omega) | (simp [*]; done) | (simp [*]; omega)) (by omega) (by first | rfl | omega | (simp [boundD]; done) | (simp [boundD]; omega) | (simp; done) | (simp; omega) | (simp [*]; done) | (simp [*]; omega)) rfl (by first | rfl | omega | (simp [boundD]; done) | (simp [boundD]; omega) | (simp; done) | (simp; omega) | (simp [*]; done) | (simp [*]; omega)) ?_
        simp -implicitDefEqProofs [-leave, hv, h1, hne, w1, w2, h2']
        refine outK_slice (at_ + 1) (n + 1) (by simp; rfl) rfl (by first | rfl | omega | (simp [boundD]; done) | (simp [boundD]; omega) | (simp; done) | (simp; omega) | (simp [*]; done) | (simp [*]; omega)) (by first | rfl | omega | (simp [boundD]; done) | (simp [boundD]; omega) | (simp; done) | (simp; omega) | (simp [*]; done) | (simp [*]; omega)) (by omega) (by first | rfl | omega | (simp [boundD]; done) | (simp [boundD]; omega) | (simp; done) | (simp; omega) | (simp [*]; done) | (simp [*]; omega)) rfl (by first | rfl | omega | (simp [boundD]; done) | (simp [boundD]; omega) | (simp; done) | (simp; omega) | (simp [*]; done) | (simp [*]; omega)) ?_
        simp -implicitDefEqProofs [-leave, hv, h1, hne, w1, w2, h2', hap]
        refine outK_slice (at_ + 1) (n + 1) (by simp; rfl) rfl (by first | rfl | omega | (simp [boundD]; done) | (simp [boundD]; omega) | (simp; done) | (simp; omega) | (simp [*]; done) | (simp [*]; omega)) (by first | rfl | omega | (simp [boundD]; done) | (simp [boundD]; omega) | (simp; done) | (simp; omega) | (simp [*]; done) | (simp [*]; omega)) (by omega) (by first | rfl | omega | (simp [boundD]; done) | (simp [boundD]; omega) | (simp; done) | (simp; omega) | (simp [*]; done) | (simp [*]; omega)) rfl (by first | rfl | omega | (simp [boundD]; done) | (simp [boundD]; omega) | (simp; done) | (simp; omega) | (simp [*]; done) | (simp [*]; omega)) ?_
        simp -implicitDefEqProofs [-leave, hv, h1, hne, w1, w2, h2']
        refine outK_slice (at_) (n + 1) (by simp; rfl) rfl (by first | rfl | omega | (simp [boundD]; done) | (simp [boundD]; omega) | (simp; done) | (simp; omega) | (simp [*]; done) | (simp [*]; omega)) (by first | rfl | omega | (simp [boundD]; done) | (simp [boundD]; omega) | (simp; done) | (simp; omega) | (simp [*]; done) | (simp [*]; omega)) (by omega) (by first | rfl | omega | (simp [boundD]; done) | (simp [boundD]; omega) | (simp; done) | (simp; omega) | (simp [*]; done) | (simp [*]; omega)) rfl (by first | rfl | omega | (simp [boundD]; done) | (simp [boundD]; omega) | (simp; done) | (simp; omega) | (simp [*]; done) | (simp [*]; omega)) ?_
        simp -implicitDefEqProofs [-leave, hv, h1, hne, w1, w2, h2', hT1, hfit]
        refine ⟨hrr _, ?_⟩
        try refine overK_if (by first | omega | (simp; done) | (simp; omega)) ?_
        have hB1 := ovr_length (rows := fl) (p := at_ + 1) (ys := List.take (n - at_) (List.drop at_ fl)) (by omega)
        have hBS := hfs.ovr ((hfs.drop at_).take (n - at_)) (at_ + 1)
        generalize hB : ovr fl (at_ + 1) (List.take (n - at_) (List.drop at_ fl)) = B at *
        simp -implicitDefEqProofs [-leave, hv, h1, hne, w1, w2, h2']
        refine outK_slice (at_) (n + 1) (by simp; rfl) rfl (by first | rfl | omega | (simp [boundD]; done) | (simp [boundD]; omega) | (simp; done) | (simp; omega) | (simp [*]; done) | (simp [*]; omega)) (by first | rfl | omega | (simp [boundD]; done) | (simp [boundD]; omega) | (simp; done) | (simp; omega) | (simp [*]; done) | (simp [*]; omega)) (by omega) (by first | rfl | omega | (simp [boundD]; done) | (simp [boundD]; omega) | (simp; done) | (simp; omega) | (simp [*]; done) | (simp [*]; omega)) rfl (by first | rfl | omega | (simp [boundD]; done) | (simp [boundD]; omega) | (simp; done) | (simp; omega) | (simp [*]; done) | (simp [*]; omega)) ?_
        simp -implicitDefEqProofs [-leave, hv, h1, hne, w1, w2, h2', hv1, hT2]
        try refine overK_if (by first | omega | (simp; done) | (simp; omega)) ?_
        simp -implicitDefEqProofs [-leave, hv, h1, hne, w1, w2, h2']
        rw [leave_lent (by omega) (by simpa using hBS.ovr hvS at_)]
        rfl
      · exact outRows_of rfl rfl rfl (by show 0 + (n + 1) ≤ (ovr (ovr fl (at_ + 1) _) at_ [v]).length; rw [ovr_length (by rw [ovr_length (by omega)]; simp; omega), ovr_length (by omega)]; omega) (ins_rowsC hn hlt h2 htake) (.inl rfl)
    · have h3 : fl.length = n := by omega
      have h3' : (n : Int) < (n : Int) + 1 := by omega
      refine ⟨.ref 1 0 (n + 1), [⟨fl, 2, .mut⟩, ⟨ovr (ovr (fl.take at_ ++ List.replicate (n + 1 - at_) (TT 54).zero) at_ [v]) (at_ + 1) ((fl.drop at_).take (n - at_)), 2, .mut⟩], ?_, ?_⟩
      · refine denF_of [] [66] [] [59] (by simp) ovls59 is_slices_Insert_api_Peer_api_Peer ?_
        simp -implicitDefEqProofs [-leave, c_slices_Insert_api_Peer_api_Peer]
        refine outK_slice (at_) (n) (by simp; rfl) rfl (by first | rfl | omega | (simp [boundD]; done) | (simp [boundD]; omega) | (simp; done) | (simp; omega) | (simp [*]; done) | (simp [*]; omega)) (by first | rfl | omega | (simp [boundD]; done) | (simp [boundD]; omega) | (simp; done) | (simp; omega) | (simp [*]; done) | (simp [*]; omega)) (by omega) (by first | rfl | omega | (simp [boundD]; done) | (simp [boundD]; omega) | (simp; done) | (simp; omega) | (simp [*]; done) | (simp [*]; omega)) rfl (by first | rfl | omega | (simp [boundD]; done) | (simp [boundD]; omega) | (simp; done) | (simp; omega) | (simp [*]; done) | (simp [*]; omega)) ?_
        simp -implicitDefEqProofs [-leave, hv, h1, hne, w1, w2, h3, h3']
        refine outK_slice (0) (at_) (by simp; rfl) rfl (by first | rfl | omega | (simp [boundD]; done) | (simp [boundD]; omega) | (simp; done) | (simp; omega) | (simp [*]; done) | (simp [*]; omega)) (by first | rfl | omega | (simp [boundD]; done) | (simp [boundD]; omega) | (simp; done) | (simp; omega) | (simp [*]; done) | (simp [*]; omega)) (by omega) (by first | rfl | omega | (simp [boundD]; done) | (simp [boundD]; omega) | (simp; done) | (simp; omega) | (simp [*]; done) | (simp [*]; omega)) rfl (by first | rfl | omega | (simp [boundD]; done) | (simp [boundD]; omega) | (simp; done) | (simp; omega) | (simp [*]; done) | (simp [*]; omega)) ?_
        simp -implicitDefEqProofs [-leave, hv, h1, hne, w1, w2, w3, h3, h3']
        refine appK_if (by omega) ?_
        have e1 : at_ + (n + 1 - at_) = n + 1 := by omega
        simp -implicitDefEqProofs [-leave, hv, h1, hne, w1, w2, w3, h3, h3', e1]
        repeat' (first | (refine appK2_if (by omega) ?_) | (refine appK2_else (by omega) ?_))
        simp -implicitDefEqProofs [-leave, hv, h1, hne, w1, w2, w3, h3, h3', e1]
        have hA1 : (List.take at_ fl ++ List.replicate (n + 1 - at_) [D.int IntKind.i64 0, D.int IntKind.i64 0]).length = n + 1 := by simp; omega
        generalize hA : List.take at_ fl ++ List.replicate (n + 1 - at_) [D.int IntKind.i64 0, D.int IntKind.i64 0] = A at *
        refine outK_slice (at_) (n + 1) (by simp; rfl) rfl (by first | rfl | omega | (simp [boundD]; done) | (simp [boundD]; omega) | (simp; done) | (simp; omega) | (simp [*]; done) | (simp [*]; omega)) (by first | rfl | omega | (simp [boundD]; done) | (simp [boundD]; omega) | (simp; done) | (simp; omega) | (simp [*]; done) | (simp [*]; omega)) (by omega) (by first | rfl | omega | (simp [boundD]; done) | (simp [boundD]; omega) | (simp; done) | (simp; omega) | (simp [*]; done) | (simp [*]; omega)) rfl (by first | rfl | omega | (simp [boundD]; done) | (simp [boundD]; omega) | (simp; done) | (simp; omega) | (simp [*]; done) | (simp [*]; omega)) ?_
        simp -implicitDefEqProofs [-leave, hv, h1, hne, w1, w2, h3, hv1, hT2]
        try refine overK_if (by first | omega | (simp; done) | (simp; omega)) ?_
        have hB1 := ovr_length (rows := A) (p := at_) (ys := [v]) (by simp; omega)
        generalize hB : ovr A at_ [v] = B at *
        simp -implicitDefEqProofs [-leave, hv, h1, hne, w1, w2, h3]
        refine outK_slice (at_ + 1) (n + 1) (by simp; rfl) rfl (by first | rfl | omega | (simp [boundD]; done) | (simp [boundD]; omega) | (simp; done) | (simp; omega) | (simp [*]; done) | (simp [*]; omega)) (by first | rfl | omega | (simp [boundD]; done) | (simp [boundD]; omega) | (simp; done) | (simp; omega) | (simp [*]; done) | (simp [*]; omega)) (by omega) (by first | rfl | omega | (simp [boundD]; done) | (simp [boundD]; omega) | (simp; done) | (simp; omega) | (simp [*]; done) | (simp [*]; omega)) rfl (by first | rfl | omega | (simp [boundD]; done) | (simp [boundD]; omega) | (simp; done) | (simp; omega) | (simp [*]; done) | (simp [*]; omega)) ?_
        simp -implicitDefEqProofs [-leave, hv, h1, hne, w1, w2, h3]
        refine outK_slice (at_) (n) (by simp; rfl) rfl (by first | rfl | omega | (simp [boundD]; done) | (simp [boundD]; omega) | (simp; done) | (simp; omega) | (simp [*]; done) | (simp [*]; omega)) (by first | rfl | omega | (simp [boundD]; done) | (simp [boundD]; omega) | (simp; done) | (simp; omega) | (simp [*]; done) | (simp [*]; omega)) (by omega) (by first | rfl | omega | (simp [boundD]; done) | (simp [boundD]; omega) | (simp; done) | (simp; omega) | (simp [*]; done) | (simp [*]; omega)) rfl (by first | rfl | omega | (simp [boundD]; done) | (simp [boundD]; omega) | (simp; done) | (simp; omega) | (simp [*]; done) | (simp [*]; omega)) ?_
        simp -implicitDefEqProofs [-leave, hv, h1, hne, w1, w2, h3, hfit, hT3]
        refine ⟨hrr _, ?_⟩
        try refine overK_if (by first | omega | (simp; done) | (simp; omega)) ?_
        try simp -implicitDefEqProofs [-leave, hv, h1, hne, w1, w2, h3]
        rw [leave_new (by omega) rfl rfl (by simpa using hfs)]
        simp [hA, hB]
      · exact outRows_of rfl rfl rfl (by
          have hA1 : (List.take at_ fl ++ List.replicate (n + 1 - at_) (TT 54).zero).length = n + 1 := by simp; omega
          show 0 + (n + 1) ≤ (ovr (ovr _ at_ [v]) (at_ + 1) _).length
          rw [ovr_length (by rw [ovr_length (by rw [hA1]; simp; omega), hA1]; omega), ovr_length (by rw [hA1]; simp; omega), hA1]; omega) (ins_rowsB hn hlt h3 htake) (.inr (by omega))
end Go.AM
/- AM: contracts: a view's ends, a key's owner. -/
namespace Go.AM
set_option linter.unusedSimpArgs false
set_option linter.unusedVariables false
set_option maxRecDepth 8000
set_option maxHeartbeats 0
end Go.AM
/- AM: contracts: a key's owner. -/
namespace Go.AM
set_option linter.unusedSimpArgs false
set_option linter.unusedVariables false
set_option maxRecDepth 8000
set_option maxHeartbeats 0
end Go.AM
/- AM: contracts: the document's answers about views. -/
namespace Go.AM
set_option linter.unusedSimpArgs false
set_option linter.unusedVariables false
set_option maxRecDepth 8000
set_option maxHeartbeats 0
theorem law_SameInts (xs ys : List Int) (hl : xs.length ≤ cap) : Den PP 18 [intsD xs, intsD ys] [] (.bool (decide (xs = ys))) [] := by
  refine den_of [] [] is_gimmallaw0_SameInts ?_
  simp -implicitDefEqProofs [c_gimmallaw0_SameInts, intsD]
  refine condC_split (fun h => ?_) (fun h => ?_)
  · simp -implicitDefEqProofs
    intro he
    subst he
    simp at h
  have hlen : xs.length = ys.length := by simp at h; omega
  simp -implicitDefEqProofs
  refine anyLoop_of (xs.length + 1) ?_
  have key : ∀ (Q : Ex → St → Prop) (r : Bool) (hQ1 : ∀ fr, r = true → Q .normal ⟨fr, []⟩) (hQ2 : ∀ fr bs, r = false → fr 4 = .bool false → Q .ret ⟨fr, bs⟩) (rest : List Int) (i : Nat) (fr : Nat → D), xs.drop i = rest → i ≤ xs.length →
      fr 0 = .sl (xs.map irow) xs.length → fr 1 = .sl (ys.map irow) ys.length → fr 5 = .int .i64 i → decide (rest = ys.drop i) = r → sLoop (cf 0 [] []) 0 c_gimmallaw0_SameInts_L0 (blockQ 0 Q) (rest.length + 1) ⟨fr, []⟩ := by
    intro Q r hQ1 hQ2 rest
    induction rest with
    | nil =>
      intro i fr e hi h0 h1 h5 hm
      refine sLoop_body c_gimmallaw0_SameInts_L0.eq_1 ?_
      have hi' := drop_nil e hi
      simp -implicitDefEqProofs [h0, h1, h5, hi']
      exact hQ1 _ (by rw [← hm, hi', hlen]; simp)
    | cons x rest ih =>
      intro i fr e hi h0 h1 h5 hm
      refine sLoop_body c_gimmallaw0_SameInts_L0.eq_1 ?_
      obtain ⟨hlt, hget, hd, hl2⟩ := drop_cons e
      have hlt' : (i : Int) < xs.length := by omega
      have hlt2 : (i : Int) < ys.length := by omega
      have hw := wrap_next (n := i) (by unfold cap at hl; omega)
      obtain ⟨y, hy⟩ : ∃ y, ys[i]? = some y := ⟨ys[i], by simp⟩
      have hyd : ys.drop i = y :: ys.drop (i + 1) := by
        rw [List.drop_eq_getElem_cons (by omega)]
        have : ys[i] = y := by
          have := (List.getElem?_eq_some_iff.1 hy).2
          exact this
        rw [this]
      simp -implicitDefEqProofs [h0, h1, h5, hlt', hlt2, hget, hy, irow]
      refine condC_split (fun h2 => ?_) (fun h2 => ?_)
      all_goals simp -implicitDefEqProofs [h2, h0, h1, h5, hw]
      · refine hQ2 _ _ ?_ (by rfl)
        rw [← hm, hyd]
        simp at h2
        simp [h2]
      · refine ih (i + 1) _ hd (by omega) (by simp [h0, h1, h5]) (by simp [h0, h1, h5]) (by simp) ?_
        rw [← hm, hyd]
        simp at h2
        simp [h2]
  refine key _ (decide (xs = ys)) (fun fr h => ?_) (fun fr bs h h2 => ?_) xs 0 _ rfl (Nat.zero_le _) rfl rfl rfl rfl
  · simp -implicitDefEqProofs [h]
  · simp -implicitDefEqProofs [h, h2]

theorem ref_PassiveMay (xs : List Int) (hl : xs.length ≤ cap) : Den PP 21 [intsD xs] [] (.bool (refPassiveMay xs)) [] := by
  have hc := ref_placesMay xs hl
  simp [intsD] at hc
  refine den_of [] [] is_gimmalref1_PassiveMay ?_
  simp -implicitDefEqProofs [c_gimmalref1_PassiveMay, intsD]
  refine anyLoop_of (xs.length + 1) ?_
  have key : ∀ (Q : Ex → St → Prop) (r : Bool) (hQ1 : ∀ fr, r = true → fr 0 = .sl (xs.map irow) xs.length → Q .normal ⟨fr, []⟩) (hQ2 : ∀ fr bs, r = false → fr 2 = .bool false → Q .ret ⟨fr, bs⟩) (n j : Nat) (fr : Nat → D), xs.length - j ≤ n → 1 ≤ j →
      fr 0 = .sl (xs.map irow) xs.length → fr 3 = .int .i64 j → incrAt xs j = r → sLoop (cf 0 [] []) 0 c_gimmalref1_PassiveMay_L0 (blockQ 0 Q) (n + 1) ⟨fr, []⟩ := by
    intro Q r hQ1 hQ2 n
    induction n with
    | zero =>
      intro j fr hn hj h0 h3 hm
      refine sLoop_body c_gimmalref1_PassiveMay_L0.eq_1 ?_
      have hx : ¬ (j < xs.length) := by omega
      simp -implicitDefEqProofs [h0, h3, hx]
      exact hQ1 _ (by rw [← hm]; exact incrAt_end (List.drop_of_length_le (by omega))) (by simp [h0, h3])
    | succ n ih =>
      intro j fr hn hj h0 h3 hm
      refine sLoop_body c_gimmalref1_PassiveMay_L0.eq_1 ?_
      by_cases hx : j < xs.length
      · have hlt' : (j : Int) < xs.length := by omega
        have hw := wrap_next (n := j) (by unfold cap at hl; omega)
        have hwp : IntKind.wrap .i64 ((j : Int) - 1) = ((j - 1 : Nat) : Int) := by unfold cap at hl; rw [wrap_in (by omega) (by omega)]; omega
        have hlt2 : ((j - 1 : Nat) : Int) < xs.length := by omega
        obtain ⟨x, hxv⟩ : ∃ x, xs[j]? = some x := ⟨xs[j], by simp⟩
        obtain ⟨y, hyv⟩ : ∃ y, xs[j - 1]? = some y := ⟨xs[j - 1], by simp⟩
        rw [incrAt_next hj hyv hxv] at hm
        simp -implicitDefEqProofs [h0, h3, hlt', hwp, hlt2, hxv, hyv, irow]
        refine condC_dec (fun h2 => ?_) (fun h2 => ?_)
        all_goals simp -implicitDefEqProofs [h2, h0, h3, hw]
        · exact hQ2 _ _ (by rw [← hm]; simp; intros; omega) (by rfl)
        · exact ih (j + 1) _ (by omega) (by omega) (by simp [h0, h3]) (by simp) (by rw [← hm]; simp [show y < x by omega])
      · simp -implicitDefEqProofs [h0, h3, hx]
        exact hQ1 _ (by rw [← hm]; exact incrAt_end (List.drop_of_length_le (by omega))) (by simp [h0, h3])
  refine key _ (incr xs) (fun fr h h0 => ?_) (fun fr bs h h2 => ?_) xs.length 1 _ (by omega) (by omega) rfl rfl (incrAt_start xs)
  · simp -implicitDefEqProofs [h, h0]
    refine callThen_of hc ?_
    simp -implicitDefEqProofs
    refine gOps_split (fun h2 => ?_) (fun h2 => ?_)
    all_goals simp -implicitDefEqProofs [h2, h, h0, refPassiveMay]
    omega
  · simp -implicitDefEqProofs [h, h2, refPassiveMay]
end Go.AM
/- AM: contracts: the document's peers. -/
namespace Go.AM
set_option linter.unusedSimpArgs false
set_option linter.unusedVariables false
set_option maxRecDepth 8000
set_option maxHeartbeats 0
theorem ref_PeersMay (base : Int) (ps : List Peer) (hl : ps.length ≤ cap) : Den PP 32 [.int .i64 base, peersD ps] [] (.bool (refPeersMay base ps)) [] := by
  refine den_of [] [] is_gimmalref1_PeersMay ?_
  simp -implicitDefEqProofs [c_gimmalref1_PeersMay, peersD]
  refine anyLoop_of (ps.length + 1) ?_
  have key : ∀ (Q : Ex → St → Prop) (r : Bool) (hQ1 : ∀ fr, r = true → fr 0 = .int .i64 base → fr 1 = .sl (ps.map Peer.row) ps.length → Q .normal ⟨fr, []⟩) (hQ2 : ∀ fr bs, r = false → fr 4 = .bool false → Q .ret ⟨fr, bs⟩) (rest : List Peer) (i : Nat) (fr : Nat → D), ps.drop i = rest → i ≤ ps.length →
      fr 0 = .int .i64 base → fr 1 = .sl (ps.map Peer.row) ps.length → fr 5 = .int .i64 i → refPeersOk base (if i = 0 then none else ps[i - 1]?) rest = r → sLoop (cf 0 [] []) 0 c_gimmalref1_PeersMay_L0 (blockQ 0 Q) (rest.length + 1) ⟨fr, []⟩ := by
    intro Q r hQ1 hQ2 rest
    induction rest with
    | nil =>
      intro i fr e hi h0 h1 h5 hm
      refine sLoop_body c_gimmalref1_PeersMay_L0.eq_1 ?_
      have hi' := drop_nil e hi
      simp -implicitDefEqProofs [h0, h1, h5, hi']
      exact hQ1 _ hm.symm (by simp [h0, h1, h5]) (by simp [h0, h1, h5])
    | cons p rest ih =>
      intro i fr e hi h0 h1 h5 hm
      refine sLoop_body c_gimmalref1_PeersMay_L0.eq_1 ?_
      obtain ⟨hlt, hget, hd, hlen⟩ := drop_cons e
      have hlt' : (i : Int) < ps.length := by omega
      have hw := wrap_next (n := i) (by unfold cap at hl; omega)
      have hprev : (if i + 1 = 0 then none else ps[i + 1 - 1]?) = some p := by simp [hget]
      simp only [refPeersOk] at hm
      simp -implicitDefEqProofs [h0, h1, h5, hlt', hget, Peer.row]
      refine callThen_of (ref_PlaceMay p.id) ?_
      simp -implicitDefEqProofs [h0, h1, h5]
      refine gOps_split (fun g1 => ?_) (fun g1 => ?_)
      rotate_left
      · simp -implicitDefEqProofs [g1, h0, h1, h5]
        exact hQ2 _ _ (by rw [← hm]; simp [g1]) (by rfl)
      simp -implicitDefEqProofs [g1, h0, h1, h5, hlt', hget, Peer.row]
      refine gOps_not (fun g2 => ?_) (fun g2 => ?_)
      · simp -implicitDefEqProofs [g2, h0, h1, h5]
        exact hQ2 _ _ (by rw [← hm]; simp at g2; simp [g2]) (by rfl)
      simp -implicitDefEqProofs [g2, h0, h1, h5, hlt', hget, Peer.row]
      refine gOps_ndec (fun g3 => ?_) (fun g3 => ?_)
      · simp -implicitDefEqProofs [g3, h0, h1, h5]
        exact hQ2 _ _ (by rw [← hm]; simp; intros; omega) (by rfl)
      simp -implicitDefEqProofs [g3, h0, h1, h5, hlt', hget, Peer.row]
      refine gOps_ndec (fun g4 => ?_) (fun g4 => ?_)
      · simp -implicitDefEqProofs [g4, h0, h1, h5]
        exact hQ2 _ _ (by rw [← hm]; simp; intros; omega) (by rfl)
      simp -implicitDefEqProofs [g4, h0, h1, h5, hlt', hget, Peer.row]
      have g2' : decide (p.id ≠ base) = true := by simp at g2; simp [g2]
      rw [g1, g2', decide_eq_true (show 0 ≤ p.missed by omega), decide_eq_true (show p.missed < 3 by omega)] at hm
      by_cases hi0 : i = 0
      · simp -implicitDefEqProofs [hi0, h0, h1, h5]
        rw [hi0] at hw
        simp -implicitDefEqProofs at hw
        simp -implicitDefEqProofs [hw]
        refine ih 1 _ (by rw [← hd, hi0]) (by omega) (by simp [h0, h1, h5]) (by simp [h0, h1, h5]) (by simp) ?_
        rw [hi0] at hprev hm
        rw [← hm]
        simp at hprev ⊢
        rw [hprev]
      · have hpos : 0 < i := by omega
        have hwp : IntKind.wrap .i64 ((i : Int) - 1) = ((i - 1 : Nat) : Int) := by unfold cap at hl; rw [wrap_in (by omega) (by omega)]; omega
        have hlt2 : ((i - 1 : Nat) : Int) < ps.length := by omega
        obtain ⟨q, hq⟩ : ∃ q, ps[i - 1]? = some q := ⟨ps[i - 1], by simp⟩
        rw [if_neg hi0, hq] at hm
        simp -implicitDefEqProofs [hpos, h0, h1, h5, hwp, hlt2, hq, Peer.row]
        refine callThen_of (ref_far base q.id) ?_
        simp -implicitDefEqProofs [h0, h1, h5, hlt', hget, Peer.row]
        refine callThen_of (ref_far base p.id) ?_
        simp -implicitDefEqProofs [h0, h1, h5]
        refine condC_dec (fun h2 => ?_) (fun h2 => ?_)
        all_goals simp -implicitDefEqProofs [h2, h0, h1, h5, hw]
        · exact hQ2 _ _ (by rw [← hm]; simp; intros; omega) (by rfl)
        · refine ih (i + 1) _ hd (by omega) (by simp [h0, h1, h5]) (by simp [h0, h1, h5]) (by simp) ?_
          rw [hprev, ← hm]
          simp [show far base q.id < far base p.id by omega]
  refine key _ (refPeersOk base none ps) (fun fr h h0 h1 => ?_) (fun fr bs h h4 => ?_) ps 0 _ rfl (Nat.zero_le _) rfl rfl rfl rfl
  · simp -implicitDefEqProofs [h, h0, h1]
    refine callThen_of (ref_PlaceMay base) ?_
    simp -implicitDefEqProofs [h0, h1]
    refine gOps_split (fun h2 => ?_) (fun h2 => ?_)
    all_goals simp -implicitDefEqProofs [h2, h, h0, h1, refPeersMay]
    omega
  · simp -implicitDefEqProofs [h, h4, refPeersMay]
end Go.AM
/- AM: contracts: the document's answers about views. -/
namespace Go.AM
set_option linter.unusedSimpArgs false
set_option linter.unusedVariables false
set_option maxRecDepth 8000
set_option maxHeartbeats 0
def inv_Heard (base : Int) (ps : List Peer) (id : Int) (i : Nat) (rest : List Peer) : St → Prop := fun ⟨fr, bs⟩ => ∃ acc inn, bs = [⟨[], 2, .mut⟩, ⟨acc.map Peer.row, 2, .mut⟩] ∧ acc.length ≤ 2 * i ∧ acc ++ hearG base id inn rest = hearG base id false ps ∧
  fr 0 = .int .i64 base ∧ fr 1 = .sl (ps.map Peer.row) ps.length ∧ fr 2 = .int .i64 id ∧ fr 8 = .ref 1 0 acc.length ∧ fr 9 = .bool inn ∧ fr 10 = .int .i64 i
def end_Heard (base : Int) (ps : List Peer) (id : Int) : St → Prop := fun ⟨fr, bs⟩ => ∃ acc inn, bs = [⟨[], 2, .mut⟩, ⟨acc.map Peer.row, 2, .mut⟩] ∧ acc.length ≤ 2 * ps.length ∧ acc ++ hearG base id inn [] = hearG base id false ps ∧
  fr 2 = .int .i64 id ∧ fr 8 = .ref 1 0 acc.length ∧ fr 9 = .bool inn
theorem ref_Heard (base : Int) (ps : List Peer) (id : Int) (hl : ps.length ≤ cap16) :
    Den PP 27 [.int .i64 base, peersD ps, .int .i64 id] [] (.tup [.ref 0 0 (refHeard base ps id).1.length, .int .i64 (refHeard base ps id).2]) [⟨(refHeard base ps id).1.map Peer.row, 2, .mut⟩] := by
  have hc := ref_PeersMay base ps (cap_of hl)
  simp [peersD] at hc
  refine den_of [] [] is_gimmalref1_Heard ?_
  simp -implicitDefEqProofs [c_gimmalref1_Heard, peersD]
  repeat' (first | (refine callThen_of (by first | exact hc | exact ref_PlaceMay _) ?_; simp -implicitDefEqProofs [*, refHeard]) | (with_reducible refine gOps_dec (fun _ => ?_) (fun _ => ?_) <;> simp -implicitDefEqProofs [*, refHeard]) | (with_reducible refine gOps_ndec (fun _ => ?_) (fun _ => ?_) <;> simp -implicitDefEqProofs [*, refHeard]) | (with_reducible refine gOps_and (fun hq => ?_) (fun hq => ?_) <;> (try simp at hq) <;> simp -implicitDefEqProofs [*, refHeard]) | (with_reducible refine gOps_or (fun hq => ?_) (fun hq => ?_) <;> (try simp at hq) <;> simp -implicitDefEqProofs [*, refHeard]) | (with_reducible refine gOps_not (fun hq => ?_) (fun hq => ?_) <;> (try simp at hq) <;> simp -implicitDefEqProofs [*, refHeard]) | (with_reducible refine gOps_split (fun hq => ?_) (fun hq => ?_) <;> (try simp at hq) <;> simp -implicitDefEqProofs [*, refHeard]) | (with_reducible refine condC_dec (fun _ => ?_) (fun _ => ?_) <;> simp -implicitDefEqProofs [*, refHeard]) | (with_reducible refine condC_ndec (fun _ => ?_) (fun _ => ?_) <;> simp -implicitDefEqProofs [*, refHeard]) | (with_reducible refine condC_and (fun hq => ?_) (fun hq => ?_) <;> (try simp at hq) <;> simp -implicitDefEqProofs [*, refHeard]) | (with_reducible refine condC_or (fun hq => ?_) (fun hq => ?_) <;> (try simp at hq) <;> simp -implicitDefEqProofs [*, refHeard]) | (with_reducible refine condC_not (fun hq => ?_) (fun hq => ?_) <;> (try simp at hq) <;> simp -implicitDefEqProofs [*, refHeard]) | (with_reducible refine condC_split (fun hq => ?_) (fun hq => ?_) <;> (try simp at hq) <;> simp -implicitDefEqProofs [*, refHeard]) | (refine appK2_if (by omega) ?_; simp -implicitDefEqProofs [*, refHeard]) | (refine pureV_if (by omega) ?_; simp -implicitDefEqProofs [*, refHeard]))
  have hps : ps.length ≤ 16 := by
    have := ‹refPeersMay base ps = true›
    simp [refPeersMay] at this
    omega
  refine list_rule ps (inv_Heard base ps id) (end_Heard base ps id) (fun _ => False) c_gimmalref1_Heard_L0.eq_1 ?_ ?_ ?_ ?_ ?_
  · exact ⟨[], false, rfl, by simp, rfl, rfl, rfl, rfl, rfl, rfl, rfl⟩
  · rintro i ⟨fr, bs⟩ hi ⟨acc, inn, hb, hal, he, h0, h1, h2, h8, h9, h10⟩
    simp -implicitDefEqProofs [*]
    exact ⟨acc, inn, by simp [*], by simpa [hi] using hal, he, by simp [*], by simp [*], by simp [*]⟩
  · rintro i p rest ⟨fr, bs⟩ hlt hget hg hd hd2 ⟨acc, inn, hb, hal, he, h0, h1, h2, h8, h9, h10⟩
    have hlt' : (i : Int) < ps.length := by omega
    have hw := wrap_next (n := i) (by unfold cap16 at hl; omega)
    simp only [hearG] at he
    subst hb
    simp -implicitDefEqProofs [h0, h1, h2, h8, h9, h10, hlt', hget, Peer.row]
    have r1 := ref_far base p.id
    have r2 := ref_far base id
    repeat' (first | (refine callThen_of (by first | exact r1 | exact r2) ?_; simp -implicitDefEqProofs [*, Peer.row, Fits]) | (with_reducible refine gOps_dec (fun _ => ?_) (fun _ => ?_) <;> simp -implicitDefEqProofs [*, Peer.row, Fits]) | (with_reducible refine gOps_ndec (fun _ => ?_) (fun _ => ?_) <;> simp -implicitDefEqProofs [*, Peer.row, Fits]) | (with_reducible refine gOps_and (fun hq => ?_) (fun hq => ?_) <;> (try simp at hq) <;> simp -implicitDefEqProofs [*, Peer.row, Fits]) | (with_reducible refine gOps_or (fun hq => ?_) (fun hq => ?_) <;> (try simp at hq) <;> simp -implicitDefEqProofs [*, Peer.row, Fits]) | (with_reducible refine gOps_not (fun hq => ?_) (fun hq => ?_) <;> (try simp at hq) <;> simp -implicitDefEqProofs [*, Peer.row, Fits]) | (with_reducible refine gOps_split (fun hq => ?_) (fun hq => ?_) <;> (try simp at hq) <;> simp -implicitDefEqProofs [*, Peer.row, Fits]) | (with_reducible refine condC_dec (fun _ => ?_) (fun _ => ?_) <;> simp -implicitDefEqProofs [*, Peer.row, Fits]) | (with_reducible refine condC_ndec (fun _ => ?_) (fun _ => ?_) <;> simp -implicitDefEqProofs [*, Peer.row, Fits]) | (with_reducible refine condC_and (fun hq => ?_) (fun hq => ?_) <;> (try simp at hq) <;> simp -implicitDefEqProofs [*, Peer.row, Fits]) | (with_reducible refine condC_or (fun hq => ?_) (fun hq => ?_) <;> (try simp at hq) <;> simp -implicitDefEqProofs [*, Peer.row, Fits]) | (with_reducible refine condC_not (fun hq => ?_) (fun hq => ?_) <;> (try simp at hq) <;> simp -implicitDefEqProofs [*, Peer.row, Fits]) | (with_reducible refine condC_split (fun hq => ?_) (fun hq => ?_) <;> (try simp at hq) <;> simp -implicitDefEqProofs [*, Peer.row, Fits]) | (refine appK2_if (by omega) ?_; simp -implicitDefEqProofs [*, Peer.row, Fits]) | (refine pureV_if (by omega) ?_; simp -implicitDefEqProofs [*, Peer.row, Fits]))
    all_goals
      refine ⟨acc ++ ((if inn = false ∧ far base id ≤ far base p.id then [⟨id, 0⟩] else []) ++ (if p.id = id then [] else [p])), inn || decide (far base id ≤ far base p.id), ?_⟩
      simp [*, Peer.row]
      grind
  · rintro ⟨fr, bs⟩ ⟨acc, inn, rfl, hal, he, h2, h8, h9⟩
    simp only [hearG] at he
    simp -implicitDefEqProofs [h2, h8, h9]
    repeat' (first | (with_reducible refine gOps_dec (fun _ => ?_) (fun _ => ?_) <;> simp -implicitDefEqProofs [*, Fits, Peer.row]) | (with_reducible refine gOps_ndec (fun _ => ?_) (fun _ => ?_) <;> simp -implicitDefEqProofs [*, Fits, Peer.row]) | (with_reducible refine gOps_and (fun hq => ?_) (fun hq => ?_) <;> (try simp at hq) <;> simp -implicitDefEqProofs [*, Fits, Peer.row]) | (with_reducible refine gOps_or (fun hq => ?_) (fun hq => ?_) <;> (try simp at hq) <;> simp -implicitDefEqProofs [*, Fits, Peer.row]) | (with_reducible refine gOps_not (fun hq => ?_) (fun hq => ?_) <;> (try simp at hq) <;> simp -implicitDefEqProofs [*, Fits, Peer.row]) | (with_reducible refine gOps_split (fun hq => ?_) (fun hq => ?_) <;> (try simp at hq) <;> simp -implicitDefEqProofs [*, Fits, Peer.row]) | (with_reducible refine condC_dec (fun _ => ?_) (fun _ => ?_) <;> simp -implicitDefEqProofs [*, Fits, Peer.row]) | (with_reducible refine condC_ndec (fun _ => ?_) (fun _ => ?_) <;> simp -implicitDefEqProofs [*, Fits, Peer.row]) | (with_reducible refine condC_and (fun hq => ?_) (fun hq => ?_) <;> (try simp at hq) <;> simp -implicitDefEqProofs [*, Fits, Peer.row]) | (with_reducible refine condC_or (fun hq => ?_) (fun hq => ?_) <;> (try simp at hq) <;> simp -implicitDefEqProofs [*, Fits, Peer.row]) | (with_reducible refine condC_not (fun hq => ?_) (fun hq => ?_) <;> (try simp at hq) <;> simp -implicitDefEqProofs [*, Fits, Peer.row]) | (with_reducible refine condC_split (fun hq => ?_) (fun hq => ?_) <;> (try simp at hq) <;> simp -implicitDefEqProofs [*, Fits, Peer.row]) | (refine appK2_if (by omega) ?_; simp -implicitDefEqProofs [*, Fits, Peer.row]) | (refine pureV_if (by omega) ?_; simp -implicitDefEqProofs [*, Fits, Peer.row]))
    all_goals grind [Peer.row]
  · rintro ⟨fr, bs⟩ h
    exact h.elim

theorem ref_WithoutPassive (xs : List Int) (x : Int) (hl : xs.length ≤ cap) :
    Den PP 17 [intsD xs, .int .i64 x] [] (.tup [.ref 0 0 (refWithout xs x).1.length, .int .i64 (refWithout xs x).2]) [⟨(refWithout xs x).1.map irow, 1, .mut⟩] := by
  have hc := ref_PassiveMay xs hl
  simp [intsD] at hc
  refine den_of [] [] is_gimmalref1_WithoutPassive ?_
  simp -implicitDefEqProofs [c_gimmalref1_WithoutPassive, intsD]
  repeat' (first | (refine callThen_of (by first | exact hc | exact ref_PlaceMay _) ?_; simp -implicitDefEqProofs [*, refWithout]) | (with_reducible refine gOps_dec (fun _ => ?_) (fun _ => ?_) <;> simp -implicitDefEqProofs [*, refWithout]) | (with_reducible refine gOps_ndec (fun _ => ?_) (fun _ => ?_) <;> simp -implicitDefEqProofs [*, refWithout]) | (with_reducible refine gOps_and (fun hq => ?_) (fun hq => ?_) <;> (try simp at hq) <;> simp -implicitDefEqProofs [*, refWithout]) | (with_reducible refine gOps_or (fun hq => ?_) (fun hq => ?_) <;> (try simp at hq) <;> simp -implicitDefEqProofs [*, refWithout]) | (with_reducible refine gOps_not (fun hq => ?_) (fun hq => ?_) <;> (try simp at hq) <;> simp -implicitDefEqProofs [*, refWithout]) | (with_reducible refine gOps_split (fun hq => ?_) (fun hq => ?_) <;> (try simp at hq) <;> simp -implicitDefEqProofs [*, refWithout]) | (with_reducible refine condC_dec (fun _ => ?_) (fun _ => ?_) <;> simp -implicitDefEqProofs [*, refWithout]) | (with_reducible refine condC_ndec (fun _ => ?_) (fun _ => ?_) <;> simp -implicitDefEqProofs [*, refWithout]) | (with_reducible refine condC_and (fun hq => ?_) (fun hq => ?_) <;> (try simp at hq) <;> simp -implicitDefEqProofs [*, refWithout]) | (with_reducible refine condC_or (fun hq => ?_) (fun hq => ?_) <;> (try simp at hq) <;> simp -implicitDefEqProofs [*, refWithout]) | (with_reducible refine condC_not (fun hq => ?_) (fun hq => ?_) <;> (try simp at hq) <;> simp -implicitDefEqProofs [*, refWithout]) | (with_reducible refine condC_split (fun hq => ?_) (fun hq => ?_) <;> (try simp at hq) <;> simp -implicitDefEqProofs [*, refWithout]) | (refine appK2_if (by omega) ?_; simp -implicitDefEqProofs [*, refWithout]) | (refine pureV_if (by omega) ?_; simp -implicitDefEqProofs [*, refWithout]))
  refine list_rule xs (fun i rest => fun ⟨fr, bs⟩ => bs = [⟨[], 1, .mut⟩, ⟨((xs.take i).filter (fun y => !decide (y = x))).map irow, 1, .mut⟩] ∧ fr 0 = .sl (xs.map irow) xs.length ∧ fr 1 = .int .i64 x ∧ fr 6 = .ref 1 0 ((xs.take i).filter (fun y => !decide (y = x))).length ∧ fr 7 = .int .i64 i)
    (fun ⟨fr, bs⟩ => bs = [⟨[], 1, .mut⟩, ⟨(xs.filter (fun y => !decide (y = x))).map irow, 1, .mut⟩] ∧ fr 6 = .ref 1 0 (xs.filter (fun y => !decide (y = x))).length) (fun _ => False) c_gimmalref1_WithoutPassive_L0.eq_1 ?_ ?_ ?_ ?_ ?_
  · exact ⟨rfl, rfl, rfl, rfl, rfl⟩
  · rintro i ⟨fr, bs⟩ hi ⟨rfl, h0, h1, h6, h7⟩
    simp -implicitDefEqProofs [*]
  · rintro i a rest ⟨fr, bs⟩ hlt hget hg hd hd2 ⟨rfl, h0, h1, h6, h7⟩
    have hlt' : (i : Int) < xs.length := by omega
    have hw := wrap_next (n := i) (by unfold cap at hl; omega)
    have hlf := List.length_filter_le (fun y => !decide (y = x)) (xs.take i)
    have hlt2 : (xs.take i).length ≤ i := by simp; omega
    have htk : xs.take (i + 1) = xs.take i ++ [a] := by rw [List.take_add_one, hget]; rfl
    unfold cap at hl
    simp -implicitDefEqProofs [*, irow]
    repeat' (first | (with_reducible refine gOps_dec (fun _ => ?_) (fun _ => ?_) <;> simp -implicitDefEqProofs [*, irow, Fits]) | (with_reducible refine gOps_ndec (fun _ => ?_) (fun _ => ?_) <;> simp -implicitDefEqProofs [*, irow, Fits]) | (with_reducible refine gOps_and (fun hq => ?_) (fun hq => ?_) <;> (try simp at hq) <;> simp -implicitDefEqProofs [*, irow, Fits]) | (with_reducible refine gOps_or (fun hq => ?_) (fun hq => ?_) <;> (try simp at hq) <;> simp -implicitDefEqProofs [*, irow, Fits]) | (with_reducible refine gOps_not (fun hq => ?_) (fun hq => ?_) <;> (try simp at hq) <;> simp -implicitDefEqProofs [*, irow, Fits]) | (with_reducible refine gOps_split (fun hq => ?_) (fun hq => ?_) <;> (try simp at hq) <;> simp -implicitDefEqProofs [*, irow, Fits]) | (with_reducible refine condC_dec (fun _ => ?_) (fun _ => ?_) <;> simp -implicitDefEqProofs [*, irow, Fits]) | (with_reducible refine condC_ndec (fun _ => ?_) (fun _ => ?_) <;> simp -implicitDefEqProofs [*, irow, Fits]) | (with_reducible refine condC_and (fun hq => ?_) (fun hq => ?_) <;> (try simp at hq) <;> simp -implicitDefEqProofs [*, irow, Fits]) | (with_reducible refine condC_or (fun hq => ?_) (fun hq => ?_) <;> (try simp at hq) <;> simp -implicitDefEqProofs [*, irow, Fits]) | (with_reducible refine condC_not (fun hq => ?_) (fun hq => ?_) <;> (try simp at hq) <;> simp -implicitDefEqProofs [*, irow, Fits]) | (with_reducible refine condC_split (fun hq => ?_) (fun hq => ?_) <;> (try simp at hq) <;> simp -implicitDefEqProofs [*, irow, Fits]) | (refine appK2_if (by omega) ?_; simp -implicitDefEqProofs [*, irow, Fits]) | (refine pureV_if (by omega) ?_; simp -implicitDefEqProofs [*, irow, Fits]))
  · rintro ⟨fr, bs⟩ ⟨rfl, h6⟩
    simp -implicitDefEqProofs [*, refWithout]
  · rintro ⟨fr, bs⟩ h
    exact h.elim

theorem law_SamePeers (xs ys : List Peer) (hl : xs.length ≤ cap) : Den PP 30 [peersD xs, peersD ys] [] (.bool (decide (xs = ys))) [] := by
  refine den_of [] [] is_gimmallaw0_SamePeers ?_
  simp -implicitDefEqProofs [c_gimmallaw0_SamePeers, peersD]
  refine condC_split (fun h => ?_) (fun h => ?_)
  · simp -implicitDefEqProofs
    grind
  have hlen : xs.length = ys.length := by simp at h; omega
  simp -implicitDefEqProofs
  refine list_rule xs (fun i rest => fun ⟨fr, bs⟩ => bs = [] ∧ fr 0 = .sl (xs.map Peer.row) xs.length ∧ fr 1 = .sl (ys.map Peer.row) ys.length ∧ fr 5 = .int .i64 i ∧ (rest = ys.drop i ↔ xs = ys))
    (fun ⟨fr, bs⟩ => bs = [] ∧ xs = ys) (fun ⟨fr, bs⟩ => fr 4 = .bool false ∧ ¬ xs = ys) c_gimmallaw0_SamePeers_L0.eq_1 ?_ ?_ ?_ ?_ ?_
  · exact ⟨rfl, rfl, rfl, rfl, by simp⟩
  · rintro i ⟨fr, bs⟩ hi ⟨rfl, h0, h1, h5, he⟩
    simp -implicitDefEqProofs [*]
    grind
  · rintro i a rest ⟨fr, bs⟩ hlt hget hg hd hd2 ⟨rfl, h0, h1, h5, he⟩
    have hlt' : (i : Int) < xs.length := by omega
    have hlt2 : i < ys.length := by omega
    have hlt3 : (i : Int) < ys.length := by omega
    have hw := wrap_next (n := i) (by unfold cap at hl; omega)
    rw [List.drop_eq_getElem_cons hlt2] at he
    generalize hy : ys[i] = b at he
    simp -implicitDefEqProofs [h0, h1, h5, hlt, hlt', hlt2, hlt3, hget, hg, hy, Peer.row, EQS]
    repeat' (first | (with_reducible refine gOps_dec (fun _ => ?_) (fun _ => ?_) <;> simp -implicitDefEqProofs [*, EQS]) | (with_reducible refine gOps_ndec (fun _ => ?_) (fun _ => ?_) <;> simp -implicitDefEqProofs [*, EQS]) | (with_reducible refine gOps_and (fun hq => ?_) (fun hq => ?_) <;> (try simp at hq) <;> simp -implicitDefEqProofs [*, EQS]) | (with_reducible refine gOps_or (fun hq => ?_) (fun hq => ?_) <;> (try simp at hq) <;> simp -implicitDefEqProofs [*, EQS]) | (with_reducible refine gOps_not (fun hq => ?_) (fun hq => ?_) <;> (try simp at hq) <;> simp -implicitDefEqProofs [*, EQS]) | (with_reducible refine gOps_split (fun hq => ?_) (fun hq => ?_) <;> (try simp at hq) <;> simp -implicitDefEqProofs [*, EQS]) | (with_reducible refine condC_dec (fun _ => ?_) (fun _ => ?_) <;> simp -implicitDefEqProofs [*, EQS]) | (with_reducible refine condC_ndec (fun _ => ?_) (fun _ => ?_) <;> simp -implicitDefEqProofs [*, EQS]) | (with_reducible refine condC_and (fun hq => ?_) (fun hq => ?_) <;> (try simp at hq) <;> simp -implicitDefEqProofs [*, EQS]) | (with_reducible refine condC_or (fun hq => ?_) (fun hq => ?_) <;> (try simp at hq) <;> simp -implicitDefEqProofs [*, EQS]) | (with_reducible refine condC_not (fun hq => ?_) (fun hq => ?_) <;> (try simp at hq) <;> simp -implicitDefEqProofs [*, EQS]) | (with_reducible refine condC_split (fun hq => ?_) (fun hq => ?_) <;> (try simp at hq) <;> simp -implicitDefEqProofs [*, EQS]) | (refine appK2_if (by omega) ?_; simp -implicitDefEqProofs [*, EQS]) | (refine pureV_if (by omega) ?_; simp -implicitDefEqProofs [*, EQS]))
    all_goals (obtain ⟨a1, a2⟩ := a; obtain ⟨b1, b2⟩ := b; grind)
  · rintro ⟨fr, bs⟩ ⟨rfl, h6⟩
    simp -implicitDefEqProofs [*]
  · rintro ⟨fr, bs⟩ h
    simp -implicitDefEqProofs [h.1, h.2]
end Go.AM
/- Plain law: places put in their row, taken out. -/
namespace Go.AM
set_option linter.unusedSimpArgs false
set_option linter.unusedVariables false

/-- Two rising rows of the same numbers are one. -/
theorem rising_ext : ∀ {xs ys : List Int}, xs.Pairwise (· < ·) → ys.Pairwise (· < ·) → (∀ a, a ∈ xs ↔ a ∈ ys) → xs = ys := by
  intro xs
  induction xs with
  | nil =>
    intro ys _ _ h
    cases ys with
    | nil => rfl
    | cons y ys => exact absurd ((h y).2 (by simp)) (by simp)
  | cons x xs ih =>
    intro ys hx hy h
    cases ys with
    | nil => exact absurd ((h x).1 (by simp)) (by simp)
    | cons y ys =>
      rw [List.pairwise_cons] at hx hy
      have hxy : x = y := by
        have h1 := (h x).1 (by simp)
        have h2 := (h y).2 (by simp)
        rcases List.mem_cons.1 h1 with h1 | h1
        · exact h1
        · rcases List.mem_cons.1 h2 with h2 | h2
          · exact h2.symm
          · have := hy.1 _ h1
            have := hx.1 _ h2
            omega
      subst hxy
      congr 1
      refine ih hx.2 hy.2 fun a => ?_
      have := h a
      simp only [List.mem_cons] at this
      constructor
      · intro ha
        rcases this.1 (.inr ha) with h' | h'
        · subst h'; exact absurd (hx.1 _ ha) (by omega)
        · exact h'
      · intro ha
        rcases this.2 (.inr ha) with h' | h'
        · subst h'; exact absurd (hy.1 _ ha) (by omega)
        · exact h'
theorem incr_iff : ∀ xs : List Int, incr xs = true ↔ xs.Pairwise (· < ·) := by
  intro xs
  induction xs with
  | nil => simp [incr]
  | cons x xs ih =>
    cases xs with
    | nil => simp [incr]
    | cons y ys =>
      simp only [incr, Bool.and_eq_true, decide_eq_true_eq, ih, List.pairwise_cons, List.mem_cons]
      constructor
      · rintro ⟨h1, h2, h3⟩
        refine ⟨?_, h2, h3⟩
        rintro a (rfl | ha)
        · exact h1
        · have := h2 a ha
          omega
      · rintro ⟨h1, h2, h3⟩
        exact ⟨h1 y (.inl rfl), h2, h3⟩
theorem passiveMay_iff (xs : List Int) : passiveMay xs = true ↔ xs.Pairwise (· < ·) ∧ (∀ x ∈ xs, place x = true) ∧ xs.length ≤ 16 := by
  rw [← passiveMay_eq]
  simp only [refPassiveMay, Bool.and_eq_true, incr_iff, decide_eq_true_eq, List.all_eq_true]
  constructor
  · rintro ⟨⟨h1, h2⟩, h3⟩; exact ⟨h1, h2, h3⟩
  · rintro ⟨h1, h2, h3⟩; exact ⟨⟨h1, h2⟩, h3⟩

def posI (xs : List Int) (id : Int) : Nat := (xs.takeWhile fun x => decide (x < id)).length
theorem posI_le (xs : List Int) (id : Int) : posI xs id ≤ xs.length := (List.takeWhile_prefix _).length_le
def insU (id : Int) : List Int → List Int
  | [] => [id]
  | x :: xs => if x < id then x :: insU id xs else id :: x :: xs
theorem insL_insU (id : Int) : ∀ xs : List Int, insL xs (posI xs id) id = insU id xs := by
  intro xs
  induction xs with
  | nil => rfl
  | cons x xs ih =>
    unfold insU
    by_cases h : x < id
    · rw [if_pos h, ← ih]
      simp [posI, insL, List.takeWhile_cons, h]
    · rw [if_neg h]
      simp [posI, insL, List.takeWhile_cons, h]
theorem mem_insU {id a : Int} : ∀ {xs : List Int}, a ∈ insU id xs ↔ a = id ∨ a ∈ xs := by
  intro xs
  induction xs with
  | nil => simp [insU]
  | cons x xs ih =>
    unfold insU
    split
    · simp only [List.mem_cons, ih]
      constructor
      · rintro (h | h | h)
        · exact .inr (.inl h)
        · exact .inl h
        · exact .inr (.inr h)
      · rintro (h | h | h)
        · exact .inr (.inl h)
        · exact .inl h
        · exact .inr (.inr h)
    · simp
theorem insU_length (id : Int) (xs : List Int) : (insU id xs).length = xs.length + 1 := by rw [← insL_insU, insL_length]
theorem rising_insU {id : Int} : ∀ {xs : List Int}, xs.Pairwise (· < ·) → id ∉ xs → (insU id xs).Pairwise (· < ·) := by
  intro xs
  induction xs with
  | nil => intro _ _; simp [insU]
  | cons x xs ih =>
    intro h hn
    rw [List.pairwise_cons] at h
    simp only [List.mem_cons, not_or] at hn
    unfold insU
    split
    · rename_i hlt
      rw [List.pairwise_cons]
      refine ⟨fun a ha => ?_, ih h.2 hn.2⟩
      rcases mem_insU.1 ha with rfl | ha
      · exact hlt
      · exact h.1 a ha
    · rename_i hge
      rw [List.pairwise_cons, List.pairwise_cons]
      refine ⟨?_, h⟩
      intro a ha
      rcases List.mem_cons.1 ha with rfl | ha
      · omega
      · have := h.1 a ha
        omega
theorem posI_lo {xs : List Int} {id : Int} (i : Nat) (x : Int) (h : i < posI xs id) (hx : xs[i]? = some x) : x < id := by simpa using takeWhile_get _ xs i x h hx
theorem rising_get {xs : List Int} (h : xs.Pairwise (· < ·)) {i j : Nat} {x y : Int} (hij : i < j) (hx : xs[i]? = some x) (hy : xs[j]? = some y) : x < y := by
  obtain ⟨hi, rfl⟩ := List.getElem?_eq_some_iff.1 hx
  obtain ⟨hj, rfl⟩ := List.getElem?_eq_some_iff.1 hy
  exact List.pairwise_iff_getElem.1 h i j hi hj hij
theorem posI_hi {xs : List Int} {id : Int} (h : xs.Pairwise (· < ·)) (i : Nat) (x : Int) (hi : posI xs id ≤ i) (hx : xs[i]? = some x) : id ≤ x := by
  have hlt : posI xs id < xs.length := by
    have := (List.getElem?_eq_some_iff.1 hx).1
    omega
  have hq : xs[posI xs id]? = some xs[posI xs id] := by simp [hlt]
  have h1 := takeWhile_end _ xs _ hq
  simp at h1
  rcases Nat.lt_or_ge (posI xs id) i with h2 | h2
  · have := rising_get h h2 hq hx
    omega
  · have : i = posI xs id := by omega
    subst this
    rw [hq] at hx
    cases hx
    exact h1
theorem posI_mem {xs : List Int} {id : Int} (h : xs.Pairwise (· < ·)) : xs[posI xs id]? = some id ↔ id ∈ xs := by
  constructor
  · intro h'
    exact List.mem_of_getElem? h'
  · intro h'
    obtain ⟨j, hj⟩ := List.getElem?_of_mem h'
    rcases Nat.lt_trichotomy j (posI xs id) with h1 | h1 | h1
    · have := posI_lo j id h1 hj
      omega
    · rw [← h1]; exact hj
    · have hlt := (List.getElem?_eq_some_iff.1 hj).1
      have hq : xs[posI xs id]? = some (xs[posI xs id]'(by omega)) := by simp
      have h2 := rising_get h h1 hq hj
      have h3 := posI_hi h (posI xs id) _ (Nat.le_refl _) hq
      omega

def withP (xs : List Int) (id : Int) : List Int × Int :=
  if passiveMay xs && place id then (if id ∈ xs then (xs, 0) else if xs.length = 16 then ([], 801) else (insU id xs, 0)) else ([], 800)
def refWith (xs : List Int) (id : Int) : List Int × Int :=
  if refPassiveMay xs && place id then (if 16 < (((List.range 256).map fun (i : Nat) => (i : Int)).filter fun x => decide (x = id) || decide (x ∈ xs)).length then ([], 801) else (((List.range 256).map fun (i : Nat) => (i : Int)).filter fun x => decide (x = id) || decide (x ∈ xs), 0)) else ([], 800)
theorem rising_range : ((List.range 256).map fun (i : Nat) => (i : Int)).Pairwise (· < ·) := by
  rw [List.pairwise_map]
  exact List.pairwise_lt_range.imp fun h => by omega
theorem mem_range256 (x : Int) : x ∈ ((List.range 256).map fun (i : Nat) => (i : Int)) ↔ place x = true := by
  rw [place_iff]
  simp only [List.mem_map, List.mem_range]
  constructor
  · rintro ⟨i, hi, rfl⟩; omega
  · rintro ⟨h1, h2⟩; exact ⟨x.toNat, by omega, by omega⟩
theorem refWith_eq (xs : List Int) (id : Int) : refWith xs id = withP xs id := by
  unfold refWith withP
  rw [passiveMay_eq]
  by_cases h : (passiveMay xs && place id) = true
  · rw [if_pos h, if_pos h]
    rw [Bool.and_eq_true] at h
    obtain ⟨h1, hp⟩ := h
    obtain ⟨hr, hpl, hl⟩ := (passiveMay_iff xs).1 h1
    have hf : (((List.range 256).map fun (i : Nat) => (i : Int)).filter fun x => decide (x = id) || decide (x ∈ xs)) = if id ∈ xs then xs else insU id xs := by
      refine rising_ext (rising_range.filter _) ?_ ?_
      · split
        · exact hr
        · rename_i hn; exact rising_insU hr hn
      · intro a
        rw [List.mem_filter, mem_range256]
        simp only [Bool.or_eq_true, decide_eq_true_eq]
        split
        · rename_i hm
          constructor
          · rintro ⟨_, rfl | h⟩
            · exact hm
            · exact h
          · intro h; exact ⟨hpl a h, .inr h⟩
        · rw [mem_insU]
          constructor
          · exact fun h => h.2
          · rintro (rfl | h)
            · exact ⟨hp, .inl rfl⟩
            · exact ⟨hpl a h, .inr h⟩
    rw [hf]
    by_cases hm : id ∈ xs
    · simp only [hm, if_true]
      rw [if_neg (by omega)]
    · simp only [hm, if_false, insU_length]
      by_cases hf : xs.length = 16
      · rw [if_pos hf, if_pos (by omega)]
      · rw [if_neg hf, if_neg (by omega)]
  · rw [if_neg h, if_neg h]
def withoutP (xs : List Int) (id : Int) : List Int × Int := if passiveMay xs && place id then (xs.filter (fun y => !decide (y = id)), 0) else ([], 800)
theorem refWithout_eq (xs : List Int) (id : Int) : refWithout xs id = withoutP xs id := by
  unfold refWithout withoutP
  rw [passiveMay_eq]
theorem passiveMay_filter {xs : List Int} {p : Int → Bool} (h : passiveMay xs = true) : passiveMay (xs.filter p) = true := by
  obtain ⟨h1, h2, h3⟩ := (passiveMay_iff xs).1 h
  refine (passiveMay_iff _).2 ⟨h1.filter _, fun x hx => h2 x (List.mem_filter.1 hx).1, Nat.le_trans (List.length_filter_le _ _) h3⟩
theorem passiveMay_insU {xs : List Int} {id : Int} (h : passiveMay xs = true) (hp : place id = true) (hn : id ∉ xs) (hl : xs.length ≠ 16) : passiveMay (insU id xs) = true := by
  obtain ⟨h1, h2, h3⟩ := (passiveMay_iff xs).1 h
  refine (passiveMay_iff _).2 ⟨rising_insU h1 hn, fun x hx => ?_, by rw [insU_length]; omega⟩
  rcases mem_insU.1 hx with rfl | hx
  · exact hp
  · exact h2 x hx
theorem filter_insU (id : Int) : ∀ xs : List Int, (insU id xs).filter (fun y => !decide (y = id)) = xs.filter (fun y => !decide (y = id)) := by
  intro xs
  induction xs with
  | nil => simp [insU]
  | cons x xs ih =>
    unfold insU
    split
    · simp only [List.filter_cons, ih]
    · simp [List.filter_cons]
theorem filter_out {xs : List Int} {id : Int} (h : id ∉ xs) : xs.filter (fun y => !decide (y = id)) = xs := by
  rw [List.filter_eq_self]
  intro a ha
  simp
  rintro rfl
  exact h ha
theorem filter_one {xs : List Int} {id : Int} (h : xs.Pairwise (· < ·)) (hm : id ∈ xs) : xs.length = (xs.filter (fun y => !decide (y = id))).length + 1 := by
  have : xs = insU id (xs.filter (fun y => !decide (y = id))) := by
    refine rising_ext h (rising_insU (h.filter _) (by simp)) fun a => ?_
    rw [mem_insU, List.mem_filter]
    simp
    constructor
    · intro ha
      by_cases h' : a = id
      · exact .inl h'
      · exact .inr ⟨ha, h'⟩
    · rintro (rfl | ⟨ha, _⟩)
      · exact hm
      · exact ha
  have h2 := congrArg List.length this
  rw [insU_length] at h2
  exact h2
theorem withP_len (xs : List Int) (id : Int) : (withP xs id).1.length ≤ 16 := by
  unfold withP
  split
  · rename_i h
    rw [Bool.and_eq_true] at h
    have hl := ((passiveMay_iff xs).1 h.1).2.2
    split
    · exact hl
    · split
      · simp
      · rw [insU_length]; omega
  · simp
theorem withoutP_len (xs : List Int) (id : Int) : (withoutP xs id).1.length ≤ 16 := by
  unfold withoutP
  split
  · rename_i h
    rw [Bool.and_eq_true] at h
    have hl := ((passiveMay_iff xs).1 h.1).2.2
    exact Nat.le_trans (List.length_filter_le _ _) hl
  · simp
theorem fIdx_spec0 (p : Int → Bool) : ∀ (xs : List Int) (i : Nat), (fIdx p i xs = -1 ∧ xs.filter (fun x => !p x) = xs) ∨ ∃ f, fIdx p i xs = ((i + f : Nat) : Int) ∧ f < xs.length ∧ (xs.take (f + 1)).filter (fun x => !p x) = xs.take f := by
  intro xs
  induction xs with
  | nil => intro i; exact .inl ⟨rfl, rfl⟩
  | cons x xs ih =>
    intro i
    simp only [fIdx]
    by_cases h : p x = true
    · right
      exact ⟨0, by simp [h], by simp, by simp [h]⟩
    · have h' : p x = false := by simpa using h
      rw [if_neg h]
      rcases ih (i + 1) with ⟨h1, h2⟩ | ⟨f, h1, h2, h3⟩
      · left
        refine ⟨h1, ?_⟩
        rw [List.filter_cons]
        simp [h', h2]
      · right
        refine ⟨f + 1, by rw [h1]; congr 1; omega, by simpa using h2, ?_⟩
        rw [List.take_succ_cons, List.filter_cons, h3]
        simp [h']
theorem fIdx_spec (p : Int → Bool) (xs : List Int) : (fIdx p 0 xs = -1 ∧ xs.filter (fun x => !p x) = xs) ∨ ∃ f : Nat, fIdx p 0 xs = (f : Int) ∧ f < xs.length ∧ (xs.take (f + 1)).filter (fun x => !p x) = xs.take f := by
  rcases fIdx_spec0 p xs 0 with h | ⟨f, h⟩
  · exact .inl h
  · exact .inr ⟨f, by simpa using h⟩
theorem take_ovr {cur ys : List (List D)} {i : Nat} (h : i ≤ cur.length) : (ovr cur i ys).take i = cur.take i := by
  unfold ovr
  rw [List.append_assoc, List.take_append_of_le_length (by simp; omega), List.take_take, Nat.min_self]
/-- A filter of the numbers below n, one by one. -/
theorem filter_count (p : Int → Bool) (n : Nat) : ∃ F : Nat → List Int, F 0 = [] ∧ (∀ i, i < n → F (i + 1) = if p (i : Int) = true then F i ++ [(i : Int)] else F i) ∧ F n = ((List.range n).map fun (i : Nat) => (i : Int)).filter p ∧ ∀ i, (F i).length ≤ i := by
  refine ⟨fun i => ((List.range i).map fun (i : Nat) => (i : Int)).filter p, rfl, fun i hi => ?_, rfl, fun i => Nat.le_trans (List.length_filter_le _ _) (by simp)⟩
  simp only [List.range_succ, List.map_append, List.filter_append, List.map_cons, List.map_nil]
  by_cases h : p (i : Int) = true
  · simp [h]
  · simp [h]
/-- The tens that are wanted. -/
def idsOf (W : List Bool) (n : Nat) : List Int := ((List.range n).filter fun k => W.getD k false).map fun (k : Nat) => 10 * (k : Int)
theorem mem_idsOf {W : List Bool} {n : Nat} {x : Int} : x ∈ idsOf W n ↔ ∃ k : Nat, k < n ∧ W.getD k false = true ∧ x = 10 * (k : Int) := by
  unfold idsOf
  simp only [List.mem_map, List.mem_filter, List.mem_range]
  constructor
  · rintro ⟨k, ⟨h1, h2⟩, rfl⟩; exact ⟨k, h1, h2, rfl⟩
  · rintro ⟨k, h1, h2, rfl⟩; exact ⟨k, ⟨h1, h2⟩, rfl⟩
theorem rising_idsOf (W : List Bool) (n : Nat) : (idsOf W n).Pairwise (· < ·) := by
  unfold idsOf
  rw [List.pairwise_map]
  exact (List.pairwise_lt_range.filter _).imp fun h => by omega
theorem idsOf_may (W : List Bool) : passiveMay (idsOf W 16) = true := by
  refine (passiveMay_iff _).2 ⟨rising_idsOf W 16, fun x hx => ?_, ?_⟩
  · obtain ⟨k, h1, _, rfl⟩ := mem_idsOf.1 hx
    rw [place_iff]
    omega
  · unfold idsOf
    rw [List.length_map]
    exact Nat.le_trans (List.length_filter_le _ _) (by simp)
theorem boolSet {W : List Bool} {k j : Nat} {b : Bool} (hk : k < W.length) : (W.set k b).getD j false = if j = k then b else W.getD j false := by
  simp only [List.getD_eq_getElem?_getD, List.getElem?_set]
  by_cases h : k = j
  · subst h; simp [hk]
  · rw [if_neg h, if_neg (Ne.symm h)]
theorem place_ten {k : Nat} (hk : k < 16) : place (10 * (k : Int)) = true := by rw [place_iff]; omega
theorem withP_ids {W : List Bool} (hW : W.length = 16) {k : Nat} (hk : k < 16) : withP (idsOf W 16) (10 * (k : Int)) = (idsOf (W.set k true) 16, 0) := by
  unfold withP
  rw [if_pos (by rw [idsOf_may, place_ten hk]; rfl)]
  have hin : 10 * (k : Int) ∈ idsOf W 16 ↔ W.getD k false = true := by
    rw [mem_idsOf]
    constructor
    · rintro ⟨j, _, h, he⟩
      have : k = j := by omega
      subst this
      exact h
    · intro h; exact ⟨k, hk, h, rfl⟩
  have key : ∀ a, a ∈ idsOf (W.set k true) 16 ↔ a = 10 * (k : Int) ∨ a ∈ idsOf W 16 := by
    intro a
    rw [mem_idsOf, mem_idsOf]
    constructor
    · rintro ⟨j, h1, h2, rfl⟩
      rw [boolSet (by omega)] at h2
      split at h2
      · rename_i hjk; left; rw [hjk]
      · right; exact ⟨j, h1, h2, rfl⟩
    · rintro (rfl | ⟨j, h1, h2, rfl⟩)
      · exact ⟨k, hk, by rw [boolSet (by omega)]; simp, rfl⟩
      · refine ⟨j, h1, ?_, rfl⟩
        rw [boolSet (by omega)]
        split
        · rfl
        · exact h2
  by_cases h : 10 * (k : Int) ∈ idsOf W 16
  · rw [if_pos h]
    congr 1
    refine rising_ext (rising_idsOf _ _) (rising_idsOf _ _) fun a => ?_
    rw [key]
    constructor
    · exact .inr
    · rintro (rfl | h')
      · exact h
      · exact h'
  · rw [if_neg h]
    have he : insU (10 * (k : Int)) (idsOf W 16) = idsOf (W.set k true) 16 := rising_ext (rising_insU (rising_idsOf _ _) h) (rising_idsOf _ _) fun a => by rw [mem_insU, key]
    have hl := insU_length (10 * (k : Int)) (idsOf W 16)
    rw [he] at hl
    have hl2 := ((passiveMay_iff _).1 (idsOf_may (W.set k true))).2.2
    rw [if_neg (by omega), he]
theorem withoutP_ids {W : List Bool} (hW : W.length = 16) {k : Nat} (hk : k < 16) : withoutP (idsOf W 16) (10 * (k : Int)) = (idsOf (W.set k false) 16, 0) := by
  unfold withoutP
  rw [if_pos (by rw [idsOf_may, place_ten hk]; rfl)]
  congr 1
  refine rising_ext ((rising_idsOf _ _).filter _) (rising_idsOf _ _) fun a => ?_
  rw [List.mem_filter, mem_idsOf, mem_idsOf]
  constructor
  · rintro ⟨⟨j, h1, h2, rfl⟩, h3⟩
    refine ⟨j, h1, ?_, rfl⟩
    rw [boolSet (by omega), if_neg (by rintro rfl; simp at h3)]
    exact h2
  · rintro ⟨j, h1, h2, rfl⟩
    rw [boolSet (by omega)] at h2
    split at h2
    · cases h2
    · rename_i hjk
      exact ⟨⟨j, h1, h2, rfl⟩, by simp; omega⟩
theorem idsOf_succ (W : List Bool) (n : Nat) : idsOf W (n + 1) = if W.getD n false = true then idsOf W n ++ [10 * (n : Int)] else idsOf W n := by
  unfold idsOf
  rw [List.range_succ, List.filter_append, List.map_append]
  by_cases h : W.getD n false = true
  · rw [if_pos h, List.filter_cons, if_pos h]; rfl
  · rw [if_neg h, List.filter_cons, if_neg h]; simp
end Go.AM
/- AM: contracts: binary search, places put and taken out. -/
namespace Go.AM
set_option linter.unusedSimpArgs false
set_option linter.unusedVariables false
set_option maxRecDepth 8000
set_option maxHeartbeats 0
theorem slices_isNaN (a : Int) : Den PP 53 [.int .i64 a] [] (.bool false) [] := by
  refine den_of [] [] is_slices_isNaN_int ?_
  simp -implicitDefEqProofs [c_slices_isNaN_int]
theorem cmp_Less (a b : Int) : Den PP 52 [.int .i64 a, .int .i64 b] [] (.bool (decide (a < b))) [] := by
  refine den_of [] [] is_cmp_Less_int ?_
  simp -implicitDefEqProofs [c_cmp_Less_int]
  repeat' (first | (refine callThen_of (by first | exact cmp_isNaN _) ?_; simp -implicitDefEqProofs [*]) | (with_reducible refine gOps_dec (fun _ => ?_) (fun _ => ?_) <;> simp -implicitDefEqProofs [*]) | (with_reducible refine gOps_ndec (fun _ => ?_) (fun _ => ?_) <;> simp -implicitDefEqProofs [*]) | (with_reducible refine gOps_and (fun hq => ?_) (fun hq => ?_) <;> (try simp at hq) <;> simp -implicitDefEqProofs [*]) | (with_reducible refine gOps_or (fun hq => ?_) (fun hq => ?_) <;> (try simp at hq) <;> simp -implicitDefEqProofs [*]) | (with_reducible refine gOps_not (fun hq => ?_) (fun hq => ?_) <;> (try simp at hq) <;> simp -implicitDefEqProofs [*]) | (with_reducible refine gOps_split (fun hq => ?_) (fun hq => ?_) <;> (try simp at hq) <;> simp -implicitDefEqProofs [*]) | (with_reducible refine condC_dec (fun _ => ?_) (fun _ => ?_) <;> simp -implicitDefEqProofs [*]) | (with_reducible refine condC_ndec (fun _ => ?_) (fun _ => ?_) <;> simp -implicitDefEqProofs [*]) | (with_reducible refine condC_and (fun hq => ?_) (fun hq => ?_) <;> (try simp at hq) <;> simp -implicitDefEqProofs [*]) | (with_reducible refine condC_or (fun hq => ?_) (fun hq => ?_) <;> (try simp at hq) <;> simp -implicitDefEqProofs [*]) | (with_reducible refine condC_not (fun hq => ?_) (fun hq => ?_) <;> (try simp at hq) <;> simp -implicitDefEqProofs [*]) | (with_reducible refine condC_split (fun hq => ?_) (fun hq => ?_) <;> (try simp at hq) <;> simp -implicitDefEqProofs [*]) | (refine appK2_if (by omega) ?_; simp -implicitDefEqProofs [*]) | (refine pureV_if (by omega) ?_; simp -implicitDefEqProofs [*]))
theorem bsearch_int (xs : List Int) (id : Int) (hl : xs.length ≤ cap) (hr : xs.Pairwise (· < ·)) :
    Den PP 38 [intsD xs, .int .i64 id] [] (.tup [.int .i64 (posI xs id), .bool (decide (xs[posI xs id]? = some id))]) [] := by
  have hlo := fun i x => posI_lo (xs := xs) (id := id) i x
  have hhi := fun i x => posI_hi (id := id) hr i x
  have hat := posI_le xs id
  generalize posI xs id = at_ at *
  refine den_of [] [] is_slices_BinarySearch_int_int ?_
  simp -implicitDefEqProofs [c_slices_BinarySearch_int_int, intsD]
  refine loop_rule xs.length (fun m ⟨fr, bs⟩ => ∃ lo hi : Nat, bs = [] ∧ hi - lo ≤ m ∧ lo ≤ at_ ∧ at_ ≤ hi ∧ hi ≤ xs.length ∧ fr 0 = intsD xs ∧ fr 1 = .int .i64 id ∧ fr 6 = .int .i64 xs.length ∧ fr 7 = .int .i64 lo ∧ fr 8 = .int .i64 hi)
    (fun ⟨fr, bs⟩ => bs = [] ∧ fr 0 = intsD xs ∧ fr 1 = .int .i64 id ∧ fr 6 = .int .i64 xs.length ∧ fr 7 = .int .i64 at_) (fun _ => False) c_slices_BinarySearch_int_int_L0.eq_1 ?_ ?_ ?_ ?_ ?_
  · exact ⟨0, xs.length, rfl, by omega, by omega, hat, by omega, rfl, rfl, rfl, rfl, rfl⟩
  · rintro ⟨fr, bs⟩ ⟨lo, hi, rfl, h1, h2, h3, h4, h0, h5, h6, h7, h8⟩
    have e1 : lo = at_ := by omega
    have e2 : hi = at_ := by omega
    simp -implicitDefEqProofs [h0, h5, h6, h7, h8, e1, e2]
  · rintro m ⟨fr, bs⟩ ⟨lo, hi, rfl, h1, h2, h3, h4, h0, h5, h6, h7, h8⟩
    by_cases hlt : lo < hi
    · have hlt' : (lo : Int) < hi := by omega
      have hm := mid_eq (lo := lo) (hi := hi) (by omega) (by omega)
      have hml : (lo + hi) / 2 < xs.length := by omega
      have hml' : (((lo + hi) / 2 : Nat) : Int) < xs.length := by omega
      have hw := wrap_next (n := (lo + hi) / 2) (by unfold cap at hl; omega)
      have hb1 : lo ≤ (lo + hi) / 2 := by omega
      have hb2 : (lo + hi) / 2 < hi := by omega
      generalize (lo + hi) / 2 = mid at *
      obtain ⟨x, hx⟩ : ∃ x, xs[mid] = x := ⟨_, rfl⟩
      have hx' : xs[mid]? = some x := by simp [hml, hx]
      simp -implicitDefEqProofs [h0, h5, h6, h7, h8, hlt', hlt, hm, hml, hml', irow, hx, intsD]
      refine callThen_of (cmp_Less x id) ?_
      simp -implicitDefEqProofs
      refine condC_dec (fun hc => ?_) (fun hc => ?_)
      all_goals simp -implicitDefEqProofs [h0, h5, h6, h7, h8, hc, hw, intsD]
      · have : mid < at_ := by
          apply Classical.byContradiction
          intro hx2
          have := hhi mid x (by omega) hx'
          omega
        exact ⟨mid + 1, hi, by omega, by omega, by omega, by omega, by simp, by simp⟩
      · have : at_ ≤ mid := by
          apply Classical.byContradiction
          intro hx2
          have := hlo mid x (by omega) hx'
          omega
        exact ⟨lo, mid, by omega, by omega, by omega, by omega, by simp, by simp⟩
    · have e1 : lo = at_ := by omega
      have e2 : hi = at_ := by omega
      simp -implicitDefEqProofs [h0, h5, h6, h7, h8, e1, e2]
  · rintro ⟨fr, bs⟩ ⟨rfl, h0, h1, h6, h7⟩
    simp -implicitDefEqProofs [h0, h1, h6, h7]
    refine gOps_dec (fun hc => ?_) (fun hc => ?_)
    · obtain ⟨x, hx⟩ : ∃ x, xs[at_] = x := ⟨_, rfl⟩
      simp -implicitDefEqProofs [h0, h1, h6, h7, hc, irow, hx, intsD]
      repeat' (first | (refine callThen_of (by first | exact slices_isNaN _) ?_; simp -implicitDefEqProofs [*, h0, h1, h6, h7, hc, irow, hx, intsD]) | (with_reducible refine gOps_dec (fun _ => ?_) (fun _ => ?_) <;> simp -implicitDefEqProofs [*, h0, h1, h6, h7, hc, irow, hx, intsD]) | (with_reducible refine gOps_ndec (fun _ => ?_) (fun _ => ?_) <;> simp -implicitDefEqProofs [*, h0, h1, h6, h7, hc, irow, hx, intsD]) | (with_reducible refine gOps_and (fun hq => ?_) (fun hq => ?_) <;> (try simp at hq) <;> simp -implicitDefEqProofs [*, h0, h1, h6, h7, hc, irow, hx, intsD]) | (with_reducible refine gOps_or (fun hq => ?_) (fun hq => ?_) <;> (try simp at hq) <;> simp -implicitDefEqProofs [*, h0, h1, h6, h7, hc, irow, hx, intsD]) | (with_reducible refine gOps_not (fun hq => ?_) (fun hq => ?_) <;> (try simp at hq) <;> simp -implicitDefEqProofs [*, h0, h1, h6, h7, hc, irow, hx, intsD]) | (with_reducible refine gOps_split (fun hq => ?_) (fun hq => ?_) <;> (try simp at hq) <;> simp -implicitDefEqProofs [*, h0, h1, h6, h7, hc, irow, hx, intsD]) | (with_reducible refine condC_dec (fun _ => ?_) (fun _ => ?_) <;> simp -implicitDefEqProofs [*, h0, h1, h6, h7, hc, irow, hx, intsD]) | (with_reducible refine condC_ndec (fun _ => ?_) (fun _ => ?_) <;> simp -implicitDefEqProofs [*, h0, h1, h6, h7, hc, irow, hx, intsD]) | (with_reducible refine condC_and (fun hq => ?_) (fun hq => ?_) <;> (try simp at hq) <;> simp -implicitDefEqProofs [*, h0, h1, h6, h7, hc, irow, hx, intsD]) | (with_reducible refine condC_or (fun hq => ?_) (fun hq => ?_) <;> (try simp at hq) <;> simp -implicitDefEqProofs [*, h0, h1, h6, h7, hc, irow, hx, intsD]) | (with_reducible refine condC_not (fun hq => ?_) (fun hq => ?_) <;> (try simp at hq) <;> simp -implicitDefEqProofs [*, h0, h1, h6, h7, hc, irow, hx, intsD]) | (with_reducible refine condC_split (fun hq => ?_) (fun hq => ?_) <;> (try simp at hq) <;> simp -implicitDefEqProofs [*, h0, h1, h6, h7, hc, irow, hx, intsD]) | (refine appK2_if (by omega) ?_; simp -implicitDefEqProofs [*, h0, h1, h6, h7, hc, irow, hx, intsD]) | (refine pureV_if (by omega) ?_; simp -implicitDefEqProofs [*, h0, h1, h6, h7, hc, irow, hx, intsD]))
    · have hp : xs[at_]? = none := by rw [List.getElem?_eq_none]; omega
      simp -implicitDefEqProofs [h0, h1, h6, h7, hc, hp, intsD]
  · rintro ⟨fr, bs⟩ h
    exact h.elim
theorem deleteFunc_int (xs : List Int) (g : Nat) (caps : List D) (p : Int → Bool) (hp : TellsI g caps p xs) (hl : xs.length ≤ 1000000) :
    GivesC (DenF PP [0]) 44 (xs.map irow) 1 [.fn g [] caps] ((xs.filter fun x => !p x).map irow) := by
  refine gives_of (fun r hr => by obtain ⟨a, _, rfl⟩ := List.mem_map.1 hr; rfl) (StillR.map _ _ fun a _ d hd => by rw [List.mem_singleton.1 hd]; rfl) fun fl hfl hrow hfs htake hget => ?_
  have hi0 := slices_IndexFunc_int xs (by unfold cap; omega) g caps p hp
  have hi1 : Den PP 56 [.sl fl xs.length, .fn g [] caps] [] (.int .i64 (fIdx p 0 xs)) [] := den_cut (by
    simp only [List.map_cons, List.map_nil, D.cut]
    rw [List.length_map] at htake
    rw [htake]
    exact hi0)
  simp only [List.length_map] at *
  rcases fIdx_spec p xs with ⟨he, hf⟩ | ⟨f, he, hf, hff⟩
  · rw [he] at hi1
    refine ⟨.ref 0 0 xs.length, [⟨fl, 1, .mut⟩], ?_, ?_⟩
    · refine denF_of [] [] [] [] (by simp) (fun _ h => absurd h List.not_mem_nil) is_slices_DeleteFunc_int_int ?_
      simp -implicitDefEqProofs [-leave, c_slices_DeleteFunc_int_int, hp.2.1]
      refine callThen_of hi1 ?_
      simp -implicitDefEqProofs [-leave, hp.2.1]
      rw [leave_lent (by omega) (by simpa using hfs)]
      rfl
    · rw [hf]
      exact outRows_of rfl rfl rfl (by simpa using hfl) (by simpa using htake.symm) (.inl rfl)
  · rw [he] at hi1
    have hfl' : f < fl.length := by omega
    have hw := wrap_next (n := f) (by omega)
    have hne : ¬ (f : Int) = -1 := by omega
    have hm1 := List.length_filter_le (fun x => !p x) xs
    obtain ⟨m, hm⟩ : ∃ m, (xs.filter fun x => !p x).length = m := ⟨_, rfl⟩
    rw [hm] at hm1
    have hcells : ∀ k, k < xs.length → fl[k]? = (xs[k]?).map irow := by
      intro k hk
      rw [hget k hk, List.getElem?_map]
    refine ⟨.ref 0 0 m, [⟨(xs.filter fun x => !p x).map irow ++ List.replicate (xs.length - m) [.int .i64 0] ++ fl.drop xs.length, 1, .mut⟩], ?_, ?_⟩
    · refine denF_of [] [] [] [] (by simp) (fun _ h => absurd h List.not_mem_nil) is_slices_DeleteFunc_int_int ?_
      simp -implicitDefEqProofs [-leave, c_slices_DeleteFunc_int_int, hp.2.1]
      refine callThen_of hi1 ?_
      simp -implicitDefEqProofs [-leave, hp.2.1, hne, hw]
      refine loop_rule (xs.length - (f + 1)) (fun q ⟨fr, bs⟩ => ∃ (i j : Nat) (cur : List (List D)), bs = [⟨cur, 1, .mut⟩, ⟨[], 1, .mut⟩] ∧ xs.length - j ≤ q ∧ j ≤ xs.length ∧ i < j ∧ cur.length = fl.length ∧ StillR cur ∧
          (∀ r ∈ cur, r.length = 1) ∧ cur.take i = ((xs.take j).filter fun x => !p x).map irow ∧ cur.drop j = fl.drop j ∧ fr 0 = .ref 0 0 xs.length ∧ fr 1 = .fn g [] caps ∧ fr 5 = .int .i64 i ∧ fr 6 = .int .i64 j)
        (fun ⟨fr, bs⟩ => ∃ cur : List (List D), bs = [⟨cur, 1, .mut⟩, ⟨[], 1, .mut⟩] ∧ m < xs.length ∧ cur.length = fl.length ∧ StillR cur ∧ cur.take m = (xs.filter fun x => !p x).map irow ∧ cur.drop xs.length = fl.drop xs.length ∧ fr 0 = .ref 0 0 xs.length ∧ fr 5 = .int .i64 m)
        (fun _ => False) c_slices_DeleteFunc_int_int_L0.eq_1 ?_ ?_ ?_ ?_ ?_
      · refine ⟨f, f + 1, fl, rfl, by omega, by omega, by omega, rfl, hfs, hrow, ?_, rfl, rfl, rfl, rfl, rfl⟩
        rw [hff, List.map_take, ← htake, List.take_take]
        congr 1
        omega
      · rintro ⟨fr, bs⟩ ⟨i, j, cur, rfl, hq, hj, hij, hcl, hcs, hcr, hct, hcd, h0, h1, h5, h6⟩
        have hje : j = xs.length := by omega
        subst hje
        rw [List.take_length] at hct
        have him : i = m := by
          have := congrArg List.length hct
          simp at this
          omega
        subst him
        simp -implicitDefEqProofs [-leave, h0, h1, h5, h6]
        exact ⟨hij, hcl, hcs, hct, hcd⟩
      · rintro q ⟨fr, bs⟩ ⟨i, j, cur, rfl, hq, hj, hij, hcl, hcs, hcr, hct, hcd, h0, h1, h5, h6⟩
        by_cases hjx : j = xs.length
        · subst hjx
          rw [List.take_length] at hct
          have him : i = m := by
            have := congrArg List.length hct
            simp at this
            omega
          subst him
          simp -implicitDefEqProofs [-leave, h0, h1, h5, h6]
          exact ⟨hij, hcl, hcs, hct, hcd⟩
        · have hjl : j < xs.length := by omega
          have hjl' : (j : Int) < xs.length := by omega
          obtain ⟨x, hx⟩ : ∃ x, xs[j] = x := ⟨_, rfl⟩
          have hx' : xs[j]? = some x := by simp [hjl, hx]
          have hcj : cur[j]? = some [.int .i64 x] := by
            have h7 : (cur.drop j)[0]? = (fl.drop j)[0]? := by rw [hcd]
            rw [List.getElem?_drop, List.getElem?_drop, Nat.add_zero, hcells j hjl, hx'] at h7
            exact h7
          have hwj := wrap_next (n := j) (by omega)
          have hwi := wrap_next (n := i) (by omega)
          have hil' : (i : Int) < xs.length := by omega
          obtain ⟨r0, hr0⟩ : ∃ r0, cur[i]? = some r0 := ⟨cur[i]'(by omega), by simp⟩
          have hr0l : r0.length = 1 := hcr r0 (List.mem_of_getElem? hr0)
          obtain ⟨d0, rfl⟩ := List.length_eq_one_iff.1 hr0l
          have hsw := hcs.sweep
          have hicl : i < cur.length := by omega
          have htk : xs.take (j + 1) = xs.take j ++ [x] := by rw [List.take_add_one, hx']; rfl
          simp -implicitDefEqProofs [-leave, h0, h1, h5, h6, hjl', hcj, hp.1, hp.2.1]
          refine callThen_of (hp.2.2 x (List.mem_of_getElem? hx')) ?_
          simp -implicitDefEqProofs [-leave]
          refine condC_not (fun hpx => ?_) (fun hpx => ?_)
          all_goals simp -implicitDefEqProofs [-leave, h0, h1, h5, h6, hwi, hwj, hil', hr0, hp.1, hp.2.1, hsw]
          · refine ⟨i, j + 1, ?_⟩
            simp
            refine ⟨by omega, by omega, by omega, hcl, hcs, hcr, ?_, ?_⟩
            · rw [htk, List.filter_append, hct]
              simp [hpx]
            · rw [← List.drop_drop, ← List.drop_drop, hcd]
          · refine ⟨i + 1, j + 1, ?_⟩
            simp
            refine ⟨by omega, by omega, by omega, hcl, hcs.set (by simp [D.still]) i, ?_, ?_, ?_⟩
            · intro r hr
              rcases List.mem_or_eq_of_mem_set hr with h | h
              · exact hcr r h
              · rw [h]; rfl
            · rw [htk, List.filter_append, List.map_append, ← hct, List.take_add_one]
              simp [hpx, irow, List.take_set, hicl]
              rw [List.set_eq_of_length_le (by simp; omega)]
            · rw [List.drop_set_of_lt (by omega), ← List.drop_drop, ← List.drop_drop, hcd]
      · rintro ⟨fr, bs⟩ ⟨cur, rfl, hlt, hcl, hcs, hct, hcd, h0, h5⟩
        simp -implicitDefEqProofs [-leave, h0, h5]
        refine outK_slice (m) (xs.length) (by simp; rfl) rfl (by first | rfl | omega | (simp [boundD]; done) | (simp [boundD]; omega) | (simp; done) | (simp; omega)) (by first | rfl | omega | (simp [boundD]; done) | (simp [boundD]; omega) | (simp; done) | (simp; omega)) (by omega) (by first | rfl | omega | (simp [boundD]; done) | (simp [boundD]; omega) | (simp; done) | (simp; omega)) rfl (by first | rfl | omega | (simp [boundD]; done) | (simp [boundD]; omega) | (simp; done) | (simp; omega)) ?_
        simp -implicitDefEqProofs [-leave, h0, h5]
        try refine overK_if (by first | omega | (simp; done) | (simp; omega)) ?_
        try simp -implicitDefEqProofs [-leave, h0, h5]
        have hov := ovr_length (rows := cur) (p := m) (ys := List.replicate (xs.length - m) [D.int IntKind.i64 0]) (by simp; omega)
        refine outK_slice (0) (m) (by simp; rfl) rfl (by first | rfl | omega | (simp [boundD]; done) | (simp [boundD]; omega) | (simp; done) | (simp; omega)) (by first | rfl | omega | (simp [boundD]; done) | (simp [boundD]; omega) | (simp; done) | (simp; omega)) (by omega) (by first | rfl | omega | (simp [boundD]; done) | (simp [boundD]; omega) | (simp; done) | (simp; omega)) rfl (by first | rfl | omega | (simp [boundD]; done) | (simp [boundD]; omega) | (simp; done) | (simp; omega)) ?_
        simp -implicitDefEqProofs [-leave, h0, h5]
        rw [leave_lent (by omega) (by simpa using hcs.ovr (b := List.replicate (xs.length - m) [D.int IntKind.i64 0]) (fun r hr d hd => by rw [(List.mem_replicate.1 hr).2] at hd; rw [List.mem_singleton.1 hd]; rfl) m)]
        simp only [List.take_succ_cons, List.take_zero, ovr, List.length_replicate, hct, show m + (xs.length - m) = xs.length by omega, hcd, List.append_assoc]
      · rintro ⟨fr, bs⟩ h
        exact h.elim
    · refine outRows_of rfl rfl rfl ?_ ?_ (.inl rfl)
      · simp; omega
      · rw [List.drop_zero, List.append_assoc, List.take_left' (by simpa using hm)]
theorem passive_With (xs : List Int) (id : Int) (hl : xs.length ≤ cap) : Den PP 14 [intsD xs, .int .i64 id] [] (.tup [.ref 0 0 (withP xs id).1.length, .int .i64 (withP xs id).2]) [⟨(withP xs id).1.map irow, 1, .mut⟩] := by
  have c1 := passive_May xs hl
  have c2 := fun h : xs.length ≤ 16 => clone_int (xs.map irow) (by simp) (by simp; omega)
  have c3 := fun h => bsearch_int xs id hl h
  simp only [intsD, List.length_map] at c1 c2 c3
  refine den_ofG [25, 31] [31] [31] [] (fun _ h => absurd h List.not_mem_nil) is_passive_With ?_
  simp -implicitDefEqProofs [c_passive_With, intsD]
  refine callThen_of c1 ?_
  simp -implicitDefEqProofs
  refine gOps_split (fun h1 => ?_) (fun h1 => ?_)
  rotate_left
  · simp -implicitDefEqProofs [h1, withP]
  obtain ⟨hr, hp, h16⟩ := (passiveMay_iff xs).1 h1
  simp -implicitDefEqProofs [h1]
  refine callThen_of (ring_Place id) ?_
  simp -implicitDefEqProofs
  refine condC_not (fun h2 => ?_) (fun h2 => ?_)
  rotate_left
  · simp -implicitDefEqProofs [h1, h2, withP]
  simp -implicitDefEqProofs [h1, h2]
  refine callThen_of (c3 hr) ?_
  simp -implicitDefEqProofs
  refine condC_dec (fun h3 => ?_) (fun h3 => ?_)
  · have h4 := (posI_mem hr).1 h3
    simp -implicitDefEqProofs
    refine callThen_of (c2 h16) ?_
    simp -implicitDefEqProofs [h1, h2, h4, withP]
  · have h4 : ¬ id ∈ xs := fun h => h3 ((posI_mem hr).2 h)
    simp -implicitDefEqProofs
    refine condC_dec (fun h5 => ?_) (fun h5 => ?_)
    · have h5' : xs.length = 16 := by omega
      simp -implicitDefEqProofs [h1, h2, h4, h5', withP]
    · have h5' : ¬ xs.length = 16 := by omega
      simp -implicitDefEqProofs
      refine callThen_of (c2 h16) ?_
      simp -implicitDefEqProofs
      refine giveThen_of rfl (by simp) (by simp) (by simp) (insert_int (xs.map irow) (irow id) (posI xs id) (by simp) (StillR.map _ _ fun a _ d hd => by rw [List.mem_singleton.1 hd]; rfl) (by intro r hr; rw [List.mem_singleton.1 hr]; exact ⟨rfl, rfl⟩) (by intro d hd; rw [List.mem_singleton.1 hd]; rfl) (by simpa using posI_le xs id) (by simp; omega)) ?_
      rw [← insL_map, insL_insU]
      simp -implicitDefEqProofs [downTo, h1, h2, h4, h5', withP]
theorem passive_Without_1 (id a : Int) : Den PP 43 [.int .i64 a, .mem [.int .i64 id]] [] (.bool (decide (a = id))) [] := by
  refine den_of [] [] is_passive_Without_1 ?_
  simp -implicitDefEqProofs [c_passive_Without_1]
theorem passive_Without (xs : List Int) (id : Int) (hl : xs.length ≤ cap) : Den PP 16 [intsD xs, .int .i64 id] [] (.tup [.ref 0 0 (withoutP xs id).1.length, .int .i64 (withoutP xs id).2]) [⟨(withoutP xs id).1.map irow, 1, .mut⟩] := by
  have c1 := passive_May xs hl
  have c2 := fun h : xs.length ≤ 16 => clone_int (xs.map irow) (by simp) (by simp; omega)
  have c3 := fun h : xs.length ≤ 16 => deleteFunc_int xs 43 [.mem [.int .i64 id]] (fun a => decide (a = id)) ⟨fun _ => rfl, fun _ _ => rfl, fun a _ => passive_Without_1 id a⟩ (by omega)
  simp only [intsD, List.length_map] at c1 c2
  refine den_ofG [17] [17] [17] [] (fun _ h => absurd h List.not_mem_nil) is_passive_Without ?_
  simp -implicitDefEqProofs [c_passive_Without, intsD]
  refine callThen_of c1 ?_
  simp -implicitDefEqProofs
  refine gOps_split (fun h1 => ?_) (fun h1 => ?_)
  rotate_left
  · simp -implicitDefEqProofs [h1, withoutP]
  obtain ⟨hr, hp, h16⟩ := (passiveMay_iff xs).1 h1
  simp -implicitDefEqProofs [h1]
  refine callThen_of (ring_Place id) ?_
  simp -implicitDefEqProofs
  refine condC_not (fun h2 => ?_) (fun h2 => ?_)
  rotate_left
  · simp -implicitDefEqProofs [h1, h2, withoutP]
  simp -implicitDefEqProofs [h1, h2]
  refine callThen_of (c2 h16) ?_
  simp -implicitDefEqProofs
  refine giveThen_of rfl (by simp) (by simp) (by simp) (c3 h16) ?_
  simp -implicitDefEqProofs [downTo, h1, h2, withoutP]
end Go.AM
/- AM: contracts: the document's answers about views, more. -/
namespace Go.AM
set_option linter.unusedSimpArgs false
set_option linter.unusedVariables false
set_option maxRecDepth 8000
set_option maxHeartbeats 0
end Go.AM
/- AM: contracts: items, stores, nodes. -/
namespace Go.AM
set_option linter.unusedSimpArgs false
set_option linter.unusedVariables false
set_option maxRecDepth 8000
set_option maxHeartbeats 0
end Go.AM
/- AM: contracts: nodes, sharing. -/
namespace Go.AM
set_option linter.unusedSimpArgs false
set_option linter.unusedVariables false
set_option maxRecDepth 8000
set_option maxHeartbeats 0
end Go.AM
/- AM: contracts: what the statements' own helpers do with items, messages, nodes. -/
namespace Go.AM
set_option linter.unusedSimpArgs false
set_option linter.unusedVariables false
set_option maxRecDepth 8000
set_option maxHeartbeats 0
theorem law_SpoilInts_nil : Den PP 22 [.nil] [] (.tup []) [] := by
  refine den_of [] [] is_gimmallaw0_SpoilInts ?_
  simp -implicitDefEqProofs [c_gimmallaw0_SpoilInts]
  refine loop_rule 0 (fun _ ⟨fr, bs⟩ => bs = [] ∧ fr 0 = .nil ∧ fr 2 = .int .i64 0) (fun ⟨fr, bs⟩ => bs = []) (fun _ => False) c_gimmallaw0_SpoilInts_L0.eq_1 ?_ ?_ ?_ ?_ ?_
  · exact ⟨rfl, rfl, rfl⟩
  · rintro ⟨fr, bs⟩ ⟨rfl, h0, h2⟩
    simp -implicitDefEqProofs [h0, h2]
  · rintro m ⟨fr, bs⟩ ⟨rfl, h0, h2⟩
    simp -implicitDefEqProofs [h0, h2]
  · rintro ⟨fr, bs⟩ rfl
    simp -implicitDefEqProofs
  · rintro ⟨fr, bs⟩ h
    exact h.elim
end Go.AM
/- AM: contracts: what the statements' helpers do with slices. -/
namespace Go.AM
set_option linter.unusedSimpArgs false
set_option linter.unusedVariables false
set_option maxRecDepth 8000
set_option maxHeartbeats 0
theorem copy_Int (rows : List (List D)) (hf : Fits 1 rows) (hl : rows.length * 8 ≤ 140737488355328) : Den PP 36 [.sl rows rows.length] [] (.ref 0 0 rows.length) [⟨rows, 1, .mut⟩] := by
  have h63 : rows.length ≤ 9223372036854775807 := by omega
  refine den_of [] [] is_gimmallaw0_CopyInts ?_
  simp -implicitDefEqProofs [c_gimmallaw0_CopyInts, List.take_of_length_le (Nat.le_refl rows.length), hf, hl, h63]
theorem lend_Int (xs : List Int) (hl : xs.length * 8 ≤ 140737488351232) : Den PP 13 [.sl (xs.map irow) xs.length] [] (.ref 0 0 xs.length) [⟨xs.map irow ++ [(-7777), (-8888)].map irow, 1, .mut⟩] := by
  have c1 := copy_Int (xs.map irow) (by simp) (by simp; omega)
  simp only [List.length_map] at c1
  refine den_of [5] [] is_gimmallaw0_LendInts ?_
  simp -implicitDefEqProofs [c_gimmallaw0_LendInts]
  refine callThen_of c1 ?_
  simp -implicitDefEqProofs [downTo]
  refine ⟨by simp [Fits], ?_⟩
  try refine appK2_if (by omega) ?_
  simp -implicitDefEqProofs [downTo]
  refine outK_slice 0 xs.length (by simp; rfl) rfl (by first | rfl | omega | (simp [boundD]; done) | (simp [boundD]; omega) | (simp; done) | (simp; omega)) (by first | rfl | omega | (simp [boundD]; done) | (simp [boundD]; omega) | (simp; done) | (simp; omega)) (by omega) (by first | rfl | omega | (simp [boundD]; done) | (simp [boundD]; omega) | (simp; done) | (simp; omega)) rfl (by first | rfl | omega | (simp [boundD]; done) | (simp [boundD]; omega) | (simp; done) | (simp; omega)) ?_
  simp -implicitDefEqProofs [downTo, irow]
theorem kept_Int (xs : List Int) (hl : xs.length * 8 ≤ 140737488351232) : Den PP 23 [.sl (xs.map irow ++ [(-7777), (-8888)].map irow) xs.length, .sl (xs.map irow) xs.length] [] (.bool true) [] := by
  have c1 : Den PP 18 [.sl (xs.map irow ++ [(-7777), (-8888)].map irow) xs.length, .sl (xs.map irow) xs.length] [] (.bool true) [] := den_cut (by
    have := law_SameInts xs xs (by unfold cap; omega)
    simpa [intsD] using this)
  have hw : IntKind.wrap .i64 ((xs.length : Int) + 2) = ((xs.length + 2 : Nat) : Int) := by rw [wrap_in (by omega) (by omega)]; omega
  have hw1 : IntKind.wrap .i64 ((xs.length : Int) + 1) = ((xs.length + 1 : Nat) : Int) := by rw [wrap_in (by omega) (by omega)]; omega
  have g1 : ((xs.map irow) ++ [(-7777), (-8888)].map irow)[xs.length]? = some (irow (-7777)) := by rw [List.getElem?_append_right (by simp)]; simp
  have g2 : ((xs.map irow) ++ [(-7777), (-8888)].map irow)[xs.length + 1]? = some (irow (-8888)) := by rw [List.getElem?_append_right (by simp)]; simp
  generalize hq : (xs.map irow) ++ [(-7777), (-8888)].map irow = q at *
  have hql : q.length = xs.length + 2 := by rw [← hq]; simp
  have hqr : ∀ r ∈ q, r.length = 1 := by
    intro r hr
    rw [← hq, ← List.map_append] at hr
    obtain ⟨a, _, rfl⟩ := List.mem_map.1 hr
    rfl
  have n1 : ((xs.length : Int) < (xs.length : Int) + 2) := by omega
  have n2 : ((xs.length : Int) + 1 < (xs.length : Int) + 2) := by omega
  have n3 : (((xs.length + 1 : Nat) : Int)).toNat = xs.length + 1 := by omega
  refine den_of [] [] is_gimmallaw0_KeptInts ?_
  simp -implicitDefEqProofs [c_gimmallaw0_KeptInts, hw]
  refine outK_sliceS 0 (xs.length + 2) (by simp; rfl) (by first | rfl | omega | (simp [boundD]; done) | (simp [boundD]; omega) | (simp; done) | (simp; omega)) (by first | rfl | omega | (simp [boundD]; done) | (simp [boundD]; omega) | (simp; done) | (simp; omega)) (by omega) (by omega) (by simpa using hqr) ?_
  simp -implicitDefEqProofs [hw, hw1]
  refine callThen_of c1 ?_
  simp -implicitDefEqProofs [hw, hw1, g1, g2, irow, n1, n2, n3, EQS]
  refine pureV_if (by omega) ?_
  simp -implicitDefEqProofs [hw, hw1, g1, g2, irow, n1, n2, n3, EQS]
def spoilInt (a : Int) : Int := IntKind.wrap .i64 (-9 - a)
theorem spoil_Int (xs : List Int) (hl : xs.length ≤ cap16) : Den PP 22 [.ref 0 0 xs.length] [⟨xs.map irow, 1, .mut⟩] (.tup []) [⟨(xs.map spoilInt).map irow, 1, .mut⟩] := by
  unfold cap16 at hl
  refine den_of [] [] is_gimmallaw0_SpoilInts ?_
  simp -implicitDefEqProofs [c_gimmallaw0_SpoilInts]
  refine list_rule xs (fun i rest => fun ⟨fr, bs⟩ => ∃ done, bs = [⟨(done ++ rest).map irow, 1, .mut⟩] ∧ done.length = i ∧ done ++ rest.map spoilInt = xs.map spoilInt ∧ fr 0 = .ref 0 0 xs.length ∧ fr 2 = .int .i64 i)
    (fun ⟨fr, bs⟩ => bs = [⟨(xs.map spoilInt).map irow, 1, .mut⟩]) (fun ⟨fr, bs⟩ => False) c_gimmallaw0_SpoilInts_L0.eq_1 ?_ ?_ ?_ ?_ ?_
  · exact ⟨[], rfl, rfl, rfl, rfl, rfl⟩
  · rintro i ⟨fr, bs⟩ hi ⟨done, rfl, hd, he, h0, h2⟩
    simp -implicitDefEqProofs [h0, h2, hi]
    simp at he
    simp [he]
  · rintro i a rest ⟨fr, bs⟩ hlt hget hg hd hd2 ⟨done, rfl, hdl, he, h0, h2⟩
    have hlt' : (i : Int) < xs.length := by omega
    have hw := wrap_next (n := i) (by omega)
    have h3 : ∀ (A B : List (List D)) r, A.length = i → (A ++ r :: B)[i]? = some r := by intro A B r h; simp [← h]
    have h4 : ∀ (A B : List (List D)) r r', A.length = i → (A ++ r' :: B).set i r = A ++ r :: B := by intro A B r r' h; simp [← h]
    simp -implicitDefEqProofs [h0, h2, hlt', h3, h4, hdl, irow, hw, reach, downTo]
    exact ⟨done ++ [spoilInt a], by first | (simp [irow, spoilInt]; done) | (simp [irow, spoilInt]; rfl), by simp [hdl], by simpa using he⟩
  · rintro ⟨fr, bs⟩ rfl
    try simp -implicitDefEqProofs
  · rintro ⟨fr, bs⟩ h
    exact h.elim
theorem copy_Peer (rows : List (List D)) (hf : Fits 2 rows) (hl : rows.length * 16 ≤ 140737488355328) : Den PP 46 [.sl rows rows.length] [] (.ref 0 0 rows.length) [⟨rows, 2, .mut⟩] := by
  have h63 : rows.length ≤ 9223372036854775807 := by omega
  refine den_of [] [] is_gimmallaw0_CopyPeers ?_
  simp -implicitDefEqProofs [c_gimmallaw0_CopyPeers, List.take_of_length_le (Nat.le_refl rows.length), hf, hl, h63]
theorem lend_Peer (xs : List Peer) (hl : xs.length * 16 ≤ 140737488351232) : Den PP 25 [.sl (xs.map Peer.row) xs.length] [] (.ref 0 0 xs.length) [⟨xs.map Peer.row ++ [(⟨0, 77777⟩ : Peer), (⟨0, 77777⟩ : Peer)].map Peer.row, 2, .mut⟩] := by
  have c1 := copy_Peer (xs.map Peer.row) (by simp) (by simp; omega)
  simp only [List.length_map] at c1
  refine den_of [5] [] is_gimmallaw0_LendPeers ?_
  simp -implicitDefEqProofs [c_gimmallaw0_LendPeers]
  refine callThen_of c1 ?_
  simp -implicitDefEqProofs [downTo]
  refine ⟨by simp [Fits], ?_⟩
  try refine appK2_if (by omega) ?_
  simp -implicitDefEqProofs [downTo]
  refine outK_slice 0 xs.length (by simp; rfl) rfl (by first | rfl | omega | (simp [boundD]; done) | (simp [boundD]; omega) | (simp; done) | (simp; omega)) (by first | rfl | omega | (simp [boundD]; done) | (simp [boundD]; omega) | (simp; done) | (simp; omega)) (by omega) (by first | rfl | omega | (simp [boundD]; done) | (simp [boundD]; omega) | (simp; done) | (simp; omega)) rfl (by first | rfl | omega | (simp [boundD]; done) | (simp [boundD]; omega) | (simp; done) | (simp; omega)) ?_
  simp -implicitDefEqProofs [downTo, Peer.row]
theorem kept_Peer (xs : List Peer) (hl : xs.length * 16 ≤ 140737488351232) : Den PP 34 [.sl (xs.map Peer.row ++ [(⟨0, 77777⟩ : Peer), (⟨0, 77777⟩ : Peer)].map Peer.row) xs.length, .sl (xs.map Peer.row) xs.length] [] (.bool true) [] := by
  have c1 : Den PP 30 [.sl (xs.map Peer.row ++ [(⟨0, 77777⟩ : Peer), (⟨0, 77777⟩ : Peer)].map Peer.row) xs.length, .sl (xs.map Peer.row) xs.length] [] (.bool true) [] := den_cut (by
    have := law_SamePeers xs xs (by unfold cap; omega)
    simpa [peersD] using this)
  have hw : IntKind.wrap .i64 ((xs.length : Int) + 2) = ((xs.length + 2 : Nat) : Int) := by rw [wrap_in (by omega) (by omega)]; omega
  have hw1 : IntKind.wrap .i64 ((xs.length : Int) + 1) = ((xs.length + 1 : Nat) : Int) := by rw [wrap_in (by omega) (by omega)]; omega
  have g1 : ((xs.map Peer.row) ++ [(⟨0, 77777⟩ : Peer), (⟨0, 77777⟩ : Peer)].map Peer.row)[xs.length]? = some (Peer.row (⟨0, 77777⟩ : Peer)) := by rw [List.getElem?_append_right (by simp)]; simp
  have g2 : ((xs.map Peer.row) ++ [(⟨0, 77777⟩ : Peer), (⟨0, 77777⟩ : Peer)].map Peer.row)[xs.length + 1]? = some (Peer.row (⟨0, 77777⟩ : Peer)) := by rw [List.getElem?_append_right (by simp)]; simp
  generalize hq : (xs.map Peer.row) ++ [(⟨0, 77777⟩ : Peer), (⟨0, 77777⟩ : Peer)].map Peer.row = q at *
  have hql : q.length = xs.length + 2 := by rw [← hq]; simp
  have hqr : ∀ r ∈ q, r.length = 2 := by
    intro r hr
    rw [← hq, ← List.map_append] at hr
    obtain ⟨a, _, rfl⟩ := List.mem_map.1 hr
    rfl
  have n1 : ((xs.length : Int) < (xs.length : Int) + 2) := by omega
  have n2 : ((xs.length : Int) + 1 < (xs.length : Int) + 2) := by omega
  have n3 : (((xs.length + 1 : Nat) : Int)).toNat = xs.length + 1 := by omega
  refine den_of [] [] is_gimmallaw0_KeptPeers ?_
  simp -implicitDefEqProofs [c_gimmallaw0_KeptPeers, hw]
  refine outK_sliceS 0 (xs.length + 2) (by simp; rfl) (by first | rfl | omega | (simp [boundD]; done) | (simp [boundD]; omega) | (simp; done) | (simp; omega)) (by first | rfl | omega | (simp [boundD]; done) | (simp [boundD]; omega) | (simp; done) | (simp; omega)) (by omega) (by omega) (by simpa using hqr) ?_
  simp -implicitDefEqProofs [hw, hw1]
  refine callThen_of c1 ?_
  simp -implicitDefEqProofs [hw, hw1, g1, g2, Peer.row, n1, n2, n3, EQS]
  refine pureV_if (by omega) ?_
  simp -implicitDefEqProofs [hw, hw1, g1, g2, Peer.row, n1, n2, n3, EQS]
def spoilPeer (a : Peer) : Peer := { a with missed := (IntKind.wrap .i64 (BitVec.ofInt IntKind.i64.bits a.missed ^^^ BitVec.ofInt IntKind.i64.bits 90).toNat) }
theorem spoil_Peer (xs : List Peer) (hl : xs.length ≤ cap16) : Den PP 33 [.ref 0 0 xs.length] [⟨xs.map Peer.row, 2, .mut⟩] (.tup []) [⟨(xs.map spoilPeer).map Peer.row, 2, .mut⟩] := by
  unfold cap16 at hl
  refine den_of [] [] is_gimmallaw0_SpoilPeers ?_
  simp -implicitDefEqProofs [c_gimmallaw0_SpoilPeers]
  refine list_rule xs (fun i rest => fun ⟨fr, bs⟩ => ∃ done, bs = [⟨(done ++ rest).map Peer.row, 2, .mut⟩] ∧ done.length = i ∧ done ++ rest.map spoilPeer = xs.map spoilPeer ∧ fr 0 = .ref 0 0 xs.length ∧ fr 2 = .int .i64 i)
    (fun ⟨fr, bs⟩ => bs = [⟨(xs.map spoilPeer).map Peer.row, 2, .mut⟩]) (fun ⟨fr, bs⟩ => False) c_gimmallaw0_SpoilPeers_L0.eq_1 ?_ ?_ ?_ ?_ ?_
  · exact ⟨[], rfl, rfl, rfl, rfl, rfl⟩
  · rintro i ⟨fr, bs⟩ hi ⟨done, rfl, hd, he, h0, h2⟩
    simp -implicitDefEqProofs [h0, h2, hi]
    simp at he
    simp [he]
  · rintro i a rest ⟨fr, bs⟩ hlt hget hg hd hd2 ⟨done, rfl, hdl, he, h0, h2⟩
    have hlt' : (i : Int) < xs.length := by omega
    have hw := wrap_next (n := i) (by omega)
    have h3 : ∀ (A B : List (List D)) r, A.length = i → (A ++ r :: B)[i]? = some r := by intro A B r h; simp [← h]
    have h4 : ∀ (A B : List (List D)) r r', A.length = i → (A ++ r' :: B).set i r = A ++ r :: B := by intro A B r r' h; simp [← h]
    simp -implicitDefEqProofs [h0, h2, hlt', h3, h4, hdl, Peer.row, hw, reach, downTo]
    exact ⟨done ++ [spoilPeer a], by first | (simp [Peer.row, spoilPeer]; done) | (simp [Peer.row, spoilPeer]; rfl), by simp [hdl], by simpa using he⟩
  · rintro ⟨fr, bs⟩ rfl
    try simp -implicitDefEqProofs
  · rintro ⟨fr, bs⟩ h
    exact h.elim
end Go.AM
/- Plain law: where a search by a comparison ends; stores by it. -/
namespace Go.AM
set_option linter.unusedSimpArgs false
set_option linter.unusedVariables false

/-- How many at the front are below. -/
def posC {α : Type} (c : α → Int) (xs : List α) : Nat := (xs.takeWhile fun x => decide (c x < 0)).length
/-- Is the one there it? -/
def atC {α : Type} (c : α → Int) (xs : List α) : Bool := (xs[posC c xs]?).any fun x => decide (c x = 0)
/-- Ahead of one that is below all are. -/
def MonoC {α : Type} (c : α → Int) (xs : List α) : Prop := ∀ (i j : Nat) (x y : α), i ≤ j → xs[i]? = some x → xs[j]? = some y → c y < 0 → c x < 0
theorem posC_nil {α : Type} (c : α → Int) : posC c [] = 0 := rfl
theorem posC_cons {α : Type} (c : α → Int) (a : α) (xs : List α) : posC c (a :: xs) = if c a < 0 then posC c xs + 1 else 0 := by
  unfold posC
  rw [List.takeWhile_cons]
  by_cases h : c a < 0 <;> simp [h]
theorem atC_nil {α : Type} (c : α → Int) : atC c [] = false := rfl
theorem atC_cons {α : Type} (c : α → Int) (a : α) (xs : List α) : atC c (a :: xs) = if c a < 0 then atC c xs else decide (c a = 0) := by
  unfold atC
  rw [posC_cons]
  by_cases h : c a < 0 <;> simp [h]
theorem posC_le {α : Type} (c : α → Int) (xs : List α) : posC c xs ≤ xs.length := by
  induction xs with
  | nil => simp [posC]
  | cons a xs ih => rw [posC_cons]; split <;> simp <;> omega
theorem posC_lo {α : Type} (c : α → Int) (xs : List α) : ∀ (i : Nat) (x : α), i < posC c xs → xs[i]? = some x → c x < 0 := by
  induction xs with
  | nil => intro i x h; simp [posC] at h
  | cons a xs ih =>
    intro i x h hx
    rw [posC_cons] at h
    by_cases ha : c a < 0
    · rw [if_pos ha] at h
      cases i with
      | zero => simp at hx; subst hx; exact ha
      | succ i => exact ih i x (by omega) (by simpa using hx)
    · rw [if_neg ha] at h; omega
theorem posC_at {α : Type} (c : α → Int) (xs : List α) : ∀ x, xs[posC c xs]? = some x → 0 ≤ c x := by
  induction xs with
  | nil => intro x h; simp [posC] at h
  | cons a xs ih =>
    intro x hx
    rw [posC_cons] at hx
    by_cases ha : c a < 0
    · rw [if_pos ha] at hx
      exact ih x (by simpa using hx)
    · rw [if_neg ha] at hx
      simp at hx
      subst hx
      omega
theorem posC_hi {α : Type} {c : α → Int} {xs : List α} (hm : MonoC c xs) : ∀ (i : Nat) (x : α), posC c xs ≤ i → xs[i]? = some x → 0 ≤ c x := by
  intro i x hi hx
  apply Classical.byContradiction
  intro hc
  have hlt : posC c xs < xs.length := by
    have := (List.getElem?_eq_some_iff.1 hx).1
    omega
  have h1 : xs[posC c xs]? = some xs[posC c xs] := by simp
  have h2 := hm _ _ _ _ hi h1 hx (by omega)
  have h3 := posC_at c xs _ h1
  omega
theorem atC_true {α : Type} {c : α → Int} {xs : List α} (h : atC c xs = true) : posC c xs < xs.length ∧ ∃ x, xs[posC c xs]? = some x ∧ c x = 0 := by
  unfold atC at h
  cases hx : xs[posC c xs]? with
  | none => rw [hx] at h; cases h
  | some x =>
    rw [hx] at h
    exact ⟨(List.getElem?_eq_some_iff.1 hx).1, x, rfl, by simpa using h⟩

/-- The comparison of an item with a key. -/
def keyC (k : Int) (i : Item) : Int := cmpI i.key k
theorem cmpI_lt (a b : Int) : cmpI a b < 0 ↔ a < b := by unfold cmpI; split <;> (try split) <;> omega
theorem cmpI_eq (a b : Int) : cmpI a b = 0 ↔ a = b := by unfold cmpI; split <;> (try split) <;> omega
theorem risingK_get : ∀ {is : List Item}, risingK is → ∀ (i j : Nat) (x y : Item), i < j → is[i]? = some x → is[j]? = some y → x.key < y.key := by
  intro is
  induction is with
  | nil => intro _ i j x y _ h; simp at h
  | cons a is ih =>
    intro h i j x y hij hx hy
    rw [rising_cons] at h
    cases j with
    | zero => omega
    | succ j =>
      simp at hy
      cases i with
      | zero =>
        simp at hx
        subst hx
        exact h.1 y (List.mem_of_getElem? hy)
      | succ i => exact ih h.2 i j x y (by omega) (by simpa using hx) hy
theorem mono_key {is : List Item} (h : risingK is) (k : Int) : MonoC (keyC k) is := by
  intro i j x y hij hx hy hc
  unfold keyC at hc ⊢
  rw [cmpI_lt] at hc ⊢
  by_cases e : i = j
  · subst e
    rw [hx] at hy
    cases hy
    exact hc
  · have := risingK_get h i j x y (by omega) hx hy
    omega
theorem getS_at : ∀ {is : List Item}, risingK is → ∀ k, getS is k = if atC (keyC k) is then is[posC (keyC k) is]? else none := by
  intro is
  induction is with
  | nil => intro _ k; simp [getS, atC_nil]
  | cons a is ih =>
    intro h k
    rw [rising_cons] at h
    rw [getS_cons, posC_cons, atC_cons]
    simp only [keyC, cmpI_lt, cmpI_eq]
    by_cases h1 : a.key < k
    · rw [if_neg (by omega), if_pos h1, if_pos h1, ih h.2 k]
      simp [keyC]
    · by_cases h2 : a.key = k
      · simp [h1, h2]
      · simp [h1, h2]
        exact getS_above h.1 (by omega)
theorem putS_at (x : Item) : ∀ (is : List Item), (∀ a, is[posC (keyC x.key) is]? = some a → atC (keyC x.key) is = true → putS x is = is.set (posC (keyC x.key) is) (bestI a x)) ∧ (atC (keyC x.key) is = false → putS x is = insL is (posC (keyC x.key) is) x) := by
  intro is
  induction is with
  | nil => exact ⟨fun a h => by simp at h, fun _ => by simp [putS, insL, posC]⟩
  | cons b is ih =>
    rw [posC_cons, atC_cons]
    simp only [keyC, cmpI_lt, cmpI_eq]
    by_cases h1 : b.key < x.key
    · simp only [if_pos h1]
      have e : putS x (b :: is) = b :: putS x is := by
        unfold putS
        rw [if_neg (by omega), if_neg (by omega)]
        cases is <;> simp [putS]
      rw [e]
      exact ⟨fun a ha ht => by rw [ih.1 a (by simpa using ha) ht]; rfl, fun ht => by rw [ih.2 ht]; simp [insL, keyC]⟩
    · simp only [if_neg h1]
      by_cases h2 : b.key = x.key
      · refine ⟨fun a ha _ => ?_, fun ht => by simp [h2] at ht⟩
        simp at ha
        subst ha
        simp [putS, h2]
      · refine ⟨fun a ha ht => by simp [h2] at ht, fun _ => ?_⟩
        have h3 : x.key < b.key := by omega
        simp [putS, h3, insL]
/-- A key's item, of a store that may be. -/
def getR (is : List Item) (k : Int) : Item × Bool := if storeMay is then (match getS is k with | some i => (i, true) | none => (zeroItem, false)) else (zeroItem, false)
end Go.AM
/- Plain law: stores: put twice, in another row. -/
namespace Go.AM
set_option linter.unusedSimpArgs false
set_option linter.unusedVariables false

theorem getS_keyO {is : List Item} {k : Int} : ∀ i, getS is k = some i → i.key = k := fun _ h => (getS_key h).1
theorem joinO_assoc {k : Int} {a b c : Option Item} (ha : ∀ i, a = some i → i.key = k) (hb : ∀ i, b = some i → i.key = k) (hc : ∀ i, c = some i → i.key = k) : joinO (joinO a b) c = joinO a (joinO b c) := by
  cases a with
  | none => cases b <;> rfl
  | some a =>
    cases b with
    | none => cases c <;> rfl
    | some b =>
      cases c with
      | none => rfl
      | some c => simp only [joinO]; rw [bestI_assoc ((ha a rfl).trans (hb b rfl).symm) ((hb b rfl).trans (hc c rfl).symm)]
theorem joinO_key {k : Int} {a b : Option Item} (ha : ∀ i, a = some i → i.key = k) (hb : ∀ i, b = some i → i.key = k) : ∀ i, joinO a b = some i → i.key = k := by
  intro i h
  cases a with
  | none => exact hb i h
  | some a =>
    cases b with
    | none => exact ha i h
    | some b =>
      simp only [joinO, Option.some.injEq] at h
      rcases bestI_or a b with e | e <;> rw [e] at h <;> subst h
      · exact ha _ rfl
      · exact hb _ rfl
theorem some_key {x : Item} {k : Int} (h : k = x.key) : ∀ i, some x = some i → i.key = k := by
  intro i e
  cases e
  exact h.symm
theorem putS_swap {is : List Item} (hr : risingK is) (x y : Item) : putS x (putS y is) = putS y (putS x is) := by
  refine getS_ext _ _ (putS_rising (putS_rising hr)) (putS_rising (putS_rising hr)) fun k => ?_
  rw [getS_putS x _ (putS_rising hr), getS_putS y _ hr, getS_putS y _ (putS_rising hr), getS_putS x _ hr]
  by_cases h1 : k = x.key <;> by_cases h2 : k = y.key
  · rw [if_pos h1, if_pos h2, if_pos h2, if_pos h1, joinO_assoc getS_keyO (some_key h2) (some_key h1), joinO_assoc getS_keyO (some_key h1) (some_key h2), joinO_comm (some_key h2) (some_key h1)]
  · rw [if_pos h1, if_neg h2, if_neg h2, if_pos h1]
  · rw [if_neg h1, if_pos h2, if_pos h2, if_neg h1]
  · rw [if_neg h1, if_neg h2, if_neg h2, if_neg h1]
theorem putS_self {is : List Item} (hr : risingK is) (x : Item) : putS x (putS x is) = putS x is := by
  refine getS_ext _ _ (putS_rising (putS_rising hr)) (putS_rising hr) fun k => ?_
  rw [getS_putS x _ (putS_rising hr), getS_putS x _ hr]
  by_cases h1 : k = x.key
  · simp only [if_pos h1]
    rw [joinO_assoc getS_keyO (some_key h1) (some_key h1)]
    congr 1
    simp [joinO, bestI_self]
  · simp only [if_neg h1]
theorem putS_in {is : List Item} (hr : risingK is) {y : Item} (hy : y ∈ is) : putS y is = is := by
  refine getS_ext _ _ (putS_rising hr) hr fun k => ?_
  rw [getS_putS y _ hr]
  by_cases h1 : k = y.key
  · rw [if_pos h1, h1, getS_mem hr hy]
    simp [joinO, bestI_self]
  · rw [if_neg h1]
theorem putS_mem2 {is : List Item} (hr : risingK is) (x : Item) {y : Item} (hy : y ∈ is) : putS y (putS x is) = putS x is := by
  rw [putS_swap hr, putS_in hr hy]
/-- What a row of puts comes to. -/
def putsS (is : List Item) (js : List Item) : List Item := js.foldl (fun s x => putS x s) is
theorem putsS_cons (is : List Item) (x : Item) (js : List Item) : putsS is (x :: js) = putsS (putS x is) js := rfl
theorem putsS_snoc (is js : List Item) (x : Item) : putsS is (js ++ [x]) = putS x (putsS is js) := by simp [putsS]
theorem putsS_rising {is : List Item} (hr : risingK is) : ∀ js, risingK (putsS is js) := by
  intro js
  induction js generalizing is with
  | nil => exact hr
  | cons x js ih => exact ih (putS_rising hr)
theorem putsS_length (is js : List Item) : (putsS is js).length ≤ is.length + js.length := by
  induction js generalizing is with
  | nil => simp [putsS]
  | cons x js ih =>
    rw [putsS_cons]
    have h1 := ih (putS x is)
    have h2 := (putS_length_le x is).2
    simp at h1 ⊢
    omega
theorem putsS_perm {js ks : List Item} (h : js.Perm ks) : ∀ {is : List Item}, risingK is → putsS is js = putsS is ks := by
  induction h with
  | nil => intro is _; rfl
  | cons x _ ih => intro is hr; exact ih (putS_rising hr)
  | swap x y l =>
    intro is hr
    simp only [putsS_cons]
    rw [putS_swap hr]
  | trans _ _ ih1 ih2 => intro is hr; rw [ih1 hr, ih2 hr]
theorem putsS_mem {i : Item} : ∀ {js is : List Item}, i ∈ putsS is js → i ∈ is ∨ i ∈ js := by
  intro js
  induction js with
  | nil => intro is h; exact .inl h
  | cons x js ih =>
    intro is h
    rcases ih h with h | h
    · rcases putS_mem h with h | h
      · exact .inr (by simp [h])
      · exact .inl h
    · exact .inr (List.mem_cons_of_mem _ h)
theorem puts_may {is js : List Item} (h1 : storeMay is = true) (h2 : ∀ j ∈ js, itemMay j = true) (h3 : is.length + js.length ≤ 16) : storeMay (putsS is js) = true := by
  obtain ⟨hm, hr, hl⟩ := (storeMay_iff is).1 h1
  refine (storeMay_iff _).2 ⟨fun i hi => ?_, putsS_rising hr js, ?_⟩
  · rcases putsS_mem hi with h | h
    · exact hm i h
    · exact h2 i h
  · have := putsS_length is js
    omega
theorem putR_of {is : List Item} {x : Item} (h1 : storeMay is = true) (h2 : itemMay x = true) (h3 : is.length < 16) : putR is x = (putS x is, 0) := by
  have := (putS_length_le x is).2
  unfold putR
  rw [h1, h2]
  simp
  omega
/-- One round further in a row of puts. -/
theorem puts_step {is js : List Item} {i : Nat} {x : Item} (h1 : storeMay is = true) (h2 : ∀ j ∈ js, itemMay j = true) (h3 : is.length + js.length ≤ 16) (hx : js[i]? = some x) :
    putR (putsS is (js.take i)) x = (putsS is (js.take (i + 1)), 0) := by
  have hi : i < js.length := (List.getElem?_eq_some_iff.1 hx).1
  have hm := puts_may (js := js.take i) h1 (fun j hj => h2 j (List.mem_of_mem_take hj)) (by simp; omega)
  have hl := putsS_length is (js.take i)
  rw [putR_of hm (h2 x (List.mem_of_getElem? hx)) (by simp at hl; omega), List.take_add_one, hx]
  simp only [Option.toList]
  rw [putsS_snoc]
theorem putR_twice {is : List Item} {x : Item} (h : (putR is x).2 = 0) : putR (putR is x).1 x = ((putR is x).1, 0) ∧ ∀ y ∈ is, putR (putR is x).1 y = ((putR is x).1, 0) := by
  obtain ⟨h1, h2, h3, h4⟩ := putR_may h
  obtain ⟨hm, hr, hl⟩ := (storeMay_iff is).1 h1
  have h5 := ((storeMay_iff _).1 h4).2.2
  rw [h3]
  simp only
  refine ⟨?_, fun y hy => ?_⟩
  · unfold putR
    rw [h4, h2, putS_self hr]
    simp [h5]
  · unfold putR
    rw [h4, hm y hy, putS_mem2 hr x hy]
    simp [h5]
theorem rot_perm {α : Type} (xs : List α) (r : Nat) : (xs.drop r ++ xs.take r).Perm xs := by
  have h : (xs.take r ++ xs.drop r).Perm (xs.drop r ++ xs.take r) := List.perm_append_comm
  rw [List.take_append_drop] at h
  exact h.symm
/-- A row turned by r. -/
theorem rot_get {α : Type} (xs : List α) (r i : Nat) (hr : r < xs.length) (hi : i < xs.length) : (xs.drop r ++ xs.take r)[i]? = xs[(i + r) % xs.length]? := by
  rw [List.getElem?_append]
  simp only [List.length_drop, List.getElem?_drop, List.getElem?_take]
  by_cases h : i < xs.length - r
  · rw [if_pos h, Nat.mod_eq_of_lt (by omega), Nat.add_comm]
  · rw [if_neg h, if_pos (by omega), Nat.mod_eq_sub_mod (by omega), Nat.mod_eq_of_lt (by omega)]
    congr 1
    omega
end Go.AM
namespace Go.AM
theorem puts_stepP {js : List Item} {i : Nat} {x : Item} (h2 : ∀ j ∈ js.take i, itemMay j = true) (h3 : i < 16) (hx : js[i]? = some x) :
    putR (putsS [] (js.take i)) x = if itemMay x then (putsS [] (js.take (i + 1)), 0) else ([], 500) := by
  have hi : i < js.length := (List.getElem?_eq_some_iff.1 hx).1
  have hm := puts_may (is := []) (js := js.take i) (by decide) h2 (by simp; omega)
  have hl := putsS_length [] (js.take i)
  cases hmx : itemMay x with
  | true =>
    rw [putR_of hm hmx (by simp at hl; omega), List.take_add_one, hx]
    simp only [Option.toList]
    rw [putsS_snoc]
    rfl
  | false =>
    unfold putR
    rw [hm, hmx]
    rfl
theorem turn_eq {a : Int} {k : Nat} (ha : in64 a) (hk : 0 < k) (hk2 : k ≤ 16) : ∃ r : Nat, r < k ∧ (IntKind.u64.wrap a).tmod (IntKind.u64.wrap (k : Int)) = (r : Int) := by
  have h1 : IntKind.u64.wrap (k : Int) = k := IntWalk.u64_in (k : Int) ⟨by omega, by omega⟩
  have h2 : 0 ≤ IntKind.u64.wrap a := by
    simp [IntKind.wrap, IntKind.signed, IntKind.bits]
    omega
  rw [h1, Int.tmod_eq_emod_of_nonneg h2]
  have h3 := Int.emod_nonneg (IntKind.u64.wrap a) (show (k : Int) ≠ 0 by omega)
  have h4 := Int.emod_lt_of_pos (IntKind.u64.wrap a) (show (0 : Int) < k by omega)
  exact ⟨(IntKind.u64.wrap a % k).toNat, by omega, by omega⟩
end Go.AM
/- Plain law: peers: one is heard, all age. -/
namespace Go.AM
set_option linter.unusedSimpArgs false
set_option linter.unusedVariables false

theorem rowed_iff {base : Int} {ps : List Peer} : Rowed base ps ↔ ps.Pairwise (fun p q => far base p.id < far base q.id) := by
  rw [List.pairwise_iff_getElem]
  constructor
  · intro h i j hi hj hij
    exact h i j _ _ hij (by simp) (by simp)
  · intro h i j p q hij hp hq
    obtain ⟨hi, rfl⟩ := List.getElem?_eq_some_iff.1 hp
    obtain ⟨hj, rfl⟩ := List.getElem?_eq_some_iff.1 hq
    exact h i j hi hj hij
def PeerOk (base last : Int) (p : Peer) : Prop := place p.id = true ∧ 0 ≤ p.missed ∧ p.missed < 3 ∧ last < far base p.id
theorem peersOk_iff {base : Int} : ∀ (ps : List Peer) (last : Int), peersOk base last ps = true ↔ (∀ p ∈ ps, PeerOk base last p) ∧ ps.Pairwise (fun p q => far base p.id < far base q.id) := by
  intro ps
  induction ps with
  | nil => intro last; simp [peersOk]
  | cons p ps ih =>
    intro last
    simp only [peersOk, Bool.and_eq_true, decide_eq_true_eq, ih, List.mem_cons, List.pairwise_cons, PeerOk]
    constructor
    · rintro ⟨⟨⟨⟨h1, h2⟩, h3⟩, h4⟩, h5, h6⟩
      refine ⟨?_, fun q hq => (h5 q hq).2.2.2, h6⟩
      rintro q (rfl | hq)
      · exact ⟨h1, h2, h3, h4⟩
      · obtain ⟨a, b, c, d⟩ := h5 q hq
        exact ⟨a, b, c, by omega⟩
    · rintro ⟨h1, h2, h3⟩
      obtain ⟨a, b, c, d⟩ := h1 p (.inl rfl)
      refine ⟨⟨⟨⟨a, b⟩, c⟩, d⟩, fun q hq => ?_, h3⟩
      obtain ⟨a', b', c', d'⟩ := h1 q (.inr hq)
      exact ⟨a', b', c', h2 q hq⟩
theorem peersMay_iff {base : Int} {ps : List Peer} : peersMay base ps = true ↔ place base = true ∧ ps.length ≤ 16 ∧ (∀ p ∈ ps, PeerOk base 0 p) ∧ ps.Pairwise (fun p q => far base p.id < far base q.id) := by
  simp only [peersMay, Bool.and_eq_true, decide_eq_true_eq, peersOk_iff]
  constructor
  · rintro ⟨⟨a, b⟩, c⟩; exact ⟨a, b, c⟩
  · rintro ⟨a, b, c⟩; exact ⟨⟨a, b⟩, c⟩

theorem hearG_true (base id : Int) : ∀ ps : List Peer, hearG base id true ps = ps.filter fun p => !decide (p.id = id) := by
  intro ps
  induction ps with
  | nil => rfl
  | cons p ps ih =>
    simp only [hearG, Bool.true_or, ih]
    by_cases h : p.id = id <;> simp [h]
theorem hearG_far (base id : Int) (p : Peer) (ps : List Peer) (h : far base id ≤ far base p.id) : hearG base id false (p :: ps) = ⟨id, 0⟩ :: (p :: ps).filter fun p => !decide (p.id = id) := by
  simp only [hearG, h, decide_true, Bool.or_true, hearG_true]
  by_cases h2 : p.id = id <;> simp [h2]
theorem hearG_near (base id : Int) (p : Peer) (ps : List Peer) (h : ¬ far base id ≤ far base p.id) : hearG base id false (p :: ps) = p :: hearG base id false ps := by
  have : p.id ≠ id := by intro e; rw [e] at h; omega
  simp [hearG, h, this]
theorem hearG_filter (base id : Int) : ∀ ps : List Peer, (hearG base id false ps).filter (fun p => !decide (p.id = id)) = ps.filter fun p => !decide (p.id = id) := by
  intro ps
  induction ps with
  | nil => simp [hearG]
  | cons p ps ih =>
    by_cases h : far base id ≤ far base p.id
    · rw [hearG_far _ _ _ _ h]
      simp
    · rw [hearG_near _ _ _ _ h]
      have : p.id ≠ id := by intro e; rw [e] at h; omega
      simp [this, ih]
theorem hearG_zero (base id : Int) : ∀ (ps : List Peer) (q : Peer), q ∈ hearG base id false ps → q.id = id → q = ⟨id, 0⟩ := by
  intro ps
  induction ps with
  | nil => intro q hq _; simpa [hearG] using hq
  | cons p ps ih =>
    intro q hq e
    by_cases h : far base id ≤ far base p.id
    · rw [hearG_far _ _ _ _ h] at hq
      rcases List.mem_cons.1 hq with h1 | h1
      · exact h1
      · have := (List.mem_filter.1 h1).2
        simp [e] at this
    · rw [hearG_near _ _ _ _ h] at hq
      rcases List.mem_cons.1 hq with h1 | h1
      · subst h1
        rw [e] at h
        omega
      · exact ih q h1 e
theorem hearG_in (base id : Int) : ∀ (ps : List Peer) (q : Peer), q ∈ hearG base id false ps → q = ⟨id, 0⟩ ∨ q ∈ ps := by
  intro ps
  induction ps with
  | nil => intro q hq; exact .inl (by simpa [hearG] using hq)
  | cons p ps ih =>
    intro q hq
    by_cases h : far base id ≤ far base p.id
    · rw [hearG_far _ _ _ _ h] at hq
      rcases List.mem_cons.1 hq with h1 | h1
      · exact .inl h1
      · exact .inr (List.mem_filter.1 h1).1
    · rw [hearG_near _ _ _ _ h] at hq
      rcases List.mem_cons.1 hq with h1 | h1
      · exact .inr (by simp [h1])
      · rcases ih q h1 with h2 | h2
        · exact .inl h2
        · exact .inr (List.mem_cons_of_mem _ h2)
theorem hearG_length (base id : Int) : ∀ ps : List Peer, (hearG base id false ps).length = (ps.filter fun p => !decide (p.id = id)).length + 1 := by
  intro ps
  induction ps with
  | nil => rfl
  | cons p ps ih =>
    by_cases h : far base id ≤ far base p.id
    · rw [hearG_far _ _ _ _ h]
      simp
    · rw [hearG_near _ _ _ _ h]
      have : p.id ≠ id := by intro e; rw [e] at h; omega
      simp [this, ih]
theorem hearG_has (base id : Int) (ps : List Peer) : ∃ q ∈ hearG base id false ps, q.id = id := by
  have h := (hearG_mem base id ps false id).2 (.inr ⟨rfl, rfl⟩)
  simpa using h
theorem hearG_pair {base id : Int} (hb : place base = true) (hid : place id = true) : ∀ ps : List Peer, (∀ p ∈ ps, place p.id = true) → ps.Pairwise (fun p q => far base p.id < far base q.id) → (hearG base id false ps).Pairwise (fun p q => far base p.id < far base q.id) := by
  intro ps
  induction ps with
  | nil => intro _ _; simp [hearG]
  | cons p ps ih =>
    intro hp hr
    by_cases h : far base id ≤ far base p.id
    · rw [hearG_far _ _ _ _ h, List.pairwise_cons]
      refine ⟨fun q hq => ?_, hr.filter _⟩
      obtain ⟨h1, h2⟩ := List.mem_filter.1 hq
      have h3 : far base p.id ≤ far base q.id := by
        rcases List.mem_cons.1 h1 with h4 | h4
        · subst h4; omega
        · have := (List.pairwise_cons.1 hr).1 q h4
          omega
      have h5 : far base q.id ≠ far base id := by
        intro e
        have := (far_inj hb (hp q h1) hid).1 e
        simp [this] at h2
      show far base id < far base q.id
      omega
    · rw [hearG_near _ _ _ _ h, List.pairwise_cons]
      refine ⟨fun q hq => ?_, ih (fun q hq => hp q (List.mem_cons_of_mem _ hq)) (List.pairwise_cons.1 hr).2⟩
      rcases hearG_in base id ps q hq with h1 | h1
      · subst h1
        show far base p.id < far base id
        omega
      · exact (List.pairwise_cons.1 hr).1 q h1
theorem findAt_cons (base : Int) (p : Peer) (ps : List Peer) (id : Int) : findAt base (p :: ps) id = if far base p.id < far base id then findAt base ps id + 1 else 0 := by
  unfold findAt
  rw [List.takeWhile_cons]
  by_cases h : far base p.id < far base id <;> simp [h]
theorem peerIs_cons (base : Int) (p : Peer) (ps : List Peer) (id : Int) : peerIs base (p :: ps) id = if far base p.id < far base id then peerIs base ps id else decide (far base p.id = far base id) := by
  unfold peerIs
  rw [findAt_cons]
  by_cases h : far base p.id < far base id <;> simp [h, isFar]
theorem hearG_at {base id : Int} (hb : place base = true) (hid : place id = true) : ∀ ps : List Peer, (∀ p ∈ ps, place p.id = true) → ps.Pairwise (fun p q => far base p.id < far base q.id) →
    (peerIs base ps id = true → findAt base ps id < ps.length ∧ (∃ m, ps[findAt base ps id]? = some ⟨id, m⟩) ∧ hearG base id false ps = ps.set (findAt base ps id) ⟨id, 0⟩) ∧ (peerIs base ps id = false → hearG base id false ps = insL ps (findAt base ps id) ⟨id, 0⟩) := by
  intro ps
  induction ps with
  | nil => intro _ _; exact ⟨fun h => by simp [peerIs, findAt, isFar] at h, fun _ => rfl⟩
  | cons p ps ih =>
    intro hp hr
    have hr' := (List.pairwise_cons.1 hr).2
    obtain ⟨i1, i2⟩ := ih (fun q hq => hp q (List.mem_cons_of_mem _ hq)) hr'
    rw [peerIs_cons, findAt_cons]
    have hno : ∀ q ∈ ps, far base id ≤ far base p.id → q.id ≠ id := by
      intro q hq h e
      have := (List.pairwise_cons.1 hr).1 q hq
      rw [e] at this
      omega
    by_cases h : far base p.id < far base id
    · rw [if_pos h, if_pos h, hearG_near _ _ _ _ (by omega)]
      refine ⟨fun h1 => ?_, fun h1 => ?_⟩
      · obtain ⟨a, b, c⟩ := i1 h1
        exact ⟨by simp; omega, by simpa using b, by simp [c]⟩
      · rw [i2 h1]
        simp [insL]
    · rw [if_neg h, if_neg h, hearG_far _ _ _ _ (by omega)]
      have hf : ps.filter (fun p => !decide (p.id = id)) = ps := by
        rw [List.filter_eq_self]
        intro q hq
        have := hno q hq (by omega)
        simp [this]
      refine ⟨fun h1 => ?_, fun h1 => ?_⟩
      · have e : p.id = id := (far_inj hb (hp p (by simp)) hid).1 (by simpa using h1)
        obtain ⟨pi, pm⟩ := p
        simp only at e
        subst e
        refine ⟨by simp, ⟨pm, rfl⟩, ?_⟩
        simp [hf]
      · have e : p.id ≠ id := by
          intro e
          rw [e] at h1
          simp at h1
        simp [e, hf, insL]
theorem peerIs_in {base : Int} {ps : List Peer} {id : Int} (h : peersMay base ps = true) (hid : place id = true) : peerIs base ps id = true ↔ ∃ p ∈ ps, p.id = id := by
  rw [peerIs_mem h hid]
  simp
theorem refHeard_cases (base : Int) (ps : List Peer) (id : Int) :
    (∃ e, refHeard base ps id = ([], e) ∧ e ≠ 0) ∨ (refHeard base ps id = (hearG base id false ps, 0) ∧ peersMay base ps = true ∧ place id = true ∧ id ≠ base ∧ peersMay base (hearG base id false ps) = true) := by
  unfold refHeard
  rw [peersMay_eq]
  by_cases h : (peersMay base ps && place id && !(id == base)) = true
  · rw [if_pos h]
    simp only [Bool.and_eq_true, Bool.not_eq_true', beq_eq_false_iff_ne] at h
    by_cases h2 : (hearG base id false ps).length ≤ 16
    · rw [if_pos h2]
      refine .inr ⟨rfl, h.1.1, h.1.2, h.2, ?_⟩
      obtain ⟨a, b, c, d⟩ := peersMay_iff.1 h.1.1
      refine peersMay_iff.2 ⟨a, h2, fun q hq => ?_, hearG_pair a h.1.2 ps (fun p hp => (c p hp).1) d⟩
      rcases hearG_in base id ps q hq with rfl | h3
      · have h4 := far_range a h.1.2
        have h5 := far_zero a h.1.2
        refine ⟨h.1.2, by simp, by simp, ?_⟩
        have : far base id ≠ 0 := fun e => h.2 (h5.1 e)
        show 0 < far base id
        omega
      · exact c q h3
    · rw [if_neg h2]
      exact .inl ⟨701, rfl, by decide⟩
  · rw [if_neg h]
    exact .inl ⟨700, rfl, by decide⟩
theorem refHeard_len (base : Int) (ps : List Peer) (id : Int) : (refHeard base ps id).1.length ≤ 16 := by
  rcases refHeard_cases base ps id with ⟨e, h, _⟩ | ⟨h, _, _, _, h2⟩
  · rw [h]; simp
  · rw [h]; exact peersMay_len h2

/-- Who is left when all age, who is lost. -/
def ageL (ps : List Peer) : List Peer := (ps.filter fun p => !decide (p.missed + 1 = 3)).map fun p => ⟨p.id, p.missed + 1⟩
def lostL (ps : List Peer) : List Int := (ps.filter fun p => decide (p.missed + 1 = 3)).map Peer.id
def ageR (base : Int) (ps : List Peer) : List Peer × List Int × Int := if peersMay base ps then (ageL ps, lostL ps, 0) else ([], [], 700)
theorem ageL_snoc (ps : List Peer) (p : Peer) : ageL (ps ++ [p]) = if p.missed + 1 = 3 then ageL ps else ageL ps ++ [⟨p.id, p.missed + 1⟩] := by
  by_cases h : p.missed + 1 = 3 <;> simp [ageL, h]
theorem lostL_snoc (ps : List Peer) (p : Peer) : lostL (ps ++ [p]) = if p.missed + 1 = 3 then lostL ps ++ [p.id] else lostL ps := by
  by_cases h : p.missed + 1 = 3 <;> simp [lostL, h]
theorem age_length (ps : List Peer) : (ageL ps).length + (lostL ps).length = ps.length := by
  induction ps with
  | nil => rfl
  | cons p ps ih =>
    by_cases h : p.missed + 1 = 3 <;> simp [ageL, lostL, h] at ih ⊢ <;> omega
theorem ageL_may {base : Int} {ps : List Peer} (h : peersMay base ps = true) : peersMay base (ageL ps) = true := by
  obtain ⟨a, b, c, d⟩ := peersMay_iff.1 h
  have hl := age_length ps
  refine peersMay_iff.2 ⟨a, by omega, fun q hq => ?_, ?_⟩
  · obtain ⟨p, hp, rfl⟩ := List.mem_map.1 hq
    obtain ⟨h1, h2⟩ := List.mem_filter.1 hp
    obtain ⟨e, f, g, k⟩ := c p h1
    simp at h2
    exact ⟨e, by simp; omega, by simp; omega, k⟩
  · unfold ageL
    rw [List.pairwise_map]
    exact d.filter _
end Go.AM
/- AM: contracts: peers: one is heard, all age. -/
namespace Go.AM
set_option linter.unusedSimpArgs false
set_option linter.unusedVariables false
set_option maxRecDepth 8000
set_option maxHeartbeats 0
theorem peer_still (p : Peer) : ∀ d ∈ p.row, d.still = true := by
  intro d hd
  simp [Peer.row] at hd
  rcases hd with rfl | rfl <;> rfl
theorem peers_Heard (base : Int) (ps : List Peer) (id : Int) (hl : ps.length ≤ cap16) : Den PP 26 [.int .i64 base, peersD ps, .int .i64 id] [] (.tup [.ref 0 0 (refHeard base ps id).1.length, .int .i64 (refHeard base ps id).2]) [⟨(refHeard base ps id).1.map Peer.row, 2, .mut⟩] := by
  have c1 := peers_May base ps (cap_of hl)
  have c0 := ring_Place id
  have c2 := fun h : ps.length ≤ 16 => clone_Peer (ps.map Peer.row) (by intro r hr; obtain ⟨a, _, rfl⟩ := List.mem_map.1 hr; exact ⟨rfl, rfl⟩) (by simp; omega)
  have c3 := fun h => peers_Find base ps id (cap_of hl) h
  obtain ⟨r, hr⟩ : ∃ r, refHeard base ps id = r := ⟨_, rfl⟩
  have hr' := hr
  unfold refHeard at hr'
  rw [peersMay_eq] at hr'
  rw [hr]
  clear hr
  simp only [peersD, List.length_map] at c1 c2 c3
  refine den_ofG [26, 34] [34] [34] [] (fun _ h => absurd h List.not_mem_nil) is_peers_Heard ?_
  simp -implicitDefEqProofs [c_peers_Heard, peersD]
  refine callThen_of c1 ?_
  simp -implicitDefEqProofs
  cases h1 : peersMay base ps with
  | false =>
    rw [h1] at hr'
    simp at hr'
    subst hr'
    simp -implicitDefEqProofs
  | true =>
  cases h2 : place id with
  | false =>
    rw [h2] at hr' c0
    simp at hr'
    subst hr'
    simp -implicitDefEqProofs
    repeat' (first | (refine callThen_of (by first | exact c0) ?_; simp -implicitDefEqProofs [*]) | (with_reducible refine gOps_dec (fun _ => ?_) (fun _ => ?_) <;> simp -implicitDefEqProofs [*]) | (with_reducible refine gOps_ndec (fun _ => ?_) (fun _ => ?_) <;> simp -implicitDefEqProofs [*]) | (with_reducible refine gOps_and (fun hq => ?_) (fun hq => ?_) <;> (try simp at hq) <;> simp -implicitDefEqProofs [*]) | (with_reducible refine gOps_or (fun hq => ?_) (fun hq => ?_) <;> (try simp at hq) <;> simp -implicitDefEqProofs [*]) | (with_reducible refine gOps_not (fun hq => ?_) (fun hq => ?_) <;> (try simp at hq) <;> simp -implicitDefEqProofs [*]) | (with_reducible refine gOps_split (fun hq => ?_) (fun hq => ?_) <;> (try simp at hq) <;> simp -implicitDefEqProofs [*]) | (with_reducible refine condC_dec (fun _ => ?_) (fun _ => ?_) <;> simp -implicitDefEqProofs [*]) | (with_reducible refine condC_ndec (fun _ => ?_) (fun _ => ?_) <;> simp -implicitDefEqProofs [*]) | (with_reducible refine condC_and (fun hq => ?_) (fun hq => ?_) <;> (try simp at hq) <;> simp -implicitDefEqProofs [*]) | (with_reducible refine condC_or (fun hq => ?_) (fun hq => ?_) <;> (try simp at hq) <;> simp -implicitDefEqProofs [*]) | (with_reducible refine condC_not (fun hq => ?_) (fun hq => ?_) <;> (try simp at hq) <;> simp -implicitDefEqProofs [*]) | (with_reducible refine condC_split (fun hq => ?_) (fun hq => ?_) <;> (try simp at hq) <;> simp -implicitDefEqProofs [*]) | (refine appK2_if (by omega) ?_; simp -implicitDefEqProofs [*]) | (refine pureV_if (by omega) ?_; simp -implicitDefEqProofs [*]))
  | true =>
  rw [h1, h2] at hr'
  rw [h2] at c0
  by_cases h3 : id = base
  · simp [h3] at hr'
    subst hr'
    simp -implicitDefEqProofs
    repeat' (first | (refine callThen_of (by first | exact c0) ?_; simp -implicitDefEqProofs [*, h3]) | (with_reducible refine gOps_dec (fun _ => ?_) (fun _ => ?_) <;> simp -implicitDefEqProofs [*, h3]) | (with_reducible refine gOps_ndec (fun _ => ?_) (fun _ => ?_) <;> simp -implicitDefEqProofs [*, h3]) | (with_reducible refine gOps_and (fun hq => ?_) (fun hq => ?_) <;> (try simp at hq) <;> simp -implicitDefEqProofs [*, h3]) | (with_reducible refine gOps_or (fun hq => ?_) (fun hq => ?_) <;> (try simp at hq) <;> simp -implicitDefEqProofs [*, h3]) | (with_reducible refine gOps_not (fun hq => ?_) (fun hq => ?_) <;> (try simp at hq) <;> simp -implicitDefEqProofs [*, h3]) | (with_reducible refine gOps_split (fun hq => ?_) (fun hq => ?_) <;> (try simp at hq) <;> simp -implicitDefEqProofs [*, h3]) | (with_reducible refine condC_dec (fun _ => ?_) (fun _ => ?_) <;> simp -implicitDefEqProofs [*, h3]) | (with_reducible refine condC_ndec (fun _ => ?_) (fun _ => ?_) <;> simp -implicitDefEqProofs [*, h3]) | (with_reducible refine condC_and (fun hq => ?_) (fun hq => ?_) <;> (try simp at hq) <;> simp -implicitDefEqProofs [*, h3]) | (with_reducible refine condC_or (fun hq => ?_) (fun hq => ?_) <;> (try simp at hq) <;> simp -implicitDefEqProofs [*, h3]) | (with_reducible refine condC_not (fun hq => ?_) (fun hq => ?_) <;> (try simp at hq) <;> simp -implicitDefEqProofs [*, h3]) | (with_reducible refine condC_split (fun hq => ?_) (fun hq => ?_) <;> (try simp at hq) <;> simp -implicitDefEqProofs [*, h3]) | (refine appK2_if (by omega) ?_; simp -implicitDefEqProofs [*, h3]) | (refine pureV_if (by omega) ?_; simp -implicitDefEqProofs [*, h3]))
  obtain ⟨hb, h16, hp, hd⟩ := peersMay_iff.1 h1
  obtain ⟨ha1, ha2⟩ := hearG_at hb h2 ps (fun p hp' => (hp p hp').1) hd
  have hlen := hearG_length base id ps
  have hple := findAt_le base ps id
  have c4 := c3 (peersMay_rowed h1)
  clear c3
  generalize peerIs base ps id = A at *
  generalize findAt base ps id = p at *
  have h3' : (id == base) = false := by simpa using h3
  simp only [h3', Bool.not_false, Bool.and_self, if_true] at hr'
  simp -implicitDefEqProofs
  refine callThen_of c0 ?_
  simp -implicitDefEqProofs [h3]
  refine callThen_of (c2 h16) ?_
  simp -implicitDefEqProofs [downTo]
  refine callThen_of c4 ?_
  simp -implicitDefEqProofs [downTo]
  cases A with
  | true =>
    obtain ⟨hlt, ⟨m, hy⟩, hput⟩ := ha1 rfl
    have hr2 : r = (ps.set p ⟨id, 0⟩, 0) := by
      rw [← hr', hput]
      simp [h16]
    subst hr2
    have hlt' : (p : Int) < ps.length := by omega
    have hy2 : ps[p] = ⟨id, m⟩ := by simpa [hlt] using hy
    clear hr' hput ha1 ha2 hlen c4 hp hd
    simp -implicitDefEqProofs [hlt, hlt', hy2, Peer.row]
  | false =>
    have hput := ha2 rfl
    rw [hput] at hr' hlen
    simp only [insL_length] at hr' hlen
    by_cases h5 : ps.length = 16
    · have hr2 : r = ([], 701) := by
        rw [← hr']
        simp [h5]
      subst hr2
      clear hr' hput ha1 ha2 hlen c4 hp hd
      simp -implicitDefEqProofs [h5]
    · have hr2 : r = (insL ps p ⟨id, 0⟩, 0) := by
        rw [← hr', if_pos (by omega)]
      subst hr2
      clear hr' hput ha1 ha2 hlen c4 hp hd
      have h5' : ¬ (ps.length : Int) = 16 := by omega
      simp -implicitDefEqProofs [h5']
      refine giveThen_of rfl (by simp) (by simp) (by simp) (insert_Peer (ps.map Peer.row) (Peer.row ⟨id, 0⟩) p (by simp [Peer.row]) (StillR.map _ _ fun a _ => peer_still a) (by intro r hr; rw [List.mem_singleton.1 hr]; exact ⟨rfl, rfl⟩) (peer_still _) (by simpa using hple) (by simp; omega)) ?_
      rw [← insL_map]
      simp -implicitDefEqProofs [downTo]
theorem peers_Age (base : Int) (ps : List Peer) (hl : ps.length ≤ cap16) : Den PP 28 [.int .i64 base, peersD ps] [] (.tup [.ref 0 0 (ageR base ps).1.length, .ref 1 0 (ageR base ps).2.1.length, .int .i64 (ageR base ps).2.2]) [⟨(ageR base ps).1.map Peer.row, 2, .mut⟩, ⟨(ageR base ps).2.1.map irow, 1, .mut⟩] := by
  have c1 := peers_May base ps (cap_of hl)
  refine den_of [] [] is_peers_Age ?_
  simp -implicitDefEqProofs [c_peers_Age, peersD]
  refine callThen_of c1 ?_
  unfold ageR
  cases h1 : peersMay base ps with
  | false => simp -implicitDefEqProofs
  | true =>
    obtain ⟨hb, h16, hp, hd⟩ := peersMay_iff.1 h1
    simp -implicitDefEqProofs
    refine list_rule ps (fun i rest => fun ⟨fr, bs⟩ => bs = [⟨[], 2, .mut⟩, ⟨[], 1, .mut⟩, ⟨(ageL (ps.take i)).map Peer.row, 2, .mut⟩, ⟨(lostL (ps.take i)).map irow, 1, .mut⟩] ∧ fr 7 = .ref 2 0 (ageL (ps.take i)).length ∧ fr 8 = .ref 3 0 (lostL (ps.take i)).length ∧ fr 15 = .sl (ps.map Peer.row) ps.length ∧ fr 16 = .int .i64 ps.length ∧ fr 17 = .int .i64 i)
      (fun ⟨fr, bs⟩ => bs = [⟨[], 2, .mut⟩, ⟨[], 1, .mut⟩, ⟨(ageL ps).map Peer.row, 2, .mut⟩, ⟨(lostL ps).map irow, 1, .mut⟩] ∧ fr 7 = .ref 2 0 (ageL ps).length ∧ fr 8 = .ref 3 0 (lostL ps).length) (fun _ => False) c_peers_Age_L0.eq_1 ?_ ?_ ?_ ?_ ?_
    · exact ⟨rfl, rfl, rfl, rfl, rfl, rfl⟩
    · rintro i ⟨fr, bs⟩ hi ⟨rfl, h7, h8, h15, h16, h17⟩
      subst hi
      rw [List.take_length] at *
      simp -implicitDefEqProofs [h7, h8, h15, h16, h17]
    · rintro i q rest ⟨fr, bs⟩ hlt hget hg hd hd2 ⟨rfl, h7, h8, h15, h16, h17⟩
      have hlt' : (i : Int) < ps.length := by omega
      have hw := wrap_next (n := i) (by omega)
      have hm := hp q (List.mem_of_getElem? hget)
      have hwm : IntKind.wrap .i64 (q.missed + 1) = q.missed + 1 := wrap_in (by have := hm.2.1; omega) (by have := hm.2.2.1; omega)
      have e1 : ps.take (i + 1) = ps.take i ++ [q] := by rw [List.take_add_one, hget]; rfl
      have e2 := ageL_snoc (ps.take i) q
      have e3 := lostL_snoc (ps.take i) q
      rw [← e1] at e2 e3
      have hal := age_length (ps.take i)
      have htl : (ps.take i).length ≤ 16 := by simp; omega
      have ha16 : (ageL (ps.take i)).length ≤ 16 := by omega
      have hl16 : (lostL (ps.take i)).length ≤ 16 := by omega
      have w3 : IntKind.wrap .i64 3 = 3 := wrap_in (by omega) (by omega)
      clear hal htl
      generalize ageL (ps.take (i + 1)) = a' at *
      generalize ageL (ps.take i) = a at *
      generalize lostL (ps.take (i + 1)) = l' at *
      generalize lostL (ps.take i) = l at *
      by_cases hq : q.missed + 1 = 3
      · rw [if_pos hq] at e2 e3
        subst e2 e3
        obtain ⟨qi, qm⟩ := q
        have hq2 : qm = 2 := by simp at hq; omega
        subst hq2
        clear hwm hq hm
        simp -implicitDefEqProofs [h7, h8, h15, h16, h17, hlt, hlt', hget, hg, w3, Peer.row]
        refine ⟨by simp [Fits], ?_⟩
        repeat' (first | (refine callThen_of (by first | exact ring_Place _ | exact den_nrm (ring_Place _) | exact den_nrm (by simpa using ring_Place _)) ?_; simp -implicitDefEqProofs [*, h7, h8, h15, h16, h17, hlt, hlt', hw, irow, Fits]) | (with_reducible refine gOps_dec (fun _ => ?_) (fun _ => ?_) <;> simp -implicitDefEqProofs [*, h7, h8, h15, h16, h17, hlt, hlt', hw, irow, Fits]) | (with_reducible refine gOps_ndec (fun _ => ?_) (fun _ => ?_) <;> simp -implicitDefEqProofs [*, h7, h8, h15, h16, h17, hlt, hlt', hw, irow, Fits]) | (with_reducible refine gOps_and (fun hq => ?_) (fun hq => ?_) <;> (try simp at hq) <;> simp -implicitDefEqProofs [*, h7, h8, h15, h16, h17, hlt, hlt', hw, irow, Fits]) | (with_reducible refine gOps_or (fun hq => ?_) (fun hq => ?_) <;> (try simp at hq) <;> simp -implicitDefEqProofs [*, h7, h8, h15, h16, h17, hlt, hlt', hw, irow, Fits]) | (with_reducible refine gOps_not (fun hq => ?_) (fun hq => ?_) <;> (try simp at hq) <;> simp -implicitDefEqProofs [*, h7, h8, h15, h16, h17, hlt, hlt', hw, irow, Fits]) | (with_reducible refine gOps_split (fun hq => ?_) (fun hq => ?_) <;> (try simp at hq) <;> simp -implicitDefEqProofs [*, h7, h8, h15, h16, h17, hlt, hlt', hw, irow, Fits]) | (with_reducible refine condC_dec (fun _ => ?_) (fun _ => ?_) <;> simp -implicitDefEqProofs [*, h7, h8, h15, h16, h17, hlt, hlt', hw, irow, Fits]) | (with_reducible refine condC_ndec (fun _ => ?_) (fun _ => ?_) <;> simp -implicitDefEqProofs [*, h7, h8, h15, h16, h17, hlt, hlt', hw, irow, Fits]) | (with_reducible refine condC_and (fun hq => ?_) (fun hq => ?_) <;> (try simp at hq) <;> simp -implicitDefEqProofs [*, h7, h8, h15, h16, h17, hlt, hlt', hw, irow, Fits]) | (with_reducible refine condC_or (fun hq => ?_) (fun hq => ?_) <;> (try simp at hq) <;> simp -implicitDefEqProofs [*, h7, h8, h15, h16, h17, hlt, hlt', hw, irow, Fits]) | (with_reducible refine condC_not (fun hq => ?_) (fun hq => ?_) <;> (try simp at hq) <;> simp -implicitDefEqProofs [*, h7, h8, h15, h16, h17, hlt, hlt', hw, irow, Fits]) | (with_reducible refine condC_split (fun hq => ?_) (fun hq => ?_) <;> (try simp at hq) <;> simp -implicitDefEqProofs [*, h7, h8, h15, h16, h17, hlt, hlt', hw, irow, Fits]) | (refine appK2_if (by omega) ?_; simp -implicitDefEqProofs [*, h7, h8, h15, h16, h17, hlt, hlt', hw, irow, Fits]) | (refine pureV_if (by omega) ?_; simp -implicitDefEqProofs [*, h7, h8, h15, h16, h17, hlt, hlt', hw, irow, Fits]))
        exact fun _ _ => rfl
      · rw [if_neg hq] at e2 e3
        subst e2 e3
        simp -implicitDefEqProofs [h7, h8, h15, h16, h17, hlt, hlt', hget, hg, hwm, hq, Peer.row]
        refine ⟨by simp [Fits], ?_⟩
        repeat' (first | (refine callThen_of (by first | exact ring_Place _ | exact den_nrm (ring_Place _) | exact den_nrm (by simpa using ring_Place _)) ?_; simp -implicitDefEqProofs [*, h7, h8, h15, h16, h17, hlt, hlt', hw, Peer.row, Fits]) | (with_reducible refine gOps_dec (fun _ => ?_) (fun _ => ?_) <;> simp -implicitDefEqProofs [*, h7, h8, h15, h16, h17, hlt, hlt', hw, Peer.row, Fits]) | (with_reducible refine gOps_ndec (fun _ => ?_) (fun _ => ?_) <;> simp -implicitDefEqProofs [*, h7, h8, h15, h16, h17, hlt, hlt', hw, Peer.row, Fits]) | (with_reducible refine gOps_and (fun hq => ?_) (fun hq => ?_) <;> (try simp at hq) <;> simp -implicitDefEqProofs [*, h7, h8, h15, h16, h17, hlt, hlt', hw, Peer.row, Fits]) | (with_reducible refine gOps_or (fun hq => ?_) (fun hq => ?_) <;> (try simp at hq) <;> simp -implicitDefEqProofs [*, h7, h8, h15, h16, h17, hlt, hlt', hw, Peer.row, Fits]) | (with_reducible refine gOps_not (fun hq => ?_) (fun hq => ?_) <;> (try simp at hq) <;> simp -implicitDefEqProofs [*, h7, h8, h15, h16, h17, hlt, hlt', hw, Peer.row, Fits]) | (with_reducible refine gOps_split (fun hq => ?_) (fun hq => ?_) <;> (try simp at hq) <;> simp -implicitDefEqProofs [*, h7, h8, h15, h16, h17, hlt, hlt', hw, Peer.row, Fits]) | (with_reducible refine condC_dec (fun _ => ?_) (fun _ => ?_) <;> simp -implicitDefEqProofs [*, h7, h8, h15, h16, h17, hlt, hlt', hw, Peer.row, Fits]) | (with_reducible refine condC_ndec (fun _ => ?_) (fun _ => ?_) <;> simp -implicitDefEqProofs [*, h7, h8, h15, h16, h17, hlt, hlt', hw, Peer.row, Fits]) | (with_reducible refine condC_and (fun hq => ?_) (fun hq => ?_) <;> (try simp at hq) <;> simp -implicitDefEqProofs [*, h7, h8, h15, h16, h17, hlt, hlt', hw, Peer.row, Fits]) | (with_reducible refine condC_or (fun hq => ?_) (fun hq => ?_) <;> (try simp at hq) <;> simp -implicitDefEqProofs [*, h7, h8, h15, h16, h17, hlt, hlt', hw, Peer.row, Fits]) | (with_reducible refine condC_not (fun hq => ?_) (fun hq => ?_) <;> (try simp at hq) <;> simp -implicitDefEqProofs [*, h7, h8, h15, h16, h17, hlt, hlt', hw, Peer.row, Fits]) | (with_reducible refine condC_split (fun hq => ?_) (fun hq => ?_) <;> (try simp at hq) <;> simp -implicitDefEqProofs [*, h7, h8, h15, h16, h17, hlt, hlt', hw, Peer.row, Fits]) | (refine appK2_if (by omega) ?_; simp -implicitDefEqProofs [*, h7, h8, h15, h16, h17, hlt, hlt', hw, Peer.row, Fits]) | (refine pureV_if (by omega) ?_; simp -implicitDefEqProofs [*, h7, h8, h15, h16, h17, hlt, hlt', hw, Peer.row, Fits]))
    · rintro ⟨fr, bs⟩ ⟨rfl, h7, h8⟩
      simp -implicitDefEqProofs [h7, h8]
    · rintro ⟨fr, bs⟩ h
      exact h.elim
theorem ref_AgePeers (base : Int) (ps : List Peer) (hl : ps.length ≤ cap16) : Den PP 29 [.int .i64 base, peersD ps] [] (.tup [.ref 0 0 (ageR base ps).1.length, .ref 1 0 (ageR base ps).2.1.length, .int .i64 (ageR base ps).2.2]) [⟨(ageR base ps).1.map Peer.row, 2, .mut⟩, ⟨(ageR base ps).2.1.map irow, 1, .mut⟩] := by
  have c1 := ref_PeersMay base ps (cap_of hl)
  rw [peersMay_eq] at c1
  simp only [peersD] at c1
  refine den_of [] [] is_gimmalref1_AgePeers ?_
  simp -implicitDefEqProofs [c_gimmalref1_AgePeers, peersD]
  refine callThen_of c1 ?_
  unfold ageR
  cases h1 : peersMay base ps with
  | false => simp -implicitDefEqProofs
  | true =>
    obtain ⟨hb, h16, hp, hd⟩ := peersMay_iff.1 h1
    simp -implicitDefEqProofs
    refine list_rule ps (fun i rest => fun ⟨fr, bs⟩ => bs = [⟨[], 2, .mut⟩, ⟨[], 1, .mut⟩, ⟨(ageL (ps.take i)).map Peer.row, 2, .mut⟩, ⟨(lostL (ps.take i)).map irow, 1, .mut⟩] ∧ fr 1 = peersD ps ∧ fr 7 = .ref 2 0 (ageL (ps.take i)).length ∧ fr 8 = .ref 3 0 (lostL (ps.take i)).length ∧ fr 9 = .int .i64 i)
      (fun ⟨fr, bs⟩ => bs = [⟨[], 2, .mut⟩, ⟨[], 1, .mut⟩, ⟨(ageL ps).map Peer.row, 2, .mut⟩, ⟨(lostL ps).map irow, 1, .mut⟩] ∧ fr 7 = .ref 2 0 (ageL ps).length ∧ fr 8 = .ref 3 0 (lostL ps).length) (fun _ => False) c_gimmalref1_AgePeers_L0.eq_1 ?_ ?_ ?_ ?_ ?_
    · exact ⟨rfl, rfl, rfl, rfl, rfl⟩
    · rintro i ⟨fr, bs⟩ hi ⟨rfl, h1, h7, h8, h9⟩
      subst hi
      rw [List.take_length] at *
      simp -implicitDefEqProofs [h1, h7, h8, h9, peersD]
    · rintro i q rest ⟨fr, bs⟩ hlt hget hg hd hd2 ⟨rfl, h1, h7, h8, h9⟩
      have hlt' : (i : Int) < ps.length := by omega
      have hw := wrap_next (n := i) (by omega)
      have hm := hp q (List.mem_of_getElem? hget)
      have hwm : IntKind.wrap .i64 (q.missed + 1) = q.missed + 1 := wrap_in (by have := hm.2.1; omega) (by have := hm.2.2.1; omega)
      have e1 : ps.take (i + 1) = ps.take i ++ [q] := by rw [List.take_add_one, hget]; rfl
      have e2 := ageL_snoc (ps.take i) q
      have e3 := lostL_snoc (ps.take i) q
      rw [← e1] at e2 e3
      have hal := age_length (ps.take i)
      have htl : (ps.take i).length ≤ 16 := by simp; omega
      have ha16 : (ageL (ps.take i)).length ≤ 16 := by omega
      have hl16 : (lostL (ps.take i)).length ≤ 16 := by omega
      have w3 : IntKind.wrap .i64 3 = 3 := wrap_in (by omega) (by omega)
      clear hal htl
      generalize ageL (ps.take (i + 1)) = a' at *
      generalize ageL (ps.take i) = a at *
      generalize lostL (ps.take (i + 1)) = l' at *
      generalize lostL (ps.take i) = l at *
      by_cases hq : q.missed + 1 = 3
      · rw [if_pos hq] at e2 e3
        subst e2 e3
        obtain ⟨qi, qm⟩ := q
        have hq2 : qm = 2 := by simp at hq; omega
        subst hq2
        clear hwm hq hm
        simp -implicitDefEqProofs [h1, h7, h8, h9, hlt, hlt', hget, hg, w3, Peer.row, peersD]
        refine ⟨by simp [Fits], ?_⟩
        repeat' (first | (refine callThen_of (by first | exact ring_Place _ | exact den_nrm (ring_Place _) | exact den_nrm (by simpa using ring_Place _)) ?_; simp -implicitDefEqProofs [*, h1, h7, h8, h9, hlt, hlt', hw, irow, Fits, peersD]) | (with_reducible refine gOps_dec (fun _ => ?_) (fun _ => ?_) <;> simp -implicitDefEqProofs [*, h1, h7, h8, h9, hlt, hlt', hw, irow, Fits, peersD]) | (with_reducible refine gOps_ndec (fun _ => ?_) (fun _ => ?_) <;> simp -implicitDefEqProofs [*, h1, h7, h8, h9, hlt, hlt', hw, irow, Fits, peersD]) | (with_reducible refine gOps_and (fun hq => ?_) (fun hq => ?_) <;> (try simp at hq) <;> simp -implicitDefEqProofs [*, h1, h7, h8, h9, hlt, hlt', hw, irow, Fits, peersD]) | (with_reducible refine gOps_or (fun hq => ?_) (fun hq => ?_) <;> (try simp at hq) <;> simp -implicitDefEqProofs [*, h1, h7, h8, h9, hlt, hlt', hw, irow, Fits, peersD]) | (with_reducible refine gOps_not (fun hq => ?_) (fun hq => ?_) <;> (try simp at hq) <;> simp -implicitDefEqProofs [*, h1, h7, h8, h9, hlt, hlt', hw, irow, Fits, peersD]) | (with_reducible refine gOps_split (fun hq => ?_) (fun hq => ?_) <;> (try simp at hq) <;> simp -implicitDefEqProofs [*, h1, h7, h8, h9, hlt, hlt', hw, irow, Fits, peersD]) | (with_reducible refine condC_dec (fun _ => ?_) (fun _ => ?_) <;> simp -implicitDefEqProofs [*, h1, h7, h8, h9, hlt, hlt', hw, irow, Fits, peersD]) | (with_reducible refine condC_ndec (fun _ => ?_) (fun _ => ?_) <;> simp -implicitDefEqProofs [*, h1, h7, h8, h9, hlt, hlt', hw, irow, Fits, peersD]) | (with_reducible refine condC_and (fun hq => ?_) (fun hq => ?_) <;> (try simp at hq) <;> simp -implicitDefEqProofs [*, h1, h7, h8, h9, hlt, hlt', hw, irow, Fits, peersD]) | (with_reducible refine condC_or (fun hq => ?_) (fun hq => ?_) <;> (try simp at hq) <;> simp -implicitDefEqProofs [*, h1, h7, h8, h9, hlt, hlt', hw, irow, Fits, peersD]) | (with_reducible refine condC_not (fun hq => ?_) (fun hq => ?_) <;> (try simp at hq) <;> simp -implicitDefEqProofs [*, h1, h7, h8, h9, hlt, hlt', hw, irow, Fits, peersD]) | (with_reducible refine condC_split (fun hq => ?_) (fun hq => ?_) <;> (try simp at hq) <;> simp -implicitDefEqProofs [*, h1, h7, h8, h9, hlt, hlt', hw, irow, Fits, peersD]) | (refine appK2_if (by omega) ?_; simp -implicitDefEqProofs [*, h1, h7, h8, h9, hlt, hlt', hw, irow, Fits, peersD]) | (refine pureV_if (by omega) ?_; simp -implicitDefEqProofs [*, h1, h7, h8, h9, hlt, hlt', hw, irow, Fits, peersD]))
        exact fun _ _ => rfl
      · rw [if_neg hq] at e2 e3
        subst e2 e3
        simp -implicitDefEqProofs [h1, h7, h8, h9, hlt, hlt', hget, hg, hwm, hq, Peer.row, peersD]
        refine ⟨by simp [Fits], ?_⟩
        repeat' (first | (refine callThen_of (by first | exact ring_Place _ | exact den_nrm (ring_Place _) | exact den_nrm (by simpa using ring_Place _)) ?_; simp -implicitDefEqProofs [*, h1, h7, h8, h9, hlt, hlt', hw, Peer.row, Fits, peersD]) | (with_reducible refine gOps_dec (fun _ => ?_) (fun _ => ?_) <;> simp -implicitDefEqProofs [*, h1, h7, h8, h9, hlt, hlt', hw, Peer.row, Fits, peersD]) | (with_reducible refine gOps_ndec (fun _ => ?_) (fun _ => ?_) <;> simp -implicitDefEqProofs [*, h1, h7, h8, h9, hlt, hlt', hw, Peer.row, Fits, peersD]) | (with_reducible refine gOps_and (fun hq => ?_) (fun hq => ?_) <;> (try simp at hq) <;> simp -implicitDefEqProofs [*, h1, h7, h8, h9, hlt, hlt', hw, Peer.row, Fits, peersD]) | (with_reducible refine gOps_or (fun hq => ?_) (fun hq => ?_) <;> (try simp at hq) <;> simp -implicitDefEqProofs [*, h1, h7, h8, h9, hlt, hlt', hw, Peer.row, Fits, peersD]) | (with_reducible refine gOps_not (fun hq => ?_) (fun hq => ?_) <;> (try simp at hq) <;> simp -implicitDefEqProofs [*, h1, h7, h8, h9, hlt, hlt', hw, Peer.row, Fits, peersD]) | (with_reducible refine gOps_split (fun hq => ?_) (fun hq => ?_) <;> (try simp at hq) <;> simp -implicitDefEqProofs [*, h1, h7, h8, h9, hlt, hlt', hw, Peer.row, Fits, peersD]) | (with_reducible refine condC_dec (fun _ => ?_) (fun _ => ?_) <;> simp -implicitDefEqProofs [*, h1, h7, h8, h9, hlt, hlt', hw, Peer.row, Fits, peersD]) | (with_reducible refine condC_ndec (fun _ => ?_) (fun _ => ?_) <;> simp -implicitDefEqProofs [*, h1, h7, h8, h9, hlt, hlt', hw, Peer.row, Fits, peersD]) | (with_reducible refine condC_and (fun hq => ?_) (fun hq => ?_) <;> (try simp at hq) <;> simp -implicitDefEqProofs [*, h1, h7, h8, h9, hlt, hlt', hw, Peer.row, Fits, peersD]) | (with_reducible refine condC_or (fun hq => ?_) (fun hq => ?_) <;> (try simp at hq) <;> simp -implicitDefEqProofs [*, h1, h7, h8, h9, hlt, hlt', hw, Peer.row, Fits, peersD]) | (with_reducible refine condC_not (fun hq => ?_) (fun hq => ?_) <;> (try simp at hq) <;> simp -implicitDefEqProofs [*, h1, h7, h8, h9, hlt, hlt', hw, Peer.row, Fits, peersD]) | (with_reducible refine condC_split (fun hq => ?_) (fun hq => ?_) <;> (try simp at hq) <;> simp -implicitDefEqProofs [*, h1, h7, h8, h9, hlt, hlt', hw, Peer.row, Fits, peersD]) | (refine appK2_if (by omega) ?_; simp -implicitDefEqProofs [*, h1, h7, h8, h9, hlt, hlt', hw, Peer.row, Fits, peersD]) | (refine pureV_if (by omega) ?_; simp -implicitDefEqProofs [*, h1, h7, h8, h9, hlt, hlt', hw, Peer.row, Fits, peersD]))
    · rintro ⟨fr, bs⟩ ⟨rfl, h7, h8⟩
      simp -implicitDefEqProofs [h7, h8]
    · rintro ⟨fr, bs⟩ h
      exact h.elim
end Go.AM
/- AM: chapter 7's statements: Peers. -/
namespace Go.AM
set_option linter.unusedSimpArgs false
set_option linter.unusedVariables false
set_option maxRecDepth 8000
set_option maxHeartbeats 0
theorem law7_awake : Den PP 35 [] [] (.bool true) [] := by
  have g1 := peers_Heard 100 [⟨101, 2⟩, ⟨90, 1⟩] 200 (by unfold cap16; decide)
  have g2 := peers_Heard 100 [⟨101, 2⟩, ⟨90, 1⟩] 90 (by unfold cap16; decide)
  have g3 := peers_Age 100 [⟨101, 2⟩, ⟨90, 1⟩] (by unfold cap16; decide)
  have g4 := peers_Heard 100 [⟨101, 2⟩, ⟨90, 1⟩] 100 (by unfold cap16; decide)
  have g5 := peers_Age 90 [⟨101, 2⟩, ⟨90, 1⟩] (by unfold cap16; decide)
  have g6 := law_SamePeers [⟨101, 2⟩, ⟨200, 0⟩, ⟨90, 1⟩] [⟨101, 2⟩, ⟨200, 0⟩, ⟨90, 1⟩] (by unfold cap; decide)
  have g7 := law_SamePeers [⟨101, 2⟩, ⟨90, 0⟩] [⟨101, 2⟩, ⟨90, 0⟩] (by unfold cap; decide)
  have g8 := law_SamePeers [⟨90, 2⟩] [⟨90, 2⟩] (by unfold cap; decide)
  have g9 := law_SameInts [101] [101] (by unfold cap; decide)
  have g10 := peers_May 100 [⟨101, 2⟩, ⟨90, 1⟩] (by unfold cap; decide)
  rw [show refHeard 100 [⟨101, 2⟩, ⟨90, 1⟩] 200 = ([⟨101, 2⟩, ⟨200, 0⟩, ⟨90, 1⟩], 0) by decide +kernel] at g1
  rw [show refHeard 100 [⟨101, 2⟩, ⟨90, 1⟩] 90 = ([⟨101, 2⟩, ⟨90, 0⟩], 0) by decide +kernel] at g2
  rw [show ageR 100 [⟨101, 2⟩, ⟨90, 1⟩] = ([⟨90, 2⟩], [101], 0) by decide +kernel] at g3
  rw [show refHeard 100 [⟨101, 2⟩, ⟨90, 1⟩] 100 = ([], 700) by decide +kernel] at g4
  rw [show ageR 90 [⟨101, 2⟩, ⟨90, 1⟩] = ([], [], 700) by decide +kernel] at g5
  rw [show peersMay 100 [⟨101, 2⟩, ⟨90, 1⟩] = true by decide +kernel] at g10
  simp [peersD, intsD, irow, Peer.row] at g1 g2 g3 g4 g5 g6 g7 g8 g9 g10
  refine den_of [] [] is_gimmallaw7_awake ?_
  simp -implicitDefEqProofs [c_gimmallaw7_awake]
  repeat' (first | (refine callThen_of (by first | exact g1 | exact g2 | exact g3 | exact g4 | exact g5 | exact g6 | exact g7 | exact g8 | exact g9 | exact g10 | exact law_Num _) ?_; simp -implicitDefEqProofs [*, downTo, irow]) | (with_reducible refine gOps_dec (fun _ => ?_) (fun _ => ?_) <;> simp -implicitDefEqProofs [*, downTo, irow]) | (with_reducible refine gOps_ndec (fun _ => ?_) (fun _ => ?_) <;> simp -implicitDefEqProofs [*, downTo, irow]) | (with_reducible refine gOps_and (fun hq => ?_) (fun hq => ?_) <;> (try simp at hq) <;> simp -implicitDefEqProofs [*, downTo, irow]) | (with_reducible refine gOps_or (fun hq => ?_) (fun hq => ?_) <;> (try simp at hq) <;> simp -implicitDefEqProofs [*, downTo, irow]) | (with_reducible refine gOps_not (fun hq => ?_) (fun hq => ?_) <;> (try simp at hq) <;> simp -implicitDefEqProofs [*, downTo, irow]) | (with_reducible refine gOps_split (fun hq => ?_) (fun hq => ?_) <;> (try simp at hq) <;> simp -implicitDefEqProofs [*, downTo, irow]) | (with_reducible refine condC_dec (fun _ => ?_) (fun _ => ?_) <;> simp -implicitDefEqProofs [*, downTo, irow]) | (with_reducible refine condC_ndec (fun _ => ?_) (fun _ => ?_) <;> simp -implicitDefEqProofs [*, downTo, irow]) | (with_reducible refine condC_and (fun hq => ?_) (fun hq => ?_) <;> (try simp at hq) <;> simp -implicitDefEqProofs [*, downTo, irow]) | (with_reducible refine condC_or (fun hq => ?_) (fun hq => ?_) <;> (try simp at hq) <;> simp -implicitDefEqProofs [*, downTo, irow]) | (with_reducible refine condC_not (fun hq => ?_) (fun hq => ?_) <;> (try simp at hq) <;> simp -implicitDefEqProofs [*, downTo, irow]) | (with_reducible refine condC_split (fun hq => ?_) (fun hq => ?_) <;> (try simp at hq) <;> simp -implicitDefEqProofs [*, downTo, irow]) | (refine appK2_if (by omega) ?_; simp -implicitDefEqProofs [*, downTo, irow]) | (refine pureV_if (by omega) ?_; simp -implicitDefEqProofs [*, downTo, irow]))
theorem law7_Peers (base : Int) (ps : List Peer) (id : Int) (hl : ps.length * 16 ≤ 140737488351232) : Den PP 7 [.int .i64 base, peersD ps, .int .i64 id] [] (.bool true) [] := by
  have hc : ps.length ≤ cap16 := by unfold cap16; omega
  have g0 := lend_Peer ps hl
  have g1 := peers_Heard base ps id hc
  have g2 := ref_Heard base ps id hc
  have g3 := peers_Age base ps hc
  have g4 := ref_AgePeers base ps hc
  have g5 := peers_May base ps (cap_of hc)
  have g6 := ref_PeersMay base ps (cap_of hc)
  rw [peersMay_eq] at g6
  have g7 := kept_Peer ps hl
  have l1 := refHeard_len base ps id
  have l2 : (ageR base ps).1.length ≤ 16 ∧ (ageR base ps).2.1.length ≤ 16 := by
    unfold ageR
    split
    · have := age_length ps
      have := peersMay_len (by assumption)
      simp only
      omega
    · simp
  obtain ⟨l2, l3⟩ := l2
  generalize refHeard base ps id = A at *
  obtain ⟨a, e⟩ := A
  generalize ageR base ps = B at *
  obtain ⟨b, c, f⟩ := B
  simp only at l1 l2 l3 g1 g2 g3 g4
  have g8 := law_SamePeers a a (by unfold cap; omega)
  have g9 := law_SamePeers b b (by unfold cap; omega)
  have g10 := law_SameInts c c (by unfold cap; omega)
  have s1 := spoil_Peer a (by unfold cap16; omega)
  have s2 := spoil_Peer b (by unfold cap16; omega)
  have s3 := spoil_Int c (by unfold cap16; omega)
  have cut0 : ∀ {f : Nat} {r : D} {bs' : List Blk} (pre post : List D), Den PP f (pre ++ .sl (ps.map Peer.row) ps.length :: post) [] r bs' → pre.map D.cut = pre → post.map D.cut = post → Den PP f (pre ++ .sl (ps.map Peer.row ++ [(⟨0, 77777⟩ : Peer), (⟨0, 77777⟩ : Peer)].map Peer.row) ps.length :: post) [] r bs' := by
    intro f r bs' pre post h hq hp
    refine den_cut ?_
    simp only [List.map_append, List.map_cons, D.cut, hp, hq, take_map_app]
    exact h
  generalize peersMay base ps = M at *
  simp only [peersD, intsD] at g0 g1 g2 g3 g4 g5 g6 g7 g8 g9 g10
  have k1 := cut0 [.int .i64 base] [.int .i64 id] g1 rfl rfl
  have k3 := cut0 [.int .i64 base] [] g3 rfl rfl
  have k5 := cut0 [.int .i64 base] [] g5 rfl rfl
  simp only [List.cons_append, List.nil_append] at k1 k3 k5
  generalize hq : ps.map Peer.row ++ [(⟨0, 77777⟩ : Peer), (⟨0, 77777⟩ : Peer)].map Peer.row = q at *
  clear hq cut0 g1 g3 g5
  refine den_of [24, 37] [85, 87, 89] is_gimmallaw7_Peers ?_
  simp -implicitDefEqProofs [c_gimmallaw7_Peers, peersD]
  refine callThen_of g0 ?_
  skip
  simp -implicitDefEqProofs [downTo]
  refine callThen_of k1 ?_
  simp -implicitDefEqProofs [downTo]
  refine callThen_of g2 ?_
  simp -implicitDefEqProofs [downTo]
  refine callThen_of k3 ?_
  simp -implicitDefEqProofs [downTo]
  refine callThen_of g4 ?_
  simp -implicitDefEqProofs [downTo]
  repeat' (first | (refine callThen_of (by first | exact g8 | exact g9 | exact g10 | exact k5 | exact g6 | exact law_Num _) ?_; simp -implicitDefEqProofs [*]) | (with_reducible refine gOps_dec (fun _ => ?_) (fun _ => ?_) <;> simp -implicitDefEqProofs [*]) | (with_reducible refine gOps_ndec (fun _ => ?_) (fun _ => ?_) <;> simp -implicitDefEqProofs [*]) | (with_reducible refine gOps_and (fun hq => ?_) (fun hq => ?_) <;> (try simp at hq) <;> simp -implicitDefEqProofs [*]) | (with_reducible refine gOps_or (fun hq => ?_) (fun hq => ?_) <;> (try simp at hq) <;> simp -implicitDefEqProofs [*]) | (with_reducible refine gOps_not (fun hq => ?_) (fun hq => ?_) <;> (try simp at hq) <;> simp -implicitDefEqProofs [*]) | (with_reducible refine gOps_split (fun hq => ?_) (fun hq => ?_) <;> (try simp at hq) <;> simp -implicitDefEqProofs [*]) | (with_reducible refine condC_dec (fun _ => ?_) (fun _ => ?_) <;> simp -implicitDefEqProofs [*]) | (with_reducible refine condC_ndec (fun _ => ?_) (fun _ => ?_) <;> simp -implicitDefEqProofs [*]) | (with_reducible refine condC_and (fun hq => ?_) (fun hq => ?_) <;> (try simp at hq) <;> simp -implicitDefEqProofs [*]) | (with_reducible refine condC_or (fun hq => ?_) (fun hq => ?_) <;> (try simp at hq) <;> simp -implicitDefEqProofs [*]) | (with_reducible refine condC_not (fun hq => ?_) (fun hq => ?_) <;> (try simp at hq) <;> simp -implicitDefEqProofs [*]) | (with_reducible refine condC_split (fun hq => ?_) (fun hq => ?_) <;> (try simp at hq) <;> simp -implicitDefEqProofs [*]) | (refine appK2_if (by omega) ?_; simp -implicitDefEqProofs [*]) | (refine pureV_if (by omega) ?_; simp -implicitDefEqProofs [*]))
  refine lendThen_frame [0] rfl (by decide) (by simp) s1 (by simp) (by simp [lentBs]) ?_
  simp -implicitDefEqProofs [framed]
  refine lendThen_frame [1] rfl (by decide) (by simp) s2 (by simp) (by simp [lentBs]) ?_
  simp -implicitDefEqProofs [framed]
  refine lendThen_frame [2] rfl (by decide) (by simp) s3 (by simp) (by simp [lentBs]) ?_
  simp -implicitDefEqProofs [framed]
  repeat' (first | (refine callThen_of (by first | exact g7 | exact law7_awake) ?_; simp -implicitDefEqProofs [*]) | (with_reducible refine gOps_dec (fun _ => ?_) (fun _ => ?_) <;> simp -implicitDefEqProofs [*]) | (with_reducible refine gOps_ndec (fun _ => ?_) (fun _ => ?_) <;> simp -implicitDefEqProofs [*]) | (with_reducible refine gOps_and (fun hq => ?_) (fun hq => ?_) <;> (try simp at hq) <;> simp -implicitDefEqProofs [*]) | (with_reducible refine gOps_or (fun hq => ?_) (fun hq => ?_) <;> (try simp at hq) <;> simp -implicitDefEqProofs [*]) | (with_reducible refine gOps_not (fun hq => ?_) (fun hq => ?_) <;> (try simp at hq) <;> simp -implicitDefEqProofs [*]) | (with_reducible refine gOps_split (fun hq => ?_) (fun hq => ?_) <;> (try simp at hq) <;> simp -implicitDefEqProofs [*]) | (with_reducible refine condC_dec (fun _ => ?_) (fun _ => ?_) <;> simp -implicitDefEqProofs [*]) | (with_reducible refine condC_ndec (fun _ => ?_) (fun _ => ?_) <;> simp -implicitDefEqProofs [*]) | (with_reducible refine condC_and (fun hq => ?_) (fun hq => ?_) <;> (try simp at hq) <;> simp -implicitDefEqProofs [*]) | (with_reducible refine condC_or (fun hq => ?_) (fun hq => ?_) <;> (try simp at hq) <;> simp -implicitDefEqProofs [*]) | (with_reducible refine condC_not (fun hq => ?_) (fun hq => ?_) <;> (try simp at hq) <;> simp -implicitDefEqProofs [*]) | (with_reducible refine condC_split (fun hq => ?_) (fun hq => ?_) <;> (try simp at hq) <;> simp -implicitDefEqProofs [*]) | (refine appK2_if (by omega) ?_; simp -implicitDefEqProofs [*]) | (refine pureV_if (by omega) ?_; simp -implicitDefEqProofs [*]))
end Go.AM
/- AM: chapter 7's statements: PeersAge, PeersOther. -/
namespace Go.AM
set_option linter.unusedSimpArgs false
set_option linter.unusedVariables false
set_option maxRecDepth 8000
set_option maxHeartbeats 0
theorem ageL_app (ps qs : List Peer) : ageL (ps ++ qs) = ageL ps ++ ageL qs := by simp [ageL]
theorem lostL_app (ps qs : List Peer) : lostL (ps ++ qs) = lostL ps ++ lostL qs := by simp [lostL]
theorem age_at {ps : List Peer} {k : Nat} {q : Peer} (h : ps[k]? = some q) :
    (q.missed + 1 ≠ 3 → (ageL ps)[(ageL (ps.take k)).length]? = some ⟨q.id, q.missed + 1⟩ ∧ (ageL (ps.take (k + 1))).length = (ageL (ps.take k)).length + 1 ∧ (lostL (ps.take (k + 1))).length = (lostL (ps.take k)).length) ∧
    (q.missed + 1 = 3 → (lostL ps)[(lostL (ps.take k)).length]? = some q.id ∧ (ageL (ps.take (k + 1))).length = (ageL (ps.take k)).length ∧ (lostL (ps.take (k + 1))).length = (lostL (ps.take k)).length + 1) := by
  have hk := (List.getElem?_eq_some_iff.1 h).1
  have e1 : ps.take (k + 1) = ps.take k ++ [q] := by rw [List.take_add_one, h]; rfl
  have e2 : ps = ps.take k ++ (q :: ps.drop (k + 1)) := by
    have := List.take_append_drop k ps
    rw [List.drop_eq_getElem_cons hk] at this
    have hq : ps[k] = q := (List.getElem?_eq_some_iff.1 h).2
    rw [hq] at this
    exact this.symm
  rw [e1, ageL_snoc, lostL_snoc]
  have a1 : ageL ps = ageL (ps.take k) ++ ageL (q :: ps.drop (k + 1)) := by rw [← ageL_app, ← e2]
  have l1 : lostL ps = lostL (ps.take k) ++ lostL (q :: ps.drop (k + 1)) := by rw [← lostL_app, ← e2]
  refine ⟨fun hq => ?_, fun hq => ?_⟩
  · rw [a1, if_neg hq, if_neg hq, List.getElem?_append_right (Nat.le_refl _), Nat.sub_self]
    simp [ageL, hq]
  · rw [l1, if_pos hq, if_pos hq, List.getElem?_append_right (Nat.le_refl _), Nat.sub_self]
    simp [lostL, hq]
theorem age_ne3 {ps : List Peer} : ∀ y ∈ ageL ps, y.missed ≠ 3 := by
  intro y hy
  obtain ⟨p, hp, rfl⟩ := List.mem_map.1 hy
  have := (List.mem_filter.1 hp).2
  simpa using this
theorem law7_PeersAge (base : Int) (ps : List Peer) (hl : ps.length ≤ cap16) : Den PP 11 [.int .i64 base, peersD ps] [] (.bool true) [] := by
  have g1 := peers_Age base ps hl
  have g2 := peers_May base ps (cap_of hl)
  by_cases hm : peersMay base ps = true
  · have g3 := peers_May base (ageL ps) (by have := age_length ps; have := cap_of hl; omega)
    rw [ageL_may hm] at g3
    rw [show ageR base ps = (ageL ps, lostL ps, 0) by unfold ageR; rw [if_pos hm]] at g1
    have hal := age_length ps
    have h16 := peersMay_len hm
    have hat := fun k q => @age_at ps k q
    have hne := fun y => @age_ne3 ps y
    have hok := peersMay_places hm
    have hmo : ageL ps = ageL (ps.take ps.length) := by rw [List.take_length]
    have hlo : lostL ps = lostL (ps.take ps.length) := by rw [List.take_length]
    simp only at g1
    have hA : ∃ A : Nat → Nat, ∀ k, A k = (ageL (ps.take k)).length := ⟨_, fun _ => rfl⟩
    obtain ⟨A, hA⟩ := hA
    have hB : ∃ B : Nat → Nat, ∀ k, B k = (lostL (ps.take k)).length := ⟨_, fun _ => rfl⟩
    obtain ⟨B, hB⟩ := hB
    have hA0 : A 0 = 0 := by rw [hA]; rfl
    have hB0 : B 0 = 0 := by rw [hB]; rfl
    have hAl : A ps.length = (ageL ps).length := by rw [hA, ← hmo]
    have hBl : B ps.length = (lostL ps).length := by rw [hB, ← hlo]
    simp only [← hA, ← hB] at hat
    clear hA hB hmo hlo g2
    generalize ageL ps = a at *
    generalize lostL ps = l at *
    simp [peersD] at g1 g3
    refine den_of [] [] is_gimmallaw7_PeersAge ?_
    simp -implicitDefEqProofs [c_gimmallaw7_PeersAge, peersD]
    refine callThen_of law7_awake ?_
    simp -implicitDefEqProofs
    refine callThen_of g1 ?_
    simp -implicitDefEqProofs [downTo]
    refine callThen_of (law_Num _) ?_
    simp -implicitDefEqProofs
    refine list_rule ps (fun k rest => fun ⟨fr, bs⟩ => bs = [] ∧ fr 0 = .int .i64 base ∧ fr 1 = peersD ps ∧ fr 5 = peersD a ∧ fr 6 = intsD l ∧ fr 8 = .int .i64 (A k) ∧ fr 9 = .int .i64 (B k) ∧ fr 10 = .int .i64 k)
      (fun ⟨fr, bs⟩ => bs = [] ∧ fr 0 = .int .i64 base ∧ fr 5 = peersD a ∧ fr 6 = intsD l ∧ fr 8 = .int .i64 a.length ∧ fr 9 = .int .i64 l.length) (fun _ => False) c_gimmallaw7_PeersAge_L0.eq_1 ?_ ?_ ?_ ?_ ?_
    · exact ⟨rfl, rfl, rfl, rfl, rfl, by simp [hA0], by simp [hB0], rfl⟩
    · rintro i ⟨fr, bs⟩ hi ⟨rfl, h0, h1, h5, h6, h8, h9, h10⟩
      subst hi
      rw [hAl] at h8
      rw [hBl] at h9
      simp -implicitDefEqProofs [h0, h1, h5, h6, h8, h9, h10, peersD]
    · rintro i q rest ⟨fr, bs⟩ hlt hget hg hd hd2 ⟨rfl, h0, h1, h5, h6, h8, h9, h10⟩
      have hlt' : (i : Int) < ps.length := by omega
      have hw := wrap_next (n := i) (by omega)
      obtain ⟨t1, t2⟩ := hat i q hget
      have hm2 := hok q (List.mem_of_getElem? hget)
      have hwm : IntKind.wrap .i64 (q.missed + 1) = q.missed + 1 := wrap_in (by omega) (by omega)
      clear hat hok hA0 hB0 hAl hBl
      by_cases hq : q.missed + 1 = 3
      · obtain ⟨u1, u2, u3⟩ := t2 hq
        clear t1 t2
        have hj : B i < l.length := (List.getElem?_eq_some_iff.1 u1).1
        have hj' : ((B i : Nat) : Int) < l.length := by omega
        have hjv : l[B i] = q.id := (List.getElem?_eq_some_iff.1 u1).2
        have hwj := wrap_next (n := B i) (by omega)
        have hq2 : q.missed = 2 := by omega
        have w3 : IntKind.wrap .i64 3 = 3 := wrap_in (by omega) (by omega)
        by_cases hi : A i < a.length
        · have hi' : ((A i : Nat) : Int) < a.length := by omega
          obtain ⟨y, hy⟩ : ∃ y, a[A i] = y := ⟨_, rfl⟩
          have hyn := hne y (by rw [← hy]; exact List.getElem_mem _)
          rw [u2, u3]
          clear hwm hq hne u1 u2 u3
          generalize A i = ai at *
          generalize B i = bi at *
          simp -implicitDefEqProofs [h0, h1, h5, h6, h8, h9, h10, hlt, hlt', hget, hg, hi, hi', hy, hj, hj', hjv, hq2, w3, Peer.row, irow, peersD, intsD, EQS, hyn, hw, hwj]
        · have hi' : ¬ ((A i : Nat) : Int) < a.length := by omega
          rw [u2, u3]
          clear hwm hq hne u1 u2 u3
          generalize A i = ai at *
          generalize B i = bi at *
          simp -implicitDefEqProofs [h0, h1, h5, h6, h8, h9, h10, hlt, hlt', hget, hg, hi, hi', hj, hj', hjv, hq2, w3, Peer.row, irow, peersD, intsD, EQS, hw, hwj]
      · obtain ⟨u1, u2, u3⟩ := t1 hq
        clear t1 t2
        have hi : A i < a.length := (List.getElem?_eq_some_iff.1 u1).1
        have hi' : ((A i : Nat) : Int) < a.length := by omega
        have hiv : a[A i] = ⟨q.id, q.missed + 1⟩ := (List.getElem?_eq_some_iff.1 u1).2
        have hwi := wrap_next (n := A i) (by omega)
        rw [u2, u3]
        clear hne u1 u2 u3
        generalize A i = ai at *
        generalize B i = bi at *
        simp -implicitDefEqProofs [h0, h1, h5, h6, h8, h9, h10, hlt, hlt', hget, hg, hi, hi', hiv, hwm, Peer.row, irow, peersD, intsD, EQS, hw, hwi]
    · rintro ⟨fr, bs⟩ ⟨rfl, h0, h5, h6, h8, h9⟩
      simp -implicitDefEqProofs [h0, h5, h6, h8, h9, peersD, intsD]
      repeat' (first | (refine callThen_of (by first | exact g3) ?_; simp -implicitDefEqProofs [*, peersD, intsD]) | (with_reducible refine gOps_dec (fun _ => ?_) (fun _ => ?_) <;> simp -implicitDefEqProofs [*, peersD, intsD]) | (with_reducible refine gOps_ndec (fun _ => ?_) (fun _ => ?_) <;> simp -implicitDefEqProofs [*, peersD, intsD]) | (with_reducible refine gOps_and (fun hq => ?_) (fun hq => ?_) <;> (try simp at hq) <;> simp -implicitDefEqProofs [*, peersD, intsD]) | (with_reducible refine gOps_or (fun hq => ?_) (fun hq => ?_) <;> (try simp at hq) <;> simp -implicitDefEqProofs [*, peersD, intsD]) | (with_reducible refine gOps_not (fun hq => ?_) (fun hq => ?_) <;> (try simp at hq) <;> simp -implicitDefEqProofs [*, peersD, intsD]) | (with_reducible refine gOps_split (fun hq => ?_) (fun hq => ?_) <;> (try simp at hq) <;> simp -implicitDefEqProofs [*, peersD, intsD]) | (with_reducible refine condC_dec (fun _ => ?_) (fun _ => ?_) <;> simp -implicitDefEqProofs [*, peersD, intsD]) | (with_reducible refine condC_ndec (fun _ => ?_) (fun _ => ?_) <;> simp -implicitDefEqProofs [*, peersD, intsD]) | (with_reducible refine condC_and (fun hq => ?_) (fun hq => ?_) <;> (try simp at hq) <;> simp -implicitDefEqProofs [*, peersD, intsD]) | (with_reducible refine condC_or (fun hq => ?_) (fun hq => ?_) <;> (try simp at hq) <;> simp -implicitDefEqProofs [*, peersD, intsD]) | (with_reducible refine condC_not (fun hq => ?_) (fun hq => ?_) <;> (try simp at hq) <;> simp -implicitDefEqProofs [*, peersD, intsD]) | (with_reducible refine condC_split (fun hq => ?_) (fun hq => ?_) <;> (try simp at hq) <;> simp -implicitDefEqProofs [*, peersD, intsD]) | (refine appK2_if (by omega) ?_; simp -implicitDefEqProofs [*, peersD, intsD]) | (refine pureV_if (by omega) ?_; simp -implicitDefEqProofs [*, peersD, intsD]))
    · rintro ⟨fr, bs⟩ h
      exact h.elim
  · have hm' : peersMay base ps = false := by simpa using hm
    rw [show ageR base ps = ([], [], 700) by unfold ageR; rw [if_neg hm]] at g1
    rw [hm'] at g2
    simp [peersD] at g1 g2
    clear hm hm'
    refine den_of [] [] is_gimmallaw7_PeersAge ?_
    simp -implicitDefEqProofs [c_gimmallaw7_PeersAge, peersD]
    repeat' (first | (refine callThen_of (by first | exact law7_awake | exact g1 | exact g2 | exact law_Num _) ?_; simp -implicitDefEqProofs [*, downTo]) | (with_reducible refine gOps_dec (fun _ => ?_) (fun _ => ?_) <;> simp -implicitDefEqProofs [*, downTo]) | (with_reducible refine gOps_ndec (fun _ => ?_) (fun _ => ?_) <;> simp -implicitDefEqProofs [*, downTo]) | (with_reducible refine gOps_and (fun hq => ?_) (fun hq => ?_) <;> (try simp at hq) <;> simp -implicitDefEqProofs [*, downTo]) | (with_reducible refine gOps_or (fun hq => ?_) (fun hq => ?_) <;> (try simp at hq) <;> simp -implicitDefEqProofs [*, downTo]) | (with_reducible refine gOps_not (fun hq => ?_) (fun hq => ?_) <;> (try simp at hq) <;> simp -implicitDefEqProofs [*, downTo]) | (with_reducible refine gOps_split (fun hq => ?_) (fun hq => ?_) <;> (try simp at hq) <;> simp -implicitDefEqProofs [*, downTo]) | (with_reducible refine condC_dec (fun _ => ?_) (fun _ => ?_) <;> simp -implicitDefEqProofs [*, downTo]) | (with_reducible refine condC_ndec (fun _ => ?_) (fun _ => ?_) <;> simp -implicitDefEqProofs [*, downTo]) | (with_reducible refine condC_and (fun hq => ?_) (fun hq => ?_) <;> (try simp at hq) <;> simp -implicitDefEqProofs [*, downTo]) | (with_reducible refine condC_or (fun hq => ?_) (fun hq => ?_) <;> (try simp at hq) <;> simp -implicitDefEqProofs [*, downTo]) | (with_reducible refine condC_not (fun hq => ?_) (fun hq => ?_) <;> (try simp at hq) <;> simp -implicitDefEqProofs [*, downTo]) | (with_reducible refine condC_split (fun hq => ?_) (fun hq => ?_) <;> (try simp at hq) <;> simp -implicitDefEqProofs [*, downTo]) | (refine appK2_if (by omega) ?_; simp -implicitDefEqProofs [*, downTo]) | (refine pureV_if (by omega) ?_; simp -implicitDefEqProofs [*, downTo]))
theorem law7_PeersOther (base : Int) (ps : List Peer) (id : Int) (hl : ps.length ≤ cap16) : Den PP 10 [.int .i64 base, peersD ps, .int .i64 id] [] (.bool true) [] := by
  have g1 := peers_Heard base ps id hl
  rcases refHeard_cases base ps id with ⟨e, he, hne⟩ | ⟨he, hm, hid, hib, hma⟩
  · rw [he] at g1
    simp [peersD] at g1
    clear he
    refine den_of [] [] is_gimmallaw7_PeersOther ?_
    simp -implicitDefEqProofs [c_gimmallaw7_PeersOther, peersD]
    repeat' (first | (refine callThen_of (by first | exact law7_awake | exact g1 | exact law_Num _) ?_; simp -implicitDefEqProofs [*, downTo, hne]) | (with_reducible refine gOps_dec (fun _ => ?_) (fun _ => ?_) <;> simp -implicitDefEqProofs [*, downTo, hne]) | (with_reducible refine gOps_ndec (fun _ => ?_) (fun _ => ?_) <;> simp -implicitDefEqProofs [*, downTo, hne]) | (with_reducible refine gOps_and (fun hq => ?_) (fun hq => ?_) <;> (try simp at hq) <;> simp -implicitDefEqProofs [*, downTo, hne]) | (with_reducible refine gOps_or (fun hq => ?_) (fun hq => ?_) <;> (try simp at hq) <;> simp -implicitDefEqProofs [*, downTo, hne]) | (with_reducible refine gOps_not (fun hq => ?_) (fun hq => ?_) <;> (try simp at hq) <;> simp -implicitDefEqProofs [*, downTo, hne]) | (with_reducible refine gOps_split (fun hq => ?_) (fun hq => ?_) <;> (try simp at hq) <;> simp -implicitDefEqProofs [*, downTo, hne]) | (with_reducible refine condC_dec (fun _ => ?_) (fun _ => ?_) <;> simp -implicitDefEqProofs [*, downTo, hne]) | (with_reducible refine condC_ndec (fun _ => ?_) (fun _ => ?_) <;> simp -implicitDefEqProofs [*, downTo, hne]) | (with_reducible refine condC_and (fun hq => ?_) (fun hq => ?_) <;> (try simp at hq) <;> simp -implicitDefEqProofs [*, downTo, hne]) | (with_reducible refine condC_or (fun hq => ?_) (fun hq => ?_) <;> (try simp at hq) <;> simp -implicitDefEqProofs [*, downTo, hne]) | (with_reducible refine condC_not (fun hq => ?_) (fun hq => ?_) <;> (try simp at hq) <;> simp -implicitDefEqProofs [*, downTo, hne]) | (with_reducible refine condC_split (fun hq => ?_) (fun hq => ?_) <;> (try simp at hq) <;> simp -implicitDefEqProofs [*, downTo, hne]) | (refine appK2_if (by omega) ?_; simp -implicitDefEqProofs [*, downTo, hne]) | (refine pureV_if (by omega) ?_; simp -implicitDefEqProofs [*, downTo, hne]))
  · rw [he] at g1
    have h16 := peersMay_len hm
    have ha16 := peersMay_len hma
    have hfl := hearG_filter base id ps
    have hzero := hearG_zero base id ps
    have hlen := hearG_length base id ps
    have hhas := hearG_has base id ps
    have g2 := peers_May base (hearG base id false ps) (by unfold cap; omega)
    rw [hma] at g2
    have hle := List.length_filter_le (fun p : Peer => !decide (p.id = id)) ps
    have g3 := law_SamePeers (ps.filter fun p => !decide (p.id = id)) (ps.filter fun p => !decide (p.id = id)) (by unfold cap; omega)
    have hsn : ∀ (xs : List Peer) (i : Nat) (q : Peer), xs[i]? = some q → (xs.take (i + 1)).filter (fun p => !decide (p.id = id)) = if q.id = id then (xs.take i).filter (fun p => !decide (p.id = id)) else (xs.take i).filter (fun p => !decide (p.id = id)) ++ [q] := by
      intro xs i q h
      rw [List.take_add_one, h, List.filter_append]
      by_cases e : q.id = id <;> simp [e]
    have hln : ∀ (xs : List Peer) (i : Nat), ((xs.take i).filter (fun p => !decide (p.id = id))).length ≤ xs.length := by
      intro xs i
      have h1 := List.length_filter_le (fun p : Peer => !decide (p.id = id)) (xs.take i)
      have h2 : (xs.take i).length ≤ xs.length := by simp; omega
      omega
    clear he hm hid hib hma
    simp only at g1
    generalize hearG base id false ps = a at *
    have hw1 : IntKind.wrap .i64 (((ps.filter fun p => !decide (p.id = id)).length : Int) + 1) = (ps.filter fun p => !decide (p.id = id)).length + 1 := wrap_in (by omega) (by omega)
    simp only [peersD] at g1 g3
    refine den_of [] [] is_gimmallaw7_PeersOther ?_
    simp -implicitDefEqProofs [c_gimmallaw7_PeersOther, peersD]
    refine callThen_of law7_awake ?_
    simp -implicitDefEqProofs
    refine callThen_of g1 ?_
    simp -implicitDefEqProofs [downTo]
    refine callThen_of (law_Num _) ?_
    simp -implicitDefEqProofs
    refine list_rule ps (fun i rest => fun ⟨fr, bs⟩ => bs = [⟨((ps.take i).filter fun p => !decide (p.id = id)).map Peer.row, 2, .mut⟩, ⟨[], 2, .mut⟩] ∧ fr 0 = .int .i64 base ∧ fr 1 = peersD ps ∧ fr 2 = .int .i64 id ∧ fr 7 = peersD a ∧ fr 9 = .ref 0 0 ((ps.take i).filter fun p => !decide (p.id = id)).length ∧ fr 10 = .ref 1 0 0 ∧ fr 11 = .int .i64 i)
      (fun ⟨fr, bs⟩ => bs = [⟨(ps.filter fun p => !decide (p.id = id)).map Peer.row, 2, .mut⟩, ⟨[], 2, .mut⟩] ∧ fr 0 = .int .i64 base ∧ fr 2 = .int .i64 id ∧ fr 7 = peersD a ∧ fr 9 = .ref 0 0 (ps.filter fun p => !decide (p.id = id)).length ∧ fr 10 = .ref 1 0 0) (fun _ => False) c_gimmallaw7_PeersOther_L0.eq_1 ?_ ?_ ?_ ?_ ?_
    · exact ⟨rfl, rfl, rfl, rfl, rfl, rfl, rfl, rfl⟩
    · rintro i ⟨fr, bs⟩ hi ⟨rfl, h0, h1, h2, h7, h9, h10, h11⟩
      subst hi
      rw [List.take_length] at *
      simp -implicitDefEqProofs [h0, h1, h2, h7, h9, h10, h11, peersD]
    · rintro i q rest ⟨fr, bs⟩ hlt hget hg hd hd2 ⟨rfl, h0, h1, h2, h7, h9, h10, h11⟩
      have hlt' : (i : Int) < ps.length := by omega
      have hw := wrap_next (n := i) (by omega)
      have hs := hsn ps i q hget
      have hn := hln ps i
      generalize (ps.take (i + 1)).filter (fun p => !decide (p.id = id)) = A' at *
      generalize (ps.take i).filter (fun p => !decide (p.id = id)) = A at *
      generalize ps.filter (fun p => !decide (p.id = id)) = F at *
      clear hsn hln hfl hzero hlen hhas hw1 g1 g2 g3
      by_cases e : q.id = id
      · rw [if_pos e] at hs
        subst hs
        simp -implicitDefEqProofs [h0, h1, h2, h7, h9, h10, h11, hlt, hlt', hget, hg, e, Peer.row, peersD, hw]
      · rw [if_neg e] at hs
        subst hs
        simp -implicitDefEqProofs [h0, h1, h2, h7, h9, h10, h11, hlt, hlt', hget, hg, e, Peer.row, peersD, hw]
        refine ⟨by simp [Fits], ?_⟩
        repeat' (first | (refine callThen_of (by first | exact ring_Place _ | exact den_nrm (ring_Place _) | exact den_nrm (by simpa using ring_Place _)) ?_; simp -implicitDefEqProofs [*, hw, Peer.row, peersD, Fits]) | (with_reducible refine gOps_dec (fun _ => ?_) (fun _ => ?_) <;> simp -implicitDefEqProofs [*, hw, Peer.row, peersD, Fits]) | (with_reducible refine gOps_ndec (fun _ => ?_) (fun _ => ?_) <;> simp -implicitDefEqProofs [*, hw, Peer.row, peersD, Fits]) | (with_reducible refine gOps_and (fun hq => ?_) (fun hq => ?_) <;> (try simp at hq) <;> simp -implicitDefEqProofs [*, hw, Peer.row, peersD, Fits]) | (with_reducible refine gOps_or (fun hq => ?_) (fun hq => ?_) <;> (try simp at hq) <;> simp -implicitDefEqProofs [*, hw, Peer.row, peersD, Fits]) | (with_reducible refine gOps_not (fun hq => ?_) (fun hq => ?_) <;> (try simp at hq) <;> simp -implicitDefEqProofs [*, hw, Peer.row, peersD, Fits]) | (with_reducible refine gOps_split (fun hq => ?_) (fun hq => ?_) <;> (try simp at hq) <;> simp -implicitDefEqProofs [*, hw, Peer.row, peersD, Fits]) | (with_reducible refine condC_dec (fun _ => ?_) (fun _ => ?_) <;> simp -implicitDefEqProofs [*, hw, Peer.row, peersD, Fits]) | (with_reducible refine condC_ndec (fun _ => ?_) (fun _ => ?_) <;> simp -implicitDefEqProofs [*, hw, Peer.row, peersD, Fits]) | (with_reducible refine condC_and (fun hq => ?_) (fun hq => ?_) <;> (try simp at hq) <;> simp -implicitDefEqProofs [*, hw, Peer.row, peersD, Fits]) | (with_reducible refine condC_or (fun hq => ?_) (fun hq => ?_) <;> (try simp at hq) <;> simp -implicitDefEqProofs [*, hw, Peer.row, peersD, Fits]) | (with_reducible refine condC_not (fun hq => ?_) (fun hq => ?_) <;> (try simp at hq) <;> simp -implicitDefEqProofs [*, hw, Peer.row, peersD, Fits]) | (with_reducible refine condC_split (fun hq => ?_) (fun hq => ?_) <;> (try simp at hq) <;> simp -implicitDefEqProofs [*, hw, Peer.row, peersD, Fits]) | (refine appK2_if (by omega) ?_; simp -implicitDefEqProofs [*, hw, Peer.row, peersD, Fits]) | (refine pureV_if (by omega) ?_; simp -implicitDefEqProofs [*, hw, Peer.row, peersD, Fits]))
    · rintro ⟨fr, bs⟩ ⟨rfl, h0, h2, h7, h9, h10⟩
      rw [← hfl] at *
      clear hfl
      simp -implicitDefEqProofs [h0, h2, h7, h9, h10]
      refine list_rule a (fun i rest => fun ⟨fr, bs⟩ => bs = [⟨(a.filter fun p => !decide (p.id = id)).map Peer.row, 2, .mut⟩, ⟨((a.take i).filter fun p => !decide (p.id = id)).map Peer.row, 2, .mut⟩] ∧ fr 0 = .int .i64 base ∧ fr 2 = .int .i64 id ∧ fr 7 = peersD a ∧ fr 9 = .ref 0 0 (a.filter fun p => !decide (p.id = id)).length ∧ fr 10 = .ref 1 0 ((a.take i).filter fun p => !decide (p.id = id)).length ∧ fr 13 = .int .i64 i ∧ ((∃ j : Nat, j < i ∧ fr 12 = .int .i64 j ∧ a[j]? = some ⟨id, 0⟩) ∨ (fr 12 = .int .i64 (-1) ∧ ∀ q ∈ a.take i, q.id ≠ id)))
        (fun ⟨fr, bs⟩ => bs = [⟨(a.filter fun p => !decide (p.id = id)).map Peer.row, 2, .mut⟩, ⟨(a.filter fun p => !decide (p.id = id)).map Peer.row, 2, .mut⟩] ∧ fr 0 = .int .i64 base ∧ fr 2 = .int .i64 id ∧ fr 7 = peersD a ∧ fr 9 = .ref 0 0 (a.filter fun p => !decide (p.id = id)).length ∧ fr 10 = .ref 1 0 (a.filter fun p => !decide (p.id = id)).length ∧ (∃ j : Nat, fr 12 = .int .i64 j ∧ a[j]? = some ⟨id, 0⟩)) (fun _ => False) c_gimmallaw7_PeersOther_L1.eq_1 ?_ ?_ ?_ ?_ ?_
      · exact ⟨rfl, h0, h2, h7, h9, h10, rfl, .inr ⟨rfl, by simp⟩⟩
      · rintro i ⟨fr, bs⟩ hi ⟨rfl, h0, h2, h7, h9, h10, h13, h12⟩
        subst hi
        rw [List.take_length] at *
        have h12' : ∃ j : Nat, fr 12 = .int .i64 j ∧ a[j]? = some ⟨id, 0⟩ := by
          rcases h12 with ⟨j, _, h, h'⟩ | ⟨_, h⟩
          · exact ⟨j, h, h'⟩
          · obtain ⟨q, hq, e⟩ := hhas
            exact absurd e (h q hq)
        clear h12 hsn hln hzero hlen hhas hw1 g1 g2 g3
        simp -implicitDefEqProofs [h0, h2, h7, h9, h10, h13, peersD]
        exact h12'
      · rintro i q rest ⟨fr, bs⟩ hlt hget hg hd hd2 ⟨rfl, h0, h2, h7, h9, h10, h13, h12⟩
        have hlt' : (i : Int) < a.length := by omega
        have hw := wrap_next (n := i) (by omega)
        have hs := hsn a i q hget
        have hn := hln a i
        have hz := hzero q (List.mem_of_getElem? hget)
        have htk : a.take (i + 1) = a.take i ++ [q] := by rw [List.take_add_one, hget]; rfl
        have h12' : ∃ z : D, fr 12 = z ∧ (∀ f g, D.mapR f g z = z) ∧ ((∃ j : Nat, j < i ∧ z = .int .i64 j ∧ a[j]? = some ⟨id, 0⟩) ∨ (z = .int .i64 (-1) ∧ ∀ q ∈ a.take i, q.id ≠ id)) := by
          refine ⟨_, rfl, ?_, h12⟩
          rcases h12 with ⟨j, _, h, h'⟩ | ⟨h, _⟩ <;> (rw [h]; intros; rfl)
        clear h12
        obtain ⟨z, h12, hzm, h12'⟩ := h12'
        have hnew : (∃ j : Nat, j < i + 1 ∧ (if q.id = id then D.int .i64 i else z) = .int .i64 j ∧ a[j]? = some ⟨id, 0⟩) ∨ ((if q.id = id then D.int .i64 i else z) = .int .i64 (-1) ∧ ∀ q ∈ a.take (i + 1), q.id ≠ id) := by
          by_cases e : q.id = id
          · rw [if_pos e]
            refine .inl ⟨i, by omega, rfl, ?_⟩
            rw [hget, hz e]
          · rw [if_neg e]
            rcases h12' with ⟨j, h1, h2, h3⟩ | ⟨h1, h2⟩
            · exact .inl ⟨j, by omega, h2, h3⟩
            · refine .inr ⟨h1, fun p hp => ?_⟩
              rw [htk] at hp
              rcases List.mem_append.1 hp with h | h
              · exact h2 p h
              · rw [List.mem_singleton.1 h]; exact e
        clear h12' htk hz
        generalize (a.take (i + 1)).filter (fun p => !decide (p.id = id)) = A' at *
        generalize (a.take i).filter (fun p => !decide (p.id = id)) = A at *
        generalize a.filter (fun p => !decide (p.id = id)) = F at *
        clear hsn hln hzero hlen hhas hw1 g1 g2 g3
        by_cases e : q.id = id
        · rw [if_pos e] at hs
          subst hs
          simp only [if_pos e] at hnew
          simp -implicitDefEqProofs [h0, h2, h7, h9, h10, h12, h13, hzm, hlt, hlt', hget, hg, e, Peer.row, peersD, hw]
          simpa using hnew
        · rw [if_neg e] at hs
          subst hs
          simp only [if_neg e] at hnew
          simp -implicitDefEqProofs [h0, h2, h7, h9, h10, h12, h13, hzm, hlt, hlt', hget, hg, e, Peer.row, peersD, hw]
          refine ⟨by simp [Fits], ?_⟩
          repeat' (first | (refine callThen_of (by first | exact ring_Place _ | exact den_nrm (ring_Place _) | exact den_nrm (by simpa using ring_Place _)) ?_; simp -implicitDefEqProofs [*, h0, h2, h7, h9, h10, h12, h13, hzm, hw, Peer.row, peersD, Fits]) | (with_reducible refine gOps_dec (fun _ => ?_) (fun _ => ?_) <;> simp -implicitDefEqProofs [*, h0, h2, h7, h9, h10, h12, h13, hzm, hw, Peer.row, peersD, Fits]) | (with_reducible refine gOps_ndec (fun _ => ?_) (fun _ => ?_) <;> simp -implicitDefEqProofs [*, h0, h2, h7, h9, h10, h12, h13, hzm, hw, Peer.row, peersD, Fits]) | (with_reducible refine gOps_and (fun hq => ?_) (fun hq => ?_) <;> (try simp at hq) <;> simp -implicitDefEqProofs [*, h0, h2, h7, h9, h10, h12, h13, hzm, hw, Peer.row, peersD, Fits]) | (with_reducible refine gOps_or (fun hq => ?_) (fun hq => ?_) <;> (try simp at hq) <;> simp -implicitDefEqProofs [*, h0, h2, h7, h9, h10, h12, h13, hzm, hw, Peer.row, peersD, Fits]) | (with_reducible refine gOps_not (fun hq => ?_) (fun hq => ?_) <;> (try simp at hq) <;> simp -implicitDefEqProofs [*, h0, h2, h7, h9, h10, h12, h13, hzm, hw, Peer.row, peersD, Fits]) | (with_reducible refine gOps_split (fun hq => ?_) (fun hq => ?_) <;> (try simp at hq) <;> simp -implicitDefEqProofs [*, h0, h2, h7, h9, h10, h12, h13, hzm, hw, Peer.row, peersD, Fits]) | (with_reducible refine condC_dec (fun _ => ?_) (fun _ => ?_) <;> simp -implicitDefEqProofs [*, h0, h2, h7, h9, h10, h12, h13, hzm, hw, Peer.row, peersD, Fits]) | (with_reducible refine condC_ndec (fun _ => ?_) (fun _ => ?_) <;> simp -implicitDefEqProofs [*, h0, h2, h7, h9, h10, h12, h13, hzm, hw, Peer.row, peersD, Fits]) | (with_reducible refine condC_and (fun hq => ?_) (fun hq => ?_) <;> (try simp at hq) <;> simp -implicitDefEqProofs [*, h0, h2, h7, h9, h10, h12, h13, hzm, hw, Peer.row, peersD, Fits]) | (with_reducible refine condC_or (fun hq => ?_) (fun hq => ?_) <;> (try simp at hq) <;> simp -implicitDefEqProofs [*, h0, h2, h7, h9, h10, h12, h13, hzm, hw, Peer.row, peersD, Fits]) | (with_reducible refine condC_not (fun hq => ?_) (fun hq => ?_) <;> (try simp at hq) <;> simp -implicitDefEqProofs [*, h0, h2, h7, h9, h10, h12, h13, hzm, hw, Peer.row, peersD, Fits]) | (with_reducible refine condC_split (fun hq => ?_) (fun hq => ?_) <;> (try simp at hq) <;> simp -implicitDefEqProofs [*, h0, h2, h7, h9, h10, h12, h13, hzm, hw, Peer.row, peersD, Fits]) | (refine appK2_if (by omega) ?_; simp -implicitDefEqProofs [*, h0, h2, h7, h9, h10, h12, h13, hzm, hw, Peer.row, peersD, Fits]) | (refine pureV_if (by omega) ?_; simp -implicitDefEqProofs [*, h0, h2, h7, h9, h10, h12, h13, hzm, hw, Peer.row, peersD, Fits]))
      · rintro ⟨fr, bs⟩ ⟨rfl, h0, h2, h7, h9, h10, j, h12, hj⟩
        obtain ⟨hjl, hjv⟩ := List.getElem?_eq_some_iff.1 hj
        have hjl' : (j : Int) < a.length := by omega
        have hj0 : (0 : Int) ≤ j := by omega
        clear hsn hln hzero hhas
        generalize a.filter (fun p => !decide (p.id = id)) = F at *
        have hjl2 : (j : Int) < F.length + 1 := by omega
        clear hjv hjl hjl'
        rw [hlen] at g2
        simp -implicitDefEqProofs [h0, h2, h7, h9, h10, h12, peersD]
        repeat' (first | (refine callThen_of (by first | exact g2 | exact g3) ?_; simp -implicitDefEqProofs [*, h0, h2, h7, h9, h10, h12, hjl2, hj, hj0, hlen, hw1, peersD, Peer.row]) | (with_reducible refine gOps_dec (fun _ => ?_) (fun _ => ?_) <;> simp -implicitDefEqProofs [*, h0, h2, h7, h9, h10, h12, hjl2, hj, hj0, hlen, hw1, peersD, Peer.row]) | (with_reducible refine gOps_ndec (fun _ => ?_) (fun _ => ?_) <;> simp -implicitDefEqProofs [*, h0, h2, h7, h9, h10, h12, hjl2, hj, hj0, hlen, hw1, peersD, Peer.row]) | (with_reducible refine gOps_and (fun hq => ?_) (fun hq => ?_) <;> (try simp at hq) <;> simp -implicitDefEqProofs [*, h0, h2, h7, h9, h10, h12, hjl2, hj, hj0, hlen, hw1, peersD, Peer.row]) | (with_reducible refine gOps_or (fun hq => ?_) (fun hq => ?_) <;> (try simp at hq) <;> simp -implicitDefEqProofs [*, h0, h2, h7, h9, h10, h12, hjl2, hj, hj0, hlen, hw1, peersD, Peer.row]) | (with_reducible refine gOps_not (fun hq => ?_) (fun hq => ?_) <;> (try simp at hq) <;> simp -implicitDefEqProofs [*, h0, h2, h7, h9, h10, h12, hjl2, hj, hj0, hlen, hw1, peersD, Peer.row]) | (with_reducible refine gOps_split (fun hq => ?_) (fun hq => ?_) <;> (try simp at hq) <;> simp -implicitDefEqProofs [*, h0, h2, h7, h9, h10, h12, hjl2, hj, hj0, hlen, hw1, peersD, Peer.row]) | (with_reducible refine condC_dec (fun _ => ?_) (fun _ => ?_) <;> simp -implicitDefEqProofs [*, h0, h2, h7, h9, h10, h12, hjl2, hj, hj0, hlen, hw1, peersD, Peer.row]) | (with_reducible refine condC_ndec (fun _ => ?_) (fun _ => ?_) <;> simp -implicitDefEqProofs [*, h0, h2, h7, h9, h10, h12, hjl2, hj, hj0, hlen, hw1, peersD, Peer.row]) | (with_reducible refine condC_and (fun hq => ?_) (fun hq => ?_) <;> (try simp at hq) <;> simp -implicitDefEqProofs [*, h0, h2, h7, h9, h10, h12, hjl2, hj, hj0, hlen, hw1, peersD, Peer.row]) | (with_reducible refine condC_or (fun hq => ?_) (fun hq => ?_) <;> (try simp at hq) <;> simp -implicitDefEqProofs [*, h0, h2, h7, h9, h10, h12, hjl2, hj, hj0, hlen, hw1, peersD, Peer.row]) | (with_reducible refine condC_not (fun hq => ?_) (fun hq => ?_) <;> (try simp at hq) <;> simp -implicitDefEqProofs [*, h0, h2, h7, h9, h10, h12, hjl2, hj, hj0, hlen, hw1, peersD, Peer.row]) | (with_reducible refine condC_split (fun hq => ?_) (fun hq => ?_) <;> (try simp at hq) <;> simp -implicitDefEqProofs [*, h0, h2, h7, h9, h10, h12, hjl2, hj, hj0, hlen, hw1, peersD, Peer.row]) | (refine appK2_if (by omega) ?_; simp -implicitDefEqProofs [*, h0, h2, h7, h9, h10, h12, hjl2, hj, hj0, hlen, hw1, peersD, Peer.row]) | (refine pureV_if (by omega) ?_; simp -implicitDefEqProofs [*, h0, h2, h7, h9, h10, h12, hjl2, hj, hj0, hlen, hw1, peersD, Peer.row]))
      · rintro ⟨fr, bs⟩ h
        exact h.elim
    · rintro ⟨fr, bs⟩ h
      exact h.elim
end Go.AM
/- Plain law: peers heard in a row stand in the row of distances. -/
namespace Go.AM
set_option linter.unusedSimpArgs false
set_option linter.unusedVariables false

def hearAll (b : Int) (ids : List Int) : List Peer := ids.foldl (fun ps x => if x % 256 = b then ps else hearG b (x % 256) false ps) []
theorem hearAll_snoc (b : Int) (ids : List Int) (x : Int) : hearAll b (ids ++ [x]) = if x % 256 = b then hearAll b ids else hearG b (x % 256) false (hearAll b ids) := by simp [hearAll]
theorem heard_ok {b : Int} {ps : List Peer} {p : Int} (hb : place b = true) (hm : peersMay b ps = true) (hp : place p = true) (hn : p ≠ b) (hl : ps.length < 16) : refHeard b ps p = (hearG b p false ps, 0) := by
  have h1 := hearG_length b p ps
  have h2 := List.length_filter_le (fun q : Peer => !decide (q.id = p)) ps
  unfold refHeard
  rw [peersMay_eq, hm, hp]
  simp [hn]
  omega
structure HearOk (b : Int) (ids : List Int) (ps : List Peer) : Prop where
  may : peersMay b ps = true
  len : ps.length ≤ ids.length
  zero : ∀ q ∈ ps, q.missed = 0
  mem : ∀ y, y ∈ ps.map Peer.id ↔ (∃ x ∈ ids, x % 256 = y) ∧ y ≠ b
theorem hear_step {b x : Int} {ids : List Int} {ps : List Peer} (hb : place b = true) (hl : ids.length < 16) (h : HearOk b ids ps) : HearOk b (ids ++ [x]) (if x % 256 = b then ps else hearG b (x % 256) false ps) := by
  by_cases e : x % 256 = b
  · rw [if_pos e]
    refine ⟨h.may, by have := h.len; simp; omega, h.zero, fun y => ?_⟩
    rw [h.mem]
    simp only [List.mem_append, List.mem_singleton]
    constructor
    · rintro ⟨⟨z, hz, e2⟩, h2⟩; exact ⟨⟨z, .inl hz, e2⟩, h2⟩
    · rintro ⟨⟨z, hz | hz, e2⟩, h2⟩
      · exact ⟨⟨z, hz, e2⟩, h2⟩
      · subst hz; exact absurd (e2.symm.trans e) h2
  · rw [if_neg e]
    have hlen := h.len
    have h1 := heard_ok hb h.may (place_mod x) e (by omega)
    have h2 := hearG_length b (x % 256) ps
    have h3 := List.length_filter_le (fun q : Peer => !decide (q.id = x % 256)) ps
    rcases refHeard_cases b ps (x % 256) with ⟨_, h4, h5⟩ | ⟨_, _, _, _, h4⟩
    · rw [h1] at h4
      simp at h4
      exact absurd h4.2.symm h5
    · refine ⟨h4, by simp; omega, fun q hq => ?_, fun y => ?_⟩
      · rcases hearG_in _ _ _ q hq with rfl | h6
        · rfl
        · exact h.zero q h6
      · rw [hearG_mem, h.mem]
        simp only [List.mem_append, List.mem_singleton, true_and]
        constructor
        · rintro (⟨⟨⟨z, hz, e2⟩, h6⟩, h7⟩ | h6)
          · exact ⟨⟨z, .inl hz, e2⟩, h6⟩
          · subst h6; exact ⟨⟨x, .inr rfl, rfl⟩, e⟩
        · rintro ⟨⟨z, hz | hz, e2⟩, h6⟩
          · by_cases h7 : y = x % 256
            · exact .inr h7
            · exact .inl ⟨⟨⟨z, hz, e2⟩, h6⟩, h7⟩
          · subst hz; exact .inr e2.symm
theorem hear_all {b : Int} (hb : place b = true) (ids : List Int) : ∀ i, i ≤ 16 → HearOk b (ids.take i) (hearAll b (ids.take i)) := by
  intro i
  induction i with
  | zero =>
    intro _
    exact ⟨peersMay_iff.2 ⟨hb, by simp [hearAll], by simp [hearAll], by simp [hearAll]⟩, by simp [hearAll], by simp [hearAll], by simp [hearAll]⟩
  | succ i ih =>
    intro hi
    cases hx : ids[i]? with
    | none =>
      have : ids.take (i + 1) = ids.take i := by rw [List.take_add_one, hx]; simp
      rw [this]
      exact ih (by omega)
    | some x =>
      have : ids.take (i + 1) = ids.take i ++ [x] := by rw [List.take_add_one, hx]; rfl
      rw [this, hearAll_snoc]
      exact hear_step hb (by simp; omega) (ih (by omega))
/-- Which distances are there among the first m. -/
def farD (b : Int) (ids : List Int) (m : Nat) : List Nat := (List.range m).filter fun (d : Nat) => ids.any fun x => decide (x % 256 = (b + ((d : Int) + 1)) % 256)
theorem farD_succ (b : Int) (ids : List Int) (m : Nat) : farD b ids (m + 1) = farD b ids m ++ if (ids.any fun x => decide (x % 256 = (b + ((m : Int) + 1)) % 256)) then [m] else [] := by
  unfold farD
  rw [List.range_succ, List.filter_append]
  congr 1
  by_cases h : (ids.any fun x => decide (x % 256 = (b + ((m : Int) + 1)) % 256)) = true <;> simp [h]
theorem far_plus {b : Int} (hb : place b = true) {d : Nat} (hd : d < 255) : far b ((b + ((d : Int) + 1)) % 256) = d + 1 := by
  have hp := place_mod (b + ((d : Int) + 1))
  rw [far_eq hb hp]
  rw [place_iff] at hb
  split <;> omega
theorem hear_row {b : Int} (hb : place b = true) {ids : List Int} {ps : List Peer} (h : HearOk b ids ps) : ps = (farD b ids 255).map fun (d : Nat) => ⟨(b + ((d : Int) + 1)) % 256, 0⟩ := by
  obtain ⟨_, _, hp, hr⟩ := peersMay_iff.1 h.may
  have e : ps.map (fun p => far b p.id) = (farD b ids 255).map fun (d : Nat) => (d : Int) + 1 := by
    refine rising_ext ?_ ?_ fun a => ?_
    · rw [List.pairwise_map]; exact hr
    · rw [List.pairwise_map]
      refine List.Pairwise.filter _ ?_
      refine (List.pairwise_lt_range (n := 255)).imp ?_
      intro a b hab
      omega
    · simp only [List.mem_map, farD, List.mem_filter, List.mem_range]
      constructor
      · rintro ⟨q, hq, rfl⟩
        obtain ⟨p1, p2, p3, p4⟩ := hp q hq
        have h1 := far_range hb p1
        have h2 : q.id = (b + far b q.id) % 256 := by
          have h3 := far_eq hb p1
          rw [place_iff] at hb p1
          split at h3 <;> omega
        have h3 := ((h.mem q.id).1 (List.mem_map_of_mem hq)).1
        obtain ⟨x, hx, hxe⟩ := h3
        have h4 : (((far b q.id - 1).toNat : Nat) : Int) = far b q.id - 1 := by omega
        refine ⟨(far b q.id - 1).toNat, ⟨by omega, ?_⟩, by omega⟩
        rw [h4, show b + (far b q.id - 1 + 1) = b + far b q.id by omega, ← h2, List.any_eq_true]
        exact ⟨x, hx, by simpa using hxe⟩
      · rintro ⟨d, ⟨hd, hx⟩, rfl⟩
        rw [List.any_eq_true] at hx
        obtain ⟨x, hx, hxe⟩ := hx
        have hfar := far_plus hb hd
        have hne : (b + ((d : Int) + 1)) % 256 ≠ b := by
          rw [place_iff] at hb
          omega
        have h1 := (h.mem ((b + ((d : Int) + 1)) % 256)).2 ⟨⟨x, hx, by simpa using hxe⟩, hne⟩
        obtain ⟨q, hq, hqe⟩ := List.mem_map.1 h1
        exact ⟨q, hq, by rw [hqe, hfar]⟩
  have e2 : ps = (ps.map (fun p => far b p.id)).map fun d => ⟨(b + d) % 256, 0⟩ := by
    rw [List.map_map]
    conv => lhs; rw [← List.map_id ps]
    refine List.map_congr_left fun q hq => ?_
    obtain ⟨p1, p2, p3, p4⟩ := hp q hq
    have h0 := h.zero q hq
    have h2 : q.id = (b + far b q.id) % 256 := by
      have h3 := far_eq hb p1
      rw [place_iff] at hb p1
      split at h3 <;> omega
    obtain ⟨qi, qm⟩ := q
    simp only [id, Function.comp] at h0 h2 ⊢
    rw [← h2, h0]
  rw [e2, e, List.map_map]
  rfl
theorem hear_next {b : Int} (hb : place b = true) {ids : List Int} {ps : List Peer} (h : HearOk b ids ps) {m : Nat} (hm : m < 255) :
    ((ids.any fun x => decide (x % 256 = (b + ((m : Int) + 1)) % 256)) = true → ps[(farD b ids m).length]? = some ⟨(b + ((m : Int) + 1)) % 256, 0⟩ ∧ (farD b ids (m + 1)).length = (farD b ids m).length + 1) ∧
    ((ids.any fun x => decide (x % 256 = (b + ((m : Int) + 1)) % 256)) = false → (farD b ids (m + 1)).length = (farD b ids m).length) := by
  refine ⟨fun hx => ?_, fun hx => by rw [farD_succ, hx]; simp⟩
  refine ⟨?_, by rw [farD_succ, hx]; simp⟩
  have e : farD b ids 255 = farD b ids (m + 1) ++ (List.range' (m + 1) (255 - (m + 1))).filter (fun (d : Nat) => ids.any fun x => decide (x % 256 = (b + ((d : Int) + 1)) % 256)) := by
    unfold farD
    rw [← List.filter_append]
    congr 1
    rw [List.range_eq_range', List.range_eq_range']
    have := @List.range'_append_1 0 (m + 1) (255 - (m + 1))
    rw [Nat.zero_add] at this
    rw [this]
    congr 1
    omega
  rw [hear_row hb h, e, farD_succ, hx]
  simp
end Go.AM
/- AM: chapter 7's statements: PeersRow. -/
namespace Go.AM
set_option linter.unusedSimpArgs false
set_option linter.unusedVariables false
set_option maxRecDepth 8000
set_option maxHeartbeats 0
def row7 (ps : List Peer) (z : D) (bs : List Blk) : Prop := (∃ kd : Kind, (kd = .mut ∨ kd = .app) ∧ bs = [⟨[], 2, kd⟩]) ∧ ((z = .ref 0 0 0 ∧ ps = []) ∨ z = .sl (ps.map Peer.row) ps.length)
theorem law7_PeersRow (base : Int) (ids : List Int) (hl : ids.length ≤ cap) : Den PP 12 [.int .i64 base, intsD ids] [] (.bool true) [] := by
  have hb : place (base % 256) = true := place_mod base
  obtain ⟨n, hn⟩ : ∃ n, min ids.length 12 = n := ⟨_, rfl⟩
  have hnl : n ≤ ids.length := by omega
  have hn12 : n ≤ 12 := by omega
  have hnx : n = ids.length ∨ n = 12 := by omega
  have hall := hear_all hb ids
  have hsn := fun xs x => hearAll_snoc (base % 256) xs x
  have hput := fun (i : Nat) (hi : i < 12) (p : Int) => peers_Heard (base % 256) (hearAll (base % 256) (ids.take i)) p (by have := peersMay_len (hall i (by omega)).may; unfold cap16; omega)
  unfold cap at hl
  refine den_of [] [] is_gimmallaw7_PeersRow ?_
  simp -implicitDefEqProofs [c_gimmallaw7_PeersRow, intsD]
  refine callThen_of law7_awake ?_
  simp -implicitDefEqProofs
  refine count_rule n (fun i => fun ⟨fr, bs⟩ => row7 (hearAll (base % 256) (ids.take i)) (fr 6) bs ∧ fr 1 = intsD ids ∧ fr 5 = .int .i64 (base % 256) ∧ fr 7 = .int .i64 i)
    (fun ⟨fr, bs⟩ => row7 (hearAll (base % 256) (ids.take n)) (fr 6) bs ∧ fr 1 = intsD ids ∧ fr 5 = .int .i64 (base % 256)) (fun ⟨fr, bs⟩ => False) c_gimmallaw7_PeersRow_L0.eq_1 ?_ ?_ ?_ ?_ ?_
  · exact ⟨⟨⟨.mut, .inl rfl, rfl⟩, .inl ⟨rfl, rfl⟩⟩, rfl, rfl, rfl⟩
  · rintro ⟨fr, bs⟩ ⟨hrow, h1, h5, h7⟩
    clear hput hsn hall
    by_cases hx : n < ids.length
    · have hx1 : (n : Int) < ids.length := by omega
      have hx2 : ¬ (n : Int) < 12 := by omega
      simp -implicitDefEqProofs [h1, h5, h7, hx1, hx2, intsD]
      exact hrow
    · have hx1 : ¬ (n : Int) < ids.length := by omega
      simp -implicitDefEqProofs [h1, h5, h7, hx1, intsD]
      exact hrow
  · rintro i ⟨fr, bs⟩ hlt ⟨⟨⟨kd, hkd, rfl⟩, hz⟩, h1, h5, h7⟩
    have hi : i < ids.length := by omega
    have hi' : (i : Int) < ids.length := by omega
    have hi2 : (i : Int) < 12 := by omega
    have hw := wrap_next (n := i) (by omega)
    obtain ⟨x, hx⟩ : ∃ x, ids[i] = x := ⟨_, rfl⟩
    have htk : ids.take (i + 1) = ids.take i ++ [x] := by rw [List.take_add_one]; simp [hi, hx]
    have hg := hput i (by omega) (x % 256)
    have ho := hall i (by omega)
    have hs := hsn (ids.take i) x
    rw [← htk] at hs
    clear hput hsn hall htk
    generalize hearAll (base % 256) (ids.take (i + 1)) = ps' at *
    generalize hearAll (base % 256) (ids.take i) = ps at *
    by_cases e : x % 256 = base % 256
    · rw [if_pos e] at hs
      subst hs
      clear hg ho
      rcases hz with ⟨hz, rfl⟩ | hz
      all_goals
        simp -implicitDefEqProofs [h1, h5, h7, hz, hi, hi', hi2, hx, e, intsD, irow, hw, row7]
        exact hkd
    · rw [if_neg e] at hs
      have hlp := ho.len
      rw [heard_ok hb ho.may (place_mod x) e (by simp at hlp; omega), ← hs] at hg
      simp only [peersD] at hg
      clear hs ho hlp
      rcases hkd with rfl | rfl <;> rcases hz with ⟨hz, rfl⟩ | hz
      all_goals
        try simp only [List.map_nil, List.length_nil] at hg
        simp -implicitDefEqProofs [h1, h5, h7, hz, hi, hi', hi2, hx, e, intsD, irow, hw]
        refine callThen_of hg ?_
        simp -implicitDefEqProofs [downTo]
        refine callThen_of (law_Num _) ?_
        simp -implicitDefEqProofs [h1, h5, h7, hz, hi, hi', hi2, hx, e, intsD, irow, hw, row7]
  · rintro ⟨fr, bs⟩ ⟨⟨⟨kd, hkd, rfl⟩, hz⟩, h1, h5⟩
    have ho := hall n (by omega)
    clear hput hsn hall
    generalize hearAll (base % 256) (ids.take n) = ps at *
    have hK : ∃ K : Nat → Nat, ∀ m, K m = (farD (base % 256) (ids.take n) m).length := ⟨_, fun _ => rfl⟩
    obtain ⟨K, hK⟩ := hK
    have hnext := fun m hm => hear_next hb ho (m := m) hm
    simp only [← hK] at hnext
    have hK0 : K 0 = 0 := by rw [hK]; rfl
    have hKe : K 255 = ps.length := by
      rw [hK]
      have := congrArg List.length (hear_row hb ho)
      simpa using this.symm
    have hp12 : ps.length ≤ 12 := by have := ho.len; simp at this; omega
    clear hK ho
    rcases hz with ⟨hz, rfl⟩ | hz
    · skip
      simp -implicitDefEqProofs [h1, h5, hz]
      refine count_rule 255 (fun m => fun ⟨fr, bs⟩ => bs = [⟨[], 2, kd⟩] ∧ fr 1 = intsD ids ∧ fr 5 = .int .i64 (base % 256) ∧ fr 6 = .ref 0 0 0 ∧ fr 11 = .int .i64 (K m) ∧ fr 12 = .int .i64 ((m : Int) + 1))
        (fun ⟨fr, bs⟩ => bs = [⟨[], 2, kd⟩] ∧ fr 6 = .ref 0 0 0 ∧ fr 11 = .int .i64 (K 255)) (fun ⟨fr, bs⟩ => False) c_gimmallaw7_PeersRow_L1.eq_1 ?_ ?_ ?_ ?_ ?_
      · refine ⟨rfl, h1, h5, hz, by simp [hK0], by simp⟩
      · rintro ⟨fr, bs⟩ ⟨rfl, h1, h5, h6, h11, h12⟩
        simp -implicitDefEqProofs [h1, h5, h6, h11, h12]
      · rintro m ⟨fr, bs⟩ hm ⟨rfl, h1, h5, h6, h11, h12⟩
        have hm2 : (m : Int) + 1 < 256 := by omega
        have wm : IntKind.wrap .i64 ((m : Int) + 1 + 1) = m + 1 + 1 := wrap_in (by omega) (by omega)
        have wb : IntKind.wrap .i64 (base % 256 + ((m : Int) + 1)) = base % 256 + (m + 1) := wrap_in (by omega) (by omega)
        have tb : (base % 256 + ((m : Int) + 1)).tmod 256 = (base % 256 + (m + 1)) % 256 := Int.tmod_eq_emod_of_nonneg (by omega)
        obtain ⟨n1, n2⟩ := hnext m hm
        clear hnext
        simp -implicitDefEqProofs [h1, h5, h6, h11, h12, hm2]
        refine count_rule n (fun i => fun ⟨fr, bs⟩ => bs = [⟨[], 2, kd⟩] ∧ fr 1 = intsD ids ∧ fr 5 = .int .i64 (base % 256) ∧ fr 6 = .ref 0 0 0 ∧ fr 11 = .int .i64 (K m) ∧ fr 12 = .int .i64 ((m : Int) + 1) ∧ fr 13 = .bool ((ids.take i).any fun x => decide (x % 256 = (base % 256 + ((m : Int) + 1)) % 256)) ∧ fr 14 = .int .i64 i)
          (fun ⟨fr, bs⟩ => bs = [⟨[], 2, kd⟩] ∧ fr 1 = intsD ids ∧ fr 5 = .int .i64 (base % 256) ∧ fr 6 = .ref 0 0 0 ∧ fr 11 = .int .i64 (K m) ∧ fr 12 = .int .i64 ((m : Int) + 1) ∧ fr 13 = .bool ((ids.take n).any fun x => decide (x % 256 = (base % 256 + ((m : Int) + 1)) % 256))) (fun ⟨fr, bs⟩ => False) c_gimmallaw7_PeersRow_L2.eq_1 ?_ ?_ ?_ ?_ ?_
        · exact ⟨rfl, h1, h5, h6, h11, h12, by simp, rfl⟩
        · rintro ⟨fr, bs⟩ ⟨rfl, h1, h5, h6, h11, h12, h13, h14⟩
          clear n1 n2
          generalize ((ids.take n).any fun x => decide (x % 256 = (base % 256 + ((m : Int) + 1)) % 256)) = A at *
          by_cases hx : n < ids.length
          · have hx1 : (n : Int) < ids.length := by omega
            have hx2 : ¬ (n : Int) < 12 := by omega
            simp -implicitDefEqProofs [h1, h5, h6, h11, h12, h13, h14, hx1, hx2, intsD]
          · have hx1 : ¬ (n : Int) < ids.length := by omega
            simp -implicitDefEqProofs [h1, h5, h6, h11, h12, h13, h14, hx1, intsD]
        · rintro i ⟨fr, bs⟩ hlt ⟨rfl, h1, h5, h6, h11, h12, h13, h14⟩
          have hi : i < ids.length := by omega
          have hi' : (i : Int) < ids.length := by omega
          have hi2 : (i : Int) < 12 := by omega
          have hw := wrap_next (n := i) (by omega)
          obtain ⟨x, hx⟩ : ∃ x, ids[i] = x := ⟨_, rfl⟩
          have htk : ids.take (i + 1) = ids.take i ++ [x] := by rw [List.take_add_one]; simp [hi, hx]
          have hA : ((ids.take (i + 1)).any fun x => decide (x % 256 = (base % 256 + ((m : Int) + 1)) % 256)) = (((ids.take i).any fun x => decide (x % 256 = (base % 256 + ((m : Int) + 1)) % 256)) || decide (x % 256 = (base % 256 + ((m : Int) + 1)) % 256)) := by
            rw [htk, List.any_append]; simp
          rw [hA]
          clear n1 n2 hA htk
          generalize ((ids.take i).any fun x => decide (x % 256 = (base % 256 + ((m : Int) + 1)) % 256)) = A at *
          cases A with
          | true => simp -implicitDefEqProofs [h1, h5, h6, h11, h12, h13, h14, hi, hi', hi2, hx, hw, intsD, irow]
          | false => simp -implicitDefEqProofs [h1, h5, h6, h11, h12, h13, h14, hi, hi', hi2, hx, hw, wb, tb, intsD, irow]
        · rintro ⟨fr, bs⟩ ⟨rfl, h1, h5, h6, h11, h12, h13⟩
          generalize ((ids.take n).any fun x => decide (x % 256 = (base % 256 + ((m : Int) + 1)) % 256)) = A at *
          cases A with
          | false =>
            have n3 := n2 rfl
            clear n1 n2
            rw [n3]
            simp -implicitDefEqProofs [h1, h5, h6, h11, h12, h13, wm]
          | true =>
            obtain ⟨n3, n4⟩ := n1 rfl
            clear n1 n2
            rw [n4]
            simp at n3
        · rintro ⟨fr, bs⟩ h
          exact h.elim
      · rintro ⟨fr, bs⟩ ⟨rfl, h6, h11⟩
        rw [hKe] at h11
        simp -implicitDefEqProofs [h6, h11]
      · rintro ⟨fr, bs⟩ h
        exact h.elim
    · skip
      simp -implicitDefEqProofs [h1, h5, hz]
      refine count_rule 255 (fun m => fun ⟨fr, bs⟩ => bs = [⟨[], 2, kd⟩] ∧ fr 1 = intsD ids ∧ fr 5 = .int .i64 (base % 256) ∧ fr 6 = (.sl (ps.map Peer.row) ps.length) ∧ fr 11 = .int .i64 (K m) ∧ fr 12 = .int .i64 ((m : Int) + 1))
        (fun ⟨fr, bs⟩ => bs = [⟨[], 2, kd⟩] ∧ fr 6 = (.sl (ps.map Peer.row) ps.length) ∧ fr 11 = .int .i64 (K 255)) (fun ⟨fr, bs⟩ => False) c_gimmallaw7_PeersRow_L1.eq_1 ?_ ?_ ?_ ?_ ?_
      · refine ⟨rfl, h1, h5, hz, by simp [hK0], by simp⟩
      · rintro ⟨fr, bs⟩ ⟨rfl, h1, h5, h6, h11, h12⟩
        simp -implicitDefEqProofs [h1, h5, h6, h11, h12]
      · rintro m ⟨fr, bs⟩ hm ⟨rfl, h1, h5, h6, h11, h12⟩
        have hm2 : (m : Int) + 1 < 256 := by omega
        have wm : IntKind.wrap .i64 ((m : Int) + 1 + 1) = m + 1 + 1 := wrap_in (by omega) (by omega)
        have wb : IntKind.wrap .i64 (base % 256 + ((m : Int) + 1)) = base % 256 + (m + 1) := wrap_in (by omega) (by omega)
        have tb : (base % 256 + ((m : Int) + 1)).tmod 256 = (base % 256 + (m + 1)) % 256 := Int.tmod_eq_emod_of_nonneg (by omega)
        obtain ⟨n1, n2⟩ := hnext m hm
        clear hnext
        simp -implicitDefEqProofs [h1, h5, h6, h11, h12, hm2]
        refine count_rule n (fun i => fun ⟨fr, bs⟩ => bs = [⟨[], 2, kd⟩] ∧ fr 1 = intsD ids ∧ fr 5 = .int .i64 (base % 256) ∧ fr 6 = (.sl (ps.map Peer.row) ps.length) ∧ fr 11 = .int .i64 (K m) ∧ fr 12 = .int .i64 ((m : Int) + 1) ∧ fr 13 = .bool ((ids.take i).any fun x => decide (x % 256 = (base % 256 + ((m : Int) + 1)) % 256)) ∧ fr 14 = .int .i64 i)
          (fun ⟨fr, bs⟩ => bs = [⟨[], 2, kd⟩] ∧ fr 1 = intsD ids ∧ fr 5 = .int .i64 (base % 256) ∧ fr 6 = (.sl (ps.map Peer.row) ps.length) ∧ fr 11 = .int .i64 (K m) ∧ fr 12 = .int .i64 ((m : Int) + 1) ∧ fr 13 = .bool ((ids.take n).any fun x => decide (x % 256 = (base % 256 + ((m : Int) + 1)) % 256))) (fun ⟨fr, bs⟩ => False) c_gimmallaw7_PeersRow_L2.eq_1 ?_ ?_ ?_ ?_ ?_
        · exact ⟨rfl, h1, h5, h6, h11, h12, by simp, rfl⟩
        · rintro ⟨fr, bs⟩ ⟨rfl, h1, h5, h6, h11, h12, h13, h14⟩
          clear n1 n2
          generalize ((ids.take n).any fun x => decide (x % 256 = (base % 256 + ((m : Int) + 1)) % 256)) = A at *
          by_cases hx : n < ids.length
          · have hx1 : (n : Int) < ids.length := by omega
            have hx2 : ¬ (n : Int) < 12 := by omega
            simp -implicitDefEqProofs [h1, h5, h6, h11, h12, h13, h14, hx1, hx2, intsD]
          · have hx1 : ¬ (n : Int) < ids.length := by omega
            simp -implicitDefEqProofs [h1, h5, h6, h11, h12, h13, h14, hx1, intsD]
        · rintro i ⟨fr, bs⟩ hlt ⟨rfl, h1, h5, h6, h11, h12, h13, h14⟩
          have hi : i < ids.length := by omega
          have hi' : (i : Int) < ids.length := by omega
          have hi2 : (i : Int) < 12 := by omega
          have hw := wrap_next (n := i) (by omega)
          obtain ⟨x, hx⟩ : ∃ x, ids[i] = x := ⟨_, rfl⟩
          have htk : ids.take (i + 1) = ids.take i ++ [x] := by rw [List.take_add_one]; simp [hi, hx]
          have hA : ((ids.take (i + 1)).any fun x => decide (x % 256 = (base % 256 + ((m : Int) + 1)) % 256)) = (((ids.take i).any fun x => decide (x % 256 = (base % 256 + ((m : Int) + 1)) % 256)) || decide (x % 256 = (base % 256 + ((m : Int) + 1)) % 256)) := by
            rw [htk, List.any_append]; simp
          rw [hA]
          clear n1 n2 hA htk
          generalize ((ids.take i).any fun x => decide (x % 256 = (base % 256 + ((m : Int) + 1)) % 256)) = A at *
          cases A with
          | true => simp -implicitDefEqProofs [h1, h5, h6, h11, h12, h13, h14, hi, hi', hi2, hx, hw, intsD, irow]
          | false => simp -implicitDefEqProofs [h1, h5, h6, h11, h12, h13, h14, hi, hi', hi2, hx, hw, wb, tb, intsD, irow]
        · rintro ⟨fr, bs⟩ ⟨rfl, h1, h5, h6, h11, h12, h13⟩
          generalize ((ids.take n).any fun x => decide (x % 256 = (base % 256 + ((m : Int) + 1)) % 256)) = A at *
          cases A with
          | false =>
            have n3 := n2 rfl
            clear n1 n2
            rw [n3]
            simp -implicitDefEqProofs [h1, h5, h6, h11, h12, h13, wm]
          | true =>
            obtain ⟨n3, n4⟩ := n1 rfl
            clear n1 n2
            rw [n4]
            have hkl : K m < ps.length := (List.getElem?_eq_some_iff.1 n3).1
            have hkl' : ((K m : Nat) : Int) < ps.length := by omega
            have hkl2 : ¬ (ps.length : Int) ≤ ((K m : Nat) : Int) := by omega
            have hkv : ps[K m] = ⟨(base % 256 + ((m : Int) + 1)) % 256, 0⟩ := (List.getElem?_eq_some_iff.1 n3).2
            have wk := wrap_next (n := K m) (by omega)
            clear n3 n4 hK0 hKe
            generalize K m = k at *
            simp -implicitDefEqProofs [h1, h5, h6, h11, h12, h13, wm, wb, tb, hkl, hkl', hkl2, hkv, wk, EQS, Peer.row]
        · rintro ⟨fr, bs⟩ h
          exact h.elim
      · rintro ⟨fr, bs⟩ ⟨rfl, h6, h11⟩
        rw [hKe] at h11
        simp -implicitDefEqProofs [h6, h11]
      · rintro ⟨fr, bs⟩ h
        exact h.elim
  · rintro ⟨fr, bs⟩ h
    exact h.elim
end Go.AM
/- AM: what is handed in, told. -/
namespace Go.AM
set_option linter.unusedSimpArgs false
set_option linter.unusedVariables false
set_option maxRecDepth 8000
theorem tell_int {n : Nat} {cs : List D} (h : Tell TT (n + 1) 3 cs) : ∃ x, cs = [.int .i64 x] ∧ in64 x := by
  simp [Tell] at h
  obtain ⟨x, rfl, hx⟩ := h
  exact ⟨x, rfl, wf64 hx⟩
theorem tell_bool {n : Nat} {cs : List D} (h : Tell TT (n + 1) 4 cs) : ∃ x, cs = [.bool x] := by
  simpa [Tell] using h
theorem tell_ints {n : Nat} {cs : List D} (h : Tell TT (n + 2) 22 cs) : ∃ xs : List Int, cs = [intsD xs] ∧ xs.length * 8 ≤ 140737488351232 ∧ ∀ x ∈ xs, in64 x := by
  unfold Tell at h
  simp at h
  obtain ⟨rows, rfl, hl, hr⟩ := h
  obtain ⟨xs, rfl, hx⟩ := rows_of (f := irow) (Q := in64) rows fun r h => by
    obtain ⟨x, rfl, hx⟩ := tell_int (hr r h)
    exact ⟨x, rfl, hx⟩
  exact ⟨xs, by simp [intsD], by simpa using hl, hx⟩
theorem tell_Peer {n : Nat} {cs : List D} (h : Tell TT (n + 2) 54 cs) : ∃ p : Peer, cs = p.row ∧ in64 p.id ∧ in64 p.missed := by
  unfold Tell at h
  simp [Tell.TellFs] at h
  obtain ⟨a, b, rfl, h1, h2⟩ := h
  obtain ⟨x, rfl, hx⟩ := tell_int h1
  obtain ⟨y, rfl, hy⟩ := tell_int h2
  exact ⟨⟨x, y⟩, rfl, hx, hy⟩
theorem tell_peers {n : Nat} {cs : List D} (h : Tell TT (n + 3) 39 cs) : ∃ ps : List Peer, cs = [peersD ps] ∧ ps.length * 16 ≤ 140737488351232 ∧ ∀ p ∈ ps, in64 p.id ∧ in64 p.missed := by
  unfold Tell at h
  simp at h
  obtain ⟨rows, rfl, hl, hr⟩ := h
  obtain ⟨xs, rfl, hx⟩ := rows_of (f := Peer.row) (Q := fun p => in64 p.id ∧ in64 p.missed) rows fun r h => tell_Peer (hr r h)
  exact ⟨xs, by simp [peersD], by simpa using hl, hx⟩
theorem arg_ints {n : Nat} {d : D} (h : TellArg TT (n + 2) 22 d) : ∃ x : List Int, d = intsD x ∧ x.length * 8 ≤ 140737488351232 ∧ ∀ i ∈ x, in64 i := by
  simp [TellArg] at h
  obtain ⟨xs, hx, h2⟩ := tell_ints h
  simp at hx
  exact ⟨xs, hx, h2⟩
theorem arg_peers {n : Nat} {d : D} (h : TellArg TT (n + 3) 39 d) : ∃ x : List Peer, d = peersD x ∧ x.length * 16 ≤ 140737488351232 ∧ ∀ p ∈ x, in64 p.id ∧ in64 p.missed := by
  simp [TellArg] at h
  obtain ⟨xs, hx, h2⟩ := tell_peers h
  simp at hx
  exact ⟨xs, hx, h2⟩
theorem arg_bool {n : Nat} {d : D} (h : TellArg TT (n + 1) 4 d) : ∃ x, d = .bool x ∧ True := by
  simp [TellArg] at h
  obtain ⟨x, hx⟩ := tell_bool h
  simp at hx
  exact ⟨x, hx, trivial⟩
theorem arg_int {n : Nat} {d : D} (h : TellArg TT (n + 1) 3 d) : ∃ x, d = .int .i64 x ∧ in64 x := by
  simp [TellArg] at h
  obtain ⟨x, hx, h2⟩ := tell_int h
  simp at hx
  exact ⟨x, hx, h2⟩
end Go.AM
