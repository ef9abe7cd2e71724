/- What the proof of this claim stands on, part 11. -/
import Derived.Test.YtehagcggdepajaaAmZ10
/- AM: what the library's functions over slices step through: slices of own blocks, rows written over others. -/
namespace Go.AM
set_option linter.unusedSimpArgs false
set_option linter.unusedVariables false

section
variable {c : Cfg} {K : St → Prop} {st : St} {dst : Option Nat} {p : Prop} [Decidable p]
theorem overK_if {d : D} {a b : Option St} (hp : p) (h : overK dst d a K) : overK dst d (if p then a else b) K := by rw [if_pos hp]; exact h
theorem appK2_else {a b : Option (D × St)} (hp : ¬ p) (h : appK2 dst b K) : appK2 dst (if p then a else b) K := by rw [if_neg hp]; exact h
theorem overK_else {d : D} {a b : Option St} (hp : ¬ p) (h : overK dst d b K) : overK dst d (if p then a else b) K := by rw [if_neg hp]; exact h
theorem optK_if {a b : Option St} (hp : p) (h : optK a K) : optK (if p then a else b) K := by rw [if_pos hp]; exact h
theorem outK_if {a b : Option Out} (hp : p) (h : outK st dst a K) : outK st dst (if p then a else b) K := by rw [if_pos hp]; exact h
theorem appK_if {e : Nat} {base : D} {a b : Option (List (List D))} (hp : p) (h : appK c dst e base a st K) : appK c dst e base (if p then a else b) st K := by rw [if_pos hp]; exact h
/-- A part of a slice in an own block. -/
theorem outK_slice {T : Tab} {t b off len e : Nat} {lo hi : Option D} {k : Blk} (l h : Nat) (hT : (T t).d = .slice e) (hb : st.bs[b]? = some k) (hlo : boundD 0 lo = some (l : Int)) (hhi : boundD len hi = some (h : Int))
    (h1 : l ≤ h) (h2 : off + h ≤ k.rows.length) (h3 : k.esz = (T e).size) (hne : l = 0 ∨ off + l < k.rows.length) (hK : K (st.put dst (.ref b (off + l) (h - l)))) : outK st dst (sliceD T st.bs t (.ref b off len) lo hi none) K := by
  have : sliceD T st.bs t (.ref b off len) lo hi none = some { d := .ref b (off + l) (h - l) } := by
    unfold sliceD
    rw [hT]
    simp only [hlo, hhi, hb]
    rw [if_pos (by refine ⟨by omega, by omega, by omega, h3⟩)]
    by_cases hl : l = 0
    · subst hl
      simp
    · rw [if_neg (by omega), if_pos (by simp; omega)]
      have : ((h : Int) - l).toNat = h - l := by omega
      simp [this]
  rw [this]
  refine ⟨by simp, ?_⟩
  rw [out_quiet]
  exact hK
/-- A part of a slice whose cells stay. -/
theorem outK_sliceS {T : Tab} {bs : List Blk} {t len e : Nat} {rows : List (List D)} {lo hi : Option D} (l h : Nat) (hT : (T t).d = .slice e) (hlo : boundD 0 lo = some (l : Int)) (hhi : boundD len hi = some (h : Int))
    (h1 : l ≤ h) (h2 : h ≤ rows.length) (h3 : ∀ r ∈ rows, r.length = (T e).size) (hK : K (st.put dst (.sl (rows.drop l) (h - l)))) : outK st dst (sliceD T bs t (.sl rows len) lo hi none) K := by
  have : sliceD T bs t (.sl rows len) lo hi none = some { d := .sl (rows.drop l) (h - l) } := by
    unfold sliceD
    rw [hT]
    simp only [hlo, hhi]
    rw [if_pos (by omega), if_pos h3]
    have : ((h : Int) - l).toNat = h - l := by omega
    simp [this]
  rw [this]
  refine ⟨by simp, ?_⟩
  rw [out_quiet]
  exact hK
/-- The empty part at the end of a block. -/
theorem outK_sliceE {T : Tab} {t b off len e : Nat} {lo hi : Option D} {k : Blk} (l : Nat) (hT : (T t).d = .slice e) (hb : st.bs[b]? = some k) (hlo : boundD 0 lo = some (l : Int)) (hhi : boundD len hi = some (l : Int))
    (h2 : off + l = k.rows.length) (h3 : k.esz = (T e).size) (hl : l ≠ 0) (hK : K (st.put dst (.sl [] 0))) : outK st dst (sliceD T st.bs t (.ref b off len) lo hi none) K := by
  have : sliceD T st.bs t (.ref b off len) lo hi none = some { d := .sl [] 0 } := by
    unfold sliceD
    rw [hT]
    simp only [hlo, hhi, hb]
    rw [if_pos (by refine ⟨by omega, by omega, by omega, h3⟩), if_neg (by omega), if_neg (by simp; omega)]
  rw [this]
  refine ⟨by simp, ?_⟩
  rw [out_quiet]
  exact hK
end

theorem outRows_of {esz j o l : Nat} {k' : Blk} {bs' : List Blk} {R : List (List D)} (hj : bs'[j]? = some k') (hm : k'.kind = .mut) (he : k'.esz = esz) (hl : o + l ≤ k'.rows.length) (hR : R = (k'.rows.drop o).take l) (h0 : j = 0 ∨ 0 < l) : outRows esz (.ref j o l) bs' R :=
  ⟨j, o, l, k', rfl, hj, hm, he, hl, hR, h0⟩

/-- It names no own block. -/
def D.still : D → Bool
  | .int _ _ => true
  | .bool _ => true
  | .nil => true
  | .zs _ => true
  | .sl _ _ => true
  | .mem _ => true
  | .undef => true
  | _ => false
def StillR (rows : List (List D)) : Prop := ∀ r ∈ rows, ∀ d ∈ r, d.still = true
theorem still_rids {d : D} (h : d.still = true) : d.rids = [] := by cases d <;> first | rfl | cases h
theorem still_mapR {d : D} (h : d.still = true) (fr fp : Nat → Nat → Nat → D) : d.mapR fr fp = d := by cases d <;> first | rfl | cases h
theorem still_ridsL : ∀ {r : List D}, (∀ d ∈ r, d.still = true) → ridsL r = [] := by
  intro r
  induction r with
  | nil => intro _; rfl
  | cons d ds ih =>
    intro h
    simp only [ridsL, still_rids (h d (by simp)), ih fun d hd => h d (by simp [hd])]
    rfl
theorem StillR.mapR {rows : List (List D)} (h : StillR rows) (fr fp : Nat → Nat → Nat → D) : rows.map (fun r => r.map (D.mapR fr fp)) = rows := by
  rw [List.map_congr_left (g := id), List.map_id]
  intro r hr
  rw [List.map_congr_left (g := id), List.map_id]
  · rfl
  · intro d hd
    exact still_mapR (h r hr d hd) fr fp
/-- A given block of whatever capacity: the rows that are known, and rows of nothing. -/
theorem gives_of {G : Con} {f esz : Nat} {rows : List (List D)} {rest : List D} {R : List (List D)} (hf : ∀ r ∈ rows, r.length = esz) (hst : StillR rows)
    (h : ∀ fl : List (List D), rows.length ≤ fl.length → (∀ r ∈ fl, r.length = esz) → StillR fl → fl.take rows.length = rows → (∀ i, i < rows.length → fl[i]? = rows[i]?) →
      ∃ r bs', G f (.ref 0 0 rows.length :: rest) [⟨fl, esz, .mut⟩] r bs' ∧ outRows esz r bs' R) : GivesC G f rows esz rest R := by
  intro cp hcp
  refine h _ (by simp) ?_ ?_ (by simp) ?_
  · intro r hr
    rcases List.mem_append.1 hr with h | h
    · exact hf r h
    · rw [(List.mem_replicate.1 h).2]; simp
  · intro r hr d hd
    rcases List.mem_append.1 hr with h | h
    · exact hst r h d hd
    · rw [(List.mem_replicate.1 h).2] at hd
      rw [(List.mem_replicate.1 hd).2]
      rfl
  · intro i hi
    rw [List.getElem?_append_left hi]
theorem StillR.append {a b : List (List D)} (h1 : StillR a) (h2 : StillR b) : StillR (a ++ b) := by
  intro r hr
  rcases List.mem_append.1 hr with h | h
  · exact h1 r h
  · exact h2 r h
theorem StillR.take {a : List (List D)} (h1 : StillR a) (n : Nat) : StillR (a.take n) := fun r hr => h1 r (List.mem_of_mem_take hr)
theorem StillR.drop {a : List (List D)} (h1 : StillR a) (n : Nat) : StillR (a.drop n) := fun r hr => h1 r (List.mem_of_mem_drop hr)
theorem StillR.ovr {a b : List (List D)} (h1 : StillR a) (h2 : StillR b) (p : Nat) : StillR (ovr a p b) := ((h1.take _).append h2).append (h1.drop _)
theorem StillR.set {a : List (List D)} {r : List D} (h1 : StillR a) (h2 : ∀ d ∈ r, d.still = true) (i : Nat) : StillR (a.set i r) := by
  intro x hx
  rcases List.mem_or_eq_of_mem_set hx with h | h
  · exact h1 x h
  · rw [h]; exact h2
theorem StillR.map {α : Type} (f : α → List D) (l : List α) (h : ∀ a ∈ l, ∀ d ∈ f a, d.still = true) : StillR (l.map f) := by
  intro r hr
  obtain ⟨a, ha, rfl⟩ := List.mem_map.1 hr
  exact h a ha
def insL {α : Type} (xs : List α) (i : Nat) (x : α) : List α := xs.take i ++ x :: xs.drop i
theorem insL_map {α β : Type} (f : α → β) (xs : List α) (i : Nat) (x : α) : (insL xs i x).map f = insL (xs.map f) i (f x) := by simp [insL, List.map_take, List.map_drop]
theorem insL_get {α : Type} {xs : List α} {i : Nat} {x : α} (hi : i ≤ xs.length) (j : Nat) : (insL xs i x)[j]? = if j < i then xs[j]? else if j = i then some x else xs[j - 1]? := by
  unfold insL
  have hl : (xs.take i).length = i := by simp; omega
  by_cases h1 : j < i
  · rw [if_pos h1, List.getElem?_append_left (by omega), List.getElem?_take_of_lt h1]
  · rw [if_neg h1, List.getElem?_append_right (by omega), hl]
    by_cases h2 : j = i
    · subst h2; simp
    · rw [if_neg h2]
      obtain ⟨m, hm⟩ : ∃ m, j - i = m + 1 := ⟨j - i - 1, by omega⟩
      rw [hm, List.getElem?_cons_succ, List.getElem?_drop]
      congr 1
      omega
@[simp] theorem insL_length {α : Type} (xs : List α) (i : Nat) (x : α) : (insL xs i x).length = xs.length + 1 := by simp [insL]; omega
@[simp] theorem fits_rep {esz m : Nat} {z : List D} : Fits esz (List.replicate m z) = (m = 0 ∨ (z.length = esz ∧ z.all D.isCell = true)) := by
  apply propext
  constructor
  · intro h
    by_cases hm : m = 0
    · exact .inl hm
    · exact .inr (h z (by simp [hm]))
  · rintro (rfl | h) r hr
    · simp at hr
    · rw [(List.mem_replicate.1 hr).2]; exact h
theorem StillR.sweep {rows : List (List D)} (h : StillR rows) (S : Nat → Bool) : rows.map (fun r => r.map (D.sweep S)) = rows := h.mapR _ _
theorem lent_still {bs : List Blk} (h : ∀ k ∈ bs, StillR k.rows) : lentRids bs = [] ∧ ∀ fr fp, bs.map (Blk.mapR fr fp) = bs := by
  constructor
  · unfold lentRids
    rw [List.flatMap_eq_nil_iff]
    intro k hk
    rw [List.flatMap_eq_nil_iff]
    intro r hr
    exact still_ridsL fun d hd => h k hk r hr d hd
  · intro fr fp
    rw [List.map_congr_left (g := id), List.map_id]
    intro k hk
    show { k with rows := _ } = k
    have := (h k hk).mapR fr fp
    rw [this]
theorem leave_lent {n0 b o l : Nat} {st : St} (hb : b < n0) (h : ∀ k ∈ st.bs.take n0, StillR k.rows) : leave n0 st (.ref b o l) = some (.ref b o l, st.bs.take n0) := by
  obtain ⟨h1, h2⟩ := lent_still h
  unfold leave
  simp only [D.rids, h1, List.append_nil]
  have : [b].filter (fun b => decide (n0 ≤ b)) = [] := by simp; omega
  rw [this]
  simp [expRef, hb, h2]
theorem leave_new {n0 b o l : Nat} {st : St} {k : Blk} (hb : n0 ≤ b) (hk : st.bs[b]? = some k) (hbox : k.kind.isBox = false) (h : ∀ k ∈ st.bs.take n0, StillR k.rows) : leave n0 st (.ref b o l) = some (.ref n0 o l, st.bs.take n0 ++ [k]) := by
  obtain ⟨h1, h2⟩ := lent_still h
  unfold leave
  simp only [D.rids, h1, List.append_nil]
  have : [b].filter (fun b => decide (n0 ≤ b)) = [b] := by simp; omega
  rw [this]
  have hnb : ¬ b < n0 := by omega
  have hnk : k.kind ≠ .box ∧ k.kind ≠ .ibox := by
    constructor <;> (intro h; rw [h] at hbox; cases hbox)
  simp [expRef, hnb, h2, hk]
  cases hkk : k.kind <;> simp [hkk] at hnk ⊢
section
variable {rows fl : List (List D)} {v : List D} {at_ n : Nat}
theorem ins_get (hn : rows.length = n) (hat : at_ ≤ n) (hfl : n ≤ fl.length) (htake : fl.take n = rows) (i : Nat) : (insL rows at_ v)[i]? = if i < at_ then fl[i]? else if i = at_ then some v else if i ≤ n then fl[i - 1]? else none := by
  rw [insL_get (by omega)]
  have hr : ∀ j, rows[j]? = if j < n then fl[j]? else none := by
    intro j
    rw [← htake, List.getElem?_take]
  rw [hr, hr]
  by_cases h1 : i < at_
  · rw [if_pos h1, if_pos h1, if_pos (by omega)]
  · rw [if_neg h1, if_neg h1]
    by_cases h2 : i = at_
    · rw [if_pos h2, if_pos h2]
    · rw [if_neg h2, if_neg h2]
      by_cases h3 : i ≤ n
      · rw [if_pos h3, if_pos (by omega)]
      · rw [if_neg h3, if_neg (by omega)]
theorem ins_rows1 (hn : rows.length = n) (hfl : n + 1 ≤ fl.length) (htake : fl.take n = rows) : insL rows n v = ((ovr fl n [v]).drop 0).take (n + 1) := by
  apply List.ext_getElem?
  intro i
  rw [ins_get hn (Nat.le_refl _) (by omega) htake, List.drop_zero, List.getElem?_take, ovr_get (by simpa using hfl)]
  simp only [List.length_singleton]
  by_cases h1 : i < n
  · rw [if_pos h1, if_pos (by omega), if_pos h1]
  · rw [if_neg h1]
    by_cases h2 : i = n
    · subst h2; simp
    · rw [if_neg h2, if_neg (by omega), if_neg (by omega)]
theorem ins_rows2 (hn : rows.length = n) (htake : fl.take n = rows) : insL rows n v = ((fl.take n ++ [v]).drop 0).take (n + 1) := by
  rw [htake, List.drop_zero, List.take_of_length_le (by simp; omega)]
  simp [insL, ← hn]
theorem ins_rowsC (hn : rows.length = n) (hat : at_ < n) (hfl : n + 1 ≤ fl.length) (htake : fl.take n = rows) :
    insL rows at_ v = ((ovr (ovr fl (at_ + 1) ((fl.drop at_).take (n - at_))) at_ [v]).drop 0).take (n + 1) := by
  have hl : ((fl.drop at_).take (n - at_)).length = n - at_ := by simp; omega
  have hl2 := ovr_length (rows := fl) (p := at_ + 1) (ys := (fl.drop at_).take (n - at_)) (by omega)
  apply List.ext_getElem?
  intro i
  rw [ins_get hn (by omega) (by omega) htake, List.drop_zero, List.getElem?_take, ovr_get (by simp; omega), ovr_get (by omega)]
  simp only [List.length_singleton, hl]
  by_cases h1 : i < at_
  · rw [if_pos h1, if_pos (by omega), if_pos h1, if_pos (by omega)]
  · rw [if_neg h1]
    by_cases h2 : i = at_
    · subst h2; simp; omega
    · rw [if_neg h2]
      by_cases h3 : i ≤ n
      · rw [if_pos h3, if_pos (by omega), if_neg h1, if_neg (by omega), if_neg (by omega), if_pos (by omega), List.getElem?_take_of_lt (by omega), List.getElem?_drop]
        congr 1
        omega
      · rw [if_neg h3, if_neg (by omega)]
theorem ins_rowsB {z : List D} (hn : rows.length = n) (hat : at_ < n) (hfl : fl.length = n) (htake : fl.take n = rows) :
    insL rows at_ v = ((ovr (ovr (fl.take at_ ++ List.replicate (n + 1 - at_) z) at_ [v]) (at_ + 1) ((fl.drop at_).take (n - at_))).drop 0).take (n + 1) := by
  have hl : ((fl.drop at_).take (n - at_)).length = n - at_ := by simp; omega
  have hl0 : (fl.take at_ ++ List.replicate (n + 1 - at_) z).length = n + 1 := by simp; omega
  have hl2 := ovr_length (rows := fl.take at_ ++ List.replicate (n + 1 - at_) z) (p := at_) (ys := [v]) (by rw [hl0]; simp; omega)
  apply List.ext_getElem?
  intro i
  rw [ins_get hn (by omega) (by omega) htake, List.drop_zero, List.getElem?_take, ovr_get (by rw [hl2, hl0]; omega), ovr_get (by rw [hl0]; simp; omega)]
  simp only [List.length_singleton, hl]
  by_cases h1 : i < at_
  · rw [if_pos h1, if_pos (by omega), if_pos (by omega), if_pos h1, List.getElem?_append_left (by simp; omega), List.getElem?_take_of_lt h1]
  · rw [if_neg h1]
    by_cases h2 : i = at_
    · subst h2; simp; omega
    · rw [if_neg h2]
      by_cases h3 : i ≤ n
      · rw [if_pos h3, if_pos (by omega), if_neg (by omega), if_pos (by omega), List.getElem?_take_of_lt (by omega), List.getElem?_drop]
        congr 1
        omega
      · rw [if_neg h3, if_neg (by omega)]
end
/-- A slice, with the rows of its length alone. -/
def D.cut : D → D
  | .sl rows len => .sl (rows.take len) len
  | d => d
theorem RepI.cutLen {w : World} {M : Foot} {v : Value} {rows : List (List D)} {len : Nat} (h : RepI w M v (.sl rows len)) : RepI w M v (.sl (rows.take len) len) := by
  cases h with
  | sl a _ cap _ esz g off vals h1 h2 hr ha hc hv =>
    refine .sl a len cap _ esz g off vals (by simp; omega) (by simp; omega) (fun r hx => hr r (List.mem_of_mem_take hx)) (fun hne => ha (by rintro rfl; exact hne (by simp))) (fun i j hi hj => hc i j (by simp at hi; omega) hj) ?_
    intro i j r d hi hj
    rw [List.getElem?_take] at hi
    split at hi
    · exact hv i j r d hi hj
    · cases hi
theorem Rep.cut {w : World} {M : Foot} {ρ : Nat → Loc} {v : Value} {d : D} (h : Rep w M ρ v d) : Rep w M ρ v d.cut := by
  cases d <;> try exact h
  exact .imm _ _ h.sl_inv.cutLen
theorem den_cut {P : Program} {f : Nat} {args : List D} {bs : List Blk} {r : D} {bs' : List Blk} (h : Den P f (args.map D.cut) bs r bs') : Den P f args bs r bs' := by
  refine ⟨h.1, fun w M0 ρ vals hM hS hs ha => h.2 w M0 ρ vals hM hS (by simpa using hs) ?_⟩
  intro i v d hv hd
  rw [List.getElem?_map] at hd
  cases hc : args[i]? with
  | none => simp [hc] at hd
  | some d0 => simp [hc] at hd; subst hd; exact (ha i v d0 hv hc).cut
attribute [simp] D.cut
@[simp] theorem take_map_app {α β : Type} (f : α → β) (l : List α) (r : List β) : (l.map f ++ r).take l.length = l.map f := List.take_left' (by simp)
/-- nil is an empty array of one's own. -/
theorem den_virt {P : Program} {f : Nat} {args : List D} (esz : Nat) (h : Den P f args [] .nil []) : Den P f args [] (.ref 0 0 0) [⟨[], esz, .mut⟩] := by
  refine ⟨h.1, fun w M0 ρ vals hM hS hs ha => (h.2 w M0 ρ vals hM hS hs ha).mono ?_⟩
  rintro e w' ⟨v, ρ', rfl, hr, hS', hlen, hlent, hp, har⟩
  obtain ⟨a, rfl⟩ := hr.nil_inv
  have hMM : Mof M0 (updL ρ' 0 .virt) [⟨[], esz, .mut⟩] = Mof M0 ρ' [] := by
    rw [Mof_nil]
    funext g o
    apply propext
    constructor
    · rintro (h | ⟨i, b', base, n, rl, ez, hi, hat, _⟩)
      · exact h
      · cases i with
        | zero => rw [updL_same] at hat; cases hat
        | succ i => simp at hi
    · exact .inl
  have hno : ∀ i, ρ' i = .absent := fun i => hS'.out i (Nat.zero_le _)
  have hat : ∀ i g base n rl ez, updL ρ' 0 .virt i ≠ .at_ g base n rl ez := by
    intro i g base n rl ez h
    by_cases hi : i = 0
    · subst hi; rw [updL_same] at h; cases h
    · rw [updL_ne _ _ hi, hno] at h; cases h
  refine ⟨_, updL ρ' 0 .virt, rfl, .refV 0 a (updL_same _ _ _), ⟨fun i b g base n rl ez _ h => absurd h (hat _ _ _ _ _ _), ?_, ?_, fun i j g _ _ _ _ _ _ _ _ h => absurd h (hat _ _ _ _ _ _), fun i g _ _ _ _ h => absurd h (hat _ _ _ _ _ _)⟩, by simp, fun i hi => absurd hi (by simp), by rw [hMM]; exact hp, ⟨har.size, har.os, har.tape, har.output, har.keep, fun i g base n rl ez _ h => absurd h (hat _ _ _ _ _ _)⟩⟩
  · intro i b hi hv
    cases i with
    | zero => simp at hi; subst hi; exact ⟨rfl, rfl⟩
    | succ i => simp at hi
  · intro i hi
    rw [updL_ne _ _ (by simp at hi; omega)]
    exact hno i
/-- A loop that counts to n. -/
theorem count_rule {c : Cfg} {k id : Nat} {x y : SC} {Q : Ex → St → Prop} {st : St} (n : Nat) (P : Nat → St → Prop) (N R : St → Prop) (hx : x = y)
    (h0 : P 0 st) (hlast : ∀ st, P n st → sCode c y st (roundQ (fun _ => False) id N R)) (hstep : ∀ i st, i < n → P i st → sCode c y st (roundQ (onK (P (i + 1)) k) id N R))
    (hN : ∀ st, N st → Q .normal st) (hR : ∀ st, R st → Q .ret st) : anyLoop c k x (blockQ id Q) st := by
  refine loop_rule n (fun m st => m ≤ n ∧ P (n - m) st) N R hx ⟨Nat.le_refl _, by simpa using h0⟩ (fun st h => hlast st (by simpa using h.2)) (fun m st h => ?_) hN hR
  have := hstep (n - (m + 1)) st (by omega) h.2
  rw [show n - (m + 1) + 1 = n - m by omega] at this
  refine sCode_mono _ _ _ _ ?_ this
  intro ex st' h'
  cases ex with
  | normal => exact ⟨by omega, h'⟩
  | exit i => exact h'
  | ret => exact h'
theorem count_keep {c : Cfg} {k id : Nat} {x y : SC} {Q : Ex → St → Prop} {st : St} (n : Nat) (P : Nat → St → Prop) (N R : St → Prop) (hx : x = y)
    (h0 : P 0 st) (hlast : ∀ st, P n st → sCode c y st (roundQ (fun _ => False) id N R)) (hstep : ∀ i st, i < n → P i st → sCode c y st (roundQ (onKeep (P (i + 1)) k) id N R))
    (hN : ∀ st, N st → Q .normal st) (hR : ∀ st, R st → Q .ret st) : anyLoop c k x (blockQ id Q) st := by
  refine loop_keep n (fun m st => m ≤ n ∧ P (n - m) st) N R hx ⟨Nat.le_refl _, by simpa using h0⟩ (fun st h => hlast st (by simpa using h.2)) (fun m st h => ?_) hN hR
  have := hstep (n - (m + 1)) st (by omega) h.2
  rw [show n - (m + 1) + 1 = n - m by omega] at this
  refine sCode_mono _ _ _ _ ?_ this
  intro ex st' h'
  cases ex with
  | normal =>
    obtain ⟨ext, h1, h2⟩ := h'
    exact ⟨ext, h1, by omega, h2⟩
  | exit i => exact h'
  | ret => exact h'
@[simp] theorem wrap_zero : IntKind.wrap .i64 0 = 0 := wrap_in (by omega) (by omega)
theorem splice_map {α : Type} (f : α → D) (W : List α) (k : Nat) (b : α) (hk : k < W.length) : List.take k (List.map f W) ++ f b :: List.drop (k + 1) (List.map f W) = List.map f (W.set k b) := by
  rw [List.map_set, List.set_eq_take_append_cons_drop, if_pos (by simpa using hk)]
end Go.AM
/- AM: contracts: the library's functions over slices. -/
namespace Go.AM
set_option linter.unusedSimpArgs false
set_option linter.unusedVariables false
set_option maxRecDepth 8000
set_option maxHeartbeats 0
theorem clone_int (rows : List (List D)) (hf : Fits 1 rows) (hl : rows.length * 8 ≤ 140737488355328) : Den PP 58 [.sl rows rows.length] [] (.ref 0 0 rows.length) [⟨rows, 1, .mut⟩] := by
  cases hr : rows with
  | nil =>
    refine den_zs (pre := []) (post := []) ?_ ?_
    · refine den_of [] [] is_slices_Clone_int_int ?_
      simp -implicitDefEqProofs [c_slices_Clone_int_int]
    · refine den_of [] [] is_slices_Clone_int_int ?_
      simp -implicitDefEqProofs [c_slices_Clone_int_int, Fits]
  | cons r rs =>
    rw [hr] at hf hl
    have h63 : (r :: rs).length ≤ 9223372036854775807 := by omega
    have hlen : 0 < (r :: rs).length := by simp
    generalize hn : (r :: rs).length = n at *
    generalize r :: rs = rows at *
    refine den_of [] [] is_slices_Clone_int_int ?_
    simp -implicitDefEqProofs [c_slices_Clone_int_int, hlen, List.take_of_length_le (Nat.le_of_eq hn), hf, hn, hl, h63]
theorem clone_Peer (rows : List (List D)) (hf : Fits 2 rows) (hl : rows.length * 16 ≤ 140737488355328) : Den PP 57 [.sl rows rows.length] [] (.ref 0 0 rows.length) [⟨rows, 2, .mut⟩] := by
  cases hr : rows with
  | nil =>
    refine den_zs (pre := []) (post := []) ?_ ?_
    · refine den_of [] [] is_slices_Clone_api_Peer_api_Peer ?_
      simp -implicitDefEqProofs [c_slices_Clone_api_Peer_api_Peer]
    · refine den_of [] [] is_slices_Clone_api_Peer_api_Peer ?_
      simp -implicitDefEqProofs [c_slices_Clone_api_Peer_api_Peer, Fits]
  | cons r rs =>
    rw [hr] at hf hl
    have h63 : (r :: rs).length ≤ 9223372036854775807 := by omega
    have hlen : 0 < (r :: rs).length := by simp
    generalize hn : (r :: rs).length = n at *
    generalize r :: rs = rows at *
    refine den_of [] [] is_slices_Clone_api_Peer_api_Peer ?_
    simp -implicitDefEqProofs [c_slices_Clone_api_Peer_api_Peer, hlen, List.take_of_length_le (Nat.le_of_eq hn), hf, hn, hl, h63]
theorem insert_Peer (rows : List (List D)) (v : List D) (at_ : Nat) (hf : Fits 2 rows) (hst : StillR rows) (hv : Fits 2 [v]) (hvs : ∀ d ∈ v, d.still = true) (hat : at_ ≤ rows.length) (hl : rows.length ≤ 1000000) :
    GivesC (DenF PP [0]) 85 rows 2 [.int .i64 at_, .sl [v] 1] (insL rows at_ v) := by
  refine gives_of (fun r hr => (hf r hr).1) hst fun fl hfl hrow hfs htake hget => ?_
  have hv1 : v.length = 2 := (hv v (by simp)).1
  obtain ⟨c0, cs0, hvv⟩ : ∃ c0 cs0, v = c0 :: cs0 := by
    cases v with
    | nil => simp at hv1
    | cons a b => exact ⟨a, b, rfl⟩
  have hvS : StillR [v] := by intro r hr; rw [List.mem_singleton.1 hr]; exact hvs
  generalize hn : rows.length = n at *
  have w1 : IntKind.wrap .i64 ((n : Int) + 1) = n + 1 := wrap_in (by omega) (by omega)
  have w2 : IntKind.wrap .i64 ((at_ : Int) + 1) = at_ + 1 := wrap_in (by omega) (by omega)
  have w3 : IntKind.wrap .i64 ((n : Int) + 1 - at_) = ((n + 1 - at_ : Nat) : Int) := by rw [wrap_in (by omega) (by omega)]; omega
  by_cases h1 : at_ = n
  · subst h1
    by_cases h2 : at_ + 1 ≤ fl.length
    · refine ⟨.ref 0 0 (at_ + 1), [⟨ovr fl at_ [v], 2, .mut⟩], ?_, ?_⟩
      · refine denF_of [] [66] [] [93] (by simp) ovls93 is_slices_Insert_api_Peer_api_Peer ?_
        simp -implicitDefEqProofs [-leave, c_slices_Insert_api_Peer_api_Peer]
        refine outK_slice (at_) (at_) (by simp; rfl) rfl (by first | rfl | omega | (simp [boundD]; done) | (simp [boundD]; omega) | (simp; done) | (simp; omega) | (simp [*]; done) | (simp [*]; omega)) (by first | rfl | omega | (simp [boundD]; done) | (simp [boundD]; omega) | (simp; done) | (simp; omega) | (simp [*]; done) | (simp [*]; omega)) (by omega) (by first | rfl | omega | (simp [boundD]; done) | (simp [boundD]; omega) | (simp; done) | (simp; omega) | (simp [*]; done) | (simp [*]; omega)) rfl (by first | rfl | omega | (simp [boundD]; done) | (simp [boundD]; omega) | (simp; done) | (simp; omega) | (simp [*]; done) | (simp [*]; omega)) ?_
        simp -implicitDefEqProofs [-leave, hv]
        repeat' (first | (refine appK2_if (by omega) ?_) | (refine appK2_else (by omega) ?_))
        simp -implicitDefEqProofs [-leave, hv, h2]
        rw [leave_lent (by omega) (by simpa using ((hfs.take _).append hvS).append (hfs.drop _))]
        simp [ovr]
      · exact outRows_of rfl rfl rfl (by rw [ovr_length (by simpa using h2)]; omega) (ins_rows1 hn h2 htake) (.inl rfl)
    · have h3 : fl.length = at_ := by omega
      refine ⟨.ref 1 0 (at_ + 1), [⟨fl, 2, .mut⟩, ⟨fl.take at_ ++ [v], 2, .mut⟩], ?_, ?_⟩
      · refine denF_of [] [66] [] [93] (by simp) ovls93 is_slices_Insert_api_Peer_api_Peer ?_
        simp -implicitDefEqProofs [-leave, c_slices_Insert_api_Peer_api_Peer]
        by_cases h0 : at_ = 0
        · refine outK_slice (at_) (at_) (by simp; rfl) rfl (by first | rfl | omega | (simp [boundD]; done) | (simp [boundD]; omega) | (simp; done) | (simp; omega) | (simp [*]; done) | (simp [*]; omega)) (by first | rfl | omega | (simp [boundD]; done) | (simp [boundD]; omega) | (simp; done) | (simp; omega) | (simp [*]; done) | (simp [*]; omega)) (by omega) (by first | rfl | omega | (simp [boundD]; done) | (simp [boundD]; omega) | (simp; done) | (simp; omega) | (simp [*]; done) | (simp [*]; omega)) rfl (by first | rfl | omega | (simp [boundD]; done) | (simp [boundD]; omega) | (simp; done) | (simp; omega) | (simp [*]; done) | (simp [*]; omega)) ?_
          simp -implicitDefEqProofs [-leave, hv, h3]
          repeat' (first | (refine appK2_if (by omega) ?_) | (refine appK2_else (by omega) ?_))
          simp -implicitDefEqProofs [-leave, hv, h3]
          rw [leave_new (by omega) rfl rfl (by simpa using hfs)]
          rfl
        · refine outK_sliceE (at_) (by simp; rfl) rfl (by first | rfl | omega | (simp [boundD]; done) | (simp [boundD]; omega) | (simp; done) | (simp; omega) | (simp [*]; done) | (simp [*]; omega)) (by first | rfl | omega | (simp [boundD]; done) | (simp [boundD]; omega) | (simp; done) | (simp; omega) | (simp [*]; done) | (simp [*]; omega)) (by first | rfl | omega | (simp [boundD]; done) | (simp [boundD]; omega) | (simp; done) | (simp; omega) | (simp [*]; done) | (simp [*]; omega)) rfl (by omega) ?_
          simp -implicitDefEqProofs [-leave, hv, h3]
          repeat' (first | (refine appK2_if (by omega) ?_) | (refine appK2_else (by omega) ?_))
          simp -implicitDefEqProofs [-leave, hv, h3]
          rw [leave_new (by omega) rfl rfl (by simpa using hfs)]
          rfl
      · exact outRows_of rfl rfl rfl (by simp; omega) (ins_rows2 hn htake) (.inr (by omega))
  · have hlt : at_ < n := by omega
    have hT1 : ∀ X : List (List D), List.take (n - at_) (List.take (n + 1 - at_) X) = List.take (n - at_) X := by
      intro X
      rw [List.take_take]
      congr 1
      omega
    have hfit : Fits 2 (List.take (n - at_) (List.drop at_ fl)) := by
      intro r hr
      rw [← List.drop_take, htake] at hr
      exact hf r (List.mem_of_mem_drop hr)
    have hrr : ∀ m, ∀ r ∈ List.take m (List.drop at_ fl), r.length = 2 := fun m r hr => hrow r (List.mem_of_mem_drop (List.mem_of_mem_take hr))
    have hT3 : ∀ X : List (List D), List.take (n - at_) (List.take (n - at_) X) = List.take (n - at_) X := by intro X; rw [List.take_take]; congr 1; omega
    have hT2 : List.take (n + 1 - at_) [v] = [v] := List.take_of_length_le (by simp; omega)
    have hap : ∀ (fl' : List (List D)) (bs : List Blk) (o l : Nat), apartD (⟨fl', 2, .mut⟩ :: bs) [.sl [v] 1, .ref 0 o l] = true := by
      intro _ _ _ _
      rw [hvv]
      rfl
    have hyl : (List.take (n - at_) (List.drop at_ fl)).length = n - at_ := by simp; omega
    have hne : ¬ (at_ : Int) = n := by omega
    by_cases h2 : n + 1 ≤ fl.length
    · have h2' : ¬ ((fl.length : Int) < (n : Int) + 1) := by omega
      refine ⟨.ref 0 0 (n + 1), [⟨ovr (ovr fl (at_ + 1) ((fl.drop at_).take (n - at_))) at_ [v], 2, .mut⟩], ?_, ?_⟩
      · refine denF_of [] [66] [] [93] (by simp) ovls93 is_slices_Insert_api_Peer_api_Peer ?_
        simp -implicitDefEqProofs [-leave, c_slices_Insert_api_Peer_api_Peer]
        refine outK_slice (at_) (n) (by simp; rfl) rfl (by first | rfl | omega | (simp [boundD]; done) | (simp [boundD]; omega) | (simp; done) | (simp; omega) | (simp [*]; done) | (simp [*]; omega)) (by first | rfl | omega | (simp [boundD]; done) | (simp [boundD]; omega) | (simp; done) | (simp; omega) | (simp [*]; done) | (simp [*]; omega)) (by omega) (by first | rfl | omega | (simp [boundD]; done) | (simp [boundD]; omega) | (simp; done) | (simp; omega) | (simp [*]; done) | (simp [*]; omega)) rfl (by first | rfl | omega | (simp [boundD]; done) | (simp [boundD]; omega) | (simp; done) | (simp; omega) | (simp [*]; done) | (simp [*]; omega)) ?_
        simp -implicitDefEqProofs [-leave, hv, h1, hne, w1, w2, h2']
        refine outK_slice (0) (n + 1) (by simp; rfl) rfl (by first | rfl | omega | (simp [boundD]; done) | (simp [boundD]; omega) | (simp; done) | (simp; omega) | (simp [*]; done) | (simp [*]; omega)) (by first | rfl | omega | (simp [boundD]; done) | (simp [boundD]; omega) | (simp; done) | (simp; omega) | (simp [*]; done) | (simp [*]; omega)) (by omega) (by first | rfl | omega | (simp [boundD]; done) | (simp [boundD]; omega) | (simp; done) | (simp; omega) | (simp [*]; done) | (simp [*]; omega)) rfl (by first | rfl | omega | (simp [boundD]; done) | (simp [boundD]; omega) | (simp; done) | (simp; omega) | (simp [*]; done) | (simp [*]; omega)) ?_
        simp -implicitDefEqProofs [-leave, hv, h1, hne, w1, w2, h2']
        refine outK_slice (at_ + 1) (n + 1) (by simp; rfl) rfl (by first | rfl | omega | (simp [boundD]; done) | (simp [boundD]; omega) | (simp; done) | (simp; omega) | (simp [*]; done) | (simp [*]; omega)) (by first | rfl | omega | (simp [boundD]; done) | (simp [boundD]; omega) | (simp; done) | (simp; omega) | (simp [*]; done) | (simp [*]; omega)) (by omega) (by first | rfl | omega | (simp [boundD]; done) | (simp [boundD]; omega) | (simp; done) | (simp; omega) | (simp [*]; done) | (simp [*]; omega)) rfl (by first | rfl | omega | (simp [boundD]; done) | (simp [boundD]; omega) | (simp; done) | (simp; omega) | (simp [*]; done) | (simp [*]; omega)) ?_
        simp -implicitDefEqProofs [-leave, hv, h1, hne, w1, w2, h2', hap]
        refine outK_slice (at_ + 1) (n + 1) (by simp; rfl) rfl (by first | rfl | omega | (simp [boundD]; done) | (simp [boundD]; omega) | (simp; done) | (simp; omega) | (simp [*]; done) | (simp [*]; omega)) (by first | rfl | omega | (simp [boundD]; done) | (simp [boundD]; omega) | (simp; done) | (simp; omega) | (simp [*]; done) | (simp [*]; omega)) (by omega) (by first | rfl | omega | (simp [boundD]; done) | (simp [boundD]; omega) | (simp; done) | (simp; omega) | (simp [*]; done) | (simp [*]; omega)) rfl (by first | rfl | omega | (simp [boundD]; done) | (simp [boundD]; omega) | (simp; done) | (simp; omega) | (simp [*]; done) | (simp [*]; omega)) ?_
        simp -implicitDefEqProofs [-leave, hv, h1, hne, w1, w2, h2']
        refine outK_slice (at_) (n + 1) (by simp; rfl) rfl (by first | rfl | omega | (simp [boundD]; done) | (simp [boundD]; omega) | (simp; done) | (simp; omega) | (simp [*]; done) | (simp [*]; omega)) (by first | rfl | omega | (simp [boundD]; done) | (simp [boundD]; omega) | (simp; done) | (simp; omega) | (simp [*]; done) | (simp [*]; omega)) (by omega) (by first | rfl | omega | (simp [boundD]; done) | (simp [boundD]; omega) | (simp; done) | (simp; omega) | (simp [*]; done) | (simp [*]; omega)) rfl (by first | rfl | omega | (simp [boundD]; done) | (simp [boundD]; omega) | (simp; done) | (simp; omega) | (simp [*]; done) | (simp [*]; omega)) ?_
        simp -implicitDefEqProofs [-leave, hv, h1, hne, w1, w2, h2', hT1, hfit]
        refine ⟨hrr _, ?_⟩
        try refine overK_if (by first | omega | (simp; done) | (simp; omega)) ?_
        have hB1 := ovr_length (rows := fl) (p := at_ + 1) (ys := List.take (n - at_) (List.drop at_ fl)) (by omega)
        have hBS := hfs.ovr ((hfs.drop at_).take (n - at_)) (at_ + 1)
        generalize hB : ovr fl (at_ + 1) (List.take (n - at_) (List.drop at_ fl)) = B at *
        simp -implicitDefEqProofs [-leave, hv, h1, hne, w1, w2, h2']
        refine outK_slice (at_) (n + 1) (by simp; rfl) rfl (by first | rfl | omega | (simp [boundD]; done) | (simp [boundD]; omega) | (simp; done) | (simp; omega) | (simp [*]; done) | (simp [*]; omega)) (by first | rfl | omega | (simp [boundD]; done) | (simp [boundD]; omega) | (simp; done) | (simp; omega) | (simp [*]; done) | (simp [*]; omega)) (by omega) (by first | rfl | omega | (simp [boundD]; done) | (simp [boundD]; omega) | (simp; done) | (simp; omega) | (simp [*]; done) | (simp [*]; omega)) rfl (by first | rfl | omega | (simp [boundD]; done) | (simp [boundD]; omega) | (simp; done) | (simp; omega) | (simp [*]; done) | (simp [*]; omega)) ?_
        simp -implicitDefEqProofs [-leave, hv, h1, hne, w1, w2, h2', hv1, hT2]
        try refine overK_if (by first | omega | (simp; done) | (simp; omega)) ?_
        simp -implicitDefEqProofs [-leave, hv, h1, hne, w1, w2, h2']
        rw [leave_lent (by omega) (by simpa using hBS.ovr hvS at_)]
        rfl
      · exact outRows_of rfl rfl rfl (by show 0 + (n + 1) ≤ (ovr (ovr fl (at_ + 1) _) at_ [v]).length; rw [ovr_length (by rw [ovr_length (by omega)]; simp; omega), ovr_length (by omega)]; omega) (ins_rowsC hn hlt h2 htake) (.inl rfl)
    · have h3 : fl.length = n := by omega
      have h3' : (n : Int) < (n : Int) + 1 := by omega
      refine ⟨.ref 1 0 (n + 1), [⟨fl, 2, .mut⟩, ⟨ovr (ovr (fl.take at_ ++ List.replicate (n + 1 - at_) (TT 54).zero) at_ [v]) (at_ + 1) ((fl.drop at_).take (n - at_)), 2, .mut⟩], ?_, ?_⟩
      · refine denF_of [] [66] [] [93] (by simp) ovls93 is_slices_Insert_api_Peer_api_Peer ?_
        simp -implicitDefEqProofs [-leave, c_slices_Insert_api_Peer_api_Peer]
        refine outK_slice (at_) (n) (by simp; rfl) rfl (by first | rfl | omega | (simp [boundD]; done) | (simp [boundD]; omega) | (simp; done) | (simp; omega) | (simp [*]; done) | (simp [*]; omega)) (by first | rfl | omega | (simp [boundD]; done) | (simp [boundD]; omega) | (simp; done) | (simp; omega) | (simp [*]; done) | (simp [*]; omega)) (by omega) (by first | rfl | omega | (simp [boundD]; done) | (simp [boundD]; omega) | (simp; done) | (simp; omega) | (simp [*]; done) | (simp [*]; omega)) rfl (by first | rfl | omega | (simp [boundD]; done) | (simp [boundD]; omega) | (simp; done) | (simp; omega) | (simp [*]; done) | (simp [*]; omega)) ?_
        simp -implicitDefEqProofs [-leave, hv, h1, hne, w1, w2, h3, h3']
        refine outK_slice (0) (at_) (by simp; rfl) rfl (by first | rfl | omega | (simp [boundD]; done) | (simp [boundD]; omega) | (simp; done) | (simp; omega) | (simp [*]; done) | (simp [*]; omega)) (by first | rfl | omega | (simp [boundD]; done) | (simp [boundD]; omega) | (simp; done) | (simp; omega) | (simp [*]; done) | (simp [*]; omega)) (by omega) (by first | rfl | omega | (simp [boundD]; done) | (simp [boundD]; omega) | (simp; done) | (simp; omega) | (simp [*]; done) | (simp [*]; omega)) rfl (by first | rfl | omega | (simp [boundD]; done) | (simp [boundD]; omega) | (simp; done) | (simp; omega) | (simp [*]; done) | (simp [*]; omega)) ?_
        simp -implicitDefEqProofs [-leave, hv, h1, hne, w1, w2, w3, h3, h3']
        refine appK_if (by omega) ?_
        have e1 : at_ + (n + 1 - at_) = n + 1 := by omega
        simp -implicitDefEqProofs [-leave, hv, h1, hne, w1, w2, w3, h3, h3', e1]
        repeat' (first | (refine appK2_if (by omega) ?_) | (refine appK2_else (by omega) ?_))
        simp -implicitDefEqProofs [-leave, hv, h1, hne, w1, w2, w3, h3, h3', e1]
        have hA1 : (List.take at_ fl ++ List.replicate (n + 1 - at_) [D.int IntKind.i64 0, D.int IntKind.i64 0]).length = n + 1 := by simp; omega
        generalize hA : List.take at_ fl ++ List.replicate (n + 1 - at_) [D.int IntKind.i64 0, D.int IntKind.i64 0] = A at *
        refine outK_slice (at_) (n + 1) (by simp; rfl) rfl (by first | rfl | omega | (simp [boundD]; done) | (simp [boundD]; omega) | (simp; done) | (simp; omega) | (simp [*]; done) | (simp [*]; omega)) (by first | rfl | omega | (simp [boundD]; done) | (simp [boundD]; omega) | (simp; done) | (simp; omega) | (simp [*]; done) | (simp [*]; omega)) (by omega) (by first | rfl | omega | (simp [boundD]; done) | (simp [boundD]; omega) | (simp; done) | (simp; omega) | (simp [*]; done) | (simp [*]; omega)) rfl (by first | rfl | omega | (simp [boundD]; done) | (simp [boundD]; omega) | (simp; done) | (simp; omega) | (simp [*]; done) | (simp [*]; omega)) ?_
        simp -implicitDefEqProofs [-leave, hv, h1, hne, w1, w2, h3, hv1, hT2]
        try refine overK_if (by first | omega | (simp; done) | (simp; omega)) ?_
        have hB1 := ovr_length (rows := A) (p := at_) (ys := [v]) (by simp; omega)
        generalize hB : ovr A at_ [v] = B at *
        simp -implicitDefEqProofs [-leave, hv, h1, hne, w1, w2, h3]
        refine outK_slice (at_ + 1) (n + 1) (by simp; rfl) rfl (by first | rfl | omega | (simp [boundD]; done) | (simp [boundD]; omega) | (simp; done) | (simp; omega) | (simp [*]; done) | (simp [*]; omega)) (by first | rfl | omega | (simp [boundD]; done) | (simp [boundD]; omega) | (simp; done) | (simp; omega) | (simp [*]; done) | (simp [*]; omega)) (by omega) (by first | rfl | omega | (simp [boundD]; done) | (simp [boundD]; omega) | (simp; done) | (simp; omega) | (simp [*]; done) | (simp [*]; omega)) rfl (by first | rfl | omega | (simp [boundD]; done) | (simp [boundD]; omega) | (simp; done) | (simp; omega) | (simp [*]; done) | (simp [*]; omega)) ?_
        simp -implicitDefEqProofs [-leave, hv, h1, hne, w1, w2, h3]
        refine outK_slice (at_) (n) (by simp; rfl) rfl (by first | rfl | omega | (simp [boundD]; done) | (simp [boundD]; omega) | (simp; done) | (simp; omega) | (simp [*]; done) | (simp [*]; omega)) (by first | rfl | omega | (simp [boundD]; done) | (simp [boundD]; omega) | (simp; done) | (simp; omega) | (simp [*]; done) | (simp [*]; omega)) (by omega) (by first | rfl | omega | (simp [boundD]; done) | (simp [boundD]; omega) | (simp; done) | (simp; omega) | (simp [*]; done) | (simp [*]; omega)) rfl (by first | rfl | omega | (simp [boundD]; done) | (simp [boundD]; omega) | (simp; done) | (simp; omega) | (simp [*]; done) | (simp [*]; omega)) ?_
        simp -implicitDefEqProofs [-leave, hv, h1, hne, w1, w2, h3, hfit, hT3]
        refine ⟨hrr _, ?_⟩
        try refine overK_if (by first | omega | (simp; done) | (simp; omega)) ?_
        try simp -implicitDefEqProofs [-leave, hv, h1, hne, w1, w2, h3]
        rw [leave_new (by omega) rfl rfl (by simpa using hfs)]
        simp [hA, hB]
      · exact outRows_of rfl rfl rfl (by
          have hA1 : (List.take at_ fl ++ List.replicate (n + 1 - at_) (TT 54).zero).length = n + 1 := by simp; omega
          show 0 + (n + 1) ≤ (ovr (ovr _ at_ [v]) (at_ + 1) _).length
          rw [ovr_length (by rw [ovr_length (by rw [hA1]; simp; omega), hA1]; omega), ovr_length (by rw [hA1]; simp; omega), hA1]; omega) (ins_rowsB hn hlt h3 htake) (.inr (by omega))
theorem clone_Item (rows : List (List D)) (hf : Fits 5 rows) (hl : rows.length * 40 ≤ 140737488355328) : Den PP 40 [.sl rows rows.length] [] (.ref 0 0 rows.length) [⟨rows, 5, .mut⟩] := by
  cases hr : rows with
  | nil =>
    refine den_zs (pre := []) (post := []) ?_ ?_
    · refine den_of [] [] is_slices_Clone_api_Item_api_Item ?_
      simp -implicitDefEqProofs [c_slices_Clone_api_Item_api_Item]
    · refine den_of [] [] is_slices_Clone_api_Item_api_Item ?_
      simp -implicitDefEqProofs [c_slices_Clone_api_Item_api_Item, Fits]
  | cons r rs =>
    rw [hr] at hf hl
    have h63 : (r :: rs).length ≤ 9223372036854775807 := by omega
    have hlen : 0 < (r :: rs).length := by simp
    generalize hn : (r :: rs).length = n at *
    generalize r :: rs = rows at *
    refine den_of [] [] is_slices_Clone_api_Item_api_Item ?_
    simp -implicitDefEqProofs [c_slices_Clone_api_Item_api_Item, hlen, List.take_of_length_le (Nat.le_of_eq hn), hf, hn, hl, h63]
theorem insert_Item (rows : List (List D)) (v : List D) (at_ : Nat) (hf : Fits 5 rows) (hst : StillR rows) (hv : Fits 5 [v]) (hvs : ∀ d ∈ v, d.still = true) (hat : at_ ≤ rows.length) (hl : rows.length ≤ 1000000) :
    GivesC (DenF PP [0]) 80 rows 5 [.int .i64 at_, .sl [v] 1] (insL rows at_ v) := by
  refine gives_of (fun r hr => (hf r hr).1) hst fun fl hfl hrow hfs htake hget => ?_
  have hv1 : v.length = 5 := (hv v (by simp)).1
  obtain ⟨c0, cs0, hvv⟩ : ∃ c0 cs0, v = c0 :: cs0 := by
    cases v with
    | nil => simp at hv1
    | cons a b => exact ⟨a, b, rfl⟩
  have hvS : StillR [v] := by intro r hr; rw [List.mem_singleton.1 hr]; exact hvs
  generalize hn : rows.length = n at *
  have w1 : IntKind.wrap .i64 ((n : Int) + 1) = n + 1 := wrap_in (by omega) (by omega)
  have w2 : IntKind.wrap .i64 ((at_ : Int) + 1) = at_ + 1 := wrap_in (by omega) (by omega)
  have w3 : IntKind.wrap .i64 ((n : Int) + 1 - at_) = ((n + 1 - at_ : Nat) : Int) := by rw [wrap_in (by omega) (by omega)]; omega
  by_cases h1 : at_ = n
  · subst h1
    by_cases h2 : at_ + 1 ≤ fl.length
    · refine ⟨.ref 0 0 (at_ + 1), [⟨ovr fl at_ [v], 5, .mut⟩], ?_, ?_⟩
      · refine denF_of [] [66] [] [91] (by simp) ovls91 is_slices_Insert_api_Item_api_Item ?_
        simp -implicitDefEqProofs [-leave, c_slices_Insert_api_Item_api_Item]
        refine outK_slice (at_) (at_) (by simp; rfl) rfl (by first | rfl | omega | (simp [boundD]; done) | (simp [boundD]; omega) | (simp; done) | (simp; omega) | (simp [*]; done) | (simp [*]; omega)) (by first | rfl | omega | (simp [boundD]; done) | (simp [boundD]; omega) | (simp; done) | (simp; omega) | (simp [*]; done) | (simp [*]; omega)) (by omega) (by first | rfl | omega | (simp [boundD]; done) | (simp [boundD]; omega) | (simp; done) | (simp; omega) | (simp [*]; done) | (simp [*]; omega)) rfl (by first | rfl | omega | (simp [boundD]; done) | (simp [boundD]; omega) | (simp; done) | (simp; omega) | (simp [*]; done) | (simp [*]; omega)) ?_
        simp -implicitDefEqProofs [-leave, hv]
        repeat' (first | (refine appK2_if (by omega) ?_) | (refine appK2_else (by omega) ?_))
        simp -implicitDefEqProofs [-leave, hv, h2]
        rw [leave_lent (by omega) (by simpa using ((hfs.take _).append hvS).append (hfs.drop _))]
        simp [ovr]
      · exact outRows_of rfl rfl rfl (by rw [ovr_length (by simpa using h2)]; omega) (ins_rows1 hn h2 htake) (.inl rfl)
    · have h3 : fl.length = at_ := by omega
      refine ⟨.ref 1 0 (at_ + 1), [⟨fl, 5, .mut⟩, ⟨fl.take at_ ++ [v], 5, .mut⟩], ?_, ?_⟩
      · refine denF_of [] [66] [] [91] (by simp) ovls91 is_slices_Insert_api_Item_api_Item ?_
        simp -implicitDefEqProofs [-leave, c_slices_Insert_api_Item_api_Item]
        by_cases h0 : at_ = 0
        · refine outK_slice (at_) (at_) (by simp; rfl) rfl (by first | rfl | omega | (simp [boundD]; done) | (simp [boundD]; omega) | (simp; done) | (simp; omega) | (simp [*]; done) | (simp [*]; omega)) (by first | rfl | omega | (simp [boundD]; done) | (simp [boundD]; omega) | (simp; done) | (simp; omega) | (simp [*]; done) | (simp [*]; omega)) (by omega) (by first | rfl | omega | (simp [boundD]; done) | (simp [boundD]; omega) | (simp; done) | (simp; omega) | (simp [*]; done) | (simp [*]; omega)) rfl (by first | rfl | omega | (simp [boundD]; done) | (simp [boundD]; omega) | (simp; done) | (simp; omega) | (simp [*]; done) | (simp [*]; omega)) ?_
          simp -implicitDefEqProofs [-leave, hv, h3]
          repeat' (first | (refine appK2_if (by omega) ?_) | (refine appK2_else (by omega) ?_))
          simp -implicitDefEqProofs [-leave, hv, h3]
          rw [leave_new (by omega) rfl rfl (by simpa using hfs)]
          rfl
        · refine outK_sliceE (at_) (by simp; rfl) rfl (by first | rfl | omega | (simp [boundD]; done) | (simp [boundD]; omega) | (simp; done) | (simp; omega) | (simp [*]; done) | (simp [*]; omega)) (by first | rfl | omega | (simp [boundD]; done) | (simp [boundD]; omega) | (simp; done) | (simp; omega) | (simp [*]; done) | (simp [*]; omega)) (by first | rfl | omega | (simp [boundD]; done) | (simp [boundD]; omega) | (simp; done) | (simp; omega) | (simp [*]; done) | (simp [*]; omega)) rfl (by omega) ?_
          simp -implicitDefEqProofs [-leave, hv, h3]
          repeat' (first | (refine appK2_if (by omega) ?_) | (refine appK2_else (by omega) ?_))
          simp -implicitDefEqProofs [-leave, hv, h3]
          rw [leave_new (by omega) rfl rfl (by simpa using hfs)]
          rfl
      · exact outRows_of rfl rfl rfl (by simp; omega) (ins_rows2 hn htake) (.inr (by omega))
  · have hlt : at_ < n := by omega
    have hT1 : ∀ X : List (List D), List.take (n - at_) (List.take (n + 1 - at_) X) = List.take (n - at_) X := by
      intro X
      rw [List.take_take]
      congr 1
      omega
    have hfit : Fits 5 (List.take (n - at_) (List.drop at_ fl)) := by
      intro r hr
      rw [← List.drop_take, htake] at hr
      exact hf r (List.mem_of_mem_drop hr)
    have hrr : ∀ m, ∀ r ∈ List.take m (List.drop at_ fl), r.length = 5 := fun m r hr => hrow r (List.mem_of_mem_drop (List.mem_of_mem_take hr))
    have hT3 : ∀ X : List (List D), List.take (n - at_) (List.take (n - at_) X) = List.take (n - at_) X := by intro X; rw [List.take_take]; congr 1; omega
    have hT2 : List.take (n + 1 - at_) [v] = [v] := List.take_of_length_le (by simp; omega)
    have hap : ∀ (fl' : List (List D)) (bs : List Blk) (o l : Nat), apartD (⟨fl', 5, .mut⟩ :: bs) [.sl [v] 1, .ref 0 o l] = true := by
      intro _ _ _ _
      rw [hvv]
      rfl
    have hyl : (List.take (n - at_) (List.drop at_ fl)).length = n - at_ := by simp; omega
    have hne : ¬ (at_ : Int) = n := by omega
    by_cases h2 : n + 1 ≤ fl.length
    · have h2' : ¬ ((fl.length : Int) < (n : Int) + 1) := by omega
      refine ⟨.ref 0 0 (n + 1), [⟨ovr (ovr fl (at_ + 1) ((fl.drop at_).take (n - at_))) at_ [v], 5, .mut⟩], ?_, ?_⟩
      · refine denF_of [] [66] [] [91] (by simp) ovls91 is_slices_Insert_api_Item_api_Item ?_
        simp -implicitDefEqProofs [-leave, c_slices_Insert_api_Item_api_Item]
        refine outK_slice (at_) (n) (by simp; rfl) rfl (by first | rfl | omega | (simp [boundD]; done) | (simp [boundD]; omega) | (simp; done) | (simp; omega) | (simp [*]; done) | (simp [*]; omega)) (by first | rfl | omega | (simp [boundD]; done) | (simp [boundD]; omega) | (simp; done) | (simp; omega) | (simp [*]; done) | (simp [*]; omega)) (by omega) (by first | rfl | omega | (simp [boundD]; done) | (simp [boundD]; omega) | (simp; done) | (simp; omega) | (simp [*]; done) | (simp [*]; omega)) rfl (by first | rfl | omega | (simp [boundD]; done) | (simp [boundD]; omega) | (simp; done) | (simp; omega) | (simp [*]; done) | (simp [*]; omega)) ?_
        simp -implicitDefEqProofs [-leave, hv, h1, hne, w1, w2, h2']
        refine outK_slice (0) (n + 1) (by simp; rfl) rfl (by first | rfl | omega | (simp [boundD]; done) | (simp [boundD]; omega) | (simp; done) | (simp; omega) | (simp [*]; done) | (simp [*]; omega)) (by first | rfl | omega | (simp [boundD]; done) | (simp [boundD]; omega) | (simp; done) | (simp; omega) | (simp [*]; done) | (simp [*]; omega)) (by omega) (by first | rfl | omega | (simp [boundD]; done) | (simp [boundD]; omega) | (simp; done) | (simp; omega) | (simp [*]; done) | (simp [*]; omega)) rfl (by first | rfl | omega | (simp [boundD]; done) | (simp [boundD]; omega) | (simp; done) | (simp; omega) | (simp [*]; done) | (simp [*]; omega)) ?_
        simp -implicitDefEqProofs [-leave, hv, h1, hne, w1, w2, h2']
        refine outK_slice (at_ + 1) (n + 1) (by simp; rfl) rfl (by first | rfl | omega | (simp [boundD]; done) | (simp [boundD]; omega) | (simp; done) | (simp; omega) | (simp [*]; done) | (simp [*]; omega)) (by first | rfl | omega | (simp [boundD]; done) | (simp [boundD]; omega) | (simp; done) | (simp; omega) | (simp [*]; done) | (simp [*]; omega)) (by omega) (by first | rfl | omega | (simp [boundD]; done) | (simp [boundD]; omega) | (simp; done) | (simp; omega) | (simp [*]; done) | (simp [*]; omega)) rfl (by first | rfl | omega | (simp [boundD]; done) | (simp [boundD]; omega) | (simp; done) | (simp; omega) | (simp [*]; done) | (simp [*]; omega)) ?_
        simp -implicitDefEqProofs [-leave, hv, h1, hne, w1, w2, h2', hap]
        refine outK_slice (at_ + 1) (n + 1) (by simp; rfl) rfl (by first | rfl | omega | (simp [boundD]; done) | (simp [boundD]; omega) | (simp; done) | (simp; omega) | (simp [*]; done) | (simp [*]; omega)) (by first | rfl | omega | (simp [boundD]; done) | (simp [boundD]; omega) | (simp; done) | (simp; omega) | (simp [*]; done) | (simp [*]; omega)) (by omega) (by first | rfl | omega | (simp [boundD]; done) | (simp [boundD]; omega) | (simp; done) | (simp; omega) | (simp [*]; done) | (simp [*]; omega)) rfl (by first | rfl | omega | (simp [boundD]; done) | (simp [boundD]; omega) | (simp; done) | (simp; omega) | (simp [*]; done) | (simp [*]; omega)) ?_
        simp -implicitDefEqProofs [-leave, hv, h1, hne, w1, w2, h2']
        refine outK_slice (at_) (n + 1) (by simp; rfl) rfl (by first | rfl | omega | (simp [boundD]; done) | (simp [boundD]; omega) | (simp; done) | (simp; omega) | (simp [*]; done) | (simp [*]; omega)) (by first | rfl | omega | (simp [boundD]; done) | (simp [boundD]; omega) | (simp; done) | (simp; omega) | (simp [*]; done) | (simp [*]; omega)) (by omega) (by first | rfl | omega | (simp [boundD]; done) | (simp [boundD]; omega) | (simp; done) | (simp; omega) | (simp [*]; done) | (simp [*]; omega)) rfl (by first | rfl | omega | (simp [boundD]; done) | (simp [boundD]; omega) | (simp; done) | (simp; omega) | (simp [*]; done) | (simp [*]; omega)) ?_
        simp -implicitDefEqProofs [-leave, hv, h1, hne, w1, w2, h2', hT1, hfit]
        refine ⟨hrr _, ?_⟩
        try refine overK_if (by first | omega | (simp; done) | (simp; omega)) ?_
        have hB1 := ovr_length (rows := fl) (p := at_ + 1) (ys := List.take (n - at_) (List.drop at_ fl)) (by omega)
        have hBS := hfs.ovr ((hfs.drop at_).take (n - at_)) (at_ + 1)
        generalize hB : ovr fl (at_ + 1) (List.take (n - at_) (List.drop at_ fl)) = B at *
        simp -implicitDefEqProofs [-leave, hv, h1, hne, w1, w2, h2']
        refine outK_slice (at_) (n + 1) (by simp; rfl) rfl (by first | rfl | omega | (simp [boundD]; done) | (simp [boundD]; omega) | (simp; done) | (simp; omega) | (simp [*]; done) | (simp [*]; omega)) (by first | rfl | omega | (simp [boundD]; done) | (simp [boundD]; omega) | (simp; done) | (simp; omega) | (simp [*]; done) | (simp [*]; omega)) (by omega) (by first | rfl | omega | (simp [boundD]; done) | (simp [boundD]; omega) | (simp; done) | (simp; omega) | (simp [*]; done) | (simp [*]; omega)) rfl (by first | rfl | omega | (simp [boundD]; done) | (simp [boundD]; omega) | (simp; done) | (simp; omega) | (simp [*]; done) | (simp [*]; omega)) ?_
        simp -implicitDefEqProofs [-leave, hv, h1, hne, w1, w2, h2', hv1, hT2]
        try refine overK_if (by first | omega | (simp; done) | (simp; omega)) ?_
        simp -implicitDefEqProofs [-leave, hv, h1, hne, w1, w2, h2']
        rw [leave_lent (by omega) (by simpa using hBS.ovr hvS at_)]
        rfl
      · exact outRows_of rfl rfl rfl (by show 0 + (n + 1) ≤ (ovr (ovr fl (at_ + 1) _) at_ [v]).length; rw [ovr_length (by rw [ovr_length (by omega)]; simp; omega), ovr_length (by omega)]; omega) (ins_rowsC hn hlt h2 htake) (.inl rfl)
    · have h3 : fl.length = n := by omega
      have h3' : (n : Int) < (n : Int) + 1 := by omega
      refine ⟨.ref 1 0 (n + 1), [⟨fl, 5, .mut⟩, ⟨ovr (ovr (fl.take at_ ++ List.replicate (n + 1 - at_) (TT 35).zero) at_ [v]) (at_ + 1) ((fl.drop at_).take (n - at_)), 5, .mut⟩], ?_, ?_⟩
      · refine denF_of [] [66] [] [91] (by simp) ovls91 is_slices_Insert_api_Item_api_Item ?_
        simp -implicitDefEqProofs [-leave, c_slices_Insert_api_Item_api_Item]
        refine outK_slice (at_) (n) (by simp; rfl) rfl (by first | rfl | omega | (simp [boundD]; done) | (simp [boundD]; omega) | (simp; done) | (simp; omega) | (simp [*]; done) | (simp [*]; omega)) (by first | rfl | omega | (simp [boundD]; done) | (simp [boundD]; omega) | (simp; done) | (simp; omega) | (simp [*]; done) | (simp [*]; omega)) (by omega) (by first | rfl | omega | (simp [boundD]; done) | (simp [boundD]; omega) | (simp; done) | (simp; omega) | (simp [*]; done) | (simp [*]; omega)) rfl (by first | rfl | omega | (simp [boundD]; done) | (simp [boundD]; omega) | (simp; done) | (simp; omega) | (simp [*]; done) | (simp [*]; omega)) ?_
        simp -implicitDefEqProofs [-leave, hv, h1, hne, w1, w2, h3, h3']
        refine outK_slice (0) (at_) (by simp; rfl) rfl (by first | rfl | omega | (simp [boundD]; done) | (simp [boundD]; omega) | (simp; done) | (simp; omega) | (simp [*]; done) | (simp [*]; omega)) (by first | rfl | omega | (simp [boundD]; done) | (simp [boundD]; omega) | (simp; done) | (simp; omega) | (simp [*]; done) | (simp [*]; omega)) (by omega) (by first | rfl | omega | (simp [boundD]; done) | (simp [boundD]; omega) | (simp; done) | (simp; omega) | (simp [*]; done) | (simp [*]; omega)) rfl (by first | rfl | omega | (simp [boundD]; done) | (simp [boundD]; omega) | (simp; done) | (simp; omega) | (simp [*]; done) | (simp [*]; omega)) ?_
        simp -implicitDefEqProofs [-leave, hv, h1, hne, w1, w2, w3, h3, h3']
        refine appK_if (by omega) ?_
        have e1 : at_ + (n + 1 - at_) = n + 1 := by omega
        simp -implicitDefEqProofs [-leave, hv, h1, hne, w1, w2, w3, h3, h3', e1]
        repeat' (first | (refine appK2_if (by omega) ?_) | (refine appK2_else (by omega) ?_))
        simp -implicitDefEqProofs [-leave, hv, h1, hne, w1, w2, w3, h3, h3', e1]
        have hA1 : (List.take at_ fl ++ List.replicate (n + 1 - at_) [D.int IntKind.i64 0, D.int IntKind.i64 0, D.int IntKind.i64 0, D.int IntKind.i64 0, D.bool false]).length = n + 1 := by simp; omega
        generalize hA : List.take at_ fl ++ List.replicate (n + 1 - at_) [D.int IntKind.i64 0, D.int IntKind.i64 0, D.int IntKind.i64 0, D.int IntKind.i64 0, D.bool false] = A at *
        refine outK_slice (at_) (n + 1) (by simp; rfl) rfl (by first | rfl | omega | (simp [boundD]; done) | (simp [boundD]; omega) | (simp; done) | (simp; omega) | (simp [*]; done) | (simp [*]; omega)) (by first | rfl | omega | (simp [boundD]; done) | (simp [boundD]; omega) | (simp; done) | (simp; omega) | (simp [*]; done) | (simp [*]; omega)) (by omega) (by first | rfl | omega | (simp [boundD]; done) | (simp [boundD]; omega) | (simp; done) | (simp; omega) | (simp [*]; done) | (simp [*]; omega)) rfl (by first | rfl | omega | (simp [boundD]; done) | (simp [boundD]; omega) | (simp; done) | (simp; omega) | (simp [*]; done) | (simp [*]; omega)) ?_
        simp -implicitDefEqProofs [-leave, hv, h1, hne, w1, w2, h3, hv1, hT2]
        try refine overK_if (by first | omega | (simp; done) | (simp; omega)) ?_
        have hB1 := ovr_length (rows := A) (p := at_) (ys := [v]) (by simp; omega)
        generalize hB : ovr A at_ [v] = B at *
        simp -implicitDefEqProofs [-leave, hv, h1, hne, w1, w2, h3]
        refine outK_slice (at_ + 1) (n + 1) (by simp; rfl) rfl (by first | rfl | omega | (simp [boundD]; done) | (simp [boundD]; omega) | (simp; done) | (simp; omega) | (simp [*]; done) | (simp [*]; omega)) (by first | rfl | omega | (simp [boundD]; done) | (simp [boundD]; omega) | (simp; done) | (simp; omega) | (simp [*]; done) | (simp [*]; omega)) (by omega) (by first | rfl | omega | (simp [boundD]; done) | (simp [boundD]; omega) | (simp; done) | (simp; omega) | (simp [*]; done) | (simp [*]; omega)) rfl (by first | rfl | omega | (simp [boundD]; done) | (simp [boundD]; omega) | (simp; done) | (simp; omega) | (simp [*]; done) | (simp [*]; omega)) ?_
        simp -implicitDefEqProofs [-leave, hv, h1, hne, w1, w2, h3]
        refine outK_slice (at_) (n) (by simp; rfl) rfl (by first | rfl | omega | (simp [boundD]; done) | (simp [boundD]; omega) | (simp; done) | (simp; omega) | (simp [*]; done) | (simp [*]; omega)) (by first | rfl | omega | (simp [boundD]; done) | (simp [boundD]; omega) | (simp; done) | (simp; omega) | (simp [*]; done) | (simp [*]; omega)) (by omega) (by first | rfl | omega | (simp [boundD]; done) | (simp [boundD]; omega) | (simp; done) | (simp; omega) | (simp [*]; done) | (simp [*]; omega)) rfl (by first | rfl | omega | (simp [boundD]; done) | (simp [boundD]; omega) | (simp; done) | (simp; omega) | (simp [*]; done) | (simp [*]; omega)) ?_
        simp -implicitDefEqProofs [-leave, hv, h1, hne, w1, w2, h3, hfit, hT3]
        refine ⟨hrr _, ?_⟩
        try refine overK_if (by first | omega | (simp; done) | (simp; omega)) ?_
        try simp -implicitDefEqProofs [-leave, hv, h1, hne, w1, w2, h3]
        rw [leave_new (by omega) rfl rfl (by simpa using hfs)]
        simp [hA, hB]
      · exact outRows_of rfl rfl rfl (by
          have hA1 : (List.take at_ fl ++ List.replicate (n + 1 - at_) (TT 35).zero).length = n + 1 := by simp; omega
          show 0 + (n + 1) ≤ (ovr (ovr _ at_ [v]) (at_ + 1) _).length
          rw [ovr_length (by rw [ovr_length (by rw [hA1]; simp; omega), hA1]; omega), ovr_length (by rw [hA1]; simp; omega), hA1]; omega) (ins_rowsB hn hlt h3 htake) (.inr (by omega))
theorem clone_Told (rows : List (List D)) (hf : Fits 3 rows) (hl : rows.length * 24 ≤ 140737488355328) : Den PP 41 [.sl rows rows.length] [] (.ref 0 0 rows.length) [⟨rows, 3, .mut⟩] := by
  cases hr : rows with
  | nil =>
    refine den_zs (pre := []) (post := []) ?_ ?_
    · refine den_of [] [] is_slices_Clone_api_Told_api_Told ?_
      simp -implicitDefEqProofs [c_slices_Clone_api_Told_api_Told]
    · refine den_of [] [] is_slices_Clone_api_Told_api_Told ?_
      simp -implicitDefEqProofs [c_slices_Clone_api_Told_api_Told, Fits]
  | cons r rs =>
    rw [hr] at hf hl
    have h63 : (r :: rs).length ≤ 9223372036854775807 := by omega
    have hlen : 0 < (r :: rs).length := by simp
    generalize hn : (r :: rs).length = n at *
    generalize r :: rs = rows at *
    refine den_of [] [] is_slices_Clone_api_Told_api_Told ?_
    simp -implicitDefEqProofs [c_slices_Clone_api_Told_api_Told, hlen, List.take_of_length_le (Nat.le_of_eq hn), hf, hn, hl, h63]
end Go.AM
/- AM: contracts: a view's ends, a key's owner. -/
namespace Go.AM
set_option linter.unusedSimpArgs false
set_option linter.unusedVariables false
set_option maxRecDepth 8000
set_option maxHeartbeats 0
end Go.AM
/- AM: contracts: a key's owner. -/
namespace Go.AM
set_option linter.unusedSimpArgs false
set_option linter.unusedVariables false
set_option maxRecDepth 8000
set_option maxHeartbeats 0
end Go.AM
/- AM: contracts: the document's answers about views. -/
namespace Go.AM
set_option linter.unusedSimpArgs false
set_option linter.unusedVariables false
set_option maxRecDepth 8000
set_option maxHeartbeats 0
theorem law_SameInts (xs ys : List Int) (hl : xs.length ≤ cap) : Den PP 31 [intsD xs, intsD ys] [] (.bool (decide (xs = ys))) [] := by
  refine den_of [] [] is_gimmallaw0_SameInts ?_
  simp -implicitDefEqProofs [c_gimmallaw0_SameInts, intsD]
  refine condC_split (fun h => ?_) (fun h => ?_)
  · simp -implicitDefEqProofs
    intro he
    subst he
    simp at h
  have hlen : xs.length = ys.length := by simp at h; omega
  simp -implicitDefEqProofs
  refine anyLoop_of (xs.length + 1) ?_
  have key : ∀ (Q : Ex → St → Prop) (r : Bool) (hQ1 : ∀ fr, r = true → Q .normal ⟨fr, []⟩) (hQ2 : ∀ fr bs, r = false → fr 4 = .bool false → Q .ret ⟨fr, bs⟩) (rest : List Int) (i : Nat) (fr : Nat → D), xs.drop i = rest → i ≤ xs.length →
      fr 0 = .sl (xs.map irow) xs.length → fr 1 = .sl (ys.map irow) ys.length → fr 5 = .int .i64 i → decide (rest = ys.drop i) = r → sLoop (cf 0 [] []) 0 c_gimmallaw0_SameInts_L0 (blockQ 0 Q) (rest.length + 1) ⟨fr, []⟩ := by
    intro Q r hQ1 hQ2 rest
    induction rest with
    | nil =>
      intro i fr e hi h0 h1 h5 hm
      refine sLoop_body c_gimmallaw0_SameInts_L0.eq_1 ?_
      have hi' := drop_nil e hi
      simp -implicitDefEqProofs [h0, h1, h5, hi']
      exact hQ1 _ (by rw [← hm, hi', hlen]; simp)
    | cons x rest ih =>
      intro i fr e hi h0 h1 h5 hm
      refine sLoop_body c_gimmallaw0_SameInts_L0.eq_1 ?_
      obtain ⟨hlt, hget, hd, hl2⟩ := drop_cons e
      have hlt' : (i : Int) < xs.length := by omega
      have hlt2 : (i : Int) < ys.length := by omega
      have hw := wrap_next (n := i) (by unfold cap at hl; omega)
      obtain ⟨y, hy⟩ : ∃ y, ys[i]? = some y := ⟨ys[i], by simp⟩
      have hyd : ys.drop i = y :: ys.drop (i + 1) := by
        rw [List.drop_eq_getElem_cons (by omega)]
        have : ys[i] = y := by
          have := (List.getElem?_eq_some_iff.1 hy).2
          exact this
        rw [this]
      simp -implicitDefEqProofs [h0, h1, h5, hlt', hlt2, hget, hy, irow]
      refine condC_split (fun h2 => ?_) (fun h2 => ?_)
      all_goals simp -implicitDefEqProofs [h2, h0, h1, h5, hw]
      · refine hQ2 _ _ ?_ (by rfl)
        rw [← hm, hyd]
        simp at h2
        simp [h2]
      · refine ih (i + 1) _ hd (by omega) (by simp [h0, h1, h5]) (by simp [h0, h1, h5]) (by simp) ?_
        rw [← hm, hyd]
        simp at h2
        simp [h2]
  refine key _ (decide (xs = ys)) (fun fr h => ?_) (fun fr bs h h2 => ?_) xs 0 _ rfl (Nat.zero_le _) rfl rfl rfl rfl
  · simp -implicitDefEqProofs [h]
  · simp -implicitDefEqProofs [h, h2]

theorem ref_PassiveMay (xs : List Int) (hl : xs.length ≤ cap) : Den PP 48 [intsD xs] [] (.bool (refPassiveMay xs)) [] := by
  have hc := ref_placesMay xs hl
  simp [intsD] at hc
  refine den_of [] [] is_gimmalref1_PassiveMay ?_
  simp -implicitDefEqProofs [c_gimmalref1_PassiveMay, intsD]
  refine anyLoop_of (xs.length + 1) ?_
  have key : ∀ (Q : Ex → St → Prop) (r : Bool) (hQ1 : ∀ fr, r = true → fr 0 = .sl (xs.map irow) xs.length → Q .normal ⟨fr, []⟩) (hQ2 : ∀ fr bs, r = false → fr 2 = .bool false → Q .ret ⟨fr, bs⟩) (n j : Nat) (fr : Nat → D), xs.length - j ≤ n → 1 ≤ j →
      fr 0 = .sl (xs.map irow) xs.length → fr 3 = .int .i64 j → incrAt xs j = r → sLoop (cf 0 [] []) 0 c_gimmalref1_PassiveMay_L0 (blockQ 0 Q) (n + 1) ⟨fr, []⟩ := by
    intro Q r hQ1 hQ2 n
    induction n with
    | zero =>
      intro j fr hn hj h0 h3 hm
      refine sLoop_body c_gimmalref1_PassiveMay_L0.eq_1 ?_
      have hx : ¬ (j < xs.length) := by omega
      simp -implicitDefEqProofs [h0, h3, hx]
      exact hQ1 _ (by rw [← hm]; exact incrAt_end (List.drop_of_length_le (by omega))) (by simp [h0, h3])
    | succ n ih =>
      intro j fr hn hj h0 h3 hm
      refine sLoop_body c_gimmalref1_PassiveMay_L0.eq_1 ?_
      by_cases hx : j < xs.length
      · have hlt' : (j : Int) < xs.length := by omega
        have hw := wrap_next (n := j) (by unfold cap at hl; omega)
        have hwp : IntKind.wrap .i64 ((j : Int) - 1) = ((j - 1 : Nat) : Int) := by unfold cap at hl; rw [wrap_in (by omega) (by omega)]; omega
        have hlt2 : ((j - 1 : Nat) : Int) < xs.length := by omega
        obtain ⟨x, hxv⟩ : ∃ x, xs[j]? = some x := ⟨xs[j], by simp⟩
        obtain ⟨y, hyv⟩ : ∃ y, xs[j - 1]? = some y := ⟨xs[j - 1], by simp⟩
        rw [incrAt_next hj hyv hxv] at hm
        simp -implicitDefEqProofs [h0, h3, hlt', hwp, hlt2, hxv, hyv, irow]
        refine condC_dec (fun h2 => ?_) (fun h2 => ?_)
        all_goals simp -implicitDefEqProofs [h2, h0, h3, hw]
        · exact hQ2 _ _ (by rw [← hm]; simp; intros; omega) (by rfl)
        · exact ih (j + 1) _ (by omega) (by omega) (by simp [h0, h3]) (by simp) (by rw [← hm]; simp [show y < x by omega])
      · simp -implicitDefEqProofs [h0, h3, hx]
        exact hQ1 _ (by rw [← hm]; exact incrAt_end (List.drop_of_length_le (by omega))) (by simp [h0, h3])
  refine key _ (incr xs) (fun fr h h0 => ?_) (fun fr bs h h2 => ?_) xs.length 1 _ (by omega) (by omega) rfl rfl (incrAt_start xs)
  · simp -implicitDefEqProofs [h, h0]
    refine callThen_of hc ?_
    simp -implicitDefEqProofs
    refine gOps_split (fun h2 => ?_) (fun h2 => ?_)
    all_goals simp -implicitDefEqProofs [h2, h, h0, refPassiveMay]
    omega
  · simp -implicitDefEqProofs [h, h2, refPassiveMay]
end Go.AM
/- AM: contracts: the document's peers. -/
namespace Go.AM
set_option linter.unusedSimpArgs false
set_option linter.unusedVariables false
set_option maxRecDepth 8000
set_option maxHeartbeats 0
theorem ref_PeersMay (base : Int) (ps : List Peer) (hl : ps.length ≤ cap) : Den PP 47 [.int .i64 base, peersD ps] [] (.bool (refPeersMay base ps)) [] := by
  refine den_of [] [] is_gimmalref1_PeersMay ?_
  simp -implicitDefEqProofs [c_gimmalref1_PeersMay, peersD]
  refine anyLoop_of (ps.length + 1) ?_
  have key : ∀ (Q : Ex → St → Prop) (r : Bool) (hQ1 : ∀ fr, r = true → fr 0 = .int .i64 base → fr 1 = .sl (ps.map Peer.row) ps.length → Q .normal ⟨fr, []⟩) (hQ2 : ∀ fr bs, r = false → fr 4 = .bool false → Q .ret ⟨fr, bs⟩) (rest : List Peer) (i : Nat) (fr : Nat → D), ps.drop i = rest → i ≤ ps.length →
      fr 0 = .int .i64 base → fr 1 = .sl (ps.map Peer.row) ps.length → fr 5 = .int .i64 i → refPeersOk base (if i = 0 then none else ps[i - 1]?) rest = r → sLoop (cf 0 [] []) 0 c_gimmalref1_PeersMay_L0 (blockQ 0 Q) (rest.length + 1) ⟨fr, []⟩ := by
    intro Q r hQ1 hQ2 rest
    induction rest with
    | nil =>
      intro i fr e hi h0 h1 h5 hm
      refine sLoop_body c_gimmalref1_PeersMay_L0.eq_1 ?_
      have hi' := drop_nil e hi
      simp -implicitDefEqProofs [h0, h1, h5, hi']
      exact hQ1 _ hm.symm (by simp [h0, h1, h5]) (by simp [h0, h1, h5])
    | cons p rest ih =>
      intro i fr e hi h0 h1 h5 hm
      refine sLoop_body c_gimmalref1_PeersMay_L0.eq_1 ?_
      obtain ⟨hlt, hget, hd, hlen⟩ := drop_cons e
      have hlt' : (i : Int) < ps.length := by omega
      have hw := wrap_next (n := i) (by unfold cap at hl; omega)
      have hprev : (if i + 1 = 0 then none else ps[i + 1 - 1]?) = some p := by simp [hget]
      simp only [refPeersOk] at hm
      simp -implicitDefEqProofs [h0, h1, h5, hlt', hget, Peer.row]
      refine callThen_of (ref_PlaceMay p.id) ?_
      simp -implicitDefEqProofs [h0, h1, h5]
      refine gOps_split (fun g1 => ?_) (fun g1 => ?_)
      rotate_left
      · simp -implicitDefEqProofs [g1, h0, h1, h5]
        exact hQ2 _ _ (by rw [← hm]; simp [g1]) (by rfl)
      simp -implicitDefEqProofs [g1, h0, h1, h5, hlt', hget, Peer.row]
      refine gOps_not (fun g2 => ?_) (fun g2 => ?_)
      · simp -implicitDefEqProofs [g2, h0, h1, h5]
        exact hQ2 _ _ (by rw [← hm]; simp at g2; simp [g2]) (by rfl)
      simp -implicitDefEqProofs [g2, h0, h1, h5, hlt', hget, Peer.row]
      refine gOps_ndec (fun g3 => ?_) (fun g3 => ?_)
      · simp -implicitDefEqProofs [g3, h0, h1, h5]
        exact hQ2 _ _ (by rw [← hm]; simp; intros; omega) (by rfl)
      simp -implicitDefEqProofs [g3, h0, h1, h5, hlt', hget, Peer.row]
      refine gOps_ndec (fun g4 => ?_) (fun g4 => ?_)
      · simp -implicitDefEqProofs [g4, h0, h1, h5]
        exact hQ2 _ _ (by rw [← hm]; simp; intros; omega) (by rfl)
      simp -implicitDefEqProofs [g4, h0, h1, h5, hlt', hget, Peer.row]
      have g2' : decide (p.id ≠ base) = true := by simp at g2; simp [g2]
      rw [g1, g2', decide_eq_true (show 0 ≤ p.missed by omega), decide_eq_true (show p.missed < 3 by omega)] at hm
      by_cases hi0 : i = 0
      · simp -implicitDefEqProofs [hi0, h0, h1, h5]
        rw [hi0] at hw
        simp -implicitDefEqProofs at hw
        simp -implicitDefEqProofs [hw]
        refine ih 1 _ (by rw [← hd, hi0]) (by omega) (by simp [h0, h1, h5]) (by simp [h0, h1, h5]) (by simp) ?_
        rw [hi0] at hprev hm
        rw [← hm]
        simp at hprev ⊢
        rw [hprev]
      · have hpos : 0 < i := by omega
        have hwp : IntKind.wrap .i64 ((i : Int) - 1) = ((i - 1 : Nat) : Int) := by unfold cap at hl; rw [wrap_in (by omega) (by omega)]; omega
        have hlt2 : ((i - 1 : Nat) : Int) < ps.length := by omega
        obtain ⟨q, hq⟩ : ∃ q, ps[i - 1]? = some q := ⟨ps[i - 1], by simp⟩
        rw [if_neg hi0, hq] at hm
        simp -implicitDefEqProofs [hpos, h0, h1, h5, hwp, hlt2, hq, Peer.row]
        refine callThen_of (ref_far base q.id) ?_
        simp -implicitDefEqProofs [h0, h1, h5, hlt', hget, Peer.row]
        refine callThen_of (ref_far base p.id) ?_
        simp -implicitDefEqProofs [h0, h1, h5]
        refine condC_dec (fun h2 => ?_) (fun h2 => ?_)
        all_goals simp -implicitDefEqProofs [h2, h0, h1, h5, hw]
        · exact hQ2 _ _ (by rw [← hm]; simp; intros; omega) (by rfl)
        · refine ih (i + 1) _ hd (by omega) (by simp [h0, h1, h5]) (by simp [h0, h1, h5]) (by simp) ?_
          rw [hprev, ← hm]
          simp [show far base q.id < far base p.id by omega]
  refine key _ (refPeersOk base none ps) (fun fr h h0 h1 => ?_) (fun fr bs h h4 => ?_) ps 0 _ rfl (Nat.zero_le _) rfl rfl rfl rfl
  · simp -implicitDefEqProofs [h, h0, h1]
    refine callThen_of (ref_PlaceMay base) ?_
    simp -implicitDefEqProofs [h0, h1]
    refine gOps_split (fun h2 => ?_) (fun h2 => ?_)
    all_goals simp -implicitDefEqProofs [h2, h, h0, h1, refPeersMay]
    omega
  · simp -implicitDefEqProofs [h, h4, refPeersMay]
end Go.AM
/- AM: contracts: the document's answers about views. -/
namespace Go.AM
set_option linter.unusedSimpArgs false
set_option linter.unusedVariables false
set_option maxRecDepth 8000
set_option maxHeartbeats 0
theorem law_SamePeers (xs ys : List Peer) (hl : xs.length ≤ cap) : Den PP 30 [peersD xs, peersD ys] [] (.bool (decide (xs = ys))) [] := by
  refine den_of [] [] is_gimmallaw0_SamePeers ?_
  simp -implicitDefEqProofs [c_gimmallaw0_SamePeers, peersD]
  refine condC_split (fun h => ?_) (fun h => ?_)
  · simp -implicitDefEqProofs
    grind
  have hlen : xs.length = ys.length := by simp at h; omega
  simp -implicitDefEqProofs
  refine list_rule xs (fun i rest => fun ⟨fr, bs⟩ => bs = [] ∧ fr 0 = .sl (xs.map Peer.row) xs.length ∧ fr 1 = .sl (ys.map Peer.row) ys.length ∧ fr 5 = .int .i64 i ∧ (rest = ys.drop i ↔ xs = ys))
    (fun ⟨fr, bs⟩ => bs = [] ∧ xs = ys) (fun ⟨fr, bs⟩ => fr 4 = .bool false ∧ ¬ xs = ys) c_gimmallaw0_SamePeers_L0.eq_1 ?_ ?_ ?_ ?_ ?_
  · exact ⟨rfl, rfl, rfl, rfl, by simp⟩
  · rintro i ⟨fr, bs⟩ hi ⟨rfl, h0, h1, h5, he⟩
    simp -implicitDefEqProofs [*]
    grind
  · rintro i a rest ⟨fr, bs⟩ hlt hget hg hd hd2 ⟨rfl, h0, h1, h5, he⟩
    have hlt' : (i : Int) < xs.length := by omega
    have hlt2 : i < ys.length := by omega
    have hlt3 : (i : Int) < ys.length := by omega
    have hw := wrap_next (n := i) (by unfold cap at hl; omega)
    rw [List.drop_eq_getElem_cons hlt2] at he
    generalize hy : ys[i] = b at he
    simp -implicitDefEqProofs [h0, h1, h5, hlt, hlt', hlt2, hlt3, hget, hg, hy, Peer.row, EQS]
    repeat' (first | (with_reducible refine gOps_dec (fun _ => ?_) (fun _ => ?_) <;> simp -implicitDefEqProofs [*, EQS]) | (with_reducible refine gOps_ndec (fun _ => ?_) (fun _ => ?_) <;> simp -implicitDefEqProofs [*, EQS]) | (with_reducible refine gOps_and (fun hq => ?_) (fun hq => ?_) <;> (try simp at hq) <;> simp -implicitDefEqProofs [*, EQS]) | (with_reducible refine gOps_or (fun hq => ?_) (fun hq => ?_) <;> (try simp at hq) <;> simp -implicitDefEqProofs [*, EQS]) | (with_reducible refine gOps_not (fun hq => ?_) (fun hq => ?_) <;> (try simp at hq) <;> simp -implicitDefEqProofs [*, EQS]) | (with_reducible refine gOps_split (fun hq => ?_) (fun hq => ?_) <;> (try simp at hq) <;> simp -implicitDefEqProofs [*, EQS]) | (with_reducible refine condC_dec (fun _ => ?_) (fun _ => ?_) <;> simp -implicitDefEqProofs [*, EQS]) | (with_reducible refine condC_ndec (fun _ => ?_) (fun _ => ?_) <;> simp -implicitDefEqProofs [*, EQS]) | (with_reducible refine condC_and (fun hq => ?_) (fun hq => ?_) <;> (try simp at hq) <;> simp -implicitDefEqProofs [*, EQS]) | (with_reducible refine condC_or (fun hq => ?_) (fun hq => ?_) <;> (try simp at hq) <;> simp -implicitDefEqProofs [*, EQS]) | (with_reducible refine condC_not (fun hq => ?_) (fun hq => ?_) <;> (try simp at hq) <;> simp -implicitDefEqProofs [*, EQS]) | (with_reducible refine condC_split (fun hq => ?_) (fun hq => ?_) <;> (try simp at hq) <;> simp -implicitDefEqProofs [*, EQS]) | (refine appK2_if (by omega) ?_; simp -implicitDefEqProofs [*, EQS]) | (refine pureV_if (by omega) ?_; simp -implicitDefEqProofs [*, EQS]))
    all_goals (obtain ⟨a1, a2⟩ := a; obtain ⟨b1, b2⟩ := b; grind)
  · rintro ⟨fr, bs⟩ ⟨rfl, h6⟩
    simp -implicitDefEqProofs [*]
  · rintro ⟨fr, bs⟩ h
    simp -implicitDefEqProofs [h.1, h.2]
theorem law_SameView (v w : View) (hs : v.small) : Den PP 14 [viewD v, viewD w] [] (.bool (decide (v = w))) [] := by
  have h1 := law_SamePeers v.peers w.peers (cap_of hs.1)
  have h2 := law_SameInts v.passive w.passive hs.2
  simp [peersD, intsD] at h1 h2
  refine den_of [] [] is_gimmallaw0_SameView ?_
  simp -implicitDefEqProofs [c_gimmallaw0_SameView, viewD, View.cells, peersD, intsD]
  repeat' (first | (refine callThen_of (by first | exact h1 | exact h2) ?_; simp -implicitDefEqProofs [*, peersD]) | (with_reducible refine gOps_dec (fun _ => ?_) (fun _ => ?_) <;> simp -implicitDefEqProofs [*, peersD]) | (with_reducible refine gOps_ndec (fun _ => ?_) (fun _ => ?_) <;> simp -implicitDefEqProofs [*, peersD]) | (with_reducible refine gOps_and (fun hq => ?_) (fun hq => ?_) <;> (try simp at hq) <;> simp -implicitDefEqProofs [*, peersD]) | (with_reducible refine gOps_or (fun hq => ?_) (fun hq => ?_) <;> (try simp at hq) <;> simp -implicitDefEqProofs [*, peersD]) | (with_reducible refine gOps_not (fun hq => ?_) (fun hq => ?_) <;> (try simp at hq) <;> simp -implicitDefEqProofs [*, peersD]) | (with_reducible refine gOps_split (fun hq => ?_) (fun hq => ?_) <;> (try simp at hq) <;> simp -implicitDefEqProofs [*, peersD]) | (with_reducible refine condC_dec (fun _ => ?_) (fun _ => ?_) <;> simp -implicitDefEqProofs [*, peersD]) | (with_reducible refine condC_ndec (fun _ => ?_) (fun _ => ?_) <;> simp -implicitDefEqProofs [*, peersD]) | (with_reducible refine condC_and (fun hq => ?_) (fun hq => ?_) <;> (try simp at hq) <;> simp -implicitDefEqProofs [*, peersD]) | (with_reducible refine condC_or (fun hq => ?_) (fun hq => ?_) <;> (try simp at hq) <;> simp -implicitDefEqProofs [*, peersD]) | (with_reducible refine condC_not (fun hq => ?_) (fun hq => ?_) <;> (try simp at hq) <;> simp -implicitDefEqProofs [*, peersD]) | (with_reducible refine condC_split (fun hq => ?_) (fun hq => ?_) <;> (try simp at hq) <;> simp -implicitDefEqProofs [*, peersD]) | (refine appK2_if (by omega) ?_; simp -implicitDefEqProofs [*, peersD]) | (refine pureV_if (by omega) ?_; simp -implicitDefEqProofs [*, peersD]))
  all_goals (obtain ⟨a, b, c⟩ := v; obtain ⟨a', b', c'⟩ := w; grind)
end Go.AM
/- Plain law: places put in their row, taken out. -/
namespace Go.AM
set_option linter.unusedSimpArgs false
set_option linter.unusedVariables false

theorem rising_ext : ∀ {xs ys : List Int}, xs.Pairwise (· < ·) → ys.Pairwise (· < ·) → (∀ a, a ∈ xs ↔ a ∈ ys) → xs = ys := by
  intro xs
  induction xs with
  | nil =>
    intro ys _ _ h
    cases ys with
    | nil => rfl
    | cons y ys => exact absurd ((h y).2 (by simp)) (by simp)
  | cons x xs ih =>
    intro ys hx hy h
    cases ys with
    | nil => exact absurd ((h x).1 (by simp)) (by simp)
    | cons y ys =>
      rw [List.pairwise_cons] at hx hy
      have hxy : x = y := by
        have h1 := (h x).1 (by simp)
        have h2 := (h y).2 (by simp)
        rcases List.mem_cons.1 h1 with h1 | h1
        · exact h1
        · rcases List.mem_cons.1 h2 with h2 | h2
          · exact h2.symm
          · have := hy.1 _ h1
            have := hx.1 _ h2
            omega
      subst hxy
      congr 1
      refine ih hx.2 hy.2 fun a => ?_
      have := h a
      simp only [List.mem_cons] at this
      constructor
      · intro ha
        rcases this.1 (.inr ha) with h' | h'
        · subst h'; exact absurd (hx.1 _ ha) (by omega)
        · exact h'
      · intro ha
        rcases this.2 (.inr ha) with h' | h'
        · subst h'; exact absurd (hy.1 _ ha) (by omega)
        · exact h'
theorem incr_iff : ∀ xs : List Int, incr xs = true ↔ xs.Pairwise (· < ·) := by
  intro xs
  induction xs with
  | nil => simp [incr]
  | cons x xs ih =>
    cases xs with
    | nil => simp [incr]
    | cons y ys =>
      simp only [incr, Bool.and_eq_true, decide_eq_true_eq, ih, List.pairwise_cons, List.mem_cons]
      constructor
      · rintro ⟨h1, h2, h3⟩
        refine ⟨?_, h2, h3⟩
        rintro a (rfl | ha)
        · exact h1
        · have := h2 a ha
          omega
      · rintro ⟨h1, h2, h3⟩
        exact ⟨h1 y (.inl rfl), h2, h3⟩
theorem passiveMay_iff (xs : List Int) : passiveMay xs = true ↔ xs.Pairwise (· < ·) ∧ (∀ x ∈ xs, place x = true) ∧ xs.length ≤ 16 := by
  rw [← passiveMay_eq]
  simp only [refPassiveMay, Bool.and_eq_true, incr_iff, decide_eq_true_eq, List.all_eq_true]
  constructor
  · rintro ⟨⟨h1, h2⟩, h3⟩; exact ⟨h1, h2, h3⟩
  · rintro ⟨h1, h2, h3⟩; exact ⟨⟨h1, h2⟩, h3⟩

def posI (xs : List Int) (id : Int) : Nat := (xs.takeWhile fun x => decide (x < id)).length
def insU (id : Int) : List Int → List Int
  | [] => [id]
  | x :: xs => if x < id then x :: insU id xs else id :: x :: xs
theorem insL_insU (id : Int) : ∀ xs : List Int, insL xs (posI xs id) id = insU id xs := by
  intro xs
  induction xs with
  | nil => rfl
  | cons x xs ih =>
    unfold insU
    by_cases h : x < id
    · rw [if_pos h, ← ih]
      simp [posI, insL, List.takeWhile_cons, h]
    · rw [if_neg h]
      simp [posI, insL, List.takeWhile_cons, h]
theorem mem_insU {id a : Int} : ∀ {xs : List Int}, a ∈ insU id xs ↔ a = id ∨ a ∈ xs := by
  intro xs
  induction xs with
  | nil => simp [insU]
  | cons x xs ih =>
    unfold insU
    split
    · simp only [List.mem_cons, ih]
      constructor
      · rintro (h | h | h)
        · exact .inr (.inl h)
        · exact .inl h
        · exact .inr (.inr h)
      · rintro (h | h | h)
        · exact .inr (.inl h)
        · exact .inl h
        · exact .inr (.inr h)
    · simp
theorem insU_length (id : Int) (xs : List Int) : (insU id xs).length = xs.length + 1 := by rw [← insL_insU, insL_length]
theorem rising_insU {id : Int} : ∀ {xs : List Int}, xs.Pairwise (· < ·) → id ∉ xs → (insU id xs).Pairwise (· < ·) := by
  intro xs
  induction xs with
  | nil => intro _ _; simp [insU]
  | cons x xs ih =>
    intro h hn
    rw [List.pairwise_cons] at h
    simp only [List.mem_cons, not_or] at hn
    unfold insU
    split
    · rename_i hlt
      rw [List.pairwise_cons]
      refine ⟨fun a ha => ?_, ih h.2 hn.2⟩
      rcases mem_insU.1 ha with rfl | ha
      · exact hlt
      · exact h.1 a ha
    · rename_i hge
      rw [List.pairwise_cons, List.pairwise_cons]
      refine ⟨?_, h⟩
      intro a ha
      rcases List.mem_cons.1 ha with rfl | ha
      · omega
      · have := h.1 a ha
        omega
def withoutP (xs : List Int) (id : Int) : List Int × Int := if passiveMay xs && place id then (xs.filter (fun y => !decide (y = id)), 0) else ([], 800)
theorem passiveMay_filter {xs : List Int} {p : Int → Bool} (h : passiveMay xs = true) : passiveMay (xs.filter p) = true := by
  obtain ⟨h1, h2, h3⟩ := (passiveMay_iff xs).1 h
  refine (passiveMay_iff _).2 ⟨h1.filter _, fun x hx => h2 x (List.mem_filter.1 hx).1, Nat.le_trans (List.length_filter_le _ _) h3⟩
theorem filter_out {xs : List Int} {id : Int} (h : id ∉ xs) : xs.filter (fun y => !decide (y = id)) = xs := by
  rw [List.filter_eq_self]
  intro a ha
  simp
  rintro rfl
  exact h ha
theorem filter_one {xs : List Int} {id : Int} (h : xs.Pairwise (· < ·)) (hm : id ∈ xs) : xs.length = (xs.filter (fun y => !decide (y = id))).length + 1 := by
  have : xs = insU id (xs.filter (fun y => !decide (y = id))) := by
    refine rising_ext h (rising_insU (h.filter _) (by simp)) fun a => ?_
    rw [mem_insU, List.mem_filter]
    simp
    constructor
    · intro ha
      by_cases h' : a = id
      · exact .inl h'
      · exact .inr ⟨ha, h'⟩
    · rintro (rfl | ⟨ha, _⟩)
      · exact hm
      · exact ha
  have h2 := congrArg List.length this
  rw [insU_length] at h2
  exact h2
theorem fIdx_spec0 (p : Int → Bool) : ∀ (xs : List Int) (i : Nat), (fIdx p i xs = -1 ∧ xs.filter (fun x => !p x) = xs) ∨ ∃ f, fIdx p i xs = ((i + f : Nat) : Int) ∧ f < xs.length ∧ (xs.take (f + 1)).filter (fun x => !p x) = xs.take f := by
  intro xs
  induction xs with
  | nil => intro i; exact .inl ⟨rfl, rfl⟩
  | cons x xs ih =>
    intro i
    simp only [fIdx]
    by_cases h : p x = true
    · right
      exact ⟨0, by simp [h], by simp, by simp [h]⟩
    · have h' : p x = false := by simpa using h
      rw [if_neg h]
      rcases ih (i + 1) with ⟨h1, h2⟩ | ⟨f, h1, h2, h3⟩
      · left
        refine ⟨h1, ?_⟩
        rw [List.filter_cons]
        simp [h', h2]
      · right
        refine ⟨f + 1, by rw [h1]; congr 1; omega, by simpa using h2, ?_⟩
        rw [List.take_succ_cons, List.filter_cons, h3]
        simp [h']
theorem fIdx_spec (p : Int → Bool) (xs : List Int) : (fIdx p 0 xs = -1 ∧ xs.filter (fun x => !p x) = xs) ∨ ∃ f : Nat, fIdx p 0 xs = (f : Int) ∧ f < xs.length ∧ (xs.take (f + 1)).filter (fun x => !p x) = xs.take f := by
  rcases fIdx_spec0 p xs 0 with h | ⟨f, h⟩
  · exact .inl h
  · exact .inr ⟨f, by simpa using h⟩
end Go.AM
/- Plain law: where a search by a comparison ends; stores by it. -/
namespace Go.AM
set_option linter.unusedSimpArgs false
set_option linter.unusedVariables false

def posC {α : Type} (c : α → Int) (xs : List α) : Nat := (xs.takeWhile fun x => decide (c x < 0)).length
def atC {α : Type} (c : α → Int) (xs : List α) : Bool := (xs[posC c xs]?).any fun x => decide (c x = 0)
def MonoC {α : Type} (c : α → Int) (xs : List α) : Prop := ∀ (i j : Nat) (x y : α), i ≤ j → xs[i]? = some x → xs[j]? = some y → c y < 0 → c x < 0
theorem posC_cons {α : Type} (c : α → Int) (a : α) (xs : List α) : posC c (a :: xs) = if c a < 0 then posC c xs + 1 else 0 := by
  unfold posC
  rw [List.takeWhile_cons]
  by_cases h : c a < 0 <;> simp [h]
theorem atC_nil {α : Type} (c : α → Int) : atC c [] = false := rfl
theorem atC_cons {α : Type} (c : α → Int) (a : α) (xs : List α) : atC c (a :: xs) = if c a < 0 then atC c xs else decide (c a = 0) := by
  unfold atC
  rw [posC_cons]
  by_cases h : c a < 0 <;> simp [h]
theorem posC_le {α : Type} (c : α → Int) (xs : List α) : posC c xs ≤ xs.length := by
  induction xs with
  | nil => simp [posC]
  | cons a xs ih => rw [posC_cons]; split <;> simp <;> omega
theorem posC_lo {α : Type} (c : α → Int) (xs : List α) : ∀ (i : Nat) (x : α), i < posC c xs → xs[i]? = some x → c x < 0 := by
  induction xs with
  | nil => intro i x h; simp [posC] at h
  | cons a xs ih =>
    intro i x h hx
    rw [posC_cons] at h
    by_cases ha : c a < 0
    · rw [if_pos ha] at h
      cases i with
      | zero => simp at hx; subst hx; exact ha
      | succ i => exact ih i x (by omega) (by simpa using hx)
    · rw [if_neg ha] at h; omega
theorem posC_at {α : Type} (c : α → Int) (xs : List α) : ∀ x, xs[posC c xs]? = some x → 0 ≤ c x := by
  induction xs with
  | nil => intro x h; simp [posC] at h
  | cons a xs ih =>
    intro x hx
    rw [posC_cons] at hx
    by_cases ha : c a < 0
    · rw [if_pos ha] at hx
      exact ih x (by simpa using hx)
    · rw [if_neg ha] at hx
      simp at hx
      subst hx
      omega
theorem posC_hi {α : Type} {c : α → Int} {xs : List α} (hm : MonoC c xs) : ∀ (i : Nat) (x : α), posC c xs ≤ i → xs[i]? = some x → 0 ≤ c x := by
  intro i x hi hx
  apply Classical.byContradiction
  intro hc
  have hlt : posC c xs < xs.length := by
    have := (List.getElem?_eq_some_iff.1 hx).1
    omega
  have h1 : xs[posC c xs]? = some xs[posC c xs] := by simp
  have h2 := hm _ _ _ _ hi h1 hx (by omega)
  have h3 := posC_at c xs _ h1
  omega
theorem atC_true {α : Type} {c : α → Int} {xs : List α} (h : atC c xs = true) : posC c xs < xs.length ∧ ∃ x, xs[posC c xs]? = some x ∧ c x = 0 := by
  unfold atC at h
  cases hx : xs[posC c xs]? with
  | none => rw [hx] at h; cases h
  | some x =>
    rw [hx] at h
    exact ⟨(List.getElem?_eq_some_iff.1 hx).1, x, rfl, by simpa using h⟩

def keyC (k : Int) (i : Item) : Int := cmpI i.key k
theorem cmpI_lt (a b : Int) : cmpI a b < 0 ↔ a < b := by unfold cmpI; split <;> (try split) <;> omega
theorem cmpI_eq (a b : Int) : cmpI a b = 0 ↔ a = b := by unfold cmpI; split <;> (try split) <;> omega
theorem risingK_get : ∀ {is : List Item}, risingK is → ∀ (i j : Nat) (x y : Item), i < j → is[i]? = some x → is[j]? = some y → x.key < y.key := by
  intro is
  induction is with
  | nil => intro _ i j x y _ h; simp at h
  | cons a is ih =>
    intro h i j x y hij hx hy
    rw [rising_cons] at h
    cases j with
    | zero => omega
    | succ j =>
      simp at hy
      cases i with
      | zero =>
        simp at hx
        subst hx
        exact h.1 y (List.mem_of_getElem? hy)
      | succ i => exact ih h.2 i j x y (by omega) (by simpa using hx) hy
theorem mono_key {is : List Item} (h : risingK is) (k : Int) : MonoC (keyC k) is := by
  intro i j x y hij hx hy hc
  unfold keyC at hc ⊢
  rw [cmpI_lt] at hc ⊢
  by_cases e : i = j
  · subst e
    rw [hx] at hy
    cases hy
    exact hc
  · have := risingK_get h i j x y (by omega) hx hy
    omega
theorem getS_at : ∀ {is : List Item}, risingK is → ∀ k, getS is k = if atC (keyC k) is then is[posC (keyC k) is]? else none := by
  intro is
  induction is with
  | nil => intro _ k; simp [getS, atC_nil]
  | cons a is ih =>
    intro h k
    rw [rising_cons] at h
    rw [getS_cons, posC_cons, atC_cons]
    simp only [keyC, cmpI_lt, cmpI_eq]
    by_cases h1 : a.key < k
    · rw [if_neg (by omega), if_pos h1, if_pos h1, ih h.2 k]
      simp [keyC]
    · by_cases h2 : a.key = k
      · simp [h1, h2]
      · simp [h1, h2]
        exact getS_above h.1 (by omega)
theorem putS_at (x : Item) : ∀ (is : List Item), (∀ a, is[posC (keyC x.key) is]? = some a → atC (keyC x.key) is = true → putS x is = is.set (posC (keyC x.key) is) (bestI a x)) ∧ (atC (keyC x.key) is = false → putS x is = insL is (posC (keyC x.key) is) x) := by
  intro is
  induction is with
  | nil => exact ⟨fun a h => by simp at h, fun _ => by simp [putS, insL, posC]⟩
  | cons b is ih =>
    rw [posC_cons, atC_cons]
    simp only [keyC, cmpI_lt, cmpI_eq]
    by_cases h1 : b.key < x.key
    · simp only [if_pos h1]
      have e : putS x (b :: is) = b :: putS x is := by
        unfold putS
        rw [if_neg (by omega), if_neg (by omega)]
        cases is <;> simp [putS]
      rw [e]
      exact ⟨fun a ha ht => by rw [ih.1 a (by simpa using ha) ht]; rfl, fun ht => by rw [ih.2 ht]; simp [insL, keyC]⟩
    · simp only [if_neg h1]
      by_cases h2 : b.key = x.key
      · refine ⟨fun a ha _ => ?_, fun ht => by simp [h2] at ht⟩
        simp at ha
        subst ha
        simp [putS, h2]
      · refine ⟨fun a ha ht => by simp [h2] at ht, fun _ => ?_⟩
        have h3 : x.key < b.key := by omega
        simp [putS, h3, insL]
def getR (is : List Item) (k : Int) : Item × Bool := if storeMay is then (match getS is k with | some i => (i, true) | none => (zeroItem, false)) else (zeroItem, false)
end Go.AM
/- AM: contracts: binary search by a comparison. -/
namespace Go.AM
set_option linter.unusedSimpArgs false
set_option linter.unusedVariables false
set_option maxRecDepth 8000
set_option maxHeartbeats 0
theorem bsearch_Item (xs : List Item) (g : Nat) (key : Int) (c : Item → Int) (hc : ∀ x ∈ xs, Den PP g [.agg x.row, .int .i64 key] [] (.int .i64 (c x)) []) (hl : xs.length ≤ cap) (hr : MonoC c xs) :
    Den PP 77 [.sl (xs.map Item.row) xs.length, .int .i64 key, .fn g [] []] [] (.tup [.int .i64 (posC c xs), .bool (atC c xs)]) [] := by
  have hlo := posC_lo c xs
  have hhi := posC_hi hr
  have hat := posC_le c xs
  have hac : atC c xs = (xs[posC c xs]?).any fun x => decide (c x = 0) := rfl
  rw [hac]
  clear hac
  generalize posC c xs = at_ at *
  refine den_of [] [] is_slices_BinarySearchFunc_api_Item_api_Item_int ?_
  simp -implicitDefEqProofs [c_slices_BinarySearchFunc_api_Item_api_Item_int]
  refine loop_rule xs.length (fun m ⟨fr, bs⟩ => ∃ lo hi : Nat, bs = [] ∧ hi - lo ≤ m ∧ lo ≤ at_ ∧ at_ ≤ hi ∧ hi ≤ xs.length ∧ fr 0 = .sl (xs.map Item.row) xs.length ∧ fr 1 = .int .i64 key ∧ fr 2 = .fn g [] [] ∧ fr 8 = .int .i64 xs.length ∧ fr 9 = .int .i64 lo ∧ fr 10 = .int .i64 hi)
    (fun ⟨fr, bs⟩ => bs = [] ∧ fr 0 = .sl (xs.map Item.row) xs.length ∧ fr 1 = .int .i64 key ∧ fr 2 = .fn g [] [] ∧ fr 8 = .int .i64 xs.length ∧ fr 9 = .int .i64 at_) (fun _ => False) c_slices_BinarySearchFunc_api_Item_api_Item_int_L0.eq_1 ?_ ?_ ?_ ?_ ?_
  · exact ⟨0, xs.length, rfl, by omega, by omega, hat, by omega, rfl, rfl, rfl, rfl, rfl, rfl⟩
  · rintro ⟨fr, bs⟩ ⟨lo, hi, rfl, h1, h2, h3, h4, h0, h5, h9, h6, h7, h8⟩
    have e1 : lo = at_ := by omega
    have e2 : hi = at_ := by omega
    simp -implicitDefEqProofs [h0, h5, h9, h6, h7, h8, e1, e2]
  · rintro m ⟨fr, bs⟩ ⟨lo, hi, rfl, h1, h2, h3, h4, h0, h5, h9, h6, h7, h8⟩
    by_cases hlt : lo < hi
    · have hlt' : (lo : Int) < hi := by omega
      have hm := mid_eq (lo := lo) (hi := hi) (by omega) (by omega)
      have hml : (lo + hi) / 2 < xs.length := by omega
      have hml' : (((lo + hi) / 2 : Nat) : Int) < xs.length := by omega
      have hw := wrap_next (n := (lo + hi) / 2) (by unfold cap at hl; omega)
      have hb1 : lo ≤ (lo + hi) / 2 := by omega
      have hb2 : (lo + hi) / 2 < hi := by omega
      generalize (lo + hi) / 2 = mid at *
      obtain ⟨x, hx⟩ : ∃ x, xs[mid] = x := ⟨_, rfl⟩
      have hx' : xs[mid]? = some x := by simp [hml, hx]
      have hcx := hc x (List.mem_of_getElem? hx')
      simp only [Item.row] at hcx
      simp -implicitDefEqProofs [h0, h5, h9, h6, h7, h8, hlt', hlt, hm, hml, hml', hx, Item.row]
      refine callThen_of hcx ?_
      simp -implicitDefEqProofs
      refine condC_dec (fun hc => ?_) (fun hc => ?_)
      all_goals simp -implicitDefEqProofs [h0, h5, h9, h6, h7, h8, hc, hw]
      · have : mid < at_ := by
          apply Classical.byContradiction
          intro hx2
          have := hhi mid x (by omega) hx'
          omega
        exact ⟨mid + 1, hi, by omega, by omega, by omega, by omega, by simp, by simp⟩
      · have : at_ ≤ mid := by
          apply Classical.byContradiction
          intro hx2
          have := hlo mid x (by omega) hx'
          omega
        exact ⟨lo, mid, by omega, by omega, by omega, by omega, by simp, by simp⟩
    · have e1 : lo = at_ := by omega
      have e2 : hi = at_ := by omega
      simp -implicitDefEqProofs [h0, h5, h9, h6, h7, h8, e1, e2]
  · rintro ⟨fr, bs⟩ ⟨rfl, h0, h1, h2, h6, h7⟩
    simp -implicitDefEqProofs [h0, h1, h2, h6, h7]
    refine gOps_dec (fun hc2 => ?_) (fun hc2 => ?_)
    · obtain ⟨x, hx⟩ : ∃ x, xs[at_]'(by omega) = x := ⟨_, rfl⟩
      have hal : at_ < xs.length := by omega
      have hx' : xs[at_]? = some x := by simp [hx, hal]
      have hcx := hc x (List.mem_of_getElem? hx')
      simp only [Item.row] at hcx
      simp -implicitDefEqProofs [h0, h1, h2, h6, h7, hc2, hx, hal, Item.row]
      refine callThen_of hcx ?_
      simp -implicitDefEqProofs [h0, h1, h2, h6, h7, hc2, hx, hal, hx', Item.row]
    · have hp : xs[at_]? = none := by rw [List.getElem?_eq_none]; omega
      simp -implicitDefEqProofs [h0, h1, h2, h6, h7, hc2, hp]
  · rintro ⟨fr, bs⟩ h
    exact h.elim
end Go.AM
/- AM: contracts: binary search, places put and taken out. -/
namespace Go.AM
set_option linter.unusedSimpArgs false
set_option linter.unusedVariables false
set_option maxRecDepth 8000
set_option maxHeartbeats 0
theorem deleteFunc_int (xs : List Int) (g : Nat) (caps : List D) (p : Int → Bool) (hp : TellsI g caps p xs) (hl : xs.length ≤ 1000000) :
    GivesC (DenF PP [0]) 84 (xs.map irow) 1 [.fn g [] caps] ((xs.filter fun x => !p x).map irow) := by
  refine gives_of (fun r hr => by obtain ⟨a, _, rfl⟩ := List.mem_map.1 hr; rfl) (StillR.map _ _ fun a _ d hd => by rw [List.mem_singleton.1 hd]; rfl) fun fl hfl hrow hfs htake hget => ?_
  have hi0 := slices_IndexFunc_int xs (by unfold cap; omega) g caps p hp
  have hi1 : Den PP 82 [.sl fl xs.length, .fn g [] caps] [] (.int .i64 (fIdx p 0 xs)) [] := den_cut (by
    simp only [List.map_cons, List.map_nil, D.cut]
    rw [List.length_map] at htake
    rw [htake]
    exact hi0)
  simp only [List.length_map] at *
  rcases fIdx_spec p xs with ⟨he, hf⟩ | ⟨f, he, hf, hff⟩
  · rw [he] at hi1
    refine ⟨.ref 0 0 xs.length, [⟨fl, 1, .mut⟩], ?_, ?_⟩
    · refine denF_of [] [] [] [] (by simp) (fun _ h => absurd h List.not_mem_nil) is_slices_DeleteFunc_int_int ?_
      simp -implicitDefEqProofs [-leave, c_slices_DeleteFunc_int_int, hp.2.1]
      refine callThen_of hi1 ?_
      simp -implicitDefEqProofs [-leave, hp.2.1]
      rw [leave_lent (by omega) (by simpa using hfs)]
      rfl
    · rw [hf]
      exact outRows_of rfl rfl rfl (by simpa using hfl) (by simpa using htake.symm) (.inl rfl)
  · rw [he] at hi1
    have hfl' : f < fl.length := by omega
    have hw := wrap_next (n := f) (by omega)
    have hne : ¬ (f : Int) = -1 := by omega
    have hm1 := List.length_filter_le (fun x => !p x) xs
    obtain ⟨m, hm⟩ : ∃ m, (xs.filter fun x => !p x).length = m := ⟨_, rfl⟩
    rw [hm] at hm1
    have hcells : ∀ k, k < xs.length → fl[k]? = (xs[k]?).map irow := by
      intro k hk
      rw [hget k hk, List.getElem?_map]
    refine ⟨.ref 0 0 m, [⟨(xs.filter fun x => !p x).map irow ++ List.replicate (xs.length - m) [.int .i64 0] ++ fl.drop xs.length, 1, .mut⟩], ?_, ?_⟩
    · refine denF_of [] [] [] [] (by simp) (fun _ h => absurd h List.not_mem_nil) is_slices_DeleteFunc_int_int ?_
      simp -implicitDefEqProofs [-leave, c_slices_DeleteFunc_int_int, hp.2.1]
      refine callThen_of hi1 ?_
      simp -implicitDefEqProofs [-leave, hp.2.1, hne, hw]
      refine loop_rule (xs.length - (f + 1)) (fun q ⟨fr, bs⟩ => ∃ (i j : Nat) (cur : List (List D)), bs = [⟨cur, 1, .mut⟩, ⟨[], 1, .mut⟩] ∧ xs.length - j ≤ q ∧ j ≤ xs.length ∧ i < j ∧ cur.length = fl.length ∧ StillR cur ∧
          (∀ r ∈ cur, r.length = 1) ∧ cur.take i = ((xs.take j).filter fun x => !p x).map irow ∧ cur.drop j = fl.drop j ∧ fr 0 = .ref 0 0 xs.length ∧ fr 1 = .fn g [] caps ∧ fr 5 = .int .i64 i ∧ fr 6 = .int .i64 j)
        (fun ⟨fr, bs⟩ => ∃ cur : List (List D), bs = [⟨cur, 1, .mut⟩, ⟨[], 1, .mut⟩] ∧ m < xs.length ∧ cur.length = fl.length ∧ StillR cur ∧ cur.take m = (xs.filter fun x => !p x).map irow ∧ cur.drop xs.length = fl.drop xs.length ∧ fr 0 = .ref 0 0 xs.length ∧ fr 5 = .int .i64 m)
        (fun _ => False) c_slices_DeleteFunc_int_int_L0.eq_1 ?_ ?_ ?_ ?_ ?_
      · refine ⟨f, f + 1, fl, rfl, by omega, by omega, by omega, rfl, hfs, hrow, ?_, rfl, rfl, rfl, rfl, rfl⟩
        rw [hff, List.map_take, ← htake, List.take_take]
        congr 1
        omega
      · rintro ⟨fr, bs⟩ ⟨i, j, cur, rfl, hq, hj, hij, hcl, hcs, hcr, hct, hcd, h0, h1, h5, h6⟩
        have hje : j = xs.length := by omega
        subst hje
        rw [List.take_length] at hct
        have him : i = m := by
          have := congrArg List.length hct
          simp at this
          omega
        subst him
        simp -implicitDefEqProofs [-leave, h0, h1, h5, h6]
        exact ⟨hij, hcl, hcs, hct, hcd⟩
      · rintro q ⟨fr, bs⟩ ⟨i, j, cur, rfl, hq, hj, hij, hcl, hcs, hcr, hct, hcd, h0, h1, h5, h6⟩
        by_cases hjx : j = xs.length
        · subst hjx
          rw [List.take_length] at hct
          have him : i = m := by
            have := congrArg List.length hct
            simp at this
            omega
          subst him
          simp -implicitDefEqProofs [-leave, h0, h1, h5, h6]
          exact ⟨hij, hcl, hcs, hct, hcd⟩
        · have hjl : j < xs.length := by omega
          have hjl' : (j : Int) < xs.length := by omega
          obtain ⟨x, hx⟩ : ∃ x, xs[j] = x := ⟨_, rfl⟩
          have hx' : xs[j]? = some x := by simp [hjl, hx]
          have hcj : cur[j]? = some [.int .i64 x] := by
            have h7 : (cur.drop j)[0]? = (fl.drop j)[0]? := by rw [hcd]
            rw [List.getElem?_drop, List.getElem?_drop, Nat.add_zero, hcells j hjl, hx'] at h7
            exact h7
          have hwj := wrap_next (n := j) (by omega)
          have hwi := wrap_next (n := i) (by omega)
          have hil' : (i : Int) < xs.length := by omega
          obtain ⟨r0, hr0⟩ : ∃ r0, cur[i]? = some r0 := ⟨cur[i]'(by omega), by simp⟩
          have hr0l : r0.length = 1 := hcr r0 (List.mem_of_getElem? hr0)
          obtain ⟨d0, rfl⟩ := List.length_eq_one_iff.1 hr0l
          have hsw := hcs.sweep
          have hicl : i < cur.length := by omega
          have htk : xs.take (j + 1) = xs.take j ++ [x] := by rw [List.take_add_one, hx']; rfl
          simp -implicitDefEqProofs [-leave, h0, h1, h5, h6, hjl', hcj, hp.1, hp.2.1]
          refine callThen_of (hp.2.2 x (List.mem_of_getElem? hx')) ?_
          simp -implicitDefEqProofs [-leave]
          refine condC_not (fun hpx => ?_) (fun hpx => ?_)
          all_goals simp -implicitDefEqProofs [-leave, h0, h1, h5, h6, hwi, hwj, hil', hr0, hp.1, hp.2.1, hsw]
          · refine ⟨i, j + 1, ?_⟩
            simp
            refine ⟨by omega, by omega, by omega, hcl, hcs, hcr, ?_, ?_⟩
            · rw [htk, List.filter_append, hct]
              simp [hpx]
            · rw [← List.drop_drop, ← List.drop_drop, hcd]
          · refine ⟨i + 1, j + 1, ?_⟩
            simp
            refine ⟨by omega, by omega, by omega, hcl, hcs.set (by simp [D.still]) i, ?_, ?_, ?_⟩
            · intro r hr
              rcases List.mem_or_eq_of_mem_set hr with h | h
              · exact hcr r h
              · rw [h]; rfl
            · rw [htk, List.filter_append, List.map_append, ← hct, List.take_add_one]
              simp [hpx, irow, List.take_set, hicl]
              rw [List.set_eq_of_length_le (by simp; omega)]
            · rw [List.drop_set_of_lt (by omega), ← List.drop_drop, ← List.drop_drop, hcd]
      · rintro ⟨fr, bs⟩ ⟨cur, rfl, hlt, hcl, hcs, hct, hcd, h0, h5⟩
        simp -implicitDefEqProofs [-leave, h0, h5]
        refine outK_slice (m) (xs.length) (by simp; rfl) rfl (by first | rfl | omega | (simp [boundD]; done) | (simp [boundD]; omega) | (simp; done) | (simp; omega)) (by first | rfl | omega | (simp [boundD]; done) | (simp [boundD]; omega) | (simp; done) | (simp; omega)) (by omega) (by first | rfl | omega | (simp [boundD]; done) | (simp [boundD]; omega) | (simp; done) | (simp; omega)) rfl (by first | rfl | omega | (simp [boundD]; done) | (simp [boundD]; omega) | (simp; done) | (simp; omega)) ?_
        simp -implicitDefEqProofs [-leave, h0, h5]
        try refine overK_if (by first | omega | (simp; done) | (simp; omega)) ?_
        try simp -implicitDefEqProofs [-leave, h0, h5]
        have hov := ovr_length (rows := cur) (p := m) (ys := List.replicate (xs.length - m) [D.int IntKind.i64 0]) (by simp; omega)
        refine outK_slice (0) (m) (by simp; rfl) rfl (by first | rfl | omega | (simp [boundD]; done) | (simp [boundD]; omega) | (simp; done) | (simp; omega)) (by first | rfl | omega | (simp [boundD]; done) | (simp [boundD]; omega) | (simp; done) | (simp; omega)) (by omega) (by first | rfl | omega | (simp [boundD]; done) | (simp [boundD]; omega) | (simp; done) | (simp; omega)) rfl (by first | rfl | omega | (simp [boundD]; done) | (simp [boundD]; omega) | (simp; done) | (simp; omega)) ?_
        simp -implicitDefEqProofs [-leave, h0, h5]
        rw [leave_lent (by omega) (by simpa using hcs.ovr (b := List.replicate (xs.length - m) [D.int IntKind.i64 0]) (fun r hr d hd => by rw [(List.mem_replicate.1 hr).2] at hd; rw [List.mem_singleton.1 hd]; rfl) m)]
        simp only [List.take_succ_cons, List.take_zero, ovr, List.length_replicate, hct, show m + (xs.length - m) = xs.length by omega, hcd, List.append_assoc]
      · rintro ⟨fr, bs⟩ h
        exact h.elim
    · refine outRows_of rfl rfl rfl ?_ ?_ (.inl rfl)
      · simp; omega
      · rw [List.drop_zero, List.append_assoc, List.take_left' (by simpa using hm)]
theorem passive_Without_1 (id a : Int) : Den PP 83 [.int .i64 a, .mem [.int .i64 id]] [] (.bool (decide (a = id))) [] := by
  refine den_of [] [] is_passive_Without_1 ?_
  simp -implicitDefEqProofs [c_passive_Without_1]
theorem passive_Without (xs : List Int) (id : Int) (hl : xs.length ≤ cap) : Den PP 73 [intsD xs, .int .i64 id] [] (.tup [.ref 0 0 (withoutP xs id).1.length, .int .i64 (withoutP xs id).2]) [⟨(withoutP xs id).1.map irow, 1, .mut⟩] := by
  have c1 := passive_May xs hl
  have c2 := fun h : xs.length ≤ 16 => clone_int (xs.map irow) (by simp) (by simp; omega)
  have c3 := fun h : xs.length ≤ 16 => deleteFunc_int xs 83 [.mem [.int .i64 id]] (fun a => decide (a = id)) ⟨fun _ => rfl, fun _ _ => rfl, fun a _ => passive_Without_1 id a⟩ (by omega)
  simp only [intsD, List.length_map] at c1 c2
  refine den_ofG [17] [17] [17] [] (fun _ h => absurd h List.not_mem_nil) is_passive_Without ?_
  simp -implicitDefEqProofs [c_passive_Without, intsD]
  refine callThen_of c1 ?_
  simp -implicitDefEqProofs
  refine gOps_split (fun h1 => ?_) (fun h1 => ?_)
  rotate_left
  · simp -implicitDefEqProofs [h1, withoutP]
  obtain ⟨hr, hp, h16⟩ := (passiveMay_iff xs).1 h1
  simp -implicitDefEqProofs [h1]
  refine callThen_of (ring_Place id) ?_
  simp -implicitDefEqProofs
  refine condC_not (fun h2 => ?_) (fun h2 => ?_)
  rotate_left
  · simp -implicitDefEqProofs [h1, h2, withoutP]
  simp -implicitDefEqProofs [h1, h2]
  refine callThen_of (c2 h16) ?_
  simp -implicitDefEqProofs
  refine giveThen_of rfl (by simp) (by simp) (by simp) (c3 h16) ?_
  simp -implicitDefEqProofs [downTo, h1, h2, withoutP]
end Go.AM
/- AM: contracts: the document's answers about views, more. -/
namespace Go.AM
set_option linter.unusedSimpArgs false
set_option linter.unusedVariables false
set_option maxRecDepth 8000
set_option maxHeartbeats 0
theorem ref_ViewMay (v : View) (hs : v.small) : Den PP 28 [viewD v] [] (.bool (refViewMay v)) [] := by
  have c1 := ref_Names v.peers hs.1
  have c2 := ref_has (v.peers.map Peer.id)
  have c3 := ref_PeersMay v.id v.peers (cap_of hs.1)
  have c4 := ref_PassiveMay v.passive hs.2
  simp [peersD, intsD, irow] at c1 c2 c3 c4
  have hw : IntKind.wrap .i64 ((v.peers.length : Int) + v.passive.length) = v.peers.length + v.passive.length := by
    obtain ⟨a, b⟩ := hs
    unfold cap16 at a
    unfold cap at b
    exact wrap_in (by omega) (by omega)
  obtain ⟨A, hA⟩ : ∃ A, v.passive.any (refOdd v) = A := ⟨_, rfl⟩
  refine den_of [] [] is_gimmalref1_ViewMay ?_
  simp -implicitDefEqProofs [c_gimmalref1_ViewMay, viewD, View.cells, peersD, intsD]
  refine callThen_of c1 ?_
  simp -implicitDefEqProofs
  refine list_rule v.passive (fun i rest => fun ⟨fr, bs⟩ => bs = [⟨[v.cells], 3, .box⟩] ∧ fr 1 = .ptr 0 0 0 ∧ fr 3 = .sl (v.peers.map fun p => irow p.id) v.peers.length ∧ fr 4 = .int .i64 i ∧ rest.any (refOdd v) = A)
    (fun ⟨fr, bs⟩ => bs = [⟨[v.cells], 3, .box⟩] ∧ fr 1 = .ptr 0 0 0 ∧ A = false) (fun ⟨fr, bs⟩ => fr 2 = .bool false ∧ A = true) c_gimmalref1_ViewMay_L0.eq_1 ?_ ?_ ?_ ?_ ?_
  · exact ⟨rfl, rfl, rfl, rfl, hA⟩
  · rintro i ⟨fr, bs⟩ hi ⟨rfl, h1, h3, h4, he⟩
    simp -implicitDefEqProofs [h1, h3, h4, hi, View.cells, intsD]
    simpa using he.symm
  · rintro i a rest ⟨fr, bs⟩ hlt hget hg hd hd2 ⟨rfl, h1, h3, h4, he⟩
    have hlt' : (i : Int) < v.passive.length := by omega
    have hw2 := wrap_next (n := i) (by have := hs.2; unfold cap at this; omega)
    have c2' := c2 a (cap_of hs.1)
    simp -implicitDefEqProofs [h1, h3, h4, hlt, hlt', hget, hg, hw2, View.cells, intsD, irow]
    repeat' (first | (refine callThen_of (by first | exact c2') ?_; simp -implicitDefEqProofs [*, View.cells, peersD]) | (with_reducible refine gOps_dec (fun _ => ?_) (fun _ => ?_) <;> simp -implicitDefEqProofs [*, View.cells, peersD]) | (with_reducible refine gOps_ndec (fun _ => ?_) (fun _ => ?_) <;> simp -implicitDefEqProofs [*, View.cells, peersD]) | (with_reducible refine gOps_and (fun hq => ?_) (fun hq => ?_) <;> (try simp at hq) <;> simp -implicitDefEqProofs [*, View.cells, peersD]) | (with_reducible refine gOps_or (fun hq => ?_) (fun hq => ?_) <;> (try simp at hq) <;> simp -implicitDefEqProofs [*, View.cells, peersD]) | (with_reducible refine gOps_not (fun hq => ?_) (fun hq => ?_) <;> (try simp at hq) <;> simp -implicitDefEqProofs [*, View.cells, peersD]) | (with_reducible refine gOps_split (fun hq => ?_) (fun hq => ?_) <;> (try simp at hq) <;> simp -implicitDefEqProofs [*, View.cells, peersD]) | (with_reducible refine condC_dec (fun _ => ?_) (fun _ => ?_) <;> simp -implicitDefEqProofs [*, View.cells, peersD]) | (with_reducible refine condC_ndec (fun _ => ?_) (fun _ => ?_) <;> simp -implicitDefEqProofs [*, View.cells, peersD]) | (with_reducible refine condC_and (fun hq => ?_) (fun hq => ?_) <;> (try simp at hq) <;> simp -implicitDefEqProofs [*, View.cells, peersD]) | (with_reducible refine condC_or (fun hq => ?_) (fun hq => ?_) <;> (try simp at hq) <;> simp -implicitDefEqProofs [*, View.cells, peersD]) | (with_reducible refine condC_not (fun hq => ?_) (fun hq => ?_) <;> (try simp at hq) <;> simp -implicitDefEqProofs [*, View.cells, peersD]) | (with_reducible refine condC_split (fun hq => ?_) (fun hq => ?_) <;> (try simp at hq) <;> simp -implicitDefEqProofs [*, View.cells, peersD]) | (refine appK2_if (by omega) ?_; simp -implicitDefEqProofs [*, View.cells, peersD]) | (refine pureV_if (by omega) ?_; simp -implicitDefEqProofs [*, View.cells, peersD]))
    all_goals grind [refOdd, irow]
  · rintro ⟨fr, bs⟩ ⟨rfl, h1, he⟩
    simp -implicitDefEqProofs [h1, he, hA, View.cells, intsD, peersD]
    repeat' (first | (refine callThen_of (by first | exact c3 | exact c4) ?_; simp -implicitDefEqProofs [*, refViewMay, hw]) | (with_reducible refine gOps_dec (fun _ => ?_) (fun _ => ?_) <;> simp -implicitDefEqProofs [*, refViewMay, hw]) | (with_reducible refine gOps_ndec (fun _ => ?_) (fun _ => ?_) <;> simp -implicitDefEqProofs [*, refViewMay, hw]) | (with_reducible refine gOps_and (fun hq => ?_) (fun hq => ?_) <;> (try simp at hq) <;> simp -implicitDefEqProofs [*, refViewMay, hw]) | (with_reducible refine gOps_or (fun hq => ?_) (fun hq => ?_) <;> (try simp at hq) <;> simp -implicitDefEqProofs [*, refViewMay, hw]) | (with_reducible refine gOps_not (fun hq => ?_) (fun hq => ?_) <;> (try simp at hq) <;> simp -implicitDefEqProofs [*, refViewMay, hw]) | (with_reducible refine gOps_split (fun hq => ?_) (fun hq => ?_) <;> (try simp at hq) <;> simp -implicitDefEqProofs [*, refViewMay, hw]) | (with_reducible refine condC_dec (fun _ => ?_) (fun _ => ?_) <;> simp -implicitDefEqProofs [*, refViewMay, hw]) | (with_reducible refine condC_ndec (fun _ => ?_) (fun _ => ?_) <;> simp -implicitDefEqProofs [*, refViewMay, hw]) | (with_reducible refine condC_and (fun hq => ?_) (fun hq => ?_) <;> (try simp at hq) <;> simp -implicitDefEqProofs [*, refViewMay, hw]) | (with_reducible refine condC_or (fun hq => ?_) (fun hq => ?_) <;> (try simp at hq) <;> simp -implicitDefEqProofs [*, refViewMay, hw]) | (with_reducible refine condC_not (fun hq => ?_) (fun hq => ?_) <;> (try simp at hq) <;> simp -implicitDefEqProofs [*, refViewMay, hw]) | (with_reducible refine condC_split (fun hq => ?_) (fun hq => ?_) <;> (try simp at hq) <;> simp -implicitDefEqProofs [*, refViewMay, hw]) | (refine appK2_if (by omega) ?_; simp -implicitDefEqProofs [*, refViewMay, hw]) | (refine pureV_if (by omega) ?_; simp -implicitDefEqProofs [*, refViewMay, hw]))
    omega
  · rintro ⟨fr, bs⟩ h
    simp -implicitDefEqProofs [h.1, h.2, hA, refViewMay]
theorem ref_ViewMay' (v : View) (hs : v.small) : Den PP 28 [viewD v] [] (.bool (viewMay v)) [] := by
  rw [← viewMay_eq]
  exact ref_ViewMay v hs
end Go.AM
/- AM: contracts: items, stores, nodes. -/
namespace Go.AM
set_option linter.unusedSimpArgs false
set_option linter.unusedVariables false
set_option maxRecDepth 8000
set_option maxHeartbeats 0
theorem version_May (c w : Int) : Den PP 56 [.agg [.int .i64 c, .int .i64 w]] [] (.bool (verMay c w)) [] := by
  refine den_of [] [] is_version_May ?_
  simp -implicitDefEqProofs [c_version_May]
  repeat' (first | (refine callThen_of (by first | exact ring_Place _) ?_; simp -implicitDefEqProofs [*, verMay]) | (with_reducible refine gOps_dec (fun _ => ?_) (fun _ => ?_) <;> simp -implicitDefEqProofs [*, verMay]) | (with_reducible refine gOps_ndec (fun _ => ?_) (fun _ => ?_) <;> simp -implicitDefEqProofs [*, verMay]) | (with_reducible refine gOps_and (fun hq => ?_) (fun hq => ?_) <;> (try simp at hq) <;> simp -implicitDefEqProofs [*, verMay]) | (with_reducible refine gOps_or (fun hq => ?_) (fun hq => ?_) <;> (try simp at hq) <;> simp -implicitDefEqProofs [*, verMay]) | (with_reducible refine gOps_not (fun hq => ?_) (fun hq => ?_) <;> (try simp at hq) <;> simp -implicitDefEqProofs [*, verMay]) | (with_reducible refine gOps_split (fun hq => ?_) (fun hq => ?_) <;> (try simp at hq) <;> simp -implicitDefEqProofs [*, verMay]) | (with_reducible refine condC_dec (fun _ => ?_) (fun _ => ?_) <;> simp -implicitDefEqProofs [*, verMay]) | (with_reducible refine condC_ndec (fun _ => ?_) (fun _ => ?_) <;> simp -implicitDefEqProofs [*, verMay]) | (with_reducible refine condC_and (fun hq => ?_) (fun hq => ?_) <;> (try simp at hq) <;> simp -implicitDefEqProofs [*, verMay]) | (with_reducible refine condC_or (fun hq => ?_) (fun hq => ?_) <;> (try simp at hq) <;> simp -implicitDefEqProofs [*, verMay]) | (with_reducible refine condC_not (fun hq => ?_) (fun hq => ?_) <;> (try simp at hq) <;> simp -implicitDefEqProofs [*, verMay]) | (with_reducible refine condC_split (fun hq => ?_) (fun hq => ?_) <;> (try simp at hq) <;> simp -implicitDefEqProofs [*, verMay]) | (refine appK2_if (by omega) ?_; simp -implicitDefEqProofs [*, verMay]) | (refine pureV_if (by omega) ?_; simp -implicitDefEqProofs [*, verMay]))
theorem ref_VersionMay (c w : Int) : Den PP 50 [.agg [.int .i64 c, .int .i64 w]] [] (.bool (verMay c w)) [] := by
  refine den_of [] [] is_gimmalref1_VersionMay ?_
  simp -implicitDefEqProofs [c_gimmalref1_VersionMay]
  repeat' (first | (refine callThen_of (by first | exact ref_PlaceMay _) ?_; simp -implicitDefEqProofs [*, verMay]) | (with_reducible refine gOps_dec (fun _ => ?_) (fun _ => ?_) <;> simp -implicitDefEqProofs [*, verMay]) | (with_reducible refine gOps_ndec (fun _ => ?_) (fun _ => ?_) <;> simp -implicitDefEqProofs [*, verMay]) | (with_reducible refine gOps_and (fun hq => ?_) (fun hq => ?_) <;> (try simp at hq) <;> simp -implicitDefEqProofs [*, verMay]) | (with_reducible refine gOps_or (fun hq => ?_) (fun hq => ?_) <;> (try simp at hq) <;> simp -implicitDefEqProofs [*, verMay]) | (with_reducible refine gOps_not (fun hq => ?_) (fun hq => ?_) <;> (try simp at hq) <;> simp -implicitDefEqProofs [*, verMay]) | (with_reducible refine gOps_split (fun hq => ?_) (fun hq => ?_) <;> (try simp at hq) <;> simp -implicitDefEqProofs [*, verMay]) | (with_reducible refine condC_dec (fun _ => ?_) (fun _ => ?_) <;> simp -implicitDefEqProofs [*, verMay]) | (with_reducible refine condC_ndec (fun _ => ?_) (fun _ => ?_) <;> simp -implicitDefEqProofs [*, verMay]) | (with_reducible refine condC_and (fun hq => ?_) (fun hq => ?_) <;> (try simp at hq) <;> simp -implicitDefEqProofs [*, verMay]) | (with_reducible refine condC_or (fun hq => ?_) (fun hq => ?_) <;> (try simp at hq) <;> simp -implicitDefEqProofs [*, verMay]) | (with_reducible refine condC_not (fun hq => ?_) (fun hq => ?_) <;> (try simp at hq) <;> simp -implicitDefEqProofs [*, verMay]) | (with_reducible refine condC_split (fun hq => ?_) (fun hq => ?_) <;> (try simp at hq) <;> simp -implicitDefEqProofs [*, verMay]) | (refine appK2_if (by omega) ?_; simp -implicitDefEqProofs [*, verMay]) | (refine pureV_if (by omega) ?_; simp -implicitDefEqProofs [*, verMay]))
theorem item_Byte (x : Int) : Den PP 55 [.int .i64 x] [] (.bool (byte x)) [] := by
  refine den_of [] [] is_item_Byte ?_
  simp -implicitDefEqProofs [c_item_Byte]
  repeat' (first | (with_reducible refine gOps_dec (fun _ => ?_) (fun _ => ?_) <;> simp -implicitDefEqProofs [*, byte]) | (with_reducible refine gOps_ndec (fun _ => ?_) (fun _ => ?_) <;> simp -implicitDefEqProofs [*, byte]) | (with_reducible refine gOps_and (fun hq => ?_) (fun hq => ?_) <;> (try simp at hq) <;> simp -implicitDefEqProofs [*, byte]) | (with_reducible refine gOps_or (fun hq => ?_) (fun hq => ?_) <;> (try simp at hq) <;> simp -implicitDefEqProofs [*, byte]) | (with_reducible refine gOps_not (fun hq => ?_) (fun hq => ?_) <;> (try simp at hq) <;> simp -implicitDefEqProofs [*, byte]) | (with_reducible refine gOps_split (fun hq => ?_) (fun hq => ?_) <;> (try simp at hq) <;> simp -implicitDefEqProofs [*, byte]) | (with_reducible refine condC_dec (fun _ => ?_) (fun _ => ?_) <;> simp -implicitDefEqProofs [*, byte]) | (with_reducible refine condC_ndec (fun _ => ?_) (fun _ => ?_) <;> simp -implicitDefEqProofs [*, byte]) | (with_reducible refine condC_and (fun hq => ?_) (fun hq => ?_) <;> (try simp at hq) <;> simp -implicitDefEqProofs [*, byte]) | (with_reducible refine condC_or (fun hq => ?_) (fun hq => ?_) <;> (try simp at hq) <;> simp -implicitDefEqProofs [*, byte]) | (with_reducible refine condC_not (fun hq => ?_) (fun hq => ?_) <;> (try simp at hq) <;> simp -implicitDefEqProofs [*, byte]) | (with_reducible refine condC_split (fun hq => ?_) (fun hq => ?_) <;> (try simp at hq) <;> simp -implicitDefEqProofs [*, byte]) | (refine appK2_if (by omega) ?_; simp -implicitDefEqProofs [*, byte]) | (refine pureV_if (by omega) ?_; simp -implicitDefEqProofs [*, byte]))
theorem ref_byteMay (x : Int) : Den PP 49 [.int .i64 x] [] (.bool (byte x)) [] := by
  refine den_of [] [] is_gimmalref1_byteMay ?_
  simp -implicitDefEqProofs [c_gimmalref1_byteMay]
  repeat' (first | (with_reducible refine gOps_dec (fun _ => ?_) (fun _ => ?_) <;> simp -implicitDefEqProofs [*, byte]) | (with_reducible refine gOps_ndec (fun _ => ?_) (fun _ => ?_) <;> simp -implicitDefEqProofs [*, byte]) | (with_reducible refine gOps_and (fun hq => ?_) (fun hq => ?_) <;> (try simp at hq) <;> simp -implicitDefEqProofs [*, byte]) | (with_reducible refine gOps_or (fun hq => ?_) (fun hq => ?_) <;> (try simp at hq) <;> simp -implicitDefEqProofs [*, byte]) | (with_reducible refine gOps_not (fun hq => ?_) (fun hq => ?_) <;> (try simp at hq) <;> simp -implicitDefEqProofs [*, byte]) | (with_reducible refine gOps_split (fun hq => ?_) (fun hq => ?_) <;> (try simp at hq) <;> simp -implicitDefEqProofs [*, byte]) | (with_reducible refine condC_dec (fun _ => ?_) (fun _ => ?_) <;> simp -implicitDefEqProofs [*, byte]) | (with_reducible refine condC_ndec (fun _ => ?_) (fun _ => ?_) <;> simp -implicitDefEqProofs [*, byte]) | (with_reducible refine condC_and (fun hq => ?_) (fun hq => ?_) <;> (try simp at hq) <;> simp -implicitDefEqProofs [*, byte]) | (with_reducible refine condC_or (fun hq => ?_) (fun hq => ?_) <;> (try simp at hq) <;> simp -implicitDefEqProofs [*, byte]) | (with_reducible refine condC_not (fun hq => ?_) (fun hq => ?_) <;> (try simp at hq) <;> simp -implicitDefEqProofs [*, byte]) | (with_reducible refine condC_split (fun hq => ?_) (fun hq => ?_) <;> (try simp at hq) <;> simp -implicitDefEqProofs [*, byte]) | (refine appK2_if (by omega) ?_; simp -implicitDefEqProofs [*, byte]) | (refine pureV_if (by omega) ?_; simp -implicitDefEqProofs [*, byte]))
  all_goals omega
theorem ref16_byteMay (x : Int) : Den PP 27 [.int .i64 x] [] (.bool (byte x)) [] := by
  refine den_of [] [] is_gimmalref16_byteMay ?_
  simp -implicitDefEqProofs [c_gimmalref16_byteMay]
  repeat' (first | (with_reducible refine gOps_dec (fun _ => ?_) (fun _ => ?_) <;> simp -implicitDefEqProofs [*, byte]) | (with_reducible refine gOps_ndec (fun _ => ?_) (fun _ => ?_) <;> simp -implicitDefEqProofs [*, byte]) | (with_reducible refine gOps_and (fun hq => ?_) (fun hq => ?_) <;> (try simp at hq) <;> simp -implicitDefEqProofs [*, byte]) | (with_reducible refine gOps_or (fun hq => ?_) (fun hq => ?_) <;> (try simp at hq) <;> simp -implicitDefEqProofs [*, byte]) | (with_reducible refine gOps_not (fun hq => ?_) (fun hq => ?_) <;> (try simp at hq) <;> simp -implicitDefEqProofs [*, byte]) | (with_reducible refine gOps_split (fun hq => ?_) (fun hq => ?_) <;> (try simp at hq) <;> simp -implicitDefEqProofs [*, byte]) | (with_reducible refine condC_dec (fun _ => ?_) (fun _ => ?_) <;> simp -implicitDefEqProofs [*, byte]) | (with_reducible refine condC_ndec (fun _ => ?_) (fun _ => ?_) <;> simp -implicitDefEqProofs [*, byte]) | (with_reducible refine condC_and (fun hq => ?_) (fun hq => ?_) <;> (try simp at hq) <;> simp -implicitDefEqProofs [*, byte]) | (with_reducible refine condC_or (fun hq => ?_) (fun hq => ?_) <;> (try simp at hq) <;> simp -implicitDefEqProofs [*, byte]) | (with_reducible refine condC_not (fun hq => ?_) (fun hq => ?_) <;> (try simp at hq) <;> simp -implicitDefEqProofs [*, byte]) | (with_reducible refine condC_split (fun hq => ?_) (fun hq => ?_) <;> (try simp at hq) <;> simp -implicitDefEqProofs [*, byte]) | (refine appK2_if (by omega) ?_; simp -implicitDefEqProofs [*, byte]) | (refine pureV_if (by omega) ?_; simp -implicitDefEqProofs [*, byte]))
  all_goals omega
theorem item_May (i : Item) : Den PP 38 [.agg i.row] [] (.bool (itemMay i)) [] := by
  refine den_of [] [] is_item_May ?_
  simp -implicitDefEqProofs [c_item_May, Item.row]
  repeat' (first | (refine callThen_of (by first | exact item_Byte _ | exact version_May _ _) ?_; simp -implicitDefEqProofs [*, itemMay]) | (with_reducible refine gOps_dec (fun _ => ?_) (fun _ => ?_) <;> simp -implicitDefEqProofs [*, itemMay]) | (with_reducible refine gOps_ndec (fun _ => ?_) (fun _ => ?_) <;> simp -implicitDefEqProofs [*, itemMay]) | (with_reducible refine gOps_and (fun hq => ?_) (fun hq => ?_) <;> (try simp at hq) <;> simp -implicitDefEqProofs [*, itemMay]) | (with_reducible refine gOps_or (fun hq => ?_) (fun hq => ?_) <;> (try simp at hq) <;> simp -implicitDefEqProofs [*, itemMay]) | (with_reducible refine gOps_not (fun hq => ?_) (fun hq => ?_) <;> (try simp at hq) <;> simp -implicitDefEqProofs [*, itemMay]) | (with_reducible refine gOps_split (fun hq => ?_) (fun hq => ?_) <;> (try simp at hq) <;> simp -implicitDefEqProofs [*, itemMay]) | (with_reducible refine condC_dec (fun _ => ?_) (fun _ => ?_) <;> simp -implicitDefEqProofs [*, itemMay]) | (with_reducible refine condC_ndec (fun _ => ?_) (fun _ => ?_) <;> simp -implicitDefEqProofs [*, itemMay]) | (with_reducible refine condC_and (fun hq => ?_) (fun hq => ?_) <;> (try simp at hq) <;> simp -implicitDefEqProofs [*, itemMay]) | (with_reducible refine condC_or (fun hq => ?_) (fun hq => ?_) <;> (try simp at hq) <;> simp -implicitDefEqProofs [*, itemMay]) | (with_reducible refine condC_not (fun hq => ?_) (fun hq => ?_) <;> (try simp at hq) <;> simp -implicitDefEqProofs [*, itemMay]) | (with_reducible refine condC_split (fun hq => ?_) (fun hq => ?_) <;> (try simp at hq) <;> simp -implicitDefEqProofs [*, itemMay]) | (refine appK2_if (by omega) ?_; simp -implicitDefEqProofs [*, itemMay]) | (refine pureV_if (by omega) ?_; simp -implicitDefEqProofs [*, itemMay]))
theorem ref_ItemMay (i : Item) : Den PP 33 [.agg i.row] [] (.bool (itemMay i)) [] := by
  refine den_of [] [] is_gimmalref1_ItemMay ?_
  simp -implicitDefEqProofs [c_gimmalref1_ItemMay, Item.row]
  repeat' (first | (refine callThen_of (by first | exact ref_byteMay _ | exact ref_VersionMay _ _) ?_; simp -implicitDefEqProofs [*, itemMay]) | (with_reducible refine gOps_dec (fun _ => ?_) (fun _ => ?_) <;> simp -implicitDefEqProofs [*, itemMay]) | (with_reducible refine gOps_ndec (fun _ => ?_) (fun _ => ?_) <;> simp -implicitDefEqProofs [*, itemMay]) | (with_reducible refine gOps_and (fun hq => ?_) (fun hq => ?_) <;> (try simp at hq) <;> simp -implicitDefEqProofs [*, itemMay]) | (with_reducible refine gOps_or (fun hq => ?_) (fun hq => ?_) <;> (try simp at hq) <;> simp -implicitDefEqProofs [*, itemMay]) | (with_reducible refine gOps_not (fun hq => ?_) (fun hq => ?_) <;> (try simp at hq) <;> simp -implicitDefEqProofs [*, itemMay]) | (with_reducible refine gOps_split (fun hq => ?_) (fun hq => ?_) <;> (try simp at hq) <;> simp -implicitDefEqProofs [*, itemMay]) | (with_reducible refine condC_dec (fun _ => ?_) (fun _ => ?_) <;> simp -implicitDefEqProofs [*, itemMay]) | (with_reducible refine condC_ndec (fun _ => ?_) (fun _ => ?_) <;> simp -implicitDefEqProofs [*, itemMay]) | (with_reducible refine condC_and (fun hq => ?_) (fun hq => ?_) <;> (try simp at hq) <;> simp -implicitDefEqProofs [*, itemMay]) | (with_reducible refine condC_or (fun hq => ?_) (fun hq => ?_) <;> (try simp at hq) <;> simp -implicitDefEqProofs [*, itemMay]) | (with_reducible refine condC_not (fun hq => ?_) (fun hq => ?_) <;> (try simp at hq) <;> simp -implicitDefEqProofs [*, itemMay]) | (with_reducible refine condC_split (fun hq => ?_) (fun hq => ?_) <;> (try simp at hq) <;> simp -implicitDefEqProofs [*, itemMay]) | (refine appK2_if (by omega) ?_; simp -implicitDefEqProofs [*, itemMay]) | (refine pureV_if (by omega) ?_; simp -implicitDefEqProofs [*, itemMay]))
theorem item_May_raw (k c w v : Int) (g : Bool) : Den PP 38 [.agg [.int .i64 k, .int .i64 c, .int .i64 w, .int .i64 v, .bool g]] [] (.bool (itemMay ⟨k, c, w, v, g⟩)) [] := item_May ⟨k, c, w, v, g⟩
def prevKey (is : List Item) (i : Nat) : Option Int := if i = 0 then none else (is[i - 1]?).map Item.key
theorem store_May (is : List Item) (hl : is.length ≤ cap16) : Den PP 52 [itemsD is] [] (.bool (storeMay is)) [] := by
  obtain ⟨A, hA⟩ : ∃ A, itemsOk none is = A := ⟨_, rfl⟩
  unfold cap16 at hl
  refine den_of [] [] is_store_May ?_
  simp -implicitDefEqProofs [c_store_May, itemsD]
  refine list_rule is (fun i rest => fun ⟨fr, bs⟩ => bs = [] ∧ fr 0 = itemsD is ∧ fr 5 = itemsD is ∧ fr 6 = .int .i64 is.length ∧ fr 7 = .int .i64 i ∧ itemsOk (prevKey is i) rest = A)
    (fun ⟨fr, bs⟩ => bs = [] ∧ fr 0 = itemsD is ∧ A = true) (fun ⟨fr, bs⟩ => fr 2 = .bool false ∧ A = false) c_store_May_L0.eq_1 ?_ ?_ ?_ ?_ ?_
  · exact ⟨rfl, rfl, rfl, rfl, rfl, hA⟩
  · rintro i ⟨fr, bs⟩ hi ⟨rfl, h0, h5, h6, h7, he⟩
    simp -implicitDefEqProofs [h0, h5, h6, h7, hi]
    simpa [itemsOk] using he.symm
  · rintro i a rest ⟨fr, bs⟩ hlt hget hg hd hd2 ⟨rfl, h0, h5, h6, h7, he⟩
    have hlt' : (i : Int) < is.length := by omega
    have hw := wrap_next (n := i) (by omega)
    have c1 := item_May a
    simp [Item.row] at c1
    simp only [itemsOk] at he
    have hp : prevKey is (i + 1) = some a.key := by simp [prevKey, hget]
    cases i with
    | zero =>
      simp [prevKey] at he
      simp -implicitDefEqProofs [h0, h5, h6, h7, hlt, hlt', hget, hg, itemsD, Item.row]
      repeat' (first | (refine callThen_of (by first | exact c1) ?_; simp -implicitDefEqProofs [*, itemsD, Item.row, hw]) | (with_reducible refine gOps_dec (fun _ => ?_) (fun _ => ?_) <;> simp -implicitDefEqProofs [*, itemsD, Item.row, hw]) | (with_reducible refine gOps_ndec (fun _ => ?_) (fun _ => ?_) <;> simp -implicitDefEqProofs [*, itemsD, Item.row, hw]) | (with_reducible refine gOps_and (fun hq => ?_) (fun hq => ?_) <;> (try simp at hq) <;> simp -implicitDefEqProofs [*, itemsD, Item.row, hw]) | (with_reducible refine gOps_or (fun hq => ?_) (fun hq => ?_) <;> (try simp at hq) <;> simp -implicitDefEqProofs [*, itemsD, Item.row, hw]) | (with_reducible refine gOps_not (fun hq => ?_) (fun hq => ?_) <;> (try simp at hq) <;> simp -implicitDefEqProofs [*, itemsD, Item.row, hw]) | (with_reducible refine gOps_split (fun hq => ?_) (fun hq => ?_) <;> (try simp at hq) <;> simp -implicitDefEqProofs [*, itemsD, Item.row, hw]) | (with_reducible refine condC_dec (fun _ => ?_) (fun _ => ?_) <;> simp -implicitDefEqProofs [*, itemsD, Item.row, hw]) | (with_reducible refine condC_ndec (fun _ => ?_) (fun _ => ?_) <;> simp -implicitDefEqProofs [*, itemsD, Item.row, hw]) | (with_reducible refine condC_and (fun hq => ?_) (fun hq => ?_) <;> (try simp at hq) <;> simp -implicitDefEqProofs [*, itemsD, Item.row, hw]) | (with_reducible refine condC_or (fun hq => ?_) (fun hq => ?_) <;> (try simp at hq) <;> simp -implicitDefEqProofs [*, itemsD, Item.row, hw]) | (with_reducible refine condC_not (fun hq => ?_) (fun hq => ?_) <;> (try simp at hq) <;> simp -implicitDefEqProofs [*, itemsD, Item.row, hw]) | (with_reducible refine condC_split (fun hq => ?_) (fun hq => ?_) <;> (try simp at hq) <;> simp -implicitDefEqProofs [*, itemsD, Item.row, hw]) | (refine appK2_if (by omega) ?_; simp -implicitDefEqProofs [*, itemsD, Item.row, hw]) | (refine pureV_if (by omega) ?_; simp -implicitDefEqProofs [*, itemsD, Item.row, hw]))
      all_goals grind
    | succ j =>
      have hj : j < is.length := by omega
      have hj' : (j : Int) < is.length := by omega
      have hjw : IntKind.wrap .i64 (j : Int) = j := wrap_in (by omega) (by omega)
      obtain ⟨b, hb⟩ : ∃ b, is[j] = b := ⟨_, rfl⟩
      have hpj : prevKey is (j + 1) = some b.key := by simp [prevKey, hj, hb]
      rw [hpj] at he
      simp -implicitDefEqProofs [h0, h5, h6, h7, hlt, hlt', hget, hg, itemsD, Item.row]
      repeat' (first | (refine callThen_of (by first | exact c1) ?_; simp -implicitDefEqProofs [*, itemsD, Item.row, hw, hb]) | (with_reducible refine gOps_dec (fun _ => ?_) (fun _ => ?_) <;> simp -implicitDefEqProofs [*, itemsD, Item.row, hw, hb]) | (with_reducible refine gOps_ndec (fun _ => ?_) (fun _ => ?_) <;> simp -implicitDefEqProofs [*, itemsD, Item.row, hw, hb]) | (with_reducible refine gOps_and (fun hq => ?_) (fun hq => ?_) <;> (try simp at hq) <;> simp -implicitDefEqProofs [*, itemsD, Item.row, hw, hb]) | (with_reducible refine gOps_or (fun hq => ?_) (fun hq => ?_) <;> (try simp at hq) <;> simp -implicitDefEqProofs [*, itemsD, Item.row, hw, hb]) | (with_reducible refine gOps_not (fun hq => ?_) (fun hq => ?_) <;> (try simp at hq) <;> simp -implicitDefEqProofs [*, itemsD, Item.row, hw, hb]) | (with_reducible refine gOps_split (fun hq => ?_) (fun hq => ?_) <;> (try simp at hq) <;> simp -implicitDefEqProofs [*, itemsD, Item.row, hw, hb]) | (with_reducible refine condC_dec (fun _ => ?_) (fun _ => ?_) <;> simp -implicitDefEqProofs [*, itemsD, Item.row, hw, hb]) | (with_reducible refine condC_ndec (fun _ => ?_) (fun _ => ?_) <;> simp -implicitDefEqProofs [*, itemsD, Item.row, hw, hb]) | (with_reducible refine condC_and (fun hq => ?_) (fun hq => ?_) <;> (try simp at hq) <;> simp -implicitDefEqProofs [*, itemsD, Item.row, hw, hb]) | (with_reducible refine condC_or (fun hq => ?_) (fun hq => ?_) <;> (try simp at hq) <;> simp -implicitDefEqProofs [*, itemsD, Item.row, hw, hb]) | (with_reducible refine condC_not (fun hq => ?_) (fun hq => ?_) <;> (try simp at hq) <;> simp -implicitDefEqProofs [*, itemsD, Item.row, hw, hb]) | (with_reducible refine condC_split (fun hq => ?_) (fun hq => ?_) <;> (try simp at hq) <;> simp -implicitDefEqProofs [*, itemsD, Item.row, hw, hb]) | (refine appK2_if (by omega) ?_; simp -implicitDefEqProofs [*, itemsD, Item.row, hw, hb]) | (refine pureV_if (by omega) ?_; simp -implicitDefEqProofs [*, itemsD, Item.row, hw, hb]))
      all_goals grind
  · rintro ⟨fr, bs⟩ ⟨rfl, h0, h1⟩
    simp -implicitDefEqProofs [h0, itemsD, storeMay, hA, h1]
    omega
  · rintro ⟨fr, bs⟩ h
    simp -implicitDefEqProofs [h.1, h.2, storeMay, hA]
theorem ref_StoreMay (is : List Item) (hl : is.length ≤ cap16) : Den PP 29 [itemsD is] [] (.bool (storeMay is)) [] := by
  obtain ⟨A, hA⟩ : ∃ A, itemsOk none is = A := ⟨_, rfl⟩
  unfold cap16 at hl
  refine den_of [] [] is_gimmalref1_StoreMay ?_
  simp -implicitDefEqProofs [c_gimmalref1_StoreMay, itemsD]
  refine list_rule is (fun i rest => fun ⟨fr, bs⟩ => bs = [] ∧ fr 0 = itemsD is ∧ fr 3 = .int .i64 i ∧ itemsOk (prevKey is i) rest = A)
    (fun ⟨fr, bs⟩ => bs = [] ∧ fr 0 = itemsD is ∧ A = true) (fun ⟨fr, bs⟩ => fr 2 = .bool false ∧ A = false) c_gimmalref1_StoreMay_L0.eq_1 ?_ ?_ ?_ ?_ ?_
  · exact ⟨rfl, rfl, rfl, hA⟩
  · rintro i ⟨fr, bs⟩ hi ⟨rfl, h0, h3, he⟩
    simp -implicitDefEqProofs [h0, h3, hi, itemsD]
    simpa [itemsOk] using he.symm
  · rintro i a rest ⟨fr, bs⟩ hlt hget hg hd hd2 ⟨rfl, h0, h3, he⟩
    have hlt' : (i : Int) < is.length := by omega
    have hw := wrap_next (n := i) (by omega)
    have c1 := ref_ItemMay a
    simp [Item.row] at c1
    simp only [itemsOk] at he
    have hp : prevKey is (i + 1) = some a.key := by simp [prevKey, hget]
    cases i with
    | zero =>
      simp [prevKey] at he
      simp -implicitDefEqProofs [h0, h3, hlt, hlt', hget, hg, itemsD, Item.row]
      repeat' (first | (refine callThen_of (by first | exact c1) ?_; simp -implicitDefEqProofs [*, itemsD, Item.row, hw]) | (with_reducible refine gOps_dec (fun _ => ?_) (fun _ => ?_) <;> simp -implicitDefEqProofs [*, itemsD, Item.row, hw]) | (with_reducible refine gOps_ndec (fun _ => ?_) (fun _ => ?_) <;> simp -implicitDefEqProofs [*, itemsD, Item.row, hw]) | (with_reducible refine gOps_and (fun hq => ?_) (fun hq => ?_) <;> (try simp at hq) <;> simp -implicitDefEqProofs [*, itemsD, Item.row, hw]) | (with_reducible refine gOps_or (fun hq => ?_) (fun hq => ?_) <;> (try simp at hq) <;> simp -implicitDefEqProofs [*, itemsD, Item.row, hw]) | (with_reducible refine gOps_not (fun hq => ?_) (fun hq => ?_) <;> (try simp at hq) <;> simp -implicitDefEqProofs [*, itemsD, Item.row, hw]) | (with_reducible refine gOps_split (fun hq => ?_) (fun hq => ?_) <;> (try simp at hq) <;> simp -implicitDefEqProofs [*, itemsD, Item.row, hw]) | (with_reducible refine condC_dec (fun _ => ?_) (fun _ => ?_) <;> simp -implicitDefEqProofs [*, itemsD, Item.row, hw]) | (with_reducible refine condC_ndec (fun _ => ?_) (fun _ => ?_) <;> simp -implicitDefEqProofs [*, itemsD, Item.row, hw]) | (with_reducible refine condC_and (fun hq => ?_) (fun hq => ?_) <;> (try simp at hq) <;> simp -implicitDefEqProofs [*, itemsD, Item.row, hw]) | (with_reducible refine condC_or (fun hq => ?_) (fun hq => ?_) <;> (try simp at hq) <;> simp -implicitDefEqProofs [*, itemsD, Item.row, hw]) | (with_reducible refine condC_not (fun hq => ?_) (fun hq => ?_) <;> (try simp at hq) <;> simp -implicitDefEqProofs [*, itemsD, Item.row, hw]) | (with_reducible refine condC_split (fun hq => ?_) (fun hq => ?_) <;> (try simp at hq) <;> simp -implicitDefEqProofs [*, itemsD, Item.row, hw]) | (refine appK2_if (by omega) ?_; simp -implicitDefEqProofs [*, itemsD, Item.row, hw]) | (refine pureV_if (by omega) ?_; simp -implicitDefEqProofs [*, itemsD, Item.row, hw]))
      all_goals grind
    | succ j =>
      have hj : j < is.length := by omega
      have hj' : (j : Int) < is.length := by omega
      have hjw : IntKind.wrap .i64 (j : Int) = j := wrap_in (by omega) (by omega)
      obtain ⟨b, hb⟩ : ∃ b, is[j] = b := ⟨_, rfl⟩
      have hpj : prevKey is (j + 1) = some b.key := by simp [prevKey, hj, hb]
      rw [hpj] at he
      simp -implicitDefEqProofs [h0, h3, hlt, hlt', hget, hg, itemsD, Item.row]
      repeat' (first | (refine callThen_of (by first | exact c1) ?_; simp -implicitDefEqProofs [*, itemsD, Item.row, hw, hb]) | (with_reducible refine gOps_dec (fun _ => ?_) (fun _ => ?_) <;> simp -implicitDefEqProofs [*, itemsD, Item.row, hw, hb]) | (with_reducible refine gOps_ndec (fun _ => ?_) (fun _ => ?_) <;> simp -implicitDefEqProofs [*, itemsD, Item.row, hw, hb]) | (with_reducible refine gOps_and (fun hq => ?_) (fun hq => ?_) <;> (try simp at hq) <;> simp -implicitDefEqProofs [*, itemsD, Item.row, hw, hb]) | (with_reducible refine gOps_or (fun hq => ?_) (fun hq => ?_) <;> (try simp at hq) <;> simp -implicitDefEqProofs [*, itemsD, Item.row, hw, hb]) | (with_reducible refine gOps_not (fun hq => ?_) (fun hq => ?_) <;> (try simp at hq) <;> simp -implicitDefEqProofs [*, itemsD, Item.row, hw, hb]) | (with_reducible refine gOps_split (fun hq => ?_) (fun hq => ?_) <;> (try simp at hq) <;> simp -implicitDefEqProofs [*, itemsD, Item.row, hw, hb]) | (with_reducible refine condC_dec (fun _ => ?_) (fun _ => ?_) <;> simp -implicitDefEqProofs [*, itemsD, Item.row, hw, hb]) | (with_reducible refine condC_ndec (fun _ => ?_) (fun _ => ?_) <;> simp -implicitDefEqProofs [*, itemsD, Item.row, hw, hb]) | (with_reducible refine condC_and (fun hq => ?_) (fun hq => ?_) <;> (try simp at hq) <;> simp -implicitDefEqProofs [*, itemsD, Item.row, hw, hb]) | (with_reducible refine condC_or (fun hq => ?_) (fun hq => ?_) <;> (try simp at hq) <;> simp -implicitDefEqProofs [*, itemsD, Item.row, hw, hb]) | (with_reducible refine condC_not (fun hq => ?_) (fun hq => ?_) <;> (try simp at hq) <;> simp -implicitDefEqProofs [*, itemsD, Item.row, hw, hb]) | (with_reducible refine condC_split (fun hq => ?_) (fun hq => ?_) <;> (try simp at hq) <;> simp -implicitDefEqProofs [*, itemsD, Item.row, hw, hb]) | (refine appK2_if (by omega) ?_; simp -implicitDefEqProofs [*, itemsD, Item.row, hw, hb]) | (refine pureV_if (by omega) ?_; simp -implicitDefEqProofs [*, itemsD, Item.row, hw, hb]))
      all_goals grind
  · rintro ⟨fr, bs⟩ ⟨rfl, h0, h1⟩
    simp -implicitDefEqProofs [h0, itemsD, storeMay, hA, h1]
    omega
  · rintro ⟨fr, bs⟩ h
    simp -implicitDefEqProofs [h.1, h.2, storeMay, hA]
theorem node_odd (t : Told) : Den PP 54 [.agg t.row] [] (.bool (toldOdd t)) [] := by
  refine den_of [] [] is_node_odd ?_
  simp -implicitDefEqProofs [c_node_odd, Told.row]
  repeat' (first | (refine callThen_of (by first | exact item_Byte _) ?_; simp -implicitDefEqProofs [*, toldOdd]) | (with_reducible refine gOps_dec (fun _ => ?_) (fun _ => ?_) <;> simp -implicitDefEqProofs [*, toldOdd]) | (with_reducible refine gOps_ndec (fun _ => ?_) (fun _ => ?_) <;> simp -implicitDefEqProofs [*, toldOdd]) | (with_reducible refine gOps_and (fun hq => ?_) (fun hq => ?_) <;> (try simp at hq) <;> simp -implicitDefEqProofs [*, toldOdd]) | (with_reducible refine gOps_or (fun hq => ?_) (fun hq => ?_) <;> (try simp at hq) <;> simp -implicitDefEqProofs [*, toldOdd]) | (with_reducible refine gOps_not (fun hq => ?_) (fun hq => ?_) <;> (try simp at hq) <;> simp -implicitDefEqProofs [*, toldOdd]) | (with_reducible refine gOps_split (fun hq => ?_) (fun hq => ?_) <;> (try simp at hq) <;> simp -implicitDefEqProofs [*, toldOdd]) | (with_reducible refine condC_dec (fun _ => ?_) (fun _ => ?_) <;> simp -implicitDefEqProofs [*, toldOdd]) | (with_reducible refine condC_ndec (fun _ => ?_) (fun _ => ?_) <;> simp -implicitDefEqProofs [*, toldOdd]) | (with_reducible refine condC_and (fun hq => ?_) (fun hq => ?_) <;> (try simp at hq) <;> simp -implicitDefEqProofs [*, toldOdd]) | (with_reducible refine condC_or (fun hq => ?_) (fun hq => ?_) <;> (try simp at hq) <;> simp -implicitDefEqProofs [*, toldOdd]) | (with_reducible refine condC_not (fun hq => ?_) (fun hq => ?_) <;> (try simp at hq) <;> simp -implicitDefEqProofs [*, toldOdd]) | (with_reducible refine condC_split (fun hq => ?_) (fun hq => ?_) <;> (try simp at hq) <;> simp -implicitDefEqProofs [*, toldOdd]) | (refine appK2_if (by omega) ?_; simp -implicitDefEqProofs [*, toldOdd]) | (refine pureV_if (by omega) ?_; simp -implicitDefEqProofs [*, toldOdd]))
end Go.AM
/- AM: contracts: nodes, sharing. -/
namespace Go.AM
set_option linter.unusedSimpArgs false
set_option linter.unusedVariables false
set_option maxRecDepth 8000
set_option maxHeartbeats 0
theorem slices_IndexFunc_Told (xs : List Told) (hl : xs.length ≤ cap) : Den PP 71 [toldsD xs, .fn 54 [] []] [] (.int .i64 (gIdx toldOdd 0 xs)) [] := by
  obtain ⟨A, hA⟩ : ∃ A, gIdx toldOdd 0 xs = A := ⟨_, rfl⟩
  unfold cap at hl
  refine den_of [] [] is_slices_IndexFunc_api_Told_api_Told ?_
  simp -implicitDefEqProofs [c_slices_IndexFunc_api_Told_api_Told, toldsD, hA]
  refine list_rule xs (fun i rest => fun ⟨fr, bs⟩ => bs = [] ∧ fr 0 = toldsD xs ∧ fr 1 = .fn 54 [] [] ∧ fr 7 = .int .i64 xs.length ∧ fr 8 = .int .i64 i ∧ gIdx toldOdd i rest = A)
    (fun ⟨fr, bs⟩ => bs = [] ∧ A = -1) (fun ⟨fr, bs⟩ => fr 4 = .int .i64 A) c_slices_IndexFunc_api_Told_api_Told_L0.eq_1 ?_ ?_ ?_ ?_ ?_
  · exact ⟨rfl, rfl, rfl, rfl, rfl, hA⟩
  · rintro i ⟨fr, bs⟩ hi ⟨rfl, h0, h1, h7, h8, he⟩
    simp -implicitDefEqProofs [h0, h1, h7, h8, hi]
    simpa [gIdx] using he.symm
  · rintro i a rest ⟨fr, bs⟩ hlt hget hg hd hd2 ⟨rfl, h0, h1, h7, h8, he⟩
    have hlt' : (i : Int) < xs.length := by omega
    have hw := wrap_next (n := i) (by omega)
    have c1 := node_odd a
    simp [Told.row] at c1
    simp only [gIdx] at he
    simp -implicitDefEqProofs [h0, h1, h7, h8, hlt, hlt', hget, hg, toldsD, Told.row]
    repeat' (first | (refine callThen_of (by first | exact c1) ?_; simp -implicitDefEqProofs [*, toldsD, Told.row, hw]) | (with_reducible refine gOps_dec (fun _ => ?_) (fun _ => ?_) <;> simp -implicitDefEqProofs [*, toldsD, Told.row, hw]) | (with_reducible refine gOps_ndec (fun _ => ?_) (fun _ => ?_) <;> simp -implicitDefEqProofs [*, toldsD, Told.row, hw]) | (with_reducible refine gOps_and (fun hq => ?_) (fun hq => ?_) <;> (try simp at hq) <;> simp -implicitDefEqProofs [*, toldsD, Told.row, hw]) | (with_reducible refine gOps_or (fun hq => ?_) (fun hq => ?_) <;> (try simp at hq) <;> simp -implicitDefEqProofs [*, toldsD, Told.row, hw]) | (with_reducible refine gOps_not (fun hq => ?_) (fun hq => ?_) <;> (try simp at hq) <;> simp -implicitDefEqProofs [*, toldsD, Told.row, hw]) | (with_reducible refine gOps_split (fun hq => ?_) (fun hq => ?_) <;> (try simp at hq) <;> simp -implicitDefEqProofs [*, toldsD, Told.row, hw]) | (with_reducible refine condC_dec (fun _ => ?_) (fun _ => ?_) <;> simp -implicitDefEqProofs [*, toldsD, Told.row, hw]) | (with_reducible refine condC_ndec (fun _ => ?_) (fun _ => ?_) <;> simp -implicitDefEqProofs [*, toldsD, Told.row, hw]) | (with_reducible refine condC_and (fun hq => ?_) (fun hq => ?_) <;> (try simp at hq) <;> simp -implicitDefEqProofs [*, toldsD, Told.row, hw]) | (with_reducible refine condC_or (fun hq => ?_) (fun hq => ?_) <;> (try simp at hq) <;> simp -implicitDefEqProofs [*, toldsD, Told.row, hw]) | (with_reducible refine condC_not (fun hq => ?_) (fun hq => ?_) <;> (try simp at hq) <;> simp -implicitDefEqProofs [*, toldsD, Told.row, hw]) | (with_reducible refine condC_split (fun hq => ?_) (fun hq => ?_) <;> (try simp at hq) <;> simp -implicitDefEqProofs [*, toldsD, Told.row, hw]) | (refine appK2_if (by omega) ?_; simp -implicitDefEqProofs [*, toldsD, Told.row, hw]) | (refine pureV_if (by omega) ?_; simp -implicitDefEqProofs [*, toldsD, Told.row, hw]))
    all_goals grind
  · rintro ⟨fr, bs⟩ ⟨rfl, h1⟩
    simp -implicitDefEqProofs [h1]
  · rintro ⟨fr, bs⟩ h
    simp -implicitDefEqProofs [h]
theorem slices_ContainsFunc_Told (xs : List Told) (hl : xs.length ≤ cap) : Den PP 53 [toldsD xs, .fn 54 [] []] [] (.bool (xs.any toldOdd)) [] := by
  have c1 := slices_IndexFunc_Told xs hl
  have h1 := gIdx_any toldOdd xs 0
  obtain ⟨A, hA⟩ : ∃ A, xs.any toldOdd = A := ⟨_, rfl⟩
  rw [hA] at h1
  simp [toldsD] at c1
  refine den_of [] [] is_slices_ContainsFunc_api_Told_api_Told ?_
  simp -implicitDefEqProofs [c_slices_ContainsFunc_api_Told_api_Told, toldsD]
  refine callThen_of c1 ?_
  simp -implicitDefEqProofs [h1, hA]
theorem node_May (x : Node) (hs : x.small) : Den PP 34 [nodeD x] [] (.bool (nodeMay x)) [] := by
  obtain ⟨h1, h2, h3⟩ := hs
  have c1 := view_May x.view h1
  have c2 := store_May x.items (by unfold cap16; omega)
  have c3 := slices_ContainsFunc_Told x.log (by unfold cap; omega)
  obtain ⟨A, hA⟩ : ∃ A, x.log.any toldOdd = A := ⟨_, rfl⟩
  rw [hA] at c3
  simp [viewD, View.cells, peersD, intsD, itemsD, toldsD] at c1 c2 c3
  obtain ⟨hp, hq⟩ := h1
  unfold cap16 at hp
  unfold cap at hq
  have w1 : IntKind.wrap .i64 ((x.view.peers.length : Int) + x.view.passive.length) = x.view.peers.length + x.view.passive.length := wrap_in (by omega) (by omega)
  have w2 : IntKind.wrap .i64 ((x.view.peers.length : Int) + x.view.passive.length + x.items.length) = x.view.peers.length + x.view.passive.length + x.items.length := wrap_in (by omega) (by omega)
  have w3 : IntKind.wrap .i64 ((x.view.peers.length : Int) + x.view.passive.length + x.items.length + x.log.length) = x.view.peers.length + x.view.passive.length + x.items.length + x.log.length := wrap_in (by omega) (by omega)
  refine den_of [] [] is_node_May ?_
  simp -implicitDefEqProofs [c_node_May, nodeD, Node.cells, peersD, intsD, itemsD, toldsD]
  repeat' (first | (refine callThen_of (by first | exact c1 | exact c2 | exact c3) ?_; simp -implicitDefEqProofs [*, w1, w2, w3]) | (with_reducible refine gOps_dec (fun _ => ?_) (fun _ => ?_) <;> simp -implicitDefEqProofs [*, w1, w2, w3]) | (with_reducible refine gOps_ndec (fun _ => ?_) (fun _ => ?_) <;> simp -implicitDefEqProofs [*, w1, w2, w3]) | (with_reducible refine gOps_and (fun hq => ?_) (fun hq => ?_) <;> (try simp at hq) <;> simp -implicitDefEqProofs [*, w1, w2, w3]) | (with_reducible refine gOps_or (fun hq => ?_) (fun hq => ?_) <;> (try simp at hq) <;> simp -implicitDefEqProofs [*, w1, w2, w3]) | (with_reducible refine gOps_not (fun hq => ?_) (fun hq => ?_) <;> (try simp at hq) <;> simp -implicitDefEqProofs [*, w1, w2, w3]) | (with_reducible refine gOps_split (fun hq => ?_) (fun hq => ?_) <;> (try simp at hq) <;> simp -implicitDefEqProofs [*, w1, w2, w3]) | (with_reducible refine condC_dec (fun _ => ?_) (fun _ => ?_) <;> simp -implicitDefEqProofs [*, w1, w2, w3]) | (with_reducible refine condC_ndec (fun _ => ?_) (fun _ => ?_) <;> simp -implicitDefEqProofs [*, w1, w2, w3]) | (with_reducible refine condC_and (fun hq => ?_) (fun hq => ?_) <;> (try simp at hq) <;> simp -implicitDefEqProofs [*, w1, w2, w3]) | (with_reducible refine condC_or (fun hq => ?_) (fun hq => ?_) <;> (try simp at hq) <;> simp -implicitDefEqProofs [*, w1, w2, w3]) | (with_reducible refine condC_not (fun hq => ?_) (fun hq => ?_) <;> (try simp at hq) <;> simp -implicitDefEqProofs [*, w1, w2, w3]) | (with_reducible refine condC_split (fun hq => ?_) (fun hq => ?_) <;> (try simp at hq) <;> simp -implicitDefEqProofs [*, w1, w2, w3]) | (refine appK2_if (by omega) ?_; simp -implicitDefEqProofs [*, w1, w2, w3]) | (refine pureV_if (by omega) ?_; simp -implicitDefEqProofs [*, w1, w2, w3]))
  all_goals simp only [nodeMay, emptyN, hA]
  all_goals grind
theorem node_Up (x : Node) (hs : x.small) : Den PP 19 [nodeD x] [] (.bool (nodeUp x)) [] := by
  have c1 := node_May x hs
  simp only [nodeD, Node.cells, peersD, intsD, itemsD, toldsD] at c1
  refine den_of [] [] is_node_Up ?_
  cases hu : x.up
  all_goals
    rw [hu] at c1
    simp -implicitDefEqProofs [c_node_Up, nodeD, Node.cells, peersD, intsD, itemsD, toldsD, hu]
    repeat' (first | (refine callThen_of (by first | exact c1) ?_; simp -implicitDefEqProofs [*]) | (with_reducible refine gOps_dec (fun _ => ?_) (fun _ => ?_) <;> simp -implicitDefEqProofs [*]) | (with_reducible refine gOps_ndec (fun _ => ?_) (fun _ => ?_) <;> simp -implicitDefEqProofs [*]) | (with_reducible refine gOps_and (fun hq => ?_) (fun hq => ?_) <;> (try simp at hq) <;> simp -implicitDefEqProofs [*]) | (with_reducible refine gOps_or (fun hq => ?_) (fun hq => ?_) <;> (try simp at hq) <;> simp -implicitDefEqProofs [*]) | (with_reducible refine gOps_not (fun hq => ?_) (fun hq => ?_) <;> (try simp at hq) <;> simp -implicitDefEqProofs [*]) | (with_reducible refine gOps_split (fun hq => ?_) (fun hq => ?_) <;> (try simp at hq) <;> simp -implicitDefEqProofs [*]) | (with_reducible refine condC_dec (fun _ => ?_) (fun _ => ?_) <;> simp -implicitDefEqProofs [*]) | (with_reducible refine condC_ndec (fun _ => ?_) (fun _ => ?_) <;> simp -implicitDefEqProofs [*]) | (with_reducible refine condC_and (fun hq => ?_) (fun hq => ?_) <;> (try simp at hq) <;> simp -implicitDefEqProofs [*]) | (with_reducible refine condC_or (fun hq => ?_) (fun hq => ?_) <;> (try simp at hq) <;> simp -implicitDefEqProofs [*]) | (with_reducible refine condC_not (fun hq => ?_) (fun hq => ?_) <;> (try simp at hq) <;> simp -implicitDefEqProofs [*]) | (with_reducible refine condC_split (fun hq => ?_) (fun hq => ?_) <;> (try simp at hq) <;> simp -implicitDefEqProofs [*]) | (refine appK2_if (by omega) ?_; simp -implicitDefEqProofs [*]) | (refine pureV_if (by omega) ?_; simp -implicitDefEqProofs [*]))
    all_goals simp [nodeUp, hu]
end Go.AM
/- AM: contracts: what the statements' own helpers do with items, messages, nodes. -/
namespace Go.AM
set_option linter.unusedSimpArgs false
set_option linter.unusedVariables false
set_option maxRecDepth 8000
set_option maxHeartbeats 0
theorem law_SameItems (xs ys : List Item) (hl : xs.length ≤ cap) : Den PP 15 [itemsD xs, itemsD ys] [] (.bool (decide (xs = ys))) [] := by
  refine den_of [] [] is_gimmallaw0_SameItems ?_
  simp -implicitDefEqProofs [c_gimmallaw0_SameItems, itemsD]
  refine condC_split (fun h => ?_) (fun h => ?_)
  · simp -implicitDefEqProofs
    grind
  have hlen : xs.length = ys.length := by simp at h; omega
  simp -implicitDefEqProofs
  refine list_rule xs (fun i rest => fun ⟨fr, bs⟩ => bs = [] ∧ fr 0 = .sl (xs.map Item.row) xs.length ∧ fr 1 = .sl (ys.map Item.row) ys.length ∧ fr 5 = .int .i64 i ∧ (rest = ys.drop i ↔ xs = ys))
    (fun ⟨fr, bs⟩ => bs = [] ∧ xs = ys) (fun ⟨fr, bs⟩ => fr 4 = .bool false ∧ ¬ xs = ys) c_gimmallaw0_SameItems_L0.eq_1 ?_ ?_ ?_ ?_ ?_
  · exact ⟨rfl, rfl, rfl, rfl, by simp⟩
  · rintro i ⟨fr, bs⟩ hi ⟨rfl, h0, h1, h5, he⟩
    simp -implicitDefEqProofs [*]
    grind
  · rintro i a rest ⟨fr, bs⟩ hlt hget hg hd hd2 ⟨rfl, h0, h1, h5, he⟩
    have hlt' : (i : Int) < xs.length := by omega
    have hlt2 : i < ys.length := by omega
    have hlt3 : (i : Int) < ys.length := by omega
    have hw := wrap_next (n := i) (by unfold cap at hl; omega)
    rw [List.drop_eq_getElem_cons hlt2] at he
    generalize hy : ys[i] = b at he
    simp -implicitDefEqProofs [h0, h1, h5, hlt, hlt', hlt2, hlt3, hget, hg, hy, Item.row, EQS]
    repeat' (first | (with_reducible refine gOps_dec (fun _ => ?_) (fun _ => ?_) <;> simp -implicitDefEqProofs [*, EQS, hw, Item.row]) | (with_reducible refine gOps_ndec (fun _ => ?_) (fun _ => ?_) <;> simp -implicitDefEqProofs [*, EQS, hw, Item.row]) | (with_reducible refine gOps_and (fun hq => ?_) (fun hq => ?_) <;> (try simp at hq) <;> simp -implicitDefEqProofs [*, EQS, hw, Item.row]) | (with_reducible refine gOps_or (fun hq => ?_) (fun hq => ?_) <;> (try simp at hq) <;> simp -implicitDefEqProofs [*, EQS, hw, Item.row]) | (with_reducible refine gOps_not (fun hq => ?_) (fun hq => ?_) <;> (try simp at hq) <;> simp -implicitDefEqProofs [*, EQS, hw, Item.row]) | (with_reducible refine gOps_split (fun hq => ?_) (fun hq => ?_) <;> (try simp at hq) <;> simp -implicitDefEqProofs [*, EQS, hw, Item.row]) | (with_reducible refine condC_dec (fun _ => ?_) (fun _ => ?_) <;> simp -implicitDefEqProofs [*, EQS, hw, Item.row]) | (with_reducible refine condC_ndec (fun _ => ?_) (fun _ => ?_) <;> simp -implicitDefEqProofs [*, EQS, hw, Item.row]) | (with_reducible refine condC_and (fun hq => ?_) (fun hq => ?_) <;> (try simp at hq) <;> simp -implicitDefEqProofs [*, EQS, hw, Item.row]) | (with_reducible refine condC_or (fun hq => ?_) (fun hq => ?_) <;> (try simp at hq) <;> simp -implicitDefEqProofs [*, EQS, hw, Item.row]) | (with_reducible refine condC_not (fun hq => ?_) (fun hq => ?_) <;> (try simp at hq) <;> simp -implicitDefEqProofs [*, EQS, hw, Item.row]) | (with_reducible refine condC_split (fun hq => ?_) (fun hq => ?_) <;> (try simp at hq) <;> simp -implicitDefEqProofs [*, EQS, hw, Item.row]) | (refine appK2_if (by omega) ?_; simp -implicitDefEqProofs [*, EQS, hw, Item.row]) | (refine pureV_if (by omega) ?_; simp -implicitDefEqProofs [*, EQS, hw, Item.row]))
    all_goals (obtain ⟨_, _, _, _, _⟩ := a; obtain ⟨_, _, _, _, _⟩ := b; grind)
  · rintro ⟨fr, bs⟩ ⟨rfl, h6⟩
    simp -implicitDefEqProofs [*]
  · rintro ⟨fr, bs⟩ h
    simp -implicitDefEqProofs [h.1, h.2]
theorem law_SameTolds (xs ys : List Told) (hl : xs.length ≤ cap) : Den PP 16 [toldsD xs, toldsD ys] [] (.bool (decide (xs = ys))) [] := by
  refine den_of [] [] is_gimmallaw0_SameTolds ?_
  simp -implicitDefEqProofs [c_gimmallaw0_SameTolds, toldsD]
  refine condC_split (fun h => ?_) (fun h => ?_)
  · simp -implicitDefEqProofs
    grind
  have hlen : xs.length = ys.length := by simp at h; omega
  simp -implicitDefEqProofs
  refine list_rule xs (fun i rest => fun ⟨fr, bs⟩ => bs = [] ∧ fr 0 = .sl (xs.map Told.row) xs.length ∧ fr 1 = .sl (ys.map Told.row) ys.length ∧ fr 5 = .int .i64 i ∧ (rest = ys.drop i ↔ xs = ys))
    (fun ⟨fr, bs⟩ => bs = [] ∧ xs = ys) (fun ⟨fr, bs⟩ => fr 4 = .bool false ∧ ¬ xs = ys) c_gimmallaw0_SameTolds_L0.eq_1 ?_ ?_ ?_ ?_ ?_
  · exact ⟨rfl, rfl, rfl, rfl, by simp⟩
  · rintro i ⟨fr, bs⟩ hi ⟨rfl, h0, h1, h5, he⟩
    simp -implicitDefEqProofs [*]
    grind
  · rintro i a rest ⟨fr, bs⟩ hlt hget hg hd hd2 ⟨rfl, h0, h1, h5, he⟩
    have hlt' : (i : Int) < xs.length := by omega
    have hlt2 : i < ys.length := by omega
    have hlt3 : (i : Int) < ys.length := by omega
    have hw := wrap_next (n := i) (by unfold cap at hl; omega)
    rw [List.drop_eq_getElem_cons hlt2] at he
    generalize hy : ys[i] = b at he
    simp -implicitDefEqProofs [h0, h1, h5, hlt, hlt', hlt2, hlt3, hget, hg, hy, Told.row, EQS]
    repeat' (first | (with_reducible refine gOps_dec (fun _ => ?_) (fun _ => ?_) <;> simp -implicitDefEqProofs [*, EQS, hw, Told.row]) | (with_reducible refine gOps_ndec (fun _ => ?_) (fun _ => ?_) <;> simp -implicitDefEqProofs [*, EQS, hw, Told.row]) | (with_reducible refine gOps_and (fun hq => ?_) (fun hq => ?_) <;> (try simp at hq) <;> simp -implicitDefEqProofs [*, EQS, hw, Told.row]) | (with_reducible refine gOps_or (fun hq => ?_) (fun hq => ?_) <;> (try simp at hq) <;> simp -implicitDefEqProofs [*, EQS, hw, Told.row]) | (with_reducible refine gOps_not (fun hq => ?_) (fun hq => ?_) <;> (try simp at hq) <;> simp -implicitDefEqProofs [*, EQS, hw, Told.row]) | (with_reducible refine gOps_split (fun hq => ?_) (fun hq => ?_) <;> (try simp at hq) <;> simp -implicitDefEqProofs [*, EQS, hw, Told.row]) | (with_reducible refine condC_dec (fun _ => ?_) (fun _ => ?_) <;> simp -implicitDefEqProofs [*, EQS, hw, Told.row]) | (with_reducible refine condC_ndec (fun _ => ?_) (fun _ => ?_) <;> simp -implicitDefEqProofs [*, EQS, hw, Told.row]) | (with_reducible refine condC_and (fun hq => ?_) (fun hq => ?_) <;> (try simp at hq) <;> simp -implicitDefEqProofs [*, EQS, hw, Told.row]) | (with_reducible refine condC_or (fun hq => ?_) (fun hq => ?_) <;> (try simp at hq) <;> simp -implicitDefEqProofs [*, EQS, hw, Told.row]) | (with_reducible refine condC_not (fun hq => ?_) (fun hq => ?_) <;> (try simp at hq) <;> simp -implicitDefEqProofs [*, EQS, hw, Told.row]) | (with_reducible refine condC_split (fun hq => ?_) (fun hq => ?_) <;> (try simp at hq) <;> simp -implicitDefEqProofs [*, EQS, hw, Told.row]) | (refine appK2_if (by omega) ?_; simp -implicitDefEqProofs [*, EQS, hw, Told.row]) | (refine pureV_if (by omega) ?_; simp -implicitDefEqProofs [*, EQS, hw, Told.row]))
    all_goals (obtain ⟨_, _, _⟩ := a; obtain ⟨_, _, _⟩ := b; grind)
  · rintro ⟨fr, bs⟩ ⟨rfl, h6⟩
    simp -implicitDefEqProofs [*]
  · rintro ⟨fr, bs⟩ h
    simp -implicitDefEqProofs [h.1, h.2]
theorem law_SameNode (x y : Node) (hs : x.small) : Den PP 11 [nodeD x, nodeD y] [] (.bool (decide (x = y))) [] := by
  have c1 := law_SameView x.view y.view hs.1
  have c2 := law_SameItems x.items y.items (by have := hs.2.1; unfold cap; omega)
  have c3 := law_SameTolds x.log y.log (by have := hs.2.2; unfold cap; omega)
  simp only [viewD, View.cells, peersD, intsD, itemsD, toldsD] at c1 c2 c3
  refine den_of [] [] is_gimmallaw0_SameNode ?_
  simp -implicitDefEqProofs [c_gimmallaw0_SameNode, nodeD, Node.cells, peersD, intsD, itemsD, toldsD]
  refine gOps_split (fun h => ?_) (fun h => ?_)
  all_goals simp -implicitDefEqProofs [h]
  all_goals repeat' (first | (refine callThen_of (by first | exact c1 | exact c2 | exact c3) ?_; simp -implicitDefEqProofs [*]) | (with_reducible refine gOps_dec (fun _ => ?_) (fun _ => ?_) <;> simp -implicitDefEqProofs [*]) | (with_reducible refine gOps_ndec (fun _ => ?_) (fun _ => ?_) <;> simp -implicitDefEqProofs [*]) | (with_reducible refine gOps_and (fun hq => ?_) (fun hq => ?_) <;> (try simp at hq) <;> simp -implicitDefEqProofs [*]) | (with_reducible refine gOps_or (fun hq => ?_) (fun hq => ?_) <;> (try simp at hq) <;> simp -implicitDefEqProofs [*]) | (with_reducible refine gOps_not (fun hq => ?_) (fun hq => ?_) <;> (try simp at hq) <;> simp -implicitDefEqProofs [*]) | (with_reducible refine gOps_split (fun hq => ?_) (fun hq => ?_) <;> (try simp at hq) <;> simp -implicitDefEqProofs [*]) | (with_reducible refine condC_dec (fun _ => ?_) (fun _ => ?_) <;> simp -implicitDefEqProofs [*]) | (with_reducible refine condC_ndec (fun _ => ?_) (fun _ => ?_) <;> simp -implicitDefEqProofs [*]) | (with_reducible refine condC_and (fun hq => ?_) (fun hq => ?_) <;> (try simp at hq) <;> simp -implicitDefEqProofs [*]) | (with_reducible refine condC_or (fun hq => ?_) (fun hq => ?_) <;> (try simp at hq) <;> simp -implicitDefEqProofs [*]) | (with_reducible refine condC_not (fun hq => ?_) (fun hq => ?_) <;> (try simp at hq) <;> simp -implicitDefEqProofs [*]) | (with_reducible refine condC_split (fun hq => ?_) (fun hq => ?_) <;> (try simp at hq) <;> simp -implicitDefEqProofs [*]) | (refine appK2_if (by omega) ?_; simp -implicitDefEqProofs [*]) | (refine pureV_if (by omega) ?_; simp -implicitDefEqProofs [*]))
  all_goals (obtain ⟨_, _, _, _⟩ := x; obtain ⟨_, _, _, _⟩ := y; grind)
end Go.AM
/- AM: contracts: what the statements' helpers do with slices. -/
namespace Go.AM
set_option linter.unusedSimpArgs false
set_option linter.unusedVariables false
set_option maxRecDepth 8000
set_option maxHeartbeats 0
end Go.AM
/- AM: contracts: the document's best, its put; what a node takes. -/
namespace Go.AM
set_option linter.unusedSimpArgs false
set_option linter.unusedVariables false
set_option maxRecDepth 8000
set_option maxHeartbeats 0
def newerR (a b : Item) : Bool × Int := if verMay a.count a.writer && verMay b.count b.writer then (decide (b.count < a.count) || decide (a.count = b.count) && decide (b.writer < a.writer), 0) else (false, 300)
def bestR (a b : Item) : Item × Int := if itemMay a && (itemMay b && decide (a.key = b.key)) then (bestI a b, 0) else (zeroItem, 400)
end Go.AM
/- AM: contracts: the best of two, a store's item, its put. -/
namespace Go.AM
set_option linter.unusedSimpArgs false
set_option linter.unusedVariables false
set_option maxRecDepth 8000
set_option maxHeartbeats 0
theorem version_Newer (a b : Item) : Den PP 96 [.agg [.int .i64 a.count, .int .i64 a.writer], .agg [.int .i64 b.count, .int .i64 b.writer]] [] (.tup [.bool (newerR a b).1, .int .i64 (newerR a b).2]) [] := by
  refine den_of [] [] is_version_Newer ?_
  simp -implicitDefEqProofs [c_version_Newer]
  repeat' (first | (refine callThen_of (by first | exact version_May _ _) ?_; simp -implicitDefEqProofs [*, newerR]) | (with_reducible refine gOps_dec (fun _ => ?_) (fun _ => ?_) <;> simp -implicitDefEqProofs [*, newerR]) | (with_reducible refine gOps_ndec (fun _ => ?_) (fun _ => ?_) <;> simp -implicitDefEqProofs [*, newerR]) | (with_reducible refine gOps_and (fun hq => ?_) (fun hq => ?_) <;> (try simp at hq) <;> simp -implicitDefEqProofs [*, newerR]) | (with_reducible refine gOps_or (fun hq => ?_) (fun hq => ?_) <;> (try simp at hq) <;> simp -implicitDefEqProofs [*, newerR]) | (with_reducible refine gOps_not (fun hq => ?_) (fun hq => ?_) <;> (try simp at hq) <;> simp -implicitDefEqProofs [*, newerR]) | (with_reducible refine gOps_split (fun hq => ?_) (fun hq => ?_) <;> (try simp at hq) <;> simp -implicitDefEqProofs [*, newerR]) | (with_reducible refine condC_dec (fun _ => ?_) (fun _ => ?_) <;> simp -implicitDefEqProofs [*, newerR]) | (with_reducible refine condC_ndec (fun _ => ?_) (fun _ => ?_) <;> simp -implicitDefEqProofs [*, newerR]) | (with_reducible refine condC_and (fun hq => ?_) (fun hq => ?_) <;> (try simp at hq) <;> simp -implicitDefEqProofs [*, newerR]) | (with_reducible refine condC_or (fun hq => ?_) (fun hq => ?_) <;> (try simp at hq) <;> simp -implicitDefEqProofs [*, newerR]) | (with_reducible refine condC_not (fun hq => ?_) (fun hq => ?_) <;> (try simp at hq) <;> simp -implicitDefEqProofs [*, newerR]) | (with_reducible refine condC_split (fun hq => ?_) (fun hq => ?_) <;> (try simp at hq) <;> simp -implicitDefEqProofs [*, newerR]) | (refine appK2_if (by omega) ?_; simp -implicitDefEqProofs [*, newerR]) | (refine pureV_if (by omega) ?_; simp -implicitDefEqProofs [*, newerR]))
theorem item_better (a b : Item) (ha : verMay a.count a.writer = true) (hb : verMay b.count b.writer = true) : Den PP 90 [.mem a.row, .mem b.row] [] (.bool (better a b)) [] := by
  have c1 := version_Newer a b
  simp only [newerR, ha, hb, Bool.and_self, if_true] at c1
  obtain ⟨ak, ac, aw, av, ag⟩ := a
  obtain ⟨bk, bc, bw, bv, bg⟩ := b
  simp only [Item.row, better] at c1 ⊢
  clear ha hb
  refine den_of [] [] is_item_better ?_
  by_cases h1 : ac = bc
  · subst h1
    by_cases h2 : aw = bw
    · subst h2
      clear c1
      cases ag <;> cases bg
      all_goals simp -implicitDefEqProofs [c_item_better, EQS]
    · have h3 : decide (bw < aw) = (decide (bw < aw) || false) := by simp
      simp -implicitDefEqProofs [c_item_better, EQS, h2]
      simp at c1
      refine callThen_of c1 ?_
      simp -implicitDefEqProofs [EQS, h2]
  · simp -implicitDefEqProofs [c_item_better, EQS, h1]
    simp [h1] at c1
    refine callThen_of c1 ?_
    simp -implicitDefEqProofs [EQS, h1]
theorem item_Best (a b : Item) : Den PP 79 [.agg a.row, .agg b.row] [] (.tup [.agg (bestR a b).1.row, .int .i64 (bestR a b).2]) [] := by
  have c1 := item_May a
  have c2 := item_May b
  have c3 := fun h1 h2 => item_better a b h1 h2
  have hv : itemMay a = true → verMay a.count a.writer = true := by
    intro h; simp only [itemMay, Bool.and_eq_true] at h; exact h.1.2
  have hw : itemMay b = true → verMay b.count b.writer = true := by
    intro h; simp only [itemMay, Bool.and_eq_true] at h; exact h.1.2
  have hbr : bestR a b = if itemMay a && (itemMay b && decide (a.key = b.key)) then (bestI a b, 0) else (zeroItem, 400) := rfl
  obtain ⟨A, hA⟩ : ∃ A, itemMay a = A := ⟨_, rfl⟩
  obtain ⟨B, hB⟩ : ∃ B, itemMay b = B := ⟨_, rfl⟩
  rw [hA] at c1 hv hbr
  rw [hB] at c2 hw hbr
  obtain ⟨r, hr⟩ : ∃ r, bestR a b = r := ⟨_, rfl⟩
  rw [hr] at hbr ⊢
  unfold bestI at hbr
  obtain ⟨q, hq⟩ : ∃ q, better a b = q := ⟨_, rfl⟩
  rw [hq] at c3 hbr
  obtain ⟨ak, ac, aw, av, ag⟩ := a
  obtain ⟨bk, bc, bw, bv, bg⟩ := b
  simp only [Item.row] at c1 c2 c3 hv hw hbr ⊢
  clear hA hB hr hq
  refine den_of [] [] is_item_Best ?_
  cases A <;> cases B
  case true.true =>
    have c3' := c3 (hv rfl) (hw rfl)
    clear c3 hv hw
    by_cases hk : ak = bk
    · subst hk
      cases q
      all_goals
        simp at hbr
        subst hbr
        simp -implicitDefEqProofs [c_item_Best]
        repeat' (first | (refine callThen_of (by first | exact c1 | exact c2 | exact c3') ?_; simp -implicitDefEqProofs [*]) | (with_reducible refine gOps_dec (fun _ => ?_) (fun _ => ?_) <;> simp -implicitDefEqProofs [*]) | (with_reducible refine gOps_ndec (fun _ => ?_) (fun _ => ?_) <;> simp -implicitDefEqProofs [*]) | (with_reducible refine gOps_and (fun hq => ?_) (fun hq => ?_) <;> (try simp at hq) <;> simp -implicitDefEqProofs [*]) | (with_reducible refine gOps_or (fun hq => ?_) (fun hq => ?_) <;> (try simp at hq) <;> simp -implicitDefEqProofs [*]) | (with_reducible refine gOps_not (fun hq => ?_) (fun hq => ?_) <;> (try simp at hq) <;> simp -implicitDefEqProofs [*]) | (with_reducible refine gOps_split (fun hq => ?_) (fun hq => ?_) <;> (try simp at hq) <;> simp -implicitDefEqProofs [*]) | (with_reducible refine condC_dec (fun _ => ?_) (fun _ => ?_) <;> simp -implicitDefEqProofs [*]) | (with_reducible refine condC_ndec (fun _ => ?_) (fun _ => ?_) <;> simp -implicitDefEqProofs [*]) | (with_reducible refine condC_and (fun hq => ?_) (fun hq => ?_) <;> (try simp at hq) <;> simp -implicitDefEqProofs [*]) | (with_reducible refine condC_or (fun hq => ?_) (fun hq => ?_) <;> (try simp at hq) <;> simp -implicitDefEqProofs [*]) | (with_reducible refine condC_not (fun hq => ?_) (fun hq => ?_) <;> (try simp at hq) <;> simp -implicitDefEqProofs [*]) | (with_reducible refine condC_split (fun hq => ?_) (fun hq => ?_) <;> (try simp at hq) <;> simp -implicitDefEqProofs [*]) | (refine appK2_if (by omega) ?_; simp -implicitDefEqProofs [*]) | (refine pureV_if (by omega) ?_; simp -implicitDefEqProofs [*]))
    · simp [hk] at hbr
      subst hbr
      simp -implicitDefEqProofs [c_item_Best, zeroItem]
      repeat' (first | (refine callThen_of (by first | exact c1 | exact c2) ?_; simp -implicitDefEqProofs [*, hk]) | (with_reducible refine gOps_dec (fun _ => ?_) (fun _ => ?_) <;> simp -implicitDefEqProofs [*, hk]) | (with_reducible refine gOps_ndec (fun _ => ?_) (fun _ => ?_) <;> simp -implicitDefEqProofs [*, hk]) | (with_reducible refine gOps_and (fun hq => ?_) (fun hq => ?_) <;> (try simp at hq) <;> simp -implicitDefEqProofs [*, hk]) | (with_reducible refine gOps_or (fun hq => ?_) (fun hq => ?_) <;> (try simp at hq) <;> simp -implicitDefEqProofs [*, hk]) | (with_reducible refine gOps_not (fun hq => ?_) (fun hq => ?_) <;> (try simp at hq) <;> simp -implicitDefEqProofs [*, hk]) | (with_reducible refine gOps_split (fun hq => ?_) (fun hq => ?_) <;> (try simp at hq) <;> simp -implicitDefEqProofs [*, hk]) | (with_reducible refine condC_dec (fun _ => ?_) (fun _ => ?_) <;> simp -implicitDefEqProofs [*, hk]) | (with_reducible refine condC_ndec (fun _ => ?_) (fun _ => ?_) <;> simp -implicitDefEqProofs [*, hk]) | (with_reducible refine condC_and (fun hq => ?_) (fun hq => ?_) <;> (try simp at hq) <;> simp -implicitDefEqProofs [*, hk]) | (with_reducible refine condC_or (fun hq => ?_) (fun hq => ?_) <;> (try simp at hq) <;> simp -implicitDefEqProofs [*, hk]) | (with_reducible refine condC_not (fun hq => ?_) (fun hq => ?_) <;> (try simp at hq) <;> simp -implicitDefEqProofs [*, hk]) | (with_reducible refine condC_split (fun hq => ?_) (fun hq => ?_) <;> (try simp at hq) <;> simp -implicitDefEqProofs [*, hk]) | (refine appK2_if (by omega) ?_; simp -implicitDefEqProofs [*, hk]) | (refine pureV_if (by omega) ?_; simp -implicitDefEqProofs [*, hk]))
  all_goals
    clear c3 hv hw
    simp at hbr
    subst hbr
    simp -implicitDefEqProofs [c_item_Best, zeroItem]
    repeat' (first | (refine callThen_of (by first | exact c1 | exact c2) ?_; simp -implicitDefEqProofs [*]) | (with_reducible refine gOps_dec (fun _ => ?_) (fun _ => ?_) <;> simp -implicitDefEqProofs [*]) | (with_reducible refine gOps_ndec (fun _ => ?_) (fun _ => ?_) <;> simp -implicitDefEqProofs [*]) | (with_reducible refine gOps_and (fun hq => ?_) (fun hq => ?_) <;> (try simp at hq) <;> simp -implicitDefEqProofs [*]) | (with_reducible refine gOps_or (fun hq => ?_) (fun hq => ?_) <;> (try simp at hq) <;> simp -implicitDefEqProofs [*]) | (with_reducible refine gOps_not (fun hq => ?_) (fun hq => ?_) <;> (try simp at hq) <;> simp -implicitDefEqProofs [*]) | (with_reducible refine gOps_split (fun hq => ?_) (fun hq => ?_) <;> (try simp at hq) <;> simp -implicitDefEqProofs [*]) | (with_reducible refine condC_dec (fun _ => ?_) (fun _ => ?_) <;> simp -implicitDefEqProofs [*]) | (with_reducible refine condC_ndec (fun _ => ?_) (fun _ => ?_) <;> simp -implicitDefEqProofs [*]) | (with_reducible refine condC_and (fun hq => ?_) (fun hq => ?_) <;> (try simp at hq) <;> simp -implicitDefEqProofs [*]) | (with_reducible refine condC_or (fun hq => ?_) (fun hq => ?_) <;> (try simp at hq) <;> simp -implicitDefEqProofs [*]) | (with_reducible refine condC_not (fun hq => ?_) (fun hq => ?_) <;> (try simp at hq) <;> simp -implicitDefEqProofs [*]) | (with_reducible refine condC_split (fun hq => ?_) (fun hq => ?_) <;> (try simp at hq) <;> simp -implicitDefEqProofs [*]) | (refine appK2_if (by omega) ?_; simp -implicitDefEqProofs [*]) | (refine pureV_if (by omega) ?_; simp -implicitDefEqProofs [*]))
theorem store_byKey (x : Item) (k : Int) : Den PP 78 [.agg x.row, .int .i64 k] [] (.int .i64 (keyC k x)) [] := by
  refine den_of [] [] is_store_byKey ?_
  simp -implicitDefEqProofs [c_store_byKey, Item.row, keyC]
  repeat' (first | (refine callThen_of (by first | exact cmp_Compare _ _) ?_; simp -implicitDefEqProofs [*]) | (with_reducible refine gOps_dec (fun _ => ?_) (fun _ => ?_) <;> simp -implicitDefEqProofs [*]) | (with_reducible refine gOps_ndec (fun _ => ?_) (fun _ => ?_) <;> simp -implicitDefEqProofs [*]) | (with_reducible refine gOps_and (fun hq => ?_) (fun hq => ?_) <;> (try simp at hq) <;> simp -implicitDefEqProofs [*]) | (with_reducible refine gOps_or (fun hq => ?_) (fun hq => ?_) <;> (try simp at hq) <;> simp -implicitDefEqProofs [*]) | (with_reducible refine gOps_not (fun hq => ?_) (fun hq => ?_) <;> (try simp at hq) <;> simp -implicitDefEqProofs [*]) | (with_reducible refine gOps_split (fun hq => ?_) (fun hq => ?_) <;> (try simp at hq) <;> simp -implicitDefEqProofs [*]) | (with_reducible refine condC_dec (fun _ => ?_) (fun _ => ?_) <;> simp -implicitDefEqProofs [*]) | (with_reducible refine condC_ndec (fun _ => ?_) (fun _ => ?_) <;> simp -implicitDefEqProofs [*]) | (with_reducible refine condC_and (fun hq => ?_) (fun hq => ?_) <;> (try simp at hq) <;> simp -implicitDefEqProofs [*]) | (with_reducible refine condC_or (fun hq => ?_) (fun hq => ?_) <;> (try simp at hq) <;> simp -implicitDefEqProofs [*]) | (with_reducible refine condC_not (fun hq => ?_) (fun hq => ?_) <;> (try simp at hq) <;> simp -implicitDefEqProofs [*]) | (with_reducible refine condC_split (fun hq => ?_) (fun hq => ?_) <;> (try simp at hq) <;> simp -implicitDefEqProofs [*]) | (refine appK2_if (by omega) ?_; simp -implicitDefEqProofs [*]) | (refine pureV_if (by omega) ?_; simp -implicitDefEqProofs [*]))
theorem store_Get (is : List Item) (k : Int) (hl : is.length ≤ cap16) : Den PP 64 [itemsD is, .int .i64 k] [] (.tup [.agg (getR is k).1.row, .bool (getR is k).2]) [] := by
  have c1 := store_May is hl
  have c2 := fun h => bsearch_Item is 78 k (keyC k) (fun x _ => store_byKey x k) (by unfold cap; unfold cap16 at hl; omega) h
  simp only [itemsD] at c1
  refine den_of [] [] is_store_Get ?_
  simp -implicitDefEqProofs [c_store_Get, itemsD]
  refine callThen_of c1 ?_
  simp -implicitDefEqProofs
  refine condC_not (fun h1 => ?_) (fun h1 => ?_)
  rotate_left
  · simp -implicitDefEqProofs [h1, getR, zeroItem, Item.row]
  obtain ⟨hm, hr, h16⟩ := (storeMay_iff is).1 h1
  have hg := getS_at hr k
  have hat := fun h => atC_true (c := keyC k) (xs := is) h
  have c3 := c2 (mono_key hr k)
  clear c2 c1
  generalize atC (keyC k) is = A at *
  generalize posC (keyC k) is = p at *
  simp -implicitDefEqProofs [h1]
  refine callThen_of c3 ?_
  cases A with
  | false =>
    simp -implicitDefEqProofs [h1, hg, getR, zeroItem, Item.row]
  | true =>
    obtain ⟨hlt, x, hx, hx0⟩ := hat rfl
    have hlt' : (p : Int) < is.length := by omega
    simp at hg
    rw [hx] at hg
    have hxr : (is.map Item.row)[p]? = some x.row := by simp [hx]
    have hx2 : is[p] = x := by simpa [hlt] using hx
    simp -implicitDefEqProofs [h1, hg, getR, hlt', hlt, hx2, Item.row]
end Go.AM
/- AM: contracts: a store's put. -/
namespace Go.AM
set_option linter.unusedSimpArgs false
set_option linter.unusedVariables false
set_option maxRecDepth 8000
set_option maxHeartbeats 0
theorem row_still (i : Item) : ∀ d ∈ i.row, d.still = true := by
  intro d hd
  simp [Item.row] at hd
  rcases hd with rfl | rfl | rfl | rfl | rfl <;> rfl
theorem store_Put (is : List Item) (x : Item) (hl : is.length ≤ cap16) : Den PP 62 [itemsD is, .agg x.row] [] (.tup [.ref 0 0 (putR is x).1.length, .int .i64 (putR is x).2]) [⟨(putR is x).1.map Item.row, 5, .mut⟩] := by
  have c1 := store_May is hl
  have c0 := item_May x
  have c2 := fun h : is.length ≤ 16 => clone_Item (is.map Item.row) (by intro r hr; obtain ⟨a, _, rfl⟩ := List.mem_map.1 hr; exact ⟨rfl, rfl⟩) (by simp; omega)
  have c3 := fun h => bsearch_Item is 78 x.key (keyC x.key) (fun y _ => store_byKey y x.key) (by unfold cap; unfold cap16 at hl; omega) h
  obtain ⟨r, hr⟩ : ∃ r, putR is x = r := ⟨_, rfl⟩
  have hr' := hr
  unfold putR at hr'
  rw [hr]
  clear hr
  simp only [itemsD, Item.row, List.length_map] at c0 c1 c2
  refine den_ofG [18, 26] [26] [26] [] (fun _ h => absurd h List.not_mem_nil) is_store_Put ?_
  simp -implicitDefEqProofs [c_store_Put, itemsD, Item.row]
  refine callThen_of c1 ?_
  simp -implicitDefEqProofs
  cases h1 : storeMay is with
  | false =>
    rw [h1] at hr'
    simp at hr'
    subst hr'
    simp -implicitDefEqProofs
  | true =>
  cases h2 : itemMay x with
  | false =>
    rw [h2] at hr' c0
    simp at hr'
    subst hr'
    simp -implicitDefEqProofs
    repeat' (first | (refine callThen_of (by first | exact c0) ?_; simp -implicitDefEqProofs [*]) | (with_reducible refine gOps_dec (fun _ => ?_) (fun _ => ?_) <;> simp -implicitDefEqProofs [*]) | (with_reducible refine gOps_ndec (fun _ => ?_) (fun _ => ?_) <;> simp -implicitDefEqProofs [*]) | (with_reducible refine gOps_and (fun hq => ?_) (fun hq => ?_) <;> (try simp at hq) <;> simp -implicitDefEqProofs [*]) | (with_reducible refine gOps_or (fun hq => ?_) (fun hq => ?_) <;> (try simp at hq) <;> simp -implicitDefEqProofs [*]) | (with_reducible refine gOps_not (fun hq => ?_) (fun hq => ?_) <;> (try simp at hq) <;> simp -implicitDefEqProofs [*]) | (with_reducible refine gOps_split (fun hq => ?_) (fun hq => ?_) <;> (try simp at hq) <;> simp -implicitDefEqProofs [*]) | (with_reducible refine condC_dec (fun _ => ?_) (fun _ => ?_) <;> simp -implicitDefEqProofs [*]) | (with_reducible refine condC_ndec (fun _ => ?_) (fun _ => ?_) <;> simp -implicitDefEqProofs [*]) | (with_reducible refine condC_and (fun hq => ?_) (fun hq => ?_) <;> (try simp at hq) <;> simp -implicitDefEqProofs [*]) | (with_reducible refine condC_or (fun hq => ?_) (fun hq => ?_) <;> (try simp at hq) <;> simp -implicitDefEqProofs [*]) | (with_reducible refine condC_not (fun hq => ?_) (fun hq => ?_) <;> (try simp at hq) <;> simp -implicitDefEqProofs [*]) | (with_reducible refine condC_split (fun hq => ?_) (fun hq => ?_) <;> (try simp at hq) <;> simp -implicitDefEqProofs [*]) | (refine appK2_if (by omega) ?_; simp -implicitDefEqProofs [*]) | (refine pureV_if (by omega) ?_; simp -implicitDefEqProofs [*]))
  | true =>
  obtain ⟨hm, hri, h16⟩ := (storeMay_iff is).1 h1
  rw [h1, h2] at hr'
  rw [h2] at c0
  have hlen := putS_length x is hri
  have hg := getS_at hri x.key
  obtain ⟨hp1, hp2⟩ := putS_at x is
  have hat := fun h => atC_true (c := keyC x.key) (xs := is) h
  have hple := posC_le (keyC x.key) is
  have c4 := c3 (mono_key hri x.key)
  clear c3
  generalize atC (keyC x.key) is = A at *
  generalize posC (keyC x.key) is = p at *
  simp -implicitDefEqProofs
  refine callThen_of c0 ?_
  simp -implicitDefEqProofs
  refine callThen_of (c2 h16) ?_
  simp -implicitDefEqProofs [downTo]
  refine callThen_of c4 ?_
  simp -implicitDefEqProofs [downTo]
  cases A with
  | true =>
    obtain ⟨hlt, y, hy, hy0⟩ := hat rfl
    have hmy := hm y (List.mem_of_getElem? hy)
    have hky : y.key = x.key := by simpa [keyC, cmpI_eq] using hy0
    have c5 := item_Best y x
    have hbr : bestR y x = (bestI y x, 0) := by simp [bestR, hmy, h2, hky]
    have hput := hp1 y hy rfl
    rw [hbr] at c5
    have hr2 : r = (is.set p (bestI y x), 0) := by
      rw [← hr', hput]
      simp [h16]
    subst hr2
    have hlt' : (p : Int) < is.length := by omega
    have hy2 : is[p] = y := by simpa [hlt] using hy
    generalize bestI y x = b at *
    simp only [Item.row] at c5
    clear hr' hput hbr hg hp1 hp2 hat hlen c4 hm hri
    simp -implicitDefEqProofs [hlt, hlt', hy2, Item.row]
    refine callThen_of c5 ?_
    simp -implicitDefEqProofs [hlt, hlt', hy2, Item.row]
  | false =>
    have hput := hp2 rfl
    simp at hg
    rw [hg] at hlen
    simp at hlen
    rw [hput] at hr' hlen
    by_cases h5 : is.length = 16
    · have hr2 : r = ([], 501) := by
        rw [← hr']
        simp [h5]
      subst hr2
      clear hr' hput hg hp1 hp2 hat hlen c4 hm hri
      simp -implicitDefEqProofs [h5]
    · have hr2 : r = (insL is p x, 0) := by
        rw [← hr']
        simp
        omega
      subst hr2
      clear hr' hput hg hp1 hp2 hat hlen c4 hm hri
      have h5' : ¬ (is.length : Int) = 16 := by omega
      simp -implicitDefEqProofs [h5']
      refine giveThen_of rfl (by simp) (by simp) (by simp) (insert_Item (is.map Item.row) x.row p (by simp [Item.row]) (StillR.map _ _ fun a _ => row_still a) (by intro r hr; rw [List.mem_singleton.1 hr]; exact ⟨rfl, rfl⟩) (row_still x) (by simpa using hple) (by simp; omega)) ?_
      rw [← insL_map]
      simp -implicitDefEqProofs [downTo]
end Go.AM
/- AM: contracts: what chapter 9's statements build on. -/
namespace Go.AM
set_option linter.unusedSimpArgs false
set_option linter.unusedVariables false
set_option maxRecDepth 8000
set_option maxHeartbeats 0
end Go.AM
/- AM: contracts: the document's nodes and sharing; chapter 18's helpers. -/
namespace Go.AM
set_option linter.unusedSimpArgs false
set_option linter.unusedVariables false
set_option maxRecDepth 8000
set_option maxHeartbeats 0
theorem ref_NodeMay (x : Node) (hs : x.small) : Den PP 13 [nodeD x] [] (.bool (nodeMay x)) [] := by
  obtain ⟨h1, h2, h3⟩ := hs
  have c1 := ref_ViewMay' x.view h1
  have c2 := ref_StoreMay x.items (by unfold cap16; omega)
  obtain ⟨A, hA⟩ : ∃ A, x.log.any toldOdd = A := ⟨_, rfl⟩
  simp only [viewD, View.cells, peersD, intsD, itemsD, toldsD] at c1 c2
  obtain ⟨hp, hq⟩ := h1
  unfold cap16 at hp
  unfold cap at hq
  have w1 : IntKind.wrap .i64 ((x.view.peers.length : Int) + x.view.passive.length) = x.view.peers.length + x.view.passive.length := wrap_in (by omega) (by omega)
  have w2 : IntKind.wrap .i64 ((x.view.peers.length : Int) + x.view.passive.length + x.items.length) = x.view.peers.length + x.view.passive.length + x.items.length := wrap_in (by omega) (by omega)
  have w3 : IntKind.wrap .i64 ((x.view.peers.length : Int) + x.view.passive.length + x.items.length + x.log.length) = x.view.peers.length + x.view.passive.length + x.items.length + x.log.length := wrap_in (by omega) (by omega)
  refine den_of [] [] is_gimmalref16_NodeMay ?_
  cases hu : x.up with
  | false =>
    have hm : nodeMay x = (emptyN x && place x.view.id) := by
      cases he : emptyN x with
      | false => simp [nodeMay, hu, he]
      | true =>
        simp only [emptyN, decide_eq_true_eq] at he
        have e1 : x.view.peers = [] := List.eq_nil_of_length_eq_zero (by omega)
        have e2 : x.view.passive = [] := List.eq_nil_of_length_eq_zero (by omega)
        have e3 : x.items = [] := List.eq_nil_of_length_eq_zero (by omega)
        have e4 : x.log = [] := List.eq_nil_of_length_eq_zero (by omega)
        simp [nodeMay, emptyN, hu, e1, e2, e3, e4, viewMay, peersMay, peersOk, passiveMay, ups, storeMay, itemsOk]
    simp -implicitDefEqProofs [c_gimmalref16_NodeMay, nodeD, Node.cells, peersD, intsD, itemsD, toldsD, hu]
    repeat' (first | (refine callThen_of (by first | exact ref_PlaceMay _) ?_; simp -implicitDefEqProofs [*, w1, w2, w3]) | (with_reducible refine gOps_dec (fun _ => ?_) (fun _ => ?_) <;> simp -implicitDefEqProofs [*, w1, w2, w3]) | (with_reducible refine gOps_ndec (fun _ => ?_) (fun _ => ?_) <;> simp -implicitDefEqProofs [*, w1, w2, w3]) | (with_reducible refine gOps_and (fun hq => ?_) (fun hq => ?_) <;> (try simp at hq) <;> simp -implicitDefEqProofs [*, w1, w2, w3]) | (with_reducible refine gOps_or (fun hq => ?_) (fun hq => ?_) <;> (try simp at hq) <;> simp -implicitDefEqProofs [*, w1, w2, w3]) | (with_reducible refine gOps_not (fun hq => ?_) (fun hq => ?_) <;> (try simp at hq) <;> simp -implicitDefEqProofs [*, w1, w2, w3]) | (with_reducible refine gOps_split (fun hq => ?_) (fun hq => ?_) <;> (try simp at hq) <;> simp -implicitDefEqProofs [*, w1, w2, w3]) | (with_reducible refine condC_dec (fun _ => ?_) (fun _ => ?_) <;> simp -implicitDefEqProofs [*, w1, w2, w3]) | (with_reducible refine condC_ndec (fun _ => ?_) (fun _ => ?_) <;> simp -implicitDefEqProofs [*, w1, w2, w3]) | (with_reducible refine condC_and (fun hq => ?_) (fun hq => ?_) <;> (try simp at hq) <;> simp -implicitDefEqProofs [*, w1, w2, w3]) | (with_reducible refine condC_or (fun hq => ?_) (fun hq => ?_) <;> (try simp at hq) <;> simp -implicitDefEqProofs [*, w1, w2, w3]) | (with_reducible refine condC_not (fun hq => ?_) (fun hq => ?_) <;> (try simp at hq) <;> simp -implicitDefEqProofs [*, w1, w2, w3]) | (with_reducible refine condC_split (fun hq => ?_) (fun hq => ?_) <;> (try simp at hq) <;> simp -implicitDefEqProofs [*, w1, w2, w3]) | (refine appK2_if (by omega) ?_; simp -implicitDefEqProofs [*, w1, w2, w3]) | (refine pureV_if (by omega) ?_; simp -implicitDefEqProofs [*, w1, w2, w3]))
    all_goals grind [emptyN]
  | true =>
    simp -implicitDefEqProofs [c_gimmalref16_NodeMay, nodeD, Node.cells, peersD, intsD, itemsD, toldsD, hu]
    refine list_rule x.log (fun i rest => fun ⟨fr, bs⟩ => bs = [⟨[x.cells], 6, .box⟩] ∧ fr 1 = .ptr 0 0 0 ∧ fr 3 = .int .i64 i ∧ rest.any toldOdd = A)
      (fun ⟨fr, bs⟩ => bs = [⟨[x.cells], 6, .box⟩] ∧ fr 1 = .ptr 0 0 0 ∧ A = false) (fun ⟨fr, bs⟩ => fr 2 = .bool false ∧ A = true) c_gimmalref16_NodeMay_L0.eq_1 ?_ ?_ ?_ ?_ ?_
    · refine ⟨?_, rfl, rfl, hA⟩
      simp [Node.cells, hu, peersD, intsD, itemsD, toldsD]
    · rintro i ⟨fr, bs⟩ hi ⟨rfl, h1, h3, he⟩
      simp -implicitDefEqProofs [h1, h3, hi, Node.cells, toldsD]
      simpa using he.symm
    · rintro i a rest ⟨fr, bs⟩ hlt hget hg hd hd2 ⟨rfl, h1, h3, he⟩
      have hlt' : (i : Int) < x.log.length := by omega
      have hw := wrap_next (n := i) (by omega)
      have hodd : toldOdd a = (!byte a.key || !byte a.value || (!a.has && !decide (a.value = 0))) := rfl
      simp -implicitDefEqProofs [h1, h3, hlt, hlt', hget, hg, Node.cells, peersD, intsD, itemsD, toldsD, Told.row]
      repeat' (first | (refine callThen_of (by first | exact ref16_byteMay _) ?_; simp -implicitDefEqProofs [*, Node.cells, peersD, intsD, itemsD, toldsD, Told.row, hw]) | (with_reducible refine gOps_dec (fun _ => ?_) (fun _ => ?_) <;> simp -implicitDefEqProofs [*, Node.cells, peersD, intsD, itemsD, toldsD, Told.row, hw]) | (with_reducible refine gOps_ndec (fun _ => ?_) (fun _ => ?_) <;> simp -implicitDefEqProofs [*, Node.cells, peersD, intsD, itemsD, toldsD, Told.row, hw]) | (with_reducible refine gOps_and (fun hq => ?_) (fun hq => ?_) <;> (try simp at hq) <;> simp -implicitDefEqProofs [*, Node.cells, peersD, intsD, itemsD, toldsD, Told.row, hw]) | (with_reducible refine gOps_or (fun hq => ?_) (fun hq => ?_) <;> (try simp at hq) <;> simp -implicitDefEqProofs [*, Node.cells, peersD, intsD, itemsD, toldsD, Told.row, hw]) | (with_reducible refine gOps_not (fun hq => ?_) (fun hq => ?_) <;> (try simp at hq) <;> simp -implicitDefEqProofs [*, Node.cells, peersD, intsD, itemsD, toldsD, Told.row, hw]) | (with_reducible refine gOps_split (fun hq => ?_) (fun hq => ?_) <;> (try simp at hq) <;> simp -implicitDefEqProofs [*, Node.cells, peersD, intsD, itemsD, toldsD, Told.row, hw]) | (with_reducible refine condC_dec (fun _ => ?_) (fun _ => ?_) <;> simp -implicitDefEqProofs [*, Node.cells, peersD, intsD, itemsD, toldsD, Told.row, hw]) | (with_reducible refine condC_ndec (fun _ => ?_) (fun _ => ?_) <;> simp -implicitDefEqProofs [*, Node.cells, peersD, intsD, itemsD, toldsD, Told.row, hw]) | (with_reducible refine condC_and (fun hq => ?_) (fun hq => ?_) <;> (try simp at hq) <;> simp -implicitDefEqProofs [*, Node.cells, peersD, intsD, itemsD, toldsD, Told.row, hw]) | (with_reducible refine condC_or (fun hq => ?_) (fun hq => ?_) <;> (try simp at hq) <;> simp -implicitDefEqProofs [*, Node.cells, peersD, intsD, itemsD, toldsD, Told.row, hw]) | (with_reducible refine condC_not (fun hq => ?_) (fun hq => ?_) <;> (try simp at hq) <;> simp -implicitDefEqProofs [*, Node.cells, peersD, intsD, itemsD, toldsD, Told.row, hw]) | (with_reducible refine condC_split (fun hq => ?_) (fun hq => ?_) <;> (try simp at hq) <;> simp -implicitDefEqProofs [*, Node.cells, peersD, intsD, itemsD, toldsD, Told.row, hw]) | (refine appK2_if (by omega) ?_; simp -implicitDefEqProofs [*, Node.cells, peersD, intsD, itemsD, toldsD, Told.row, hw]) | (refine pureV_if (by omega) ?_; simp -implicitDefEqProofs [*, Node.cells, peersD, intsD, itemsD, toldsD, Told.row, hw]))
      all_goals grind
    · rintro ⟨fr, bs⟩ ⟨rfl, h1, he⟩
      simp -implicitDefEqProofs [h1, he, Node.cells, peersD, intsD, itemsD, toldsD]
      repeat' (first | (refine callThen_of (by first | exact c1 | exact c2) ?_; simp -implicitDefEqProofs [*]) | (with_reducible refine gOps_dec (fun _ => ?_) (fun _ => ?_) <;> simp -implicitDefEqProofs [*]) | (with_reducible refine gOps_ndec (fun _ => ?_) (fun _ => ?_) <;> simp -implicitDefEqProofs [*]) | (with_reducible refine gOps_and (fun hq => ?_) (fun hq => ?_) <;> (try simp at hq) <;> simp -implicitDefEqProofs [*]) | (with_reducible refine gOps_or (fun hq => ?_) (fun hq => ?_) <;> (try simp at hq) <;> simp -implicitDefEqProofs [*]) | (with_reducible refine gOps_not (fun hq => ?_) (fun hq => ?_) <;> (try simp at hq) <;> simp -implicitDefEqProofs [*]) | (with_reducible refine gOps_split (fun hq => ?_) (fun hq => ?_) <;> (try simp at hq) <;> simp -implicitDefEqProofs [*]) | (with_reducible refine condC_dec (fun _ => ?_) (fun _ => ?_) <;> simp -implicitDefEqProofs [*]) | (with_reducible refine condC_ndec (fun _ => ?_) (fun _ => ?_) <;> simp -implicitDefEqProofs [*]) | (with_reducible refine condC_and (fun hq => ?_) (fun hq => ?_) <;> (try simp at hq) <;> simp -implicitDefEqProofs [*]) | (with_reducible refine condC_or (fun hq => ?_) (fun hq => ?_) <;> (try simp at hq) <;> simp -implicitDefEqProofs [*]) | (with_reducible refine condC_not (fun hq => ?_) (fun hq => ?_) <;> (try simp at hq) <;> simp -implicitDefEqProofs [*]) | (with_reducible refine condC_split (fun hq => ?_) (fun hq => ?_) <;> (try simp at hq) <;> simp -implicitDefEqProofs [*]) | (refine appK2_if (by omega) ?_; simp -implicitDefEqProofs [*]) | (refine pureV_if (by omega) ?_; simp -implicitDefEqProofs [*]))
      all_goals simp only [nodeMay, hA, he, hu]
      all_goals grind
    · rintro ⟨fr, bs⟩ h
      simp -implicitDefEqProofs [h.1, h.2, nodeMay, hA]
end Go.AM
/- AM: what is handed in, told. -/
namespace Go.AM
set_option linter.unusedSimpArgs false
set_option linter.unusedVariables false
set_option maxRecDepth 8000
theorem tell_int {n : Nat} {cs : List D} (h : Tell TT (n + 1) 3 cs) : ∃ x, cs = [.int .i64 x] ∧ in64 x := by
  simp [Tell] at h
  obtain ⟨x, rfl, hx⟩ := h
  exact ⟨x, rfl, wf64 hx⟩
theorem tell_bool {n : Nat} {cs : List D} (h : Tell TT (n + 1) 4 cs) : ∃ x, cs = [.bool x] := by
  simpa [Tell] using h
theorem tell_ints {n : Nat} {cs : List D} (h : Tell TT (n + 2) 24 cs) : ∃ xs : List Int, cs = [intsD xs] ∧ xs.length * 8 ≤ 140737488351232 ∧ ∀ x ∈ xs, in64 x := by
  unfold Tell at h
  simp at h
  obtain ⟨rows, rfl, hl, hr⟩ := h
  obtain ⟨xs, rfl, hx⟩ := rows_of (f := irow) (Q := in64) rows fun r h => by
    obtain ⟨x, rfl, hx⟩ := tell_int (hr r h)
    exact ⟨x, rfl, hx⟩
  exact ⟨xs, by simp [intsD], by simpa using hl, hx⟩
theorem tell_Peer {n : Nat} {cs : List D} (h : Tell TT (n + 2) 54 cs) : ∃ p : Peer, cs = p.row ∧ in64 p.id ∧ in64 p.missed := by
  unfold Tell at h
  simp [Tell.TellFs] at h
  obtain ⟨a, b, rfl, h1, h2⟩ := h
  obtain ⟨x, rfl, hx⟩ := tell_int h1
  obtain ⟨y, rfl, hy⟩ := tell_int h2
  exact ⟨⟨x, y⟩, rfl, hx, hy⟩
theorem tell_peers {n : Nat} {cs : List D} (h : Tell TT (n + 3) 23 cs) : ∃ ps : List Peer, cs = [peersD ps] ∧ ps.length * 16 ≤ 140737488351232 ∧ ∀ p ∈ ps, in64 p.id ∧ in64 p.missed := by
  unfold Tell at h
  simp at h
  obtain ⟨rows, rfl, hl, hr⟩ := h
  obtain ⟨xs, rfl, hx⟩ := rows_of (f := Peer.row) (Q := fun p => in64 p.id ∧ in64 p.missed) rows fun r h => tell_Peer (hr r h)
  exact ⟨xs, by simp [peersD], by simpa using hl, hx⟩
def View.tame (v : View) : Prop := v.peers.length * 16 ≤ 140737488351232 ∧ v.passive.length * 8 ≤ 140737488351232 ∧ in64 v.id ∧ (∀ p ∈ v.peers, in64 p.id ∧ in64 p.missed) ∧ ∀ x ∈ v.passive, in64 x
theorem View.tame.small {v : View} (h : v.tame) : v.small := by
  obtain ⟨h1, h2, _⟩ := h
  unfold View.small cap16 cap
  omega
theorem tell_View {n : Nat} {cs : List D} (h : Tell TT (n + 4) 26 cs) : ∃ v : View, cs = v.cells ∧ v.tame := by
  unfold Tell at h
  simp [Tell.TellFs] at h
  obtain ⟨a, r, rfl, h1, b, c, rfl, h2, h3⟩ := h
  obtain ⟨x, rfl, hx⟩ := tell_int h1
  obtain ⟨ps, rfl, hp, hp2⟩ := tell_peers h2
  obtain ⟨xs, rfl, hq, hq2⟩ := tell_ints h3
  exact ⟨⟨x, ps, xs⟩, rfl, hp, hq, hx, hp2, hq2⟩
theorem tell_Version {n : Nat} {cs : List D} (h : Tell TT (n + 2) 33 cs) : ∃ c w : Int, cs = [.int .i64 c, .int .i64 w] ∧ in64 c ∧ in64 w := by
  unfold Tell at h
  simp [Tell.TellFs] at h
  obtain ⟨a, b, rfl, h1, h2⟩ := h
  obtain ⟨x, rfl, hx⟩ := tell_int h1
  obtain ⟨y, rfl, hy⟩ := tell_int h2
  exact ⟨x, y, rfl, hx, hy⟩
def Item.tame (i : Item) : Prop := in64 i.key ∧ in64 i.count ∧ in64 i.writer ∧ in64 i.value
theorem tell_Item {n : Nat} {cs : List D} (h : Tell TT (n + 3) 35 cs) : ∃ i : Item, cs = i.row ∧ i.tame := by
  unfold Tell at h
  simp [Tell.TellFs] at h
  obtain ⟨a, r1, rfl, h1, b, r2, rfl, h2, c, d, rfl, h3, h4⟩ := h
  obtain ⟨x, rfl, hx⟩ := tell_int h1
  obtain ⟨y, z, rfl, hy, hz⟩ := tell_Version h2
  obtain ⟨u, rfl, hu⟩ := tell_int h3
  obtain ⟨g, rfl⟩ := tell_bool h4
  exact ⟨⟨x, y, z, u, g⟩, rfl, hx, hy, hz, hu⟩
theorem tell_items {n : Nat} {cs : List D} (h : Tell TT (n + 4) 27 cs) : ∃ is : List Item, cs = [itemsD is] ∧ is.length * 40 ≤ 140737488351232 ∧ ∀ i ∈ is, i.tame := by
  unfold Tell at h
  simp at h
  obtain ⟨rows, rfl, hl, hr⟩ := h
  obtain ⟨xs, rfl, hx⟩ := rows_of (f := Item.row) (Q := Item.tame) rows fun r h => tell_Item (hr r h)
  exact ⟨xs, by simp [itemsD], by simpa using hl, hx⟩
theorem tell_Told {n : Nat} {cs : List D} (h : Tell TT (n + 2) 63 cs) : ∃ t : Told, cs = t.row ∧ in64 t.key ∧ in64 t.value := by
  unfold Tell at h
  simp [Tell.TellFs] at h
  obtain ⟨a, r1, rfl, h1, b, c, rfl, h2, h3⟩ := h
  obtain ⟨x, rfl, hx⟩ := tell_int h1
  obtain ⟨g, rfl⟩ := tell_bool h2
  obtain ⟨u, rfl, hu⟩ := tell_int h3
  exact ⟨⟨x, g, u⟩, rfl, hx, hu⟩
theorem tell_tolds {n : Nat} {cs : List D} (h : Tell TT (n + 3) 28 cs) : ∃ ts : List Told, cs = [toldsD ts] ∧ ts.length * 24 ≤ 140737488351232 ∧ ∀ t ∈ ts, in64 t.key ∧ in64 t.value := by
  unfold Tell at h
  simp at h
  obtain ⟨rows, rfl, hl, hr⟩ := h
  obtain ⟨xs, rfl, hx⟩ := rows_of (f := Told.row) (Q := fun t => in64 t.key ∧ in64 t.value) rows fun r h => tell_Told (hr r h)
  exact ⟨xs, by simp [toldsD], by simpa using hl, hx⟩
def Node.tame (x : Node) : Prop := x.view.tame ∧ x.items.length * 40 ≤ 140737488351232 ∧ (∀ i ∈ x.items, i.tame) ∧ x.log.length * 24 ≤ 140737488351232 ∧ ∀ t ∈ x.log, in64 t.key ∧ in64 t.value
theorem Node.tame.small {x : Node} (h : x.tame) : x.small := ⟨h.1.small, h.2.1, h.2.2.2.1⟩
theorem tell_Node {n : Nat} {cs : List D} (h : Tell TT (n + 5) 30 cs) : ∃ x : Node, cs = x.cells ∧ x.tame := by
  unfold Tell at h
  simp [Tell.TellFs] at h
  obtain ⟨a, r1, rfl, h1, b, r2, rfl, h2, c, d, rfl, h3, h4⟩ := h
  obtain ⟨u, rfl⟩ := tell_bool h1
  obtain ⟨v, rfl, hv⟩ := tell_View h2
  obtain ⟨is, rfl, h5, h6⟩ := tell_items h3
  obtain ⟨ts, rfl, h7, h8⟩ := tell_tolds h4
  exact ⟨⟨u, v, is, ts⟩, rfl, hv, h5, h6, h7, h8⟩
theorem arg_Node {n : Nat} {d : D} (h : TellArg TT (n + 5) 30 d) : ∃ x : Node, d = nodeD x ∧ x.tame := by
  simp [TellArg] at h
  obtain ⟨cs, rfl, h⟩ := h
  obtain ⟨v, rfl, hv⟩ := tell_Node h
  exact ⟨v, rfl, hv⟩
theorem arg_Item {n : Nat} {d : D} (h : TellArg TT (n + 3) 35 d) : ∃ x : Item, d = .agg x.row ∧ x.tame := by
  simp [TellArg] at h
  obtain ⟨cs, rfl, h⟩ := h
  obtain ⟨v, rfl, hv⟩ := tell_Item h
  exact ⟨v, rfl, hv⟩
theorem arg_items {n : Nat} {d : D} (h : TellArg TT (n + 4) 27 d) : ∃ x : List Item, d = itemsD x ∧ x.length * 40 ≤ 140737488351232 ∧ ∀ i ∈ x, i.tame := by
  simp [TellArg] at h
  obtain ⟨xs, hx, h2⟩ := tell_items h
  simp at hx
  exact ⟨xs, hx, h2⟩
theorem arg_ints {n : Nat} {d : D} (h : TellArg TT (n + 2) 24 d) : ∃ x : List Int, d = intsD x ∧ x.length * 8 ≤ 140737488351232 ∧ ∀ i ∈ x, in64 i := by
  simp [TellArg] at h
  obtain ⟨xs, hx, h2⟩ := tell_ints h
  simp at hx
  exact ⟨xs, hx, h2⟩
theorem arg_peers {n : Nat} {d : D} (h : TellArg TT (n + 3) 23 d) : ∃ x : List Peer, d = peersD x ∧ x.length * 16 ≤ 140737488351232 ∧ ∀ p ∈ x, in64 p.id ∧ in64 p.missed := by
  simp [TellArg] at h
  obtain ⟨xs, hx, h2⟩ := tell_peers h
  simp at hx
  exact ⟨xs, hx, h2⟩
theorem arg_bool {n : Nat} {d : D} (h : TellArg TT (n + 1) 4 d) : ∃ x, d = .bool x ∧ True := by
  simp [TellArg] at h
  obtain ⟨x, hx⟩ := tell_bool h
  simp at hx
  exact ⟨x, hx, trivial⟩
theorem arg_int {n : Nat} {d : D} (h : TellArg TT (n + 1) 3 d) : ∃ x, d = .int .i64 x ∧ in64 x := by
  simp [TellArg] at h
  obtain ⟨x, hx, h2⟩ := tell_int h
  simp at hx
  exact ⟨x, hx, h2⟩
theorem arg_View {n : Nat} {d : D} (h : TellArg TT (n + 4) 26 d) : ∃ v : View, d = viewD v ∧ v.tame := by
  simp [TellArg] at h
  obtain ⟨cs, rfl, h⟩ := h
  obtain ⟨v, rfl, hv⟩ := tell_View h
  exact ⟨v, rfl, hv⟩
end Go.AM
/- Plain law: stores: put twice, in another row. -/
namespace Go.AM
set_option linter.unusedSimpArgs false
set_option linter.unusedVariables false

end Go.AM
namespace Go.AM
end Go.AM
/- AM: contracts: a node is copied, takes an item. -/
namespace Go.AM
set_option linter.unusedSimpArgs false
set_option linter.unusedVariables false
set_option maxRecDepth 8000
set_option maxHeartbeats 0
theorem fit_of {α : Type} {f : α → List D} {n : Nat} (h : ∀ a, (f a).length = n ∧ (f a).all D.isCell = true) (xs : List α) : Fits n (xs.map f) := by
  intro r hr
  obtain ⟨a, _, rfl⟩ := List.mem_map.1 hr
  exact h a
theorem view_Copy (v : View) (hs : v.small) : Den PP 39 [viewD v] [] (.agg [.int .i64 v.id, .ref 0 0 v.peers.length, .ref 1 0 v.passive.length]) [⟨v.peers.map Peer.row, 2, .mut⟩, ⟨v.passive.map irow, 1, .mut⟩] := by
  obtain ⟨h1, h2⟩ := hs
  unfold cap16 at h1
  unfold cap at h2
  have c1 := clone_Peer (v.peers.map Peer.row) (fit_of (f := Peer.row) (n := 2) (fun _ => ⟨rfl, rfl⟩) _) (by simp; omega)
  have c2 := clone_int (v.passive.map irow) (fit_of (f := irow) (n := 1) (fun _ => ⟨rfl, rfl⟩) _) (by simp; omega)
  simp only [List.length_map] at c1 c2
  refine den_of [5, 8] [] is_view_Copy ?_
  simp -implicitDefEqProofs [c_view_Copy, viewD, View.cells, peersD, intsD]
  refine callThen_of c1 ?_
  simp -implicitDefEqProofs [downTo]
  refine callThen_of c2 ?_
  simp -implicitDefEqProofs [downTo]
def copyD (x : Node) : D := .agg [.bool x.up, .int .i64 x.view.id, .ref 0 0 x.view.peers.length, .ref 1 0 x.view.passive.length, .ref 2 0 x.items.length, .ref 3 0 x.log.length]
def nodeB (x : Node) : List Blk := [⟨x.view.peers.map Peer.row, 2, .mut⟩, ⟨x.view.passive.map irow, 1, .mut⟩, ⟨x.items.map Item.row, 5, .mut⟩, ⟨x.log.map Told.row, 3, .mut⟩]
theorem node_Copy (x : Node) (hs : x.small) : Den PP 21 [nodeD x] [] (copyD x) (nodeB x) := by
  have c1 := view_Copy x.view hs.1
  obtain ⟨⟨h1, h2⟩, h3, h4⟩ := hs
  unfold cap16 at h1
  unfold cap at h2
  have c2 := clone_Item (x.items.map Item.row) (fit_of (f := Item.row) (n := 5) (fun _ => ⟨rfl, rfl⟩) _) (by simp; omega)
  have c3 := clone_Told (x.log.map Told.row) (fit_of (f := Told.row) (n := 3) (fun _ => ⟨rfl, rfl⟩) _) (by simp; omega)
  simp only [List.length_map, viewD, View.cells, peersD, intsD] at c1 c2 c3
  unfold copyD nodeB
  refine den_of [5, 8, 11] [] is_node_Copy ?_
  simp -implicitDefEqProofs [c_node_Copy, nodeD, Node.cells, peersD, intsD, itemsD, toldsD]
  refine callThen_of c1 ?_
  simp -implicitDefEqProofs [downTo]
  refine callThen_of c2 ?_
  simp -implicitDefEqProofs [downTo]
  refine callThen_of c3 ?_
  simp -implicitDefEqProofs [downTo]
def takeI (x : Node) (i : Item) : Node := if (putR x.items i).2 = 0 then { x with items := (putR x.items i).1 } else x
theorem take_Item (x : Node) (i : Item) (hs : x.small) (h : (nodeUp x && itemMay i) = true) : Den PP 43 [nodeD x, .agg i.row] [] (.tup [copyD (takeI x i), .int .i64 0]) (nodeB (takeI x i)) := by
  have c1 := node_Up x hs
  have c2 := item_May i
  have c3 := node_Copy x hs
  have c4 := store_Put x.items i (by have := hs.2.1; unfold cap16; omega)
  rw [Bool.and_eq_true] at h
  obtain ⟨h1, h2⟩ := h
  rw [h1] at c1
  rw [h2] at c2
  unfold takeI
  generalize putR x.items i = r at *
  obtain ⟨is, e⟩ := r
  simp only [nodeD, Node.cells, peersD, intsD, itemsD, toldsD, Item.row, copyD, nodeB] at c1 c2 c3 c4 ⊢
  clear h1 h2
  refine den_of [19, 24] [] is_take_Item ?_
  by_cases he : e = 0
  · subst he
    simp -implicitDefEqProofs [c_take_Item, nodeD, Node.cells, peersD, intsD, itemsD, toldsD, Item.row]
    refine callThen_of c1 ?_
    simp -implicitDefEqProofs
    refine callThen_of c2 ?_
    simp -implicitDefEqProofs
    refine callThen_of c3 ?_
    simp -implicitDefEqProofs [downTo]
    refine callThen_of c4 ?_
    simp -implicitDefEqProofs [downTo]
  · simp -implicitDefEqProofs [c_take_Item, nodeD, Node.cells, peersD, intsD, itemsD, toldsD, Item.row]
    refine callThen_of c1 ?_
    simp -implicitDefEqProofs
    refine callThen_of c2 ?_
    simp -implicitDefEqProofs
    refine callThen_of c3 ?_
    simp -implicitDefEqProofs [downTo]
    refine callThen_of c4 ?_
    simp -implicitDefEqProofs [downTo, he]
end Go.AM
/- AM: contracts: the document's take; a node spoiled. -/
namespace Go.AM
set_option linter.unusedSimpArgs false
set_option linter.unusedVariables false
set_option maxRecDepth 8000
set_option maxHeartbeats 0
end Go.AM
/- AM: chapter 20's statements: Takes. -/
namespace Go.AM
set_option linter.unusedSimpArgs false
set_option linter.unusedVariables false
set_option maxRecDepth 8000
set_option maxHeartbeats 0
def itT (k c : Int) : Item := ⟨k, c, 1, c % 256, false⟩
def nodeT : Node := ⟨true, ⟨100, [⟨101, 2⟩, ⟨200, 0⟩, ⟨90, 1⟩], [7]⟩, [⟨95, 1, 1, 1, false⟩, ⟨99, 3, 1, 3, false⟩, ⟨250, 2, 1, 2, false⟩], []⟩
theorem small_nodeT : nodeT.small := by unfold Node.small View.small cap16 cap; decide
theorem nodeUp_parts {x : Node} (h : nodeUp x = true) : x.up = true ∧ viewMay x.view = true ∧ storeMay x.items = true ∧ x.log.length ≤ 64 ∧ x.log.any toldOdd = false := by
  simp only [nodeUp, nodeMay, Bool.and_eq_true, decide_eq_true_eq, Bool.not_eq_true'] at h
  exact ⟨h.1, h.2.1.1.1.2, h.2.1.1.2, h.2.1.2, h.2.2⟩
theorem nodeUp_of {x : Node} (h1 : x.up = true) (h2 : viewMay x.view = true) (h3 : storeMay x.items = true) (h4 : x.log.length ≤ 64) (h5 : x.log.any toldOdd = false) : nodeUp x = true := by
  simp [nodeUp, nodeMay, h1, h2, h3, h4, h5]
theorem takeI_up {x : Node} {i : Item} (h : nodeUp x = true) : nodeUp (takeI x i) = true := by
  obtain ⟨h1, h2, h3, h4, h5⟩ := nodeUp_parts h
  unfold takeI
  split
  · rename_i h6
    obtain ⟨_, _, h7, h8⟩ := putR_may h6
    rw [h7]
    exact nodeUp_of h1 h2 h8 h4 h5
  · exact h
theorem nodeUp_small {x : Node} (h : nodeUp x = true) : x.view.peers.length ≤ 16 ∧ x.view.passive.length ≤ 16 ∧ x.items.length ≤ 16 ∧ x.log.length ≤ 64 := by
  obtain ⟨h1, h2, h3, h4, h5⟩ := nodeUp_parts h
  have h6 := (viewMay_parts h2).2.2.1
  have h7 := ((storeMay_iff _).1 h3).2.2
  omega
theorem nodeUp_small2 {x : Node} (h : nodeUp x = true) : x.small := by
  obtain ⟨h1, h2, h3, h4⟩ := nodeUp_small h
  unfold Node.small View.small cap16 cap
  omega
end Go.AM
/- AM: contracts: what a node was told is noted. -/
namespace Go.AM
set_option linter.unusedSimpArgs false
set_option linter.unusedVariables false
set_option maxRecDepth 8000
set_option maxHeartbeats 0
def toldOf (key : Int) (i : Item) (has : Bool) : Told := ⟨key, has && !i.gone, if has && !i.gone then i.value else 0⟩
theorem ask_note (x : Node) (key : Int) (i : Item) (has : Bool) (hs : x.small) (hl : x.log.length ≤ 64) : Den PP 65 [nodeD x, .int .i64 key, .agg i.row, .bool has] [] (.agg [.bool x.up, .int .i64 x.view.id, .ref 0 0 x.view.peers.length, .ref 1 0 x.view.passive.length, .ref 2 0 x.items.length, .ref 3 (x.log.length + 1 - 64) (x.log.length + 1 - (x.log.length + 1 - 64))])
    [⟨x.view.peers.map Peer.row, 2, .mut⟩, ⟨x.view.passive.map irow, 1, .mut⟩, ⟨x.items.map Item.row, 5, .mut⟩, ⟨(x.log ++ [toldOf key i has]).map Told.row, 3, .mut⟩] := by
  have c1 := node_Copy x hs
  obtain ⟨ik, ic, iw, iv, ig⟩ := i
  simp only [nodeD, Node.cells, peersD, intsD, itemsD, toldsD, Item.row, copyD, nodeB] at c1 ⊢
  have hm : (if IntKind.wrap .i64 ((x.log.length : Int) + 1 - 64) < 0 then 0 else IntKind.wrap .i64 ((x.log.length : Int) + 1 - 64)) = ((x.log.length + 1 - 64 : Nat) : Int) := by
    rw [wrap_in (by omega) (by omega)]; split <;> omega
  refine den_of [12] [] is_ask_note ?_
  cases has <;> cases ig
  all_goals
    simp -implicitDefEqProofs [c_ask_note]
    refine callThen_of c1 ?_
    simp -implicitDefEqProofs [downTo]
  case false.false | false.true | true.true =>
    refine ⟨by simp [Fits], ?_⟩
    repeat' (first | (refine callThen_of (by first | exact ring_Place _ | exact den_nrm (ring_Place _) | exact den_nrm (by simpa using ring_Place _)) ?_; simp -implicitDefEqProofs [*, downTo]) | (with_reducible refine gOps_dec (fun _ => ?_) (fun _ => ?_) <;> simp -implicitDefEqProofs [*, downTo]) | (with_reducible refine gOps_ndec (fun _ => ?_) (fun _ => ?_) <;> simp -implicitDefEqProofs [*, downTo]) | (with_reducible refine gOps_and (fun hq => ?_) (fun hq => ?_) <;> (try simp at hq) <;> simp -implicitDefEqProofs [*, downTo]) | (with_reducible refine gOps_or (fun hq => ?_) (fun hq => ?_) <;> (try simp at hq) <;> simp -implicitDefEqProofs [*, downTo]) | (with_reducible refine gOps_not (fun hq => ?_) (fun hq => ?_) <;> (try simp at hq) <;> simp -implicitDefEqProofs [*, downTo]) | (with_reducible refine gOps_split (fun hq => ?_) (fun hq => ?_) <;> (try simp at hq) <;> simp -implicitDefEqProofs [*, downTo]) | (with_reducible refine condC_dec (fun _ => ?_) (fun _ => ?_) <;> simp -implicitDefEqProofs [*, downTo]) | (with_reducible refine condC_ndec (fun _ => ?_) (fun _ => ?_) <;> simp -implicitDefEqProofs [*, downTo]) | (with_reducible refine condC_and (fun hq => ?_) (fun hq => ?_) <;> (try simp at hq) <;> simp -implicitDefEqProofs [*, downTo]) | (with_reducible refine condC_or (fun hq => ?_) (fun hq => ?_) <;> (try simp at hq) <;> simp -implicitDefEqProofs [*, downTo]) | (with_reducible refine condC_not (fun hq => ?_) (fun hq => ?_) <;> (try simp at hq) <;> simp -implicitDefEqProofs [*, downTo]) | (with_reducible refine condC_split (fun hq => ?_) (fun hq => ?_) <;> (try simp at hq) <;> simp -implicitDefEqProofs [*, downTo]) | (refine appK2_if (by omega) ?_; simp -implicitDefEqProofs [*, downTo]) | (refine pureV_if (by omega) ?_; simp -implicitDefEqProofs [*, downTo]))
    simp -implicitDefEqProofs [minL, minF, hm]
    refine outK_slice (x.log.length + 1 - 64) (x.log.length + 1) (by simp; rfl) rfl (by simp [boundD, hm]) (by first | rfl | omega | (simp [boundD]; done) | (simp [boundD]; omega) | (simp; done) | (simp; omega) | (simp [*]; done) | (simp [*]; omega)) (by omega) (by first | rfl | omega | (simp [boundD]; done) | (simp [boundD]; omega) | (simp; done) | (simp; omega) | (simp [*]; done) | (simp [*]; omega)) rfl (by first | rfl | omega | (simp [boundD]; done) | (simp [boundD]; omega) | (simp; done) | (simp; omega) | (simp [*]; done) | (simp [*]; omega)) ?_
    simp -implicitDefEqProofs [toldOf, Told.row]
  case true.false =>
    repeat' apply And.intro
    all_goals try (simp [Fits]; done)
    all_goals
      repeat' (first | (refine callThen_of (by first | exact ring_Place _ | exact den_nrm (ring_Place _) | exact den_nrm (by simpa using ring_Place _)) ?_; simp -implicitDefEqProofs [*, downTo]) | (with_reducible refine gOps_dec (fun _ => ?_) (fun _ => ?_) <;> simp -implicitDefEqProofs [*, downTo]) | (with_reducible refine gOps_ndec (fun _ => ?_) (fun _ => ?_) <;> simp -implicitDefEqProofs [*, downTo]) | (with_reducible refine gOps_and (fun hq => ?_) (fun hq => ?_) <;> (try simp at hq) <;> simp -implicitDefEqProofs [*, downTo]) | (with_reducible refine gOps_or (fun hq => ?_) (fun hq => ?_) <;> (try simp at hq) <;> simp -implicitDefEqProofs [*, downTo]) | (with_reducible refine gOps_not (fun hq => ?_) (fun hq => ?_) <;> (try simp at hq) <;> simp -implicitDefEqProofs [*, downTo]) | (with_reducible refine gOps_split (fun hq => ?_) (fun hq => ?_) <;> (try simp at hq) <;> simp -implicitDefEqProofs [*, downTo]) | (with_reducible refine condC_dec (fun _ => ?_) (fun _ => ?_) <;> simp -implicitDefEqProofs [*, downTo]) | (with_reducible refine condC_ndec (fun _ => ?_) (fun _ => ?_) <;> simp -implicitDefEqProofs [*, downTo]) | (with_reducible refine condC_and (fun hq => ?_) (fun hq => ?_) <;> (try simp at hq) <;> simp -implicitDefEqProofs [*, downTo]) | (with_reducible refine condC_or (fun hq => ?_) (fun hq => ?_) <;> (try simp at hq) <;> simp -implicitDefEqProofs [*, downTo]) | (with_reducible refine condC_not (fun hq => ?_) (fun hq => ?_) <;> (try simp at hq) <;> simp -implicitDefEqProofs [*, downTo]) | (with_reducible refine condC_split (fun hq => ?_) (fun hq => ?_) <;> (try simp at hq) <;> simp -implicitDefEqProofs [*, downTo]) | (refine appK2_if (by omega) ?_; simp -implicitDefEqProofs [*, downTo]) | (refine pureV_if (by omega) ?_; simp -implicitDefEqProofs [*, downTo]))
      simp -implicitDefEqProofs [minL, minF, hm]
      refine outK_slice (x.log.length + 1 - 64) (x.log.length + 1) (by simp; rfl) rfl (by simp [boundD, hm]) (by first | rfl | omega | (simp [boundD]; done) | (simp [boundD]; omega) | (simp; done) | (simp; omega) | (simp [*]; done) | (simp [*]; omega)) (by omega) (by first | rfl | omega | (simp [boundD]; done) | (simp [boundD]; omega) | (simp; done) | (simp; omega) | (simp [*]; done) | (simp [*]; omega)) rfl (by first | rfl | omega | (simp [boundD]; done) | (simp [boundD]; omega) | (simp; done) | (simp; omega) | (simp [*]; done) | (simp [*]; omega)) ?_
      simp -implicitDefEqProofs [toldOf, Told.row]
end Go.AM
/- AM: contracts: messages that may be. -/
namespace Go.AM
set_option linter.unusedSimpArgs false
set_option linter.unusedVariables false
set_option maxRecDepth 8000
set_option maxHeartbeats 0
def noneM (ids : List Int) (key : Int) (i : Item) (has : Bool) : Bool := decide (ids.length = 0) && decide (key = 0) && decide (i = zeroItem) && !has
theorem msg_none_raw (kind f t key ik ic iw iv : Int) (ig has : Bool) (ids : List Int) : Den PP 36 [.agg [.int .i64 kind, .int .i64 f, .int .i64 t, .sl (ids.map irow) ids.length, .int .i64 key, .int .i64 ik, .int .i64 ic, .int .i64 iw, .int .i64 iv, .bool ig, .bool has]] [] (.bool (noneM ids key ⟨ik, ic, iw, iv, ig⟩ has)) [] := by
  refine den_of [] [] is_msg_none ?_
  simp -implicitDefEqProofs [c_msg_none, EQS]
  repeat' (first | (with_reducible refine gOps_dec (fun _ => ?_) (fun _ => ?_) <;> simp -implicitDefEqProofs [*, EQS]) | (with_reducible refine gOps_ndec (fun _ => ?_) (fun _ => ?_) <;> simp -implicitDefEqProofs [*, EQS]) | (with_reducible refine gOps_and (fun hq => ?_) (fun hq => ?_) <;> (try simp at hq) <;> simp -implicitDefEqProofs [*, EQS]) | (with_reducible refine gOps_or (fun hq => ?_) (fun hq => ?_) <;> (try simp at hq) <;> simp -implicitDefEqProofs [*, EQS]) | (with_reducible refine gOps_not (fun hq => ?_) (fun hq => ?_) <;> (try simp at hq) <;> simp -implicitDefEqProofs [*, EQS]) | (with_reducible refine gOps_split (fun hq => ?_) (fun hq => ?_) <;> (try simp at hq) <;> simp -implicitDefEqProofs [*, EQS]) | (with_reducible refine condC_dec (fun _ => ?_) (fun _ => ?_) <;> simp -implicitDefEqProofs [*, EQS]) | (with_reducible refine condC_ndec (fun _ => ?_) (fun _ => ?_) <;> simp -implicitDefEqProofs [*, EQS]) | (with_reducible refine condC_and (fun hq => ?_) (fun hq => ?_) <;> (try simp at hq) <;> simp -implicitDefEqProofs [*, EQS]) | (with_reducible refine condC_or (fun hq => ?_) (fun hq => ?_) <;> (try simp at hq) <;> simp -implicitDefEqProofs [*, EQS]) | (with_reducible refine condC_not (fun hq => ?_) (fun hq => ?_) <;> (try simp at hq) <;> simp -implicitDefEqProofs [*, EQS]) | (with_reducible refine condC_split (fun hq => ?_) (fun hq => ?_) <;> (try simp at hq) <;> simp -implicitDefEqProofs [*, EQS]) | (refine appK2_if (by omega) ?_; simp -implicitDefEqProofs [*, EQS]) | (refine pureV_if (by omega) ?_; simp -implicitDefEqProofs [*, EQS]))
  all_goals (simp only [noneM, zeroItem, Item.mk.injEq]; first | (simp [*]; done) | (simp [*]; grind) | grind)
theorem msg_none_nil (kind f t key ik ic iw iv : Int) (ig has : Bool) : Den PP 36 [.agg [.int .i64 kind, .int .i64 f, .int .i64 t, .nil, .int .i64 key, .int .i64 ik, .int .i64 ic, .int .i64 iw, .int .i64 iv, .bool ig, .bool has]] [] (.bool (noneM [] key ⟨ik, ic, iw, iv, ig⟩ has)) [] := by
  refine den_of [] [] is_msg_none ?_
  simp -implicitDefEqProofs [c_msg_none, EQS]
  repeat' (first | (with_reducible refine gOps_dec (fun _ => ?_) (fun _ => ?_) <;> simp -implicitDefEqProofs [*, EQS]) | (with_reducible refine gOps_ndec (fun _ => ?_) (fun _ => ?_) <;> simp -implicitDefEqProofs [*, EQS]) | (with_reducible refine gOps_and (fun hq => ?_) (fun hq => ?_) <;> (try simp at hq) <;> simp -implicitDefEqProofs [*, EQS]) | (with_reducible refine gOps_or (fun hq => ?_) (fun hq => ?_) <;> (try simp at hq) <;> simp -implicitDefEqProofs [*, EQS]) | (with_reducible refine gOps_not (fun hq => ?_) (fun hq => ?_) <;> (try simp at hq) <;> simp -implicitDefEqProofs [*, EQS]) | (with_reducible refine gOps_split (fun hq => ?_) (fun hq => ?_) <;> (try simp at hq) <;> simp -implicitDefEqProofs [*, EQS]) | (with_reducible refine condC_dec (fun _ => ?_) (fun _ => ?_) <;> simp -implicitDefEqProofs [*, EQS]) | (with_reducible refine condC_ndec (fun _ => ?_) (fun _ => ?_) <;> simp -implicitDefEqProofs [*, EQS]) | (with_reducible refine condC_and (fun hq => ?_) (fun hq => ?_) <;> (try simp at hq) <;> simp -implicitDefEqProofs [*, EQS]) | (with_reducible refine condC_or (fun hq => ?_) (fun hq => ?_) <;> (try simp at hq) <;> simp -implicitDefEqProofs [*, EQS]) | (with_reducible refine condC_not (fun hq => ?_) (fun hq => ?_) <;> (try simp at hq) <;> simp -implicitDefEqProofs [*, EQS]) | (with_reducible refine condC_split (fun hq => ?_) (fun hq => ?_) <;> (try simp at hq) <;> simp -implicitDefEqProofs [*, EQS]) | (refine appK2_if (by omega) ?_; simp -implicitDefEqProofs [*, EQS]) | (refine pureV_if (by omega) ?_; simp -implicitDefEqProofs [*, EQS]))
  all_goals (simp only [noneM, zeroItem, Item.mk.injEq]; first | (simp [*]; done) | (simp [*]; grind) | grind)
theorem msg_May (m : Msg) (hl : m.ids.length ≤ cap) : Den PP 20 [msgD m] [] (.bool (msgMay m)) [] := by
  obtain ⟨kind, from_, to, ids, key, ⟨ik, ic, iw, iv, ig⟩, has⟩ := m
  have c1 := ring_Places ids hl
  obtain ⟨A, hA⟩ : ∃ A, ids.all place = A := ⟨_, rfl⟩
  rw [hA] at c1
  simp only [intsD] at c1
  refine den_of [] [] is_msg_May ?_
  simp -implicitDefEqProofs [c_msg_May, msgD, Msg.row, intsD, EQS]
  repeat' (first | (refine callThen_of (by first | exact c1 | exact item_May_raw _ _ _ _ _ | exact ring_Place _ | exact msg_none_raw _ _ _ _ _ _ _ _ _ _ _ | exact msg_none_nil _ _ _ _ _ _ _ _ _ _ | exact den_nrm (msg_none_nil _ _ _ _ _ _ _ _ _ _) | exact den_nrm (by simpa using msg_none_nil _ _ _ _ _ _ _ _ _ _)) ?_; simp -implicitDefEqProofs [*, EQS]) | (with_reducible refine gOps_dec (fun _ => ?_) (fun _ => ?_) <;> simp -implicitDefEqProofs [*, EQS]) | (with_reducible refine gOps_ndec (fun _ => ?_) (fun _ => ?_) <;> simp -implicitDefEqProofs [*, EQS]) | (with_reducible refine gOps_and (fun hq => ?_) (fun hq => ?_) <;> (try simp at hq) <;> simp -implicitDefEqProofs [*, EQS]) | (with_reducible refine gOps_or (fun hq => ?_) (fun hq => ?_) <;> (try simp at hq) <;> simp -implicitDefEqProofs [*, EQS]) | (with_reducible refine gOps_not (fun hq => ?_) (fun hq => ?_) <;> (try simp at hq) <;> simp -implicitDefEqProofs [*, EQS]) | (with_reducible refine gOps_split (fun hq => ?_) (fun hq => ?_) <;> (try simp at hq) <;> simp -implicitDefEqProofs [*, EQS]) | (with_reducible refine condC_dec (fun _ => ?_) (fun _ => ?_) <;> simp -implicitDefEqProofs [*, EQS]) | (with_reducible refine condC_ndec (fun _ => ?_) (fun _ => ?_) <;> simp -implicitDefEqProofs [*, EQS]) | (with_reducible refine condC_and (fun hq => ?_) (fun hq => ?_) <;> (try simp at hq) <;> simp -implicitDefEqProofs [*, EQS]) | (with_reducible refine condC_or (fun hq => ?_) (fun hq => ?_) <;> (try simp at hq) <;> simp -implicitDefEqProofs [*, EQS]) | (with_reducible refine condC_not (fun hq => ?_) (fun hq => ?_) <;> (try simp at hq) <;> simp -implicitDefEqProofs [*, EQS]) | (with_reducible refine condC_split (fun hq => ?_) (fun hq => ?_) <;> (try simp at hq) <;> simp -implicitDefEqProofs [*, EQS]) | (refine appK2_if (by omega) ?_; simp -implicitDefEqProofs [*, EQS]) | (refine pureV_if (by omega) ?_; simp -implicitDefEqProofs [*, EQS]))
  all_goals (try simp only [noneM, zeroItem, Item.mk.injEq] at *)
  all_goals (simp only [msgMay, hA, zeroItem, Item.mk.injEq]; first | (simp [*]; done) | (simp [*]; grind) | grind)
end Go.AM
/- Plain law: a store takes items twice. -/
namespace Go.AM
set_option linter.unusedSimpArgs false
set_option linter.unusedVariables false

def takeS (s : List Item) (i : Item) : List Item := if (putR s i).2 = 0 then (putR s i).1 else s
end Go.AM
/- AM: chapter 20's statements: TakeTwice, TakeBest. -/
namespace Go.AM
set_option linter.unusedSimpArgs false
set_option linter.unusedVariables false
set_option maxRecDepth 8000
set_option maxHeartbeats 0
theorem takeI_S (x : Node) (i : Item) : takeI x i = { x with items := takeS x.items i } := by
  unfold takeI takeS
  split <;> rfl
def zeroNode : Node := ⟨false, ⟨0, [], []⟩, [], []⟩
theorem small_zero : zeroNode.small := by unfold Node.small View.small cap16 cap zeroNode; simp
end Go.AM
/- AM: contracts: asking, answering, being told; the document's. -/
namespace Go.AM
set_option linter.unusedSimpArgs false
set_option linter.unusedVariables false
set_option maxRecDepth 8000
set_option maxHeartbeats 0
def noteD (x : Node) (pre xs : List Told) : D := .agg [.bool x.up, .int .i64 x.view.id, .ref 0 0 x.view.peers.length, .ref 1 0 x.view.passive.length, .ref 2 0 x.items.length, .ref 3 pre.length xs.length]
def noteB (x : Node) (pre xs : List Told) : List Blk := [⟨x.view.peers.map Peer.row, 2, .mut⟩, ⟨x.view.passive.map irow, 1, .mut⟩, ⟨x.items.map Item.row, 5, .mut⟩, ⟨(pre ++ xs).map Told.row, 3, .mut⟩]
def logPre (x : Node) (t : Told) : List Told := (x.log ++ [t]).take (x.log.length + 1 - 64)
def logOf (x : Node) (t : Told) : List Told := (x.log ++ [t]).drop (x.log.length + 1 - 64)
theorem log_len (x : Node) (t : Told) : (logPre x t).length = x.log.length + 1 - 64 ∧ (logOf x t).length = x.log.length + 1 - (x.log.length + 1 - 64) ∧ logPre x t ++ logOf x t = x.log ++ [t] := by
  unfold logPre logOf
  refine ⟨by simp; omega, by simp, List.take_append_drop _ _⟩
theorem ask_note' (x : Node) (key : Int) (i : Item) (has : Bool) (hs : x.small) (hl : x.log.length ≤ 64) : Den PP 65 [nodeD x, .int .i64 key, .agg i.row, .bool has] [] (noteD x (logPre x (toldOf key i has)) (logOf x (toldOf key i has))) (noteB x (logPre x (toldOf key i has)) (logOf x (toldOf key i has))) := by
  have := ask_note x key i has hs hl
  obtain ⟨h1, h2, h3⟩ := log_len x (toldOf key i has)
  unfold noteD noteB
  rw [h1, h2, h3]
  exact this
def toB (x : Node) (m : Msg) (kind : Int) : Bool := nodeUp x && (msgMay m && (decide (m.kind = kind) && decide (m.to = x.view.id)))
theorem ask_to (x : Node) (m : Msg) (kind : Int) (hs : x.small) (hl : m.ids.length ≤ cap) : Den PP 63 [.mem x.cells, .mem m.row, .int .i64 kind] [] (.bool (toB x m kind)) [] := by
  have c1 := node_Up x hs
  have c2 := msg_May m hl
  unfold toB
  generalize nodeUp x = U at *
  generalize msgMay m = M at *
  simp only [nodeD, Node.cells, peersD, intsD, itemsD, toldsD, Item.row, msgD, Msg.row] at c1 c2 ⊢
  refine den_of [] [] is_ask_to ?_
  cases U <;> cases M
  all_goals
    simp -implicitDefEqProofs [c_ask_to]
    repeat' (first | (refine callThen_of (by first | exact c1 | exact c2) ?_; simp -implicitDefEqProofs [*]) | (with_reducible refine gOps_dec (fun _ => ?_) (fun _ => ?_) <;> simp -implicitDefEqProofs [*]) | (with_reducible refine gOps_ndec (fun _ => ?_) (fun _ => ?_) <;> simp -implicitDefEqProofs [*]) | (with_reducible refine gOps_and (fun hq => ?_) (fun hq => ?_) <;> (try simp at hq) <;> simp -implicitDefEqProofs [*]) | (with_reducible refine gOps_or (fun hq => ?_) (fun hq => ?_) <;> (try simp at hq) <;> simp -implicitDefEqProofs [*]) | (with_reducible refine gOps_not (fun hq => ?_) (fun hq => ?_) <;> (try simp at hq) <;> simp -implicitDefEqProofs [*]) | (with_reducible refine gOps_split (fun hq => ?_) (fun hq => ?_) <;> (try simp at hq) <;> simp -implicitDefEqProofs [*]) | (with_reducible refine condC_dec (fun _ => ?_) (fun _ => ?_) <;> simp -implicitDefEqProofs [*]) | (with_reducible refine condC_ndec (fun _ => ?_) (fun _ => ?_) <;> simp -implicitDefEqProofs [*]) | (with_reducible refine condC_and (fun hq => ?_) (fun hq => ?_) <;> (try simp at hq) <;> simp -implicitDefEqProofs [*]) | (with_reducible refine condC_or (fun hq => ?_) (fun hq => ?_) <;> (try simp at hq) <;> simp -implicitDefEqProofs [*]) | (with_reducible refine condC_not (fun hq => ?_) (fun hq => ?_) <;> (try simp at hq) <;> simp -implicitDefEqProofs [*]) | (with_reducible refine condC_split (fun hq => ?_) (fun hq => ?_) <;> (try simp at hq) <;> simp -implicitDefEqProofs [*]) | (refine appK2_if (by omega) ?_; simp -implicitDefEqProofs [*]) | (refine pureV_if (by omega) ?_; simp -implicitDefEqProofs [*]))
  all_goals (first | (simp [*]; done) | grind)
theorem nodeUp_log {x : Node} (h : nodeUp x = true) : x.log.length ≤ 64 := (nodeUp_parts h).2.2.2.1
def tellOf (x : Node) (m : Msg) : Msg := ⟨3, x.view.id, m.from_, [], m.key, (getR x.items m.key).1, (getR x.items m.key).2⟩
theorem ask_Answer_ok (x : Node) (m : Msg) (hs : x.small) (hl : m.ids.length ≤ cap) (h : toB x m 2 = true) : Den PP 44 [nodeD x, msgD m] [] (.tup [.ref 0 0 1, .int .i64 0]) [⟨[tellOf x m].map Msg.row0, 11, .mut⟩] := by
  have c1 := ask_to x m 2 hs hl
  have c4 := store_Get x.items m.key (by have := hs.2.1; unfold cap16; omega)
  rw [h] at c1
  unfold tellOf
  generalize getR x.items m.key = r at *
  obtain ⟨⟨ik, ic, iw, iv, ig⟩, g2⟩ := r
  simp only [nodeD, Node.cells, peersD, intsD, itemsD, toldsD, Item.row, msgD, Msg.row, Msg.row0, List.map_cons, List.map_nil] at c1 c4 ⊢
  clear h
  refine den_of [] [] is_ask_Answer ?_
  simp -implicitDefEqProofs [c_ask_Answer]
  repeat' (first | (refine callThen_of (by first | exact c1 | exact c4) ?_; simp -implicitDefEqProofs [*, downTo]) | (with_reducible refine gOps_dec (fun _ => ?_) (fun _ => ?_) <;> simp -implicitDefEqProofs [*, downTo]) | (with_reducible refine gOps_ndec (fun _ => ?_) (fun _ => ?_) <;> simp -implicitDefEqProofs [*, downTo]) | (with_reducible refine gOps_and (fun hq => ?_) (fun hq => ?_) <;> (try simp at hq) <;> simp -implicitDefEqProofs [*, downTo]) | (with_reducible refine gOps_or (fun hq => ?_) (fun hq => ?_) <;> (try simp at hq) <;> simp -implicitDefEqProofs [*, downTo]) | (with_reducible refine gOps_not (fun hq => ?_) (fun hq => ?_) <;> (try simp at hq) <;> simp -implicitDefEqProofs [*, downTo]) | (with_reducible refine gOps_split (fun hq => ?_) (fun hq => ?_) <;> (try simp at hq) <;> simp -implicitDefEqProofs [*, downTo]) | (with_reducible refine condC_dec (fun _ => ?_) (fun _ => ?_) <;> simp -implicitDefEqProofs [*, downTo]) | (with_reducible refine condC_ndec (fun _ => ?_) (fun _ => ?_) <;> simp -implicitDefEqProofs [*, downTo]) | (with_reducible refine condC_and (fun hq => ?_) (fun hq => ?_) <;> (try simp at hq) <;> simp -implicitDefEqProofs [*, downTo]) | (with_reducible refine condC_or (fun hq => ?_) (fun hq => ?_) <;> (try simp at hq) <;> simp -implicitDefEqProofs [*, downTo]) | (with_reducible refine condC_not (fun hq => ?_) (fun hq => ?_) <;> (try simp at hq) <;> simp -implicitDefEqProofs [*, downTo]) | (with_reducible refine condC_split (fun hq => ?_) (fun hq => ?_) <;> (try simp at hq) <;> simp -implicitDefEqProofs [*, downTo]) | (refine appK2_if (by omega) ?_; simp -implicitDefEqProofs [*, downTo]) | (refine pureV_if (by omega) ?_; simp -implicitDefEqProofs [*, downTo]))
  repeat' apply And.intro
  all_goals repeat' (first | (with_reducible refine gOps_dec (fun _ => ?_) (fun _ => ?_) <;> simp -implicitDefEqProofs [*, downTo]) | (with_reducible refine gOps_ndec (fun _ => ?_) (fun _ => ?_) <;> simp -implicitDefEqProofs [*, downTo]) | (with_reducible refine gOps_and (fun hq => ?_) (fun hq => ?_) <;> (try simp at hq) <;> simp -implicitDefEqProofs [*, downTo]) | (with_reducible refine gOps_or (fun hq => ?_) (fun hq => ?_) <;> (try simp at hq) <;> simp -implicitDefEqProofs [*, downTo]) | (with_reducible refine gOps_not (fun hq => ?_) (fun hq => ?_) <;> (try simp at hq) <;> simp -implicitDefEqProofs [*, downTo]) | (with_reducible refine gOps_split (fun hq => ?_) (fun hq => ?_) <;> (try simp at hq) <;> simp -implicitDefEqProofs [*, downTo]) | (with_reducible refine condC_dec (fun _ => ?_) (fun _ => ?_) <;> simp -implicitDefEqProofs [*, downTo]) | (with_reducible refine condC_ndec (fun _ => ?_) (fun _ => ?_) <;> simp -implicitDefEqProofs [*, downTo]) | (with_reducible refine condC_and (fun hq => ?_) (fun hq => ?_) <;> (try simp at hq) <;> simp -implicitDefEqProofs [*, downTo]) | (with_reducible refine condC_or (fun hq => ?_) (fun hq => ?_) <;> (try simp at hq) <;> simp -implicitDefEqProofs [*, downTo]) | (with_reducible refine condC_not (fun hq => ?_) (fun hq => ?_) <;> (try simp at hq) <;> simp -implicitDefEqProofs [*, downTo]) | (with_reducible refine condC_split (fun hq => ?_) (fun hq => ?_) <;> (try simp at hq) <;> simp -implicitDefEqProofs [*, downTo]) | (refine appK2_if (by omega) ?_; simp -implicitDefEqProofs [*, downTo]) | (refine pureV_if (by omega) ?_; simp -implicitDefEqProofs [*, downTo]))
def mT (m : Msg) : Told := toldOf m.key m.item m.has
theorem ask_Told_ok (x : Node) (m : Msg) (hs : x.small) (hl : m.ids.length ≤ cap) (h : toB x m 3 = true) : Den PP 45 [nodeD x, msgD m] [] (.tup [noteD x (logPre x (mT m)) (logOf x (mT m)), .int .i64 0]) (noteB x (logPre x (mT m)) (logOf x (mT m))) := by
  have c1 := ask_to x m 3 hs hl
  rw [h] at c1
  unfold toB at h
  simp only [Bool.and_eq_true, decide_eq_true_eq] at h
  have c5 := ask_note' x m.key m.item m.has hs (nodeUp_log h.1)
  clear h
  unfold mT
  generalize logPre x (toldOf m.key m.item m.has) = pre at *
  generalize logOf x (toldOf m.key m.item m.has) = xs at *
  simp only [nodeD, Node.cells, peersD, intsD, itemsD, toldsD, Item.row, msgD, Msg.row, noteD, noteB] at c1 c5 ⊢
  refine den_of [16] [] is_ask_Told ?_
  simp -implicitDefEqProofs [c_ask_Told]
  repeat' (first | (refine callThen_of (by first | exact c1 | exact c5) ?_; simp -implicitDefEqProofs [*, downTo]) | (with_reducible refine gOps_dec (fun _ => ?_) (fun _ => ?_) <;> simp -implicitDefEqProofs [*, downTo]) | (with_reducible refine gOps_ndec (fun _ => ?_) (fun _ => ?_) <;> simp -implicitDefEqProofs [*, downTo]) | (with_reducible refine gOps_and (fun hq => ?_) (fun hq => ?_) <;> (try simp at hq) <;> simp -implicitDefEqProofs [*, downTo]) | (with_reducible refine gOps_or (fun hq => ?_) (fun hq => ?_) <;> (try simp at hq) <;> simp -implicitDefEqProofs [*, downTo]) | (with_reducible refine gOps_not (fun hq => ?_) (fun hq => ?_) <;> (try simp at hq) <;> simp -implicitDefEqProofs [*, downTo]) | (with_reducible refine gOps_split (fun hq => ?_) (fun hq => ?_) <;> (try simp at hq) <;> simp -implicitDefEqProofs [*, downTo]) | (with_reducible refine condC_dec (fun _ => ?_) (fun _ => ?_) <;> simp -implicitDefEqProofs [*, downTo]) | (with_reducible refine condC_ndec (fun _ => ?_) (fun _ => ?_) <;> simp -implicitDefEqProofs [*, downTo]) | (with_reducible refine condC_and (fun hq => ?_) (fun hq => ?_) <;> (try simp at hq) <;> simp -implicitDefEqProofs [*, downTo]) | (with_reducible refine condC_or (fun hq => ?_) (fun hq => ?_) <;> (try simp at hq) <;> simp -implicitDefEqProofs [*, downTo]) | (with_reducible refine condC_not (fun hq => ?_) (fun hq => ?_) <;> (try simp at hq) <;> simp -implicitDefEqProofs [*, downTo]) | (with_reducible refine condC_split (fun hq => ?_) (fun hq => ?_) <;> (try simp at hq) <;> simp -implicitDefEqProofs [*, downTo]) | (refine appK2_if (by omega) ?_; simp -implicitDefEqProofs [*, downTo]) | (refine pureV_if (by omega) ?_; simp -implicitDefEqProofs [*, downTo]))
end Go.AM
/- Plain law: peers: one is heard, all age. -/
namespace Go.AM
set_option linter.unusedSimpArgs false
set_option linter.unusedVariables false

def PeerOk (base last : Int) (p : Peer) : Prop := place p.id = true ∧ 0 ≤ p.missed ∧ p.missed < 3 ∧ last < far base p.id
theorem peersOk_iff {base : Int} : ∀ (ps : List Peer) (last : Int), peersOk base last ps = true ↔ (∀ p ∈ ps, PeerOk base last p) ∧ ps.Pairwise (fun p q => far base p.id < far base q.id) := by
  intro ps
  induction ps with
  | nil => intro last; simp [peersOk]
  | cons p ps ih =>
    intro last
    simp only [peersOk, Bool.and_eq_true, decide_eq_true_eq, ih, List.mem_cons, List.pairwise_cons, PeerOk]
    constructor
    · rintro ⟨⟨⟨⟨h1, h2⟩, h3⟩, h4⟩, h5, h6⟩
      refine ⟨?_, fun q hq => (h5 q hq).2.2.2, h6⟩
      rintro q (rfl | hq)
      · exact ⟨h1, h2, h3, h4⟩
      · obtain ⟨a, b, c, d⟩ := h5 q hq
        exact ⟨a, b, c, by omega⟩
    · rintro ⟨h1, h2, h3⟩
      obtain ⟨a, b, c, d⟩ := h1 p (.inl rfl)
      refine ⟨⟨⟨⟨a, b⟩, c⟩, d⟩, fun q hq => ?_, h3⟩
      obtain ⟨a', b', c', d'⟩ := h1 q (.inr hq)
      exact ⟨a', b', c', h2 q hq⟩
theorem peersMay_iff {base : Int} {ps : List Peer} : peersMay base ps = true ↔ place base = true ∧ ps.length ≤ 16 ∧ (∀ p ∈ ps, PeerOk base 0 p) ∧ ps.Pairwise (fun p q => far base p.id < far base q.id) := by
  simp only [peersMay, Bool.and_eq_true, decide_eq_true_eq, peersOk_iff]
  constructor
  · rintro ⟨⟨a, b⟩, c⟩; exact ⟨a, b, c⟩
  · rintro ⟨a, b, c⟩; exact ⟨⟨a, b⟩, c⟩

theorem hearG_true (base id : Int) : ∀ ps : List Peer, hearG base id true ps = ps.filter fun p => !decide (p.id = id) := by
  intro ps
  induction ps with
  | nil => rfl
  | cons p ps ih =>
    simp only [hearG, Bool.true_or, ih]
    by_cases h : p.id = id <;> simp [h]
theorem hearG_far (base id : Int) (p : Peer) (ps : List Peer) (h : far base id ≤ far base p.id) : hearG base id false (p :: ps) = ⟨id, 0⟩ :: (p :: ps).filter fun p => !decide (p.id = id) := by
  simp only [hearG, h, decide_true, Bool.or_true, hearG_true]
  by_cases h2 : p.id = id <;> simp [h2]
theorem hearG_near (base id : Int) (p : Peer) (ps : List Peer) (h : ¬ far base id ≤ far base p.id) : hearG base id false (p :: ps) = p :: hearG base id false ps := by
  have : p.id ≠ id := by intro e; rw [e] at h; omega
  simp [hearG, h, this]
theorem hearG_filter (base id : Int) : ∀ ps : List Peer, (hearG base id false ps).filter (fun p => !decide (p.id = id)) = ps.filter fun p => !decide (p.id = id) := by
  intro ps
  induction ps with
  | nil => simp [hearG]
  | cons p ps ih =>
    by_cases h : far base id ≤ far base p.id
    · rw [hearG_far _ _ _ _ h]
      simp
    · rw [hearG_near _ _ _ _ h]
      have : p.id ≠ id := by intro e; rw [e] at h; omega
      simp [this, ih]
theorem hearG_zero (base id : Int) : ∀ (ps : List Peer) (q : Peer), q ∈ hearG base id false ps → q.id = id → q = ⟨id, 0⟩ := by
  intro ps
  induction ps with
  | nil => intro q hq _; simpa [hearG] using hq
  | cons p ps ih =>
    intro q hq e
    by_cases h : far base id ≤ far base p.id
    · rw [hearG_far _ _ _ _ h] at hq
      rcases List.mem_cons.1 hq with h1 | h1
      · exact h1
      · have := (List.mem_filter.1 h1).2
        simp [e] at this
    · rw [hearG_near _ _ _ _ h] at hq
      rcases List.mem_cons.1 hq with h1 | h1
      · subst h1
        rw [e] at h
        omega
      · exact ih q h1 e
theorem hearG_in (base id : Int) : ∀ (ps : List Peer) (q : Peer), q ∈ hearG base id false ps → q = ⟨id, 0⟩ ∨ q ∈ ps := by
  intro ps
  induction ps with
  | nil => intro q hq; exact .inl (by simpa [hearG] using hq)
  | cons p ps ih =>
    intro q hq
    by_cases h : far base id ≤ far base p.id
    · rw [hearG_far _ _ _ _ h] at hq
      rcases List.mem_cons.1 hq with h1 | h1
      · exact .inl h1
      · exact .inr (List.mem_filter.1 h1).1
    · rw [hearG_near _ _ _ _ h] at hq
      rcases List.mem_cons.1 hq with h1 | h1
      · exact .inr (by simp [h1])
      · rcases ih q h1 with h2 | h2
        · exact .inl h2
        · exact .inr (List.mem_cons_of_mem _ h2)
theorem hearG_length (base id : Int) : ∀ ps : List Peer, (hearG base id false ps).length = (ps.filter fun p => !decide (p.id = id)).length + 1 := by
  intro ps
  induction ps with
  | nil => rfl
  | cons p ps ih =>
    by_cases h : far base id ≤ far base p.id
    · rw [hearG_far _ _ _ _ h]
      simp
    · rw [hearG_near _ _ _ _ h]
      have : p.id ≠ id := by intro e; rw [e] at h; omega
      simp [this, ih]
theorem hearG_has (base id : Int) (ps : List Peer) : ∃ q ∈ hearG base id false ps, q.id = id := by
  have h := (hearG_mem base id ps false id).2 (.inr ⟨rfl, rfl⟩)
  simpa using h
theorem hearG_pair {base id : Int} (hb : place base = true) (hid : place id = true) : ∀ ps : List Peer, (∀ p ∈ ps, place p.id = true) → ps.Pairwise (fun p q => far base p.id < far base q.id) → (hearG base id false ps).Pairwise (fun p q => far base p.id < far base q.id) := by
  intro ps
  induction ps with
  | nil => intro _ _; simp [hearG]
  | cons p ps ih =>
    intro hp hr
    by_cases h : far base id ≤ far base p.id
    · rw [hearG_far _ _ _ _ h, List.pairwise_cons]
      refine ⟨fun q hq => ?_, hr.filter _⟩
      obtain ⟨h1, h2⟩ := List.mem_filter.1 hq
      have h3 : far base p.id ≤ far base q.id := by
        rcases List.mem_cons.1 h1 with h4 | h4
        · subst h4; omega
        · have := (List.pairwise_cons.1 hr).1 q h4
          omega
      have h5 : far base q.id ≠ far base id := by
        intro e
        have := (far_inj hb (hp q h1) hid).1 e
        simp [this] at h2
      show far base id < far base q.id
      omega
    · rw [hearG_near _ _ _ _ h, List.pairwise_cons]
      refine ⟨fun q hq => ?_, ih (fun q hq => hp q (List.mem_cons_of_mem _ hq)) (List.pairwise_cons.1 hr).2⟩
      rcases hearG_in base id ps q hq with h1 | h1
      · subst h1
        show far base p.id < far base id
        omega
      · exact (List.pairwise_cons.1 hr).1 q h1
theorem findAt_cons (base : Int) (p : Peer) (ps : List Peer) (id : Int) : findAt base (p :: ps) id = if far base p.id < far base id then findAt base ps id + 1 else 0 := by
  unfold findAt
  rw [List.takeWhile_cons]
  by_cases h : far base p.id < far base id <;> simp [h]
theorem peerIs_cons (base : Int) (p : Peer) (ps : List Peer) (id : Int) : peerIs base (p :: ps) id = if far base p.id < far base id then peerIs base ps id else decide (far base p.id = far base id) := by
  unfold peerIs
  rw [findAt_cons]
  by_cases h : far base p.id < far base id <;> simp [h, isFar]
theorem hearG_at {base id : Int} (hb : place base = true) (hid : place id = true) : ∀ ps : List Peer, (∀ p ∈ ps, place p.id = true) → ps.Pairwise (fun p q => far base p.id < far base q.id) →
    (peerIs base ps id = true → findAt base ps id < ps.length ∧ (∃ m, ps[findAt base ps id]? = some ⟨id, m⟩) ∧ hearG base id false ps = ps.set (findAt base ps id) ⟨id, 0⟩) ∧ (peerIs base ps id = false → hearG base id false ps = insL ps (findAt base ps id) ⟨id, 0⟩) := by
  intro ps
  induction ps with
  | nil => intro _ _; exact ⟨fun h => by simp [peerIs, findAt, isFar] at h, fun _ => rfl⟩
  | cons p ps ih =>
    intro hp hr
    have hr' := (List.pairwise_cons.1 hr).2
    obtain ⟨i1, i2⟩ := ih (fun q hq => hp q (List.mem_cons_of_mem _ hq)) hr'
    rw [peerIs_cons, findAt_cons]
    have hno : ∀ q ∈ ps, far base id ≤ far base p.id → q.id ≠ id := by
      intro q hq h e
      have := (List.pairwise_cons.1 hr).1 q hq
      rw [e] at this
      omega
    by_cases h : far base p.id < far base id
    · rw [if_pos h, if_pos h, hearG_near _ _ _ _ (by omega)]
      refine ⟨fun h1 => ?_, fun h1 => ?_⟩
      · obtain ⟨a, b, c⟩ := i1 h1
        exact ⟨by simp; omega, by simpa using b, by simp [c]⟩
      · rw [i2 h1]
        simp [insL]
    · rw [if_neg h, if_neg h, hearG_far _ _ _ _ (by omega)]
      have hf : ps.filter (fun p => !decide (p.id = id)) = ps := by
        rw [List.filter_eq_self]
        intro q hq
        have := hno q hq (by omega)
        simp [this]
      refine ⟨fun h1 => ?_, fun h1 => ?_⟩
      · have e : p.id = id := (far_inj hb (hp p (by simp)) hid).1 (by simpa using h1)
        obtain ⟨pi, pm⟩ := p
        simp only at e
        subst e
        refine ⟨by simp, ⟨pm, rfl⟩, ?_⟩
        simp [hf]
      · have e : p.id ≠ id := by
          intro e
          rw [e] at h1
          simp at h1
        simp [e, hf, insL]
end Go.AM
/- AM: contracts: peers: one is heard, all age. -/
namespace Go.AM
set_option linter.unusedSimpArgs false
set_option linter.unusedVariables false
set_option maxRecDepth 8000
set_option maxHeartbeats 0
theorem peer_still (p : Peer) : ∀ d ∈ p.row, d.still = true := by
  intro d hd
  simp [Peer.row] at hd
  rcases hd with rfl | rfl <;> rfl
theorem peers_Heard (base : Int) (ps : List Peer) (id : Int) (hl : ps.length ≤ cap16) : Den PP 74 [.int .i64 base, peersD ps, .int .i64 id] [] (.tup [.ref 0 0 (refHeard base ps id).1.length, .int .i64 (refHeard base ps id).2]) [⟨(refHeard base ps id).1.map Peer.row, 2, .mut⟩] := by
  have c1 := peers_May base ps (cap_of hl)
  have c0 := ring_Place id
  have c2 := fun h : ps.length ≤ 16 => clone_Peer (ps.map Peer.row) (by intro r hr; obtain ⟨a, _, rfl⟩ := List.mem_map.1 hr; exact ⟨rfl, rfl⟩) (by simp; omega)
  have c3 := fun h => peers_Find base ps id (cap_of hl) h
  obtain ⟨r, hr⟩ : ∃ r, refHeard base ps id = r := ⟨_, rfl⟩
  have hr' := hr
  unfold refHeard at hr'
  rw [peersMay_eq] at hr'
  rw [hr]
  clear hr
  simp only [peersD, List.length_map] at c1 c2 c3
  refine den_ofG [26, 34] [34] [34] [] (fun _ h => absurd h List.not_mem_nil) is_peers_Heard ?_
  simp -implicitDefEqProofs [c_peers_Heard, peersD]
  refine callThen_of c1 ?_
  simp -implicitDefEqProofs
  cases h1 : peersMay base ps with
  | false =>
    rw [h1] at hr'
    simp at hr'
    subst hr'
    simp -implicitDefEqProofs
  | true =>
  cases h2 : place id with
  | false =>
    rw [h2] at hr' c0
    simp at hr'
    subst hr'
    simp -implicitDefEqProofs
    repeat' (first | (refine callThen_of (by first | exact c0) ?_; simp -implicitDefEqProofs [*]) | (with_reducible refine gOps_dec (fun _ => ?_) (fun _ => ?_) <;> simp -implicitDefEqProofs [*]) | (with_reducible refine gOps_ndec (fun _ => ?_) (fun _ => ?_) <;> simp -implicitDefEqProofs [*]) | (with_reducible refine gOps_and (fun hq => ?_) (fun hq => ?_) <;> (try simp at hq) <;> simp -implicitDefEqProofs [*]) | (with_reducible refine gOps_or (fun hq => ?_) (fun hq => ?_) <;> (try simp at hq) <;> simp -implicitDefEqProofs [*]) | (with_reducible refine gOps_not (fun hq => ?_) (fun hq => ?_) <;> (try simp at hq) <;> simp -implicitDefEqProofs [*]) | (with_reducible refine gOps_split (fun hq => ?_) (fun hq => ?_) <;> (try simp at hq) <;> simp -implicitDefEqProofs [*]) | (with_reducible refine condC_dec (fun _ => ?_) (fun _ => ?_) <;> simp -implicitDefEqProofs [*]) | (with_reducible refine condC_ndec (fun _ => ?_) (fun _ => ?_) <;> simp -implicitDefEqProofs [*]) | (with_reducible refine condC_and (fun hq => ?_) (fun hq => ?_) <;> (try simp at hq) <;> simp -implicitDefEqProofs [*]) | (with_reducible refine condC_or (fun hq => ?_) (fun hq => ?_) <;> (try simp at hq) <;> simp -implicitDefEqProofs [*]) | (with_reducible refine condC_not (fun hq => ?_) (fun hq => ?_) <;> (try simp at hq) <;> simp -implicitDefEqProofs [*]) | (with_reducible refine condC_split (fun hq => ?_) (fun hq => ?_) <;> (try simp at hq) <;> simp -implicitDefEqProofs [*]) | (refine appK2_if (by omega) ?_; simp -implicitDefEqProofs [*]) | (refine pureV_if (by omega) ?_; simp -implicitDefEqProofs [*]))
  | true =>
  rw [h1, h2] at hr'
  rw [h2] at c0
  by_cases h3 : id = base
  · simp [h3] at hr'
    subst hr'
    simp -implicitDefEqProofs
    repeat' (first | (refine callThen_of (by first | exact c0) ?_; simp -implicitDefEqProofs [*, h3]) | (with_reducible refine gOps_dec (fun _ => ?_) (fun _ => ?_) <;> simp -implicitDefEqProofs [*, h3]) | (with_reducible refine gOps_ndec (fun _ => ?_) (fun _ => ?_) <;> simp -implicitDefEqProofs [*, h3]) | (with_reducible refine gOps_and (fun hq => ?_) (fun hq => ?_) <;> (try simp at hq) <;> simp -implicitDefEqProofs [*, h3]) | (with_reducible refine gOps_or (fun hq => ?_) (fun hq => ?_) <;> (try simp at hq) <;> simp -implicitDefEqProofs [*, h3]) | (with_reducible refine gOps_not (fun hq => ?_) (fun hq => ?_) <;> (try simp at hq) <;> simp -implicitDefEqProofs [*, h3]) | (with_reducible refine gOps_split (fun hq => ?_) (fun hq => ?_) <;> (try simp at hq) <;> simp -implicitDefEqProofs [*, h3]) | (with_reducible refine condC_dec (fun _ => ?_) (fun _ => ?_) <;> simp -implicitDefEqProofs [*, h3]) | (with_reducible refine condC_ndec (fun _ => ?_) (fun _ => ?_) <;> simp -implicitDefEqProofs [*, h3]) | (with_reducible refine condC_and (fun hq => ?_) (fun hq => ?_) <;> (try simp at hq) <;> simp -implicitDefEqProofs [*, h3]) | (with_reducible refine condC_or (fun hq => ?_) (fun hq => ?_) <;> (try simp at hq) <;> simp -implicitDefEqProofs [*, h3]) | (with_reducible refine condC_not (fun hq => ?_) (fun hq => ?_) <;> (try simp at hq) <;> simp -implicitDefEqProofs [*, h3]) | (with_reducible refine condC_split (fun hq => ?_) (fun hq => ?_) <;> (try simp at hq) <;> simp -implicitDefEqProofs [*, h3]) | (refine appK2_if (by omega) ?_; simp -implicitDefEqProofs [*, h3]) | (refine pureV_if (by omega) ?_; simp -implicitDefEqProofs [*, h3]))
  obtain ⟨hb, h16, hp, hd⟩ := peersMay_iff.1 h1
  obtain ⟨ha1, ha2⟩ := hearG_at hb h2 ps (fun p hp' => (hp p hp').1) hd
  have hlen := hearG_length base id ps
  have hple := findAt_le base ps id
  have c4 := c3 (peersMay_rowed h1)
  clear c3
  generalize peerIs base ps id = A at *
  generalize findAt base ps id = p at *
  have h3' : (id == base) = false := by simpa using h3
  simp only [h3', Bool.not_false, Bool.and_self, if_true] at hr'
  simp -implicitDefEqProofs
  refine callThen_of c0 ?_
  simp -implicitDefEqProofs [h3]
  refine callThen_of (c2 h16) ?_
  simp -implicitDefEqProofs [downTo]
  refine callThen_of c4 ?_
  simp -implicitDefEqProofs [downTo]
  cases A with
  | true =>
    obtain ⟨hlt, ⟨m, hy⟩, hput⟩ := ha1 rfl
    have hr2 : r = (ps.set p ⟨id, 0⟩, 0) := by
      rw [← hr', hput]
      simp [h16]
    subst hr2
    have hlt' : (p : Int) < ps.length := by omega
    have hy2 : ps[p] = ⟨id, m⟩ := by simpa [hlt] using hy
    clear hr' hput ha1 ha2 hlen c4 hp hd
    simp -implicitDefEqProofs [hlt, hlt', hy2, Peer.row]
  | false =>
    have hput := ha2 rfl
    rw [hput] at hr' hlen
    simp only [insL_length] at hr' hlen
    by_cases h5 : ps.length = 16
    · have hr2 : r = ([], 701) := by
        rw [← hr']
        simp [h5]
      subst hr2
      clear hr' hput ha1 ha2 hlen c4 hp hd
      simp -implicitDefEqProofs [h5]
    · have hr2 : r = (insL ps p ⟨id, 0⟩, 0) := by
        rw [← hr', if_pos (by omega)]
      subst hr2
      clear hr' hput ha1 ha2 hlen c4 hp hd
      have h5' : ¬ (ps.length : Int) = 16 := by omega
      simp -implicitDefEqProofs [h5']
      refine giveThen_of rfl (by simp) (by simp) (by simp) (insert_Peer (ps.map Peer.row) (Peer.row ⟨id, 0⟩) p (by simp [Peer.row]) (StillR.map _ _ fun a _ => peer_still a) (by intro r hr; rw [List.mem_singleton.1 hr]; exact ⟨rfl, rfl⟩) (peer_still _) (by simpa using hple) (by simp; omega)) ?_
      rw [← insL_map]
      simp -implicitDefEqProofs [downTo]
end Go.AM
/- Plain law: peers heard in a row stand in the row of distances. -/
namespace Go.AM
set_option linter.unusedSimpArgs false
set_option linter.unusedVariables false

end Go.AM
/- Plain law: greetings. -/
namespace Go.AM
set_option linter.unusedSimpArgs false
set_option linter.unusedVariables false

def knowsV (v : View) (x : Int) : Bool := (v.peers.map Peer.id).contains x || v.passive.contains x
def roomV (v : View) (x : Int) : Bool := knowsV v x || decide (v.peers.length + v.passive.length < 16)
def knownV (v : View) (x : Int) : View := if roomV v x then ⟨v.id, hearG v.id x false v.peers, v.passive.filter fun y => !decide (y = x)⟩ else v
def tellV (v : View) (x : Int) : View := if !decide (x = v.id) && !knowsV v x then knownV v x else v
def helloV (v : View) (a : Int) (ids : List Int) : View := ids.foldl tellV (knownV v a)
def helloOk (v : View) (a : Int) (ids : List Int) : Bool := viewMay v && (place a && (!decide (a = v.id) && (decide (ids.length ≤ 16) && ids.all place)))

theorem viewMay_of {v : View} (h1 : peersMay v.id v.peers = true) (h2 : passiveMay v.passive = true) (h3 : v.peers.length + v.passive.length ≤ 16) (h4 : ∀ x ∈ v.passive, x ≠ v.id ∧ x ∉ v.peers.map Peer.id) : viewMay v = true := by
  simp only [viewMay, Bool.and_eq_true, decide_eq_true_eq, Bool.not_eq_true']
  refine ⟨⟨⟨h1, h2⟩, h3⟩, ?_⟩
  rw [List.any_eq_false]
  intro x hx
  simp only [oddIn, Bool.or_eq_true, not_or]
  rw [peerIs_mem h1 (passiveMay_places h2 x hx)]
  have := h4 x hx
  simpa using this
theorem knowsV_iff (v : View) (x : Int) : knowsV v x = true ↔ (∃ q ∈ v.peers, q.id = x) ∨ x ∈ v.passive := by
  simp [knowsV]
theorem hearG_mem_iff {b x : Int} {ps : List Peer} (q : Peer) : q ∈ hearG b x false ps ↔ q = ⟨x, 0⟩ ∨ (q ∈ ps ∧ q.id ≠ x) := by
  have hf := hearG_filter b x ps
  constructor
  · intro h
    by_cases he : q.id = x
    · exact .inl (hearG_zero b x ps q h he)
    · rcases hearG_in b x ps q h with h' | h'
      · exact .inl h'
      · exact .inr ⟨h', he⟩
  · rintro (rfl | ⟨h, he⟩)
    · obtain ⟨q, hq, hi⟩ := hearG_has b x ps
      rw [← hearG_zero b x ps q hq hi]
      exact hq
    · have : q ∈ (hearG b x false ps).filter fun p => !decide (p.id = x) := by rw [hf]; simp [h, he]
      exact (List.mem_filter.1 this).1
theorem knownV_id (v : View) (x : Int) : (knownV v x).id = v.id := by
  unfold knownV; split <;> rfl
theorem knownV_no {v : View} {x : Int} (h : roomV v x = false) : knownV v x = v := by
  unfold knownV; rw [if_neg (by simp [h])]
theorem knownV_peers {v : View} {x : Int} (h : roomV v x = true) (q : Peer) : q ∈ (knownV v x).peers ↔ q = ⟨x, 0⟩ ∨ (q ∈ v.peers ∧ q.id ≠ x) := by
  unfold knownV; rw [if_pos h]; exact hearG_mem_iff q
theorem knownV_passive {v : View} {x : Int} (h : roomV v x = true) (y : Int) : y ∈ (knownV v x).passive ↔ y ∈ v.passive ∧ y ≠ x := by
  unfold knownV; rw [if_pos h]; simp
theorem tellV_id (v : View) (x : Int) : (tellV v x).id = v.id := by
  unfold tellV; split
  · exact knownV_id v x
  · rfl

def sizeV (v : View) : Nat := v.peers.length + v.passive.length
theorem filter_len_peers {b : Int} {ps : List Peer} (h : peersMay b ps = true) {x : Int} : (ps.filter fun p => !decide (p.id = x)).length + (if (∃ q ∈ ps, q.id = x) then 1 else 0) = ps.length := by
  obtain ⟨hb, _, h1, h2⟩ := peersMay_iff.1 h
  clear h h1
  induction ps with
  | nil => simp
  | cons p ps ih =>
    have hp := (List.pairwise_cons.1 h2).1
    have ih := ih (by first | assumption | (rename_i hlen; simp at hlen; omega)) (List.pairwise_cons.1 h2).2
    by_cases he : p.id = x
    · have hno : ¬ ∃ q ∈ ps, q.id = x := by
        rintro ⟨q, hq, hqx⟩
        have := hp q hq
        rw [he, hqx] at this
        omega
      rw [if_neg hno] at ih
      rw [if_pos ⟨p, by simp, he⟩]
      simp [he]
      simpa using ih
    · have : (∃ q ∈ p :: ps, q.id = x) ↔ ∃ q ∈ ps, q.id = x := by simp [he]
      simp only [this]
      simp [he]
      omega
theorem passive_len {xs : List Int} (h : passiveMay xs = true) (x : Int) : (xs.filter fun y => !decide (y = x)).length + (if x ∈ xs then 1 else 0) = xs.length := by
  by_cases hx : x ∈ xs
  · rw [if_pos hx, ← filter_one ((passiveMay_iff xs).1 h).1 hx]
  · rw [if_neg hx, filter_out hx]; rfl
theorem knownV_size {v : View} {x : Int} (hv : viewMay v = true) (h : roomV v x = true) : sizeV (knownV v x) = if knowsV v x then sizeV v else sizeV v + 1 := by
  obtain ⟨h1, h2, h3, h4⟩ := viewMay_parts hv
  have e1 := filter_len_peers h1 (x := x)
  have e2 := passive_len h2 x
  have e3 := hearG_length v.id x v.peers
  have hk := knowsV_iff v x
  unfold sizeV knownV
  rw [if_pos h]
  simp only
  by_cases hp : ∃ q ∈ v.peers, q.id = x
  · have hnx : x ∉ v.passive := by
      intro hx
      obtain ⟨q, hq, hqx⟩ := hp
      exact (h4 x hx).2 (List.mem_map.2 ⟨q, hq, hqx⟩)
    rw [if_pos hp] at e1
    rw [if_neg hnx] at e2
    rw [if_pos (hk.2 (.inl hp))]
    omega
  · rw [if_neg hp] at e1
    by_cases hx : x ∈ v.passive
    · rw [if_pos hx] at e2
      rw [if_pos (hk.2 (.inr hx))]
      omega
    · rw [if_neg hx] at e2
      have : ¬ knowsV v x = true := by rw [hk]; simp [hp, hx]
      rw [if_neg this]
      omega
theorem knownV_may {v : View} {x : Int} (hv : viewMay v = true) (hx : place x = true) (hn : x ≠ v.id) : viewMay (knownV v x) = true ∧ (roomV v x = true → refHeard v.id v.peers x = (hearG v.id x false v.peers, 0)) := by
  cases hr : roomV v x with
  | false => rw [knownV_no hr]; exact ⟨hv, by simp⟩
  | true =>
    have hsz := knownV_size hv hr
    obtain ⟨h1, h2, h3, h4⟩ := viewMay_parts hv
    obtain ⟨hb, _, hok, hpw⟩ := peersMay_iff.1 h1
    have hle : sizeV (knownV v x) ≤ 16 := by
      rw [hsz]
      unfold roomV at hr
      split
      · exact h3
      · rename_i hk
        simp [hk] at hr
        unfold sizeV
        omega
    have hpm : peersMay v.id (hearG v.id x false v.peers) = true := by
      rw [peersMay_iff]
      refine ⟨hb, ?_, ?_, hearG_pair hb hx v.peers (fun p hp => (hok p hp).1) hpw⟩
      · have : (knownV v x).peers = hearG v.id x false v.peers := by unfold knownV; rw [if_pos hr]
        unfold sizeV at hle
        rw [this] at hle
        omega
      · intro p hp
        rcases hearG_mem_iff (b := v.id) p |>.1 hp with rfl | ⟨hp, _⟩
        · refine ⟨hx, by simp, by simp, ?_⟩
          have := far_range hb hx
          have := mt (far_zero hb hx).1 hn
          simp only
          omega
        · exact hok p hp
    have hpeers : (knownV v x).peers = hearG v.id x false v.peers := by unfold knownV; rw [if_pos hr]
    refine ⟨viewMay_of ?_ ?_ hle ?_, fun _ => ?_⟩
    · rw [hpeers, knownV_id]; exact hpm
    · unfold knownV; rw [if_pos hr]; exact passiveMay_filter h2
    · intro y hy
      rw [knownV_passive hr] at hy
      have := h4 y hy.1
      refine ⟨by rw [knownV_id]; exact this.1, ?_⟩
      intro hm
      obtain ⟨q, hq, hqy⟩ := List.mem_map.1 hm
      rw [knownV_peers hr] at hq
      rcases hq with rfl | ⟨hq, _⟩
      · exact hy.2 hqy.symm
      · exact this.2 (List.mem_map.2 ⟨q, hq, hqy⟩)
    · have hl : (hearG v.id x false v.peers).length ≤ 16 := (peersMay_iff.1 hpm).2.1
      unfold refHeard
      rw [peersMay_eq, h1, hx]
      simp [hn, hl]
theorem tellV_may {v : View} {x : Int} (hv : viewMay v = true) (hx : place x = true) : viewMay (tellV v x) = true := by
  unfold tellV
  split
  · rename_i h
    simp only [Bool.and_eq_true, Bool.not_eq_true', decide_eq_false_iff_not] at h
    exact (knownV_may hv hx h.1).1
  · exact hv
theorem tells_may : ∀ (ids : List Int) (v : View), viewMay v = true → (∀ x ∈ ids, place x = true) → viewMay (ids.foldl tellV v) = true ∧ (ids.foldl tellV v).id = v.id := by
  intro ids
  induction ids with
  | nil => intro v hv _; exact ⟨hv, rfl⟩
  | cons x ids ih =>
    intro v hv hp
    obtain ⟨a, b⟩ := ih (tellV v x) (tellV_may hv (hp x (by simp))) (fun y hy => hp y (by simp [hy]))
    exact ⟨a, by rw [List.foldl_cons, b, tellV_id]⟩
theorem helloOk_parts {v : View} {a : Int} {ids : List Int} (h : helloOk v a ids = true) : viewMay v = true ∧ place a = true ∧ a ≠ v.id ∧ ids.length ≤ 16 ∧ ∀ x ∈ ids, place x = true := by
  simp only [helloOk, Bool.and_eq_true, Bool.not_eq_true', decide_eq_false_iff_not, decide_eq_true_eq, List.all_eq_true] at h
  exact ⟨h.1, h.2.1, h.2.2.1, h.2.2.2.1, h.2.2.2.2⟩
theorem helloV_may {v : View} {a : Int} {ids : List Int} (h : helloOk v a ids = true) : viewMay (helloV v a ids) = true ∧ (helloV v a ids).id = v.id := by
  obtain ⟨h1, h2, h3, h4, h5⟩ := helloOk_parts h
  obtain ⟨a, b⟩ := tells_may ids _ (knownV_may h1 h2 h3).1 h5
  exact ⟨a, by unfold helloV; rw [b, knownV_id]⟩

theorem tellV_mem {v : View} {x : Int} (q : Peer) : q ∈ (tellV v x).peers ↔ q ∈ v.peers ∨ (q = ⟨x, 0⟩ ∧ x ≠ v.id ∧ knowsV v x = false ∧ sizeV v < 16) := by
  unfold tellV
  cases hk : knowsV v x with
  | true => simp
  | false =>
    by_cases hx : x = v.id
    · simp [hx]
    · simp only [hx, decide_false, Bool.not_false, Bool.and_self, if_true]
      cases hr : roomV v x with
      | false =>
        rw [knownV_no hr]
        have : ¬ sizeV v < 16 := by unfold roomV at hr; simp [hk] at hr; unfold sizeV; omega
        simp [this]
      | true =>
        rw [knownV_peers hr]
        have h2 : sizeV v < 16 := by unfold roomV at hr; simp [hk] at hr; unfold sizeV; omega
        have h3 : ∀ p ∈ v.peers, p.id ≠ x := by
          intro p hp he
          have := (knowsV_iff v x).2 (.inl ⟨p, hp, he⟩)
          rw [hk] at this; cases this
        constructor
        · rintro (rfl | ⟨h, _⟩)
          · exact .inr ⟨rfl, hx, by simp, h2⟩
          · exact .inl h
        · rintro (h | ⟨rfl, _⟩)
          · exact .inr ⟨h, h3 q h⟩
          · exact .inl rfl
theorem tellV_passive {v : View} {x : Int} : (tellV v x).passive = v.passive := by
  unfold tellV
  split
  · rename_i h
    simp only [Bool.and_eq_true, Bool.not_eq_true'] at h
    unfold knownV
    split
    · have : x ∉ v.passive := by
        intro hx
        have := (knowsV_iff v x).2 (.inr hx)
        rw [h.2] at this; cases this
      simp only
      rw [filter_out this]
    · rfl
  · rfl
theorem tellV_knows {v : View} {x y : Int} (h : knowsV v y = true) : knowsV (tellV v x) y = true := by
  rw [knowsV_iff] at h ⊢
  rw [tellV_passive]
  rcases h with ⟨q, hq, he⟩ | h
  · exact .inl ⟨q, (tellV_mem q).2 (.inl hq), he⟩
  · exact .inr h
theorem tellV_size {v : View} {x : Int} (hv : viewMay v = true) : sizeV v ≤ sizeV (tellV v x) ∧ sizeV (tellV v x) ≤ sizeV v + 1 := by
  unfold tellV
  split
  · cases hr : roomV v x with
    | false => rw [knownV_no hr]; omega
    | true => rw [knownV_size hv hr]; split <;> omega
  · omega
theorem tells_mem : ∀ (ids : List Int) (v : View), viewMay v = true → (∀ x ∈ ids, place x = true) →
    (∀ q, q ∈ v.peers → q ∈ (ids.foldl tellV v).peers) ∧ (ids.foldl tellV v).passive = v.passive ∧ sizeV v ≤ sizeV (ids.foldl tellV v) ∧ sizeV (ids.foldl tellV v) ≤ sizeV v + ids.length ∧
    (∀ q, q ∈ (ids.foldl tellV v).peers → q ∈ v.peers ∨ (q.missed = 0 ∧ q.id ∈ ids ∧ q.id ≠ v.id ∧ knowsV v q.id = false)) ∧
    (∀ x ∈ ids, x = v.id ∨ knowsV (ids.foldl tellV v) x = true ∨ 16 ≤ sizeV (ids.foldl tellV v)) := by
  intro ids
  induction ids with
  | nil => intro v _ _; exact ⟨fun q h => h, rfl, Nat.le_refl _, by simp, fun q h => .inl h, by simp⟩
  | cons x ids ih =>
    intro v hv hp
    have hm := tellV_may hv (hp x (by simp))
    obtain ⟨a1, a2, a3, a4, a5, a6⟩ := ih (tellV v x) hm (fun y hy => hp y (by simp [hy]))
    obtain ⟨s1, s2⟩ := tellV_size (x := x) hv
    rw [List.foldl_cons]
    refine ⟨fun q hq => a1 q ((tellV_mem q).2 (.inl hq)), by rw [a2, tellV_passive], by omega, by simp only [List.length_cons]; omega, fun q hq => ?_, fun y hy => ?_⟩
    · rcases a5 q hq with h | ⟨h1, h2, h3, h4⟩
      · rcases (tellV_mem q).1 h with h | ⟨rfl, h1, h2, _⟩
        · exact .inl h
        · exact .inr ⟨rfl, by simp, h1, h2⟩
      · refine .inr ⟨h1, by simp [h2], by rw [tellV_id] at h3; exact h3, ?_⟩
        cases hk : knowsV v q.id with
        | false => rfl
        | true => rw [tellV_knows hk] at h4; cases h4
    · rcases List.mem_cons.1 hy with rfl | hy
      · by_cases hid : y = v.id
        · exact .inl hid
        · right
          have step : knowsV (tellV v y) y = true ∨ 16 ≤ sizeV (tellV v y) := by
            cases hk : knowsV v y with
            | true => exact .inl (tellV_knows hk)
            | false =>
              by_cases hs : sizeV v < 16
              · exact .inl ((knowsV_iff _ _).2 (.inl ⟨⟨y, 0⟩, (tellV_mem _).2 (.inr ⟨rfl, hid, hk, hs⟩), rfl⟩))
              · exact .inr (by omega)
          rcases step with h | h
          · left
            rw [knowsV_iff] at h ⊢
            rw [a2]
            rcases h with ⟨q, hq, he⟩ | h
            · exact .inl ⟨q, a1 q hq, he⟩
            · exact .inr h
          · right; omega
      · have := a6 y hy
        rw [tellV_id] at this
        exact this
end Go.AM
/- AM: contracts: one is heard, of a view that is lent. -/
namespace Go.AM
set_option linter.unusedSimpArgs false
set_option linter.unusedVariables false
set_option maxRecDepth 8000
set_option maxHeartbeats 0
theorem slices_Index_int (xs : List Int) (y : Int) (hl : xs.length ≤ cap) : Den PP 88 [intsD xs, .int .i64 y] [] (.int .i64 (fIdx (fun x => decide (y = x)) 0 xs)) [] := by
  unfold cap at hl
  refine den_of [] [] is_slices_Index_int_int ?_
  simp -implicitDefEqProofs [c_slices_Index_int_int, intsD]
  refine anyLoop_of (xs.length + 1) ?_
  have key : ∀ (Q : Ex → St → Prop) (r : Int) (hQ1 : ∀ fr, r = -1 → Q .normal ⟨fr, []⟩) (hQ2 : ∀ fr bs, fr 4 = .int .i64 r → Q .ret ⟨fr, bs⟩) (rest : List Int) (i : Nat) (fr : Nat → D), xs.drop i = rest → i ≤ xs.length →
      fr 0 = .sl (xs.map irow) xs.length → fr 1 = .int .i64 y → fr 7 = .int .i64 xs.length → fr 8 = .int .i64 i → fIdx (fun x => decide (y = x)) i rest = r → sLoop (cf 0 [] []) 0 c_slices_Index_int_int_L0 (blockQ 0 Q) (rest.length + 1) ⟨fr, []⟩ := by
    intro Q r hQ1 hQ2 rest
    induction rest with
    | nil =>
      intro i fr e hi h0 h1 h7 h8 hm
      refine sLoop_body c_slices_Index_int_int_L0.eq_1 ?_
      have hi' := drop_nil e hi
      simp -implicitDefEqProofs [h0, h1, h7, h8, hi']
      exact hQ1 _ hm.symm
    | cons x rest ih =>
      intro i fr e hi h0 h1 h7 h8 hm
      refine sLoop_body c_slices_Index_int_int_L0.eq_1 ?_
      obtain ⟨hlt, hget, hd, hlen⟩ := drop_cons e
      have hlt' : (i : Int) < xs.length := by omega
      have hw := wrap_next (show i ≤ 140737488355328 by omega)
      simp only [fIdx] at hm
      simp -implicitDefEqProofs [h0, h1, h7, h8, hlt', hget, irow]
      refine condC_dec (fun h2 => ?_) (fun h2 => ?_)
      all_goals simp -implicitDefEqProofs [h2, h0, h1, h7, h8, hw]
      · exact hQ2 _ _ (by rw [← hm]; simp [h2])
      · exact ih (i + 1) _ hd (by omega) (by simp [h0]) (by simp [h1]) (by simp [h7]) (by simp) (by rw [← hm]; simp [h2])
  refine key _ (fIdx (fun x => decide (y = x)) 0 xs) (fun fr h => ?_) (fun fr bs h => ?_) xs 0 _ rfl (Nat.zero_le _) rfl rfl rfl rfl rfl
  · simp -implicitDefEqProofs [h]
  · simp -implicitDefEqProofs [h]
theorem slices_Contains_int (xs : List Int) (y : Int) (hl : xs.length ≤ cap) : Den PP 76 [intsD xs, .int .i64 y] [] (.bool (xs.contains y)) [] := by
  have c1 := slices_Index_int xs y hl
  have e := fIdx_any (fun x => decide (y = x)) xs 0
  have e2 : xs.contains y = xs.any fun x => decide (y = x) := by
    rw [Bool.eq_iff_iff]
    simp
  rw [e2]
  simp only [intsD] at c1 ⊢
  refine den_of [] [] is_slices_Contains_int_int ?_
  simp -implicitDefEqProofs [c_slices_Contains_int_int]
  refine callThen_of c1 ?_
  simp -implicitDefEqProofs [← e]
theorem view_Passive (v : View) (id : Int) (hl : v.passive.length ≤ cap) : Den PP 61 [.mem v.cells, .int .i64 id] [] (.bool (v.passive.contains id)) [] := by
  have c1 := slices_Contains_int v.passive id hl
  simp only [intsD, View.cells, peersD] at c1 ⊢
  generalize v.passive.contains id = B at *
  refine den_of [] [] is_view_Passive ?_
  simp -implicitDefEqProofs [c_view_Passive]
  repeat' (first | (refine callThen_of (by first | exact c1) ?_; simp -implicitDefEqProofs [*]) | (with_reducible refine gOps_dec (fun _ => ?_) (fun _ => ?_) <;> simp -implicitDefEqProofs [*]) | (with_reducible refine gOps_ndec (fun _ => ?_) (fun _ => ?_) <;> simp -implicitDefEqProofs [*]) | (with_reducible refine gOps_and (fun hq => ?_) (fun hq => ?_) <;> (try simp at hq) <;> simp -implicitDefEqProofs [*]) | (with_reducible refine gOps_or (fun hq => ?_) (fun hq => ?_) <;> (try simp at hq) <;> simp -implicitDefEqProofs [*]) | (with_reducible refine gOps_not (fun hq => ?_) (fun hq => ?_) <;> (try simp at hq) <;> simp -implicitDefEqProofs [*]) | (with_reducible refine gOps_split (fun hq => ?_) (fun hq => ?_) <;> (try simp at hq) <;> simp -implicitDefEqProofs [*]) | (with_reducible refine condC_dec (fun _ => ?_) (fun _ => ?_) <;> simp -implicitDefEqProofs [*]) | (with_reducible refine condC_ndec (fun _ => ?_) (fun _ => ?_) <;> simp -implicitDefEqProofs [*]) | (with_reducible refine condC_and (fun hq => ?_) (fun hq => ?_) <;> (try simp at hq) <;> simp -implicitDefEqProofs [*]) | (with_reducible refine condC_or (fun hq => ?_) (fun hq => ?_) <;> (try simp at hq) <;> simp -implicitDefEqProofs [*]) | (with_reducible refine condC_not (fun hq => ?_) (fun hq => ?_) <;> (try simp at hq) <;> simp -implicitDefEqProofs [*]) | (with_reducible refine condC_split (fun hq => ?_) (fun hq => ?_) <;> (try simp at hq) <;> simp -implicitDefEqProofs [*]) | (refine appK2_if (by omega) ?_; simp -implicitDefEqProofs [*]) | (refine pureV_if (by omega) ?_; simp -implicitDefEqProofs [*]))
theorem hello_room (v : View) (h1 : v.peers.length ≤ 16) (h2 : v.passive.length ≤ 16) : Den PP 72 [.mem v.cells] [] (.bool (decide (v.peers.length + v.passive.length < 16))) [] := by
  have w : IntKind.wrap .i64 ((v.peers.length : Int) + v.passive.length) = v.peers.length + v.passive.length := wrap_in (by omega) (by omega)
  have e : decide (v.peers.length + v.passive.length < 16) = decide ((v.peers.length : Int) + v.passive.length < 16) := by
    rw [decide_eq_decide]; omega
  rw [e]
  simp only [View.cells, peersD, intsD]
  refine den_of [] [] is_hello_room ?_
  simp -implicitDefEqProofs [c_hello_room, w]
def viewBox (v : View) (p q : Nat) : Blk := ⟨[[.int .i64 v.id, .ref p 0 v.peers.length, .ref q 0 v.passive.length]], 3, .box⟩
def psB (v : View) : Blk := ⟨v.peers.map Peer.row, 2, .mut⟩
def xsB (v : View) : Blk := ⟨v.passive.map irow, 1, .mut⟩
theorem hello_heard (v : View) (id : Int) (hv : viewMay v = true) (hp : place id = true) (hn : id ≠ v.id) : Den PP 59 [.ptr 0 0 0, .int .i64 id] [viewBox v 1 2, psB v, xsB v] (.tup [])
    (if roomV v id then [viewBox (knownV v id) 3 4, ⟨v.peers.map Peer.row, 2, .app⟩, ⟨v.passive.map irow, 1, .app⟩, psB (knownV v id), xsB (knownV v id)] else [viewBox v 1 2, psB v, xsB v]) := by
  obtain ⟨p1, p2, p3, p4⟩ := viewMay_parts hv
  have c1 := view_Peer v id (by unfold cap; omega) (peersMay_rowed p1)
  rw [peerIs_mem p1 hp] at c1
  have c2 := view_Passive v id (by unfold cap; omega)
  have c3 := hello_room v (by omega) (by omega)
  have c4 := passive_Without v.passive id (by unfold cap; omega)
  rw [show withoutP v.passive id = (v.passive.filter fun y => !decide (y = id), 0) by simp [withoutP, p2, hp]] at c4
  have c5 := peers_Heard v.id v.peers id (by unfold cap16; omega)
  have hk := (knownV_may hv hp hn).2
  have hkv : roomV v id = true → knownV v id = ⟨v.id, hearG v.id id false v.peers, v.passive.filter fun y => !decide (y = id)⟩ := by intro h; unfold knownV; rw [if_pos h]
  unfold viewBox psB xsB
  cases hr : roomV v id with
  | false =>
    clear hk hkv c4 c5
    simp only [Bool.false_eq_true, if_false]
    simp only [roomV, knowsV] at hr
    generalize (v.peers.map Peer.id).contains id = A at *
    generalize v.passive.contains id = B at *
    generalize decide (v.peers.length + v.passive.length < 16) = R at *
    simp only [View.cells, peersD, intsD] at c1 c2 c3
    clear p1 p2 p3 p4 hv hp hn
    simp only [Bool.or_eq_false_iff] at hr
    obtain ⟨⟨rfl, rfl⟩, rfl⟩ := hr
    refine den_of [27, 43] [] is_hello_heard ?_
    simp -implicitDefEqProofs [c_hello_heard]
    repeat' (first | (refine callThen_of (by first | exact c1 | exact c2 | exact c3) ?_; simp -implicitDefEqProofs [*, downTo]) | (with_reducible refine gOps_dec (fun _ => ?_) (fun _ => ?_) <;> simp -implicitDefEqProofs [*, downTo]) | (with_reducible refine gOps_ndec (fun _ => ?_) (fun _ => ?_) <;> simp -implicitDefEqProofs [*, downTo]) | (with_reducible refine gOps_and (fun hq => ?_) (fun hq => ?_) <;> (try simp at hq) <;> simp -implicitDefEqProofs [*, downTo]) | (with_reducible refine gOps_or (fun hq => ?_) (fun hq => ?_) <;> (try simp at hq) <;> simp -implicitDefEqProofs [*, downTo]) | (with_reducible refine gOps_not (fun hq => ?_) (fun hq => ?_) <;> (try simp at hq) <;> simp -implicitDefEqProofs [*, downTo]) | (with_reducible refine gOps_split (fun hq => ?_) (fun hq => ?_) <;> (try simp at hq) <;> simp -implicitDefEqProofs [*, downTo]) | (with_reducible refine condC_dec (fun _ => ?_) (fun _ => ?_) <;> simp -implicitDefEqProofs [*, downTo]) | (with_reducible refine condC_ndec (fun _ => ?_) (fun _ => ?_) <;> simp -implicitDefEqProofs [*, downTo]) | (with_reducible refine condC_and (fun hq => ?_) (fun hq => ?_) <;> (try simp at hq) <;> simp -implicitDefEqProofs [*, downTo]) | (with_reducible refine condC_or (fun hq => ?_) (fun hq => ?_) <;> (try simp at hq) <;> simp -implicitDefEqProofs [*, downTo]) | (with_reducible refine condC_not (fun hq => ?_) (fun hq => ?_) <;> (try simp at hq) <;> simp -implicitDefEqProofs [*, downTo]) | (with_reducible refine condC_split (fun hq => ?_) (fun hq => ?_) <;> (try simp at hq) <;> simp -implicitDefEqProofs [*, downTo]) | (refine appK2_if (by omega) ?_; simp -implicitDefEqProofs [*, downTo]) | (refine pureV_if (by omega) ?_; simp -implicitDefEqProofs [*, downTo]))
  | true =>
    simp only [if_true]
    rw [hkv hr]
    rw [hk hr] at c5
    clear hk hkv
    simp only [roomV, knowsV] at hr
    generalize hearG v.id id false v.peers = ps at *
    generalize (v.passive.filter fun y => !decide (y = id)) = xs at *
    generalize (v.peers.map Peer.id).contains id = A at *
    generalize v.passive.contains id = B at *
    generalize decide (v.peers.length + v.passive.length < 16) = R at *
    simp only [View.cells, peersD, intsD] at c1 c2 c3 c4 c5
    clear p1 p2 p3 p4 hv hp hn
    refine den_of [27, 43] [] is_hello_heard ?_
    cases A <;> cases B <;> cases R
    all_goals try (simp at hr; done)
    all_goals
      clear hr
      simp -implicitDefEqProofs [c_hello_heard]
      repeat' (first | (refine callThen_of (by first | exact c1 | exact c2 | exact c3 | exact c4 | exact c5) ?_; simp -implicitDefEqProofs [*, downTo]) | (with_reducible refine gOps_dec (fun _ => ?_) (fun _ => ?_) <;> simp -implicitDefEqProofs [*, downTo]) | (with_reducible refine gOps_ndec (fun _ => ?_) (fun _ => ?_) <;> simp -implicitDefEqProofs [*, downTo]) | (with_reducible refine gOps_and (fun hq => ?_) (fun hq => ?_) <;> (try simp at hq) <;> simp -implicitDefEqProofs [*, downTo]) | (with_reducible refine gOps_or (fun hq => ?_) (fun hq => ?_) <;> (try simp at hq) <;> simp -implicitDefEqProofs [*, downTo]) | (with_reducible refine gOps_not (fun hq => ?_) (fun hq => ?_) <;> (try simp at hq) <;> simp -implicitDefEqProofs [*, downTo]) | (with_reducible refine gOps_split (fun hq => ?_) (fun hq => ?_) <;> (try simp at hq) <;> simp -implicitDefEqProofs [*, downTo]) | (with_reducible refine condC_dec (fun _ => ?_) (fun _ => ?_) <;> simp -implicitDefEqProofs [*, downTo]) | (with_reducible refine condC_ndec (fun _ => ?_) (fun _ => ?_) <;> simp -implicitDefEqProofs [*, downTo]) | (with_reducible refine condC_and (fun hq => ?_) (fun hq => ?_) <;> (try simp at hq) <;> simp -implicitDefEqProofs [*, downTo]) | (with_reducible refine condC_or (fun hq => ?_) (fun hq => ?_) <;> (try simp at hq) <;> simp -implicitDefEqProofs [*, downTo]) | (with_reducible refine condC_not (fun hq => ?_) (fun hq => ?_) <;> (try simp at hq) <;> simp -implicitDefEqProofs [*, downTo]) | (with_reducible refine condC_split (fun hq => ?_) (fun hq => ?_) <;> (try simp at hq) <;> simp -implicitDefEqProofs [*, downTo]) | (refine appK2_if (by omega) ?_; simp -implicitDefEqProofs [*, downTo]) | (refine pureV_if (by omega) ?_; simp -implicitDefEqProofs [*, downTo]))
end Go.AM
