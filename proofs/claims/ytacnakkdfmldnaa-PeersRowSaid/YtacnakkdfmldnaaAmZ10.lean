/- What the proof of this claim stands on, part 10. -/
import Derived.Test.YtacnakkdfmldnaaProg
import Derived.KernelRfl
import Derived.Test.YtacnakkdfmldnaaAmZ9
/- AM: this seat's types. -/
namespace Go.AM
set_option linter.unusedSimpArgs false
set_option linter.unusedVariables false
def tab : List (Nat × TyI) := [
  (3, ⟨.int .i64, 1, 8, [.int .i64 0]⟩),
  (4, ⟨.bool, 1, 1, [.bool false]⟩),
  (22, ⟨.slice 3, 1, 24, [.nil]⟩),
  (24, ⟨.int .i64, 1, 8, [.int .i64 0]⟩),
  (35, ⟨.slice 22, 1, 24, [.nil]⟩),
  (37, ⟨.arr 16 4, 16, 16, [.bool false, .bool false, .bool false, .bool false, .bool false, .bool false, .bool false, .bool false, .bool false, .bool false, .bool false, .bool false, .bool false, .bool false, .bool false, .bool false]⟩),
  (38, ⟨.int .u64, 1, 8, [.int .u64 0]⟩),
  (39, ⟨.slice 54, 1, 24, [.nil]⟩),
  (54, ⟨.struct [(0, 3), (1, 3)], 2, 16, [.int .i64 0, .int .i64 0]⟩),
  (55, ⟨.slice 39, 1, 24, [.nil]⟩),
  (58, ⟨.fn, 1, 8, [.undef]⟩),
  (68, ⟨.fn, 1, 8, [.undef]⟩),
  (70, ⟨.struct [(0, 3)], 1, 8, [.int .i64 0]⟩)]
def TT : Tab := fun t => match tab.find? (fun p => p.1 == t) with
  | some p => p.2
  | none => ⟨.other, 0, 0, []⟩
@[simp] theorem TT3 : TT 3 = ⟨.int .i64, 1, 8, [.int .i64 0]⟩ := by kernel_rfl
@[simp] theorem TT4 : TT 4 = ⟨.bool, 1, 1, [.bool false]⟩ := by kernel_rfl
@[simp] theorem TT22 : TT 22 = ⟨.slice 3, 1, 24, [.nil]⟩ := by kernel_rfl
@[simp] theorem TT24 : TT 24 = ⟨.int .i64, 1, 8, [.int .i64 0]⟩ := by kernel_rfl
@[simp] theorem TT35 : TT 35 = ⟨.slice 22, 1, 24, [.nil]⟩ := by kernel_rfl
@[simp] theorem TT37 : TT 37 = ⟨.arr 16 4, 16, 16, [.bool false, .bool false, .bool false, .bool false, .bool false, .bool false, .bool false, .bool false, .bool false, .bool false, .bool false, .bool false, .bool false, .bool false, .bool false, .bool false]⟩ := by kernel_rfl
@[simp] theorem TT38 : TT 38 = ⟨.int .u64, 1, 8, [.int .u64 0]⟩ := by kernel_rfl
@[simp] theorem TT39 : TT 39 = ⟨.slice 54, 1, 24, [.nil]⟩ := by kernel_rfl
@[simp] theorem TT54 : TT 54 = ⟨.struct [(0, 3), (1, 3)], 2, 16, [.int .i64 0, .int .i64 0]⟩ := by kernel_rfl
@[simp] theorem TT55 : TT 55 = ⟨.slice 39, 1, 24, [.nil]⟩ := by kernel_rfl
@[simp] theorem TT58 : TT 58 = ⟨.fn, 1, 8, [.undef]⟩ := by kernel_rfl
@[simp] theorem TT68 : TT 68 = ⟨.fn, 1, 8, [.undef]⟩ := by kernel_rfl
@[simp] theorem TT70 : TT 70 = ⟨.struct [(0, 3)], 1, 8, [.int .i64 0]⟩ := by kernel_rfl
@[simp] theorem TT0 : TT 0 = ⟨.other, 0, 0, []⟩ := by kernel_rfl
@[simp] theorem TT25 : TT 25 = ⟨.other, 0, 0, []⟩ := by kernel_rfl
@[simp] theorem TT27 : TT 27 = ⟨.other, 0, 0, []⟩ := by kernel_rfl
@[simp] theorem TT41 : TT 41 = ⟨.other, 0, 0, []⟩ := by kernel_rfl
@[simp] theorem TT43 : TT 43 = ⟨.other, 0, 0, []⟩ := by kernel_rfl
@[simp] theorem TT45 : TT 45 = ⟨.other, 0, 0, []⟩ := by kernel_rfl
@[simp] theorem TT47 : TT 47 = ⟨.other, 0, 0, []⟩ := by kernel_rfl
@[simp] theorem TT59 : TT 59 = ⟨.other, 0, 0, []⟩ := by kernel_rfl
noncomputable abbrev PP : Program := Proofs.Try.prog
theorem ty3 : TyOk PP 3 ⟨.int .i64, 1, 8, [.int .i64 0]⟩ := ⟨⟨Proofs.Try.t3, _, by kernel_rfl, rfl, rfl, rfl, by kernel_rfl, by kernel_rfl, by kernel_rfl⟩, ⟨_, (by kernel_rfl : PP.underlying 3 = some (TypeDesc.int IntKind.i64)), by simp [descOk]⟩⟩
theorem ty4 : TyOk PP 4 ⟨.bool, 1, 1, [.bool false]⟩ := ⟨⟨Proofs.Try.t4, _, by kernel_rfl, rfl, rfl, rfl, by kernel_rfl, by kernel_rfl, by kernel_rfl⟩, ⟨_, (by kernel_rfl : PP.underlying 4 = some TypeDesc.bool), by simp [descOk]⟩⟩
theorem ty22 : TyOk PP 22 ⟨.slice 3, 1, 24, [.nil]⟩ := ⟨⟨Proofs.Try.t22, _, by kernel_rfl, rfl, rfl, rfl, by kernel_rfl, by kernel_rfl, by kernel_rfl⟩, ⟨_, (by kernel_rfl : PP.underlying 22 = some (TypeDesc.slice 3)), by simp [descOk]⟩⟩
theorem ty24 : TyOk PP 24 ⟨.int .i64, 1, 8, [.int .i64 0]⟩ := ⟨⟨Proofs.Try.t24, _, by kernel_rfl, rfl, rfl, rfl, by kernel_rfl, by kernel_rfl, by kernel_rfl⟩, ⟨_, (by kernel_rfl : PP.underlying 24 = some (TypeDesc.int IntKind.i64)), by simp [descOk]⟩⟩
theorem ty35 : TyOk PP 35 ⟨.slice 22, 1, 24, [.nil]⟩ := ⟨⟨Proofs.Try.t35, _, by kernel_rfl, rfl, rfl, rfl, by kernel_rfl, by kernel_rfl, by kernel_rfl⟩, ⟨_, (by kernel_rfl : PP.underlying 35 = some (TypeDesc.slice 22)), by simp [descOk]⟩⟩
theorem ty37 : TyOk PP 37 ⟨.arr 16 4, 16, 16, [.bool false, .bool false, .bool false, .bool false, .bool false, .bool false, .bool false, .bool false, .bool false, .bool false, .bool false, .bool false, .bool false, .bool false, .bool false, .bool false]⟩ := ⟨⟨Proofs.Try.t37, _, by kernel_rfl, rfl, rfl, rfl, by kernel_rfl, by kernel_rfl, by kernel_rfl⟩, ⟨_, (by kernel_rfl : PP.underlying 37 = some (TypeDesc.array 16 4)), by simp [descOk]⟩⟩
theorem ty38 : TyOk PP 38 ⟨.int .u64, 1, 8, [.int .u64 0]⟩ := ⟨⟨Proofs.Try.t38, _, by kernel_rfl, rfl, rfl, rfl, by kernel_rfl, by kernel_rfl, by kernel_rfl⟩, ⟨_, (by kernel_rfl : PP.underlying 38 = some (TypeDesc.int IntKind.u64)), by simp [descOk]⟩⟩
theorem ty39 : TyOk PP 39 ⟨.slice 54, 1, 24, [.nil]⟩ := ⟨⟨Proofs.Try.t39, _, by kernel_rfl, rfl, rfl, rfl, by kernel_rfl, by kernel_rfl, by kernel_rfl⟩, ⟨_, (by kernel_rfl : PP.underlying 39 = some (TypeDesc.slice 54)), by simp [descOk]⟩⟩
theorem ty54 : TyOk PP 54 ⟨.struct [(0, 3), (1, 3)], 2, 16, [.int .i64 0, .int .i64 0]⟩ := ⟨⟨Proofs.Try.t54, _, by kernel_rfl, rfl, rfl, rfl, by kernel_rfl, by kernel_rfl, by kernel_rfl⟩, ⟨_, (by kernel_rfl : PP.underlying 54 = some (TypeDesc.struct #[{ name := "Id", type := 3, offset := 0, embedded := false, tag := "", pkgPath := "", byteOffset := 0 }, { name := "Missed", type := 3, offset := 1, embedded := false, tag := "", pkgPath := "", byteOffset := 8 }])), by simp [descOk]⟩⟩
theorem ty55 : TyOk PP 55 ⟨.slice 39, 1, 24, [.nil]⟩ := ⟨⟨Proofs.Try.t55, _, by kernel_rfl, rfl, rfl, rfl, by kernel_rfl, by kernel_rfl, by kernel_rfl⟩, ⟨_, (by kernel_rfl : PP.underlying 55 = some (TypeDesc.slice 39)), by simp [descOk]⟩⟩
theorem ty58 : TyOk PP 58 ⟨.fn, 1, 8, [.undef]⟩ := ⟨⟨Proofs.Try.t58, _, by kernel_rfl, rfl, rfl, rfl, by kernel_rfl, by kernel_rfl, by kernel_rfl⟩, ⟨_, (by kernel_rfl : PP.underlying 58 = some (TypeDesc.func #[3] #[4] false)), by simp [descOk]⟩⟩
theorem ty68 : TyOk PP 68 ⟨.fn, 1, 8, [.undef]⟩ := ⟨⟨Proofs.Try.t68, _, by kernel_rfl, rfl, rfl, rfl, by kernel_rfl, by kernel_rfl, by kernel_rfl⟩, ⟨_, (by kernel_rfl : PP.underlying 68 = some (TypeDesc.func #[54, 3] #[3] false)), by simp [descOk]⟩⟩
theorem ty70 : TyOk PP 70 ⟨.struct [(0, 3)], 1, 8, [.int .i64 0]⟩ := ⟨⟨Proofs.Try.t70, _, by kernel_rfl, rfl, rfl, rfl, by kernel_rfl, by kernel_rfl, by kernel_rfl⟩, ⟨_, (by kernel_rfl : PP.underlying 70 = some (TypeDesc.struct #[{ name := "base", type := 3, offset := 0, embedded := false, tag := "", pkgPath := "gimmal/peers", byteOffset := 0 }])), by simp [descOk]⟩⟩
theorem tyAll : ∀ p ∈ tab, TyOk PP p.1 p.2 := by
  intro p hp
  simp only [tab, List.mem_cons, List.not_mem_nil, or_false] at hp
  rcases hp with rfl | rfl | rfl | rfl | rfl | rfl | rfl | rfl | rfl | rfl | rfl | rfl | rfl
  · exact ty3
  · exact ty4
  · exact ty22
  · exact ty24
  · exact ty35
  · exact ty37
  · exact ty38
  · exact ty39
  · exact ty54
  · exact ty55
  · exact ty58
  · exact ty68
  · exact ty70
theorem TT_find {t : Nat} (h : (TT t).d.known = true) : (t, TT t) ∈ tab := by
  unfold TT at h ⊢
  split
  · rename_i p hp
    have h1 := List.find?_some hp
    have h2 := List.mem_of_find?_eq_some hp
    have : p.1 = t := by simpa using h1
    rw [← this]
    exact h2
  · rename_i hp
    rw [hp] at h
    cases h
theorem kidsAll : (tab.all fun p => p.2.d.kids.all fun k => (TT k).d.known) = true := by kernel_rfl
theorem tabOk0 : TabOk PP TT [] := by
  refine ⟨fun t h => tyAll _ (TT_find h), fun t k hk => ?_, ?_⟩
  · have h : (TT t).d.known = true := by
      generalize TT t = x at hk
      obtain ⟨d, _, _, _⟩ := x
      cases d <;> first | rfl | (simp [TD.kids] at hk)
    have := List.all_eq_true.1 kidsAll _ (TT_find h)
    exact List.all_eq_true.1 this k hk
  · intro t h
    simp at h
theorem eq54 : EqOk PP TT 54 := eqOk_of tabOk0 5 (by omega) (by kernel_rfl) (by kernel_rfl) (by kernel_rfl) (by kernel_rfl)
theorem eq70 : EqOk PP TT 70 := eqOk_of tabOk0 5 (by omega) (by kernel_rfl) (by kernel_rfl) (by kernel_rfl) (by kernel_rfl)
def EQS : List Nat := [54, 70]
theorem tabOk : TabOk PP TT EQS := by
  refine ⟨tabOk0.ty, tabOk0.kids, ?_⟩
  intro t h
  simp only [EQS, List.mem_cons, List.not_mem_nil, or_false] at h
  rcases h with rfl | rfl
  · exact eq54
  · exact eq70
noncomputable def cfx (n0 : Nat) (own lend give full ovl : List Nat) : Cfg := ⟨TT, EQS, n0, own, lend, Den PP, full, give, DenF PP [0], ovl⟩
noncomputable abbrev cf (n0 : Nat) (own lend : List Nat) : Cfg := cfx n0 own lend [] [] []
section
variable (n0 : Nat) (own lend give full ovl : List Nat)
@[simp] theorem cf_T : (cfx n0 own lend give full ovl).T = TT := rfl
@[simp] theorem cf_eqs : (cfx n0 own lend give full ovl).eqs = EQS := rfl
@[simp] theorem cf_n0 : (cfx n0 own lend give full ovl).n0 = n0 := rfl
@[simp] theorem cf_own : (cfx n0 own lend give full ovl).own = own := rfl
@[simp] theorem cf_lendT : (cfx n0 own lend give full ovl).lendT = lend := rfl
@[simp] theorem cf_C : (cfx n0 own lend give full ovl).C = Den PP := rfl
@[simp] theorem cf_giveT : (cfx n0 own lend give full ovl).giveT = give := rfl
@[simp] theorem cf_full : (cfx n0 own lend give full ovl).full = full := rfl
@[simp] theorem cf_G : (cfx n0 own lend give full ovl).G = DenF PP [0] := rfl
@[simp] theorem cf_ovl : (cfx n0 own lend give full ovl).ovl = ovl := rfl
end
theorem den_ofG {f : Nat} {F : SF} {args : List D} {bs : List Blk} {r : D} {bs' : List Blk} (own lend give ovl : List Nat) (hO : ∀ f ∈ ovl, OvlOk PP TT f) (hF : ∀ c : Cfg, c.lendT = lend → isF PP c f F) (h : sFun (cfx bs.length own lend give [] ovl) F args bs r bs') : Den PP f args bs r bs' :=
  sFun_sound (c := cfx bs.length own lend give [] ovl) (by kernel_rfl) tabOk (fun _ _ _ _ _ h => h) (fun _ _ _ _ _ h => h) hO rfl (hF _ rfl) rfl h
theorem den_of {f : Nat} {F : SF} {args : List D} {bs : List Blk} {r : D} {bs' : List Blk} (own lend : List Nat) (hF : ∀ c : Cfg, c.lendT = lend → isF PP c f F) (h : sFun (cf bs.length own lend) F args bs r bs') : Den PP f args bs r bs' :=
  den_ofG own lend [] [] (fun _ h => absurd h List.not_mem_nil) hF h
theorem denF_of {f : Nat} {F : SF} {args : List D} {bs : List Blk} {r : D} {bs' : List Blk} (own lend give ovl : List Nat) (hb : 0 < bs.length) (hO : ∀ f ∈ ovl, OvlOk PP TT f) (hF : ∀ c : Cfg, c.lendT = lend → isF PP c f F) (h : sFun (cfx bs.length own lend give [0] ovl) F args bs r bs') : DenF PP [0] f args bs r bs' :=
  sFun_soundF (c := cfx bs.length own lend give [0] ovl) (by kernel_rfl) tabOk (fun _ _ _ _ _ h => h) (fun _ _ _ _ _ h => h) hO (by intro b hb'; simp at hb'; subst hb'; exact hb) (hF _ rfl) rfl h
theorem ovl54 : OvlOk PP TT 54 := ⟨Proofs.Try.f54, 22, 3, by kernel_rfl, by kernel_rfl, by kernel_rfl, by kernel_rfl, by kernel_rfl, by kernel_rfl, by simp, by simp⟩
theorem ovls54 : ∀ f ∈ [54], OvlOk PP TT f := fun f h => by rw [List.mem_singleton.1 h]; exact ovl54
theorem ovl59 : OvlOk PP TT 59 := ⟨Proofs.Try.f59, 39, 54, by kernel_rfl, by kernel_rfl, by kernel_rfl, by kernel_rfl, by kernel_rfl, by kernel_rfl, by simp, by simp⟩
theorem ovls59 : ∀ f ∈ [59], OvlOk PP TT f := fun f h => by rw [List.mem_singleton.1 h]; exact ovl59
end Go.AM
/- AM: this seat's functions in short. -/
namespace Go.AM
set_option linter.unusedSimpArgs false
set_option linter.unusedVariables false
def c_gimmallaw8_Passives : SF := ⟨79, [(ResultVar.tmp 4)],
  (.seq (.ops [⟨some 4, (Op.assign (Operand.const (Value.bool false))), 4, none⟩]) (.seq (.ops [⟨some 14, (Op.move (Operand.tmp 0)), 22, none⟩,
    ⟨some 15, (Op.call ⟨(Callee.value (Operand.func 13)), #[(Operand.tmp 14)], #[22]⟩), 22, none⟩,
    ⟨some 5, (Op.assign (Operand.tmp 15)), 22, none⟩]) (.seq (.ops [⟨some 17, (Op.move (Operand.tmp 5)), 22, none⟩,
    ⟨some 18, (Op.move (Operand.tmp 1)), 3, none⟩,
    ⟨some 19, (Op.call ⟨(Callee.value (Operand.func 14)), #[(Operand.tmp 17), (Operand.tmp 18)], #[22, 3]⟩), 25, none⟩,
    ⟨some 16, (Op.move (Operand.tmp 19)), 25, none⟩,
    ⟨some 20, (Op.extract (Operand.tmp 16) 0), 22, none⟩,
    ⟨some 21, (Op.extract (Operand.tmp 16) 1), 24, none⟩,
    ⟨some 6, (Op.assign (Operand.tmp 20)), 22, none⟩,
    ⟨some 7, (Op.assign (Operand.tmp 21)), 24, none⟩]) (.seq (.ops [⟨some 23, (Op.move (Operand.tmp 0)), 22, none⟩,
    ⟨some 24, (Op.move (Operand.tmp 1)), 3, none⟩,
    ⟨some 25, (Op.call ⟨(Callee.value (Operand.func 15)), #[(Operand.tmp 23), (Operand.tmp 24)], #[22, 3]⟩), 27, none⟩,
    ⟨some 22, (Op.move (Operand.tmp 25)), 27, none⟩,
    ⟨some 26, (Op.extract (Operand.tmp 22) 0), 22, none⟩,
    ⟨some 27, (Op.extract (Operand.tmp 22) 1), 3, none⟩,
    ⟨some 8, (Op.assign (Operand.tmp 26)), 22, none⟩,
    ⟨some 9, (Op.assign (Operand.tmp 27)), 3, none⟩]) (.seq (.ops [⟨some 29, (Op.move (Operand.tmp 5)), 22, none⟩,
    ⟨some 30, (Op.move (Operand.tmp 1)), 3, none⟩,
    ⟨some 31, (Op.call ⟨(Callee.value (Operand.func 16)), #[(Operand.tmp 29), (Operand.tmp 30)], #[22, 3]⟩), 25, none⟩,
    ⟨some 28, (Op.move (Operand.tmp 31)), 25, none⟩,
    ⟨some 32, (Op.extract (Operand.tmp 28) 0), 22, none⟩,
    ⟨some 33, (Op.extract (Operand.tmp 28) 1), 24, none⟩,
    ⟨some 10, (Op.assign (Operand.tmp 32)), 22, none⟩,
    ⟨some 11, (Op.assign (Operand.tmp 33)), 24, none⟩]) (.seq (.ops [⟨some 35, (Op.move (Operand.tmp 0)), 22, none⟩,
    ⟨some 36, (Op.move (Operand.tmp 1)), 3, none⟩,
    ⟨some 37, (Op.call ⟨(Callee.value (Operand.func 17)), #[(Operand.tmp 35), (Operand.tmp 36)], #[22, 3]⟩), 27, none⟩,
    ⟨some 34, (Op.move (Operand.tmp 37)), 27, none⟩,
    ⟨some 38, (Op.extract (Operand.tmp 34) 0), 22, none⟩,
    ⟨some 39, (Op.extract (Operand.tmp 34) 1), 3, none⟩,
    ⟨some 12, (Op.assign (Operand.tmp 38)), 22, none⟩,
    ⟨some 13, (Op.assign (Operand.tmp 39)), 3, none⟩]) (.seq (.seq (.ops [⟨some 40, (Op.move (Operand.tmp 6)), 22, none⟩,
    ⟨some 41, (Op.move (Operand.tmp 8)), 22, none⟩,
    ⟨some 42, (Op.call ⟨(Callee.value (Operand.func 18)), #[(Operand.tmp 40), (Operand.tmp 41)], #[22, 22]⟩), 4, none⟩,
    ⟨some 43, (Op.unOp UnOp.not 4 (Operand.tmp 42)), 4, none⟩,
    ⟨some 44, (Op.move (Operand.tmp 43)), 4, none⟩,
    ⟨some 45, (Op.move (Operand.tmp 7)), 24, some (44, false)⟩,
    ⟨some 46, (Op.call ⟨(Callee.value (Operand.func 19)), #[(Operand.tmp 45)], #[24]⟩), 3, some (44, false)⟩,
    ⟨some 47, (Op.move (Operand.tmp 9)), 3, some (44, false)⟩,
    ⟨some 48, (Op.binOp BinOp.neq 3 (Operand.tmp 46) (Operand.tmp 47) 3), 4, some (44, false)⟩,
    ⟨some 49, (Op.pick (Operand.tmp 44) (Operand.const (Value.bool true)) (Operand.tmp 48)), 4, none⟩,
    ⟨some 50, (Op.move (Operand.tmp 49)), 4, none⟩,
    ⟨some 51, (Op.move (Operand.tmp 10)), 22, some (50, false)⟩,
    ⟨some 52, (Op.move (Operand.tmp 12)), 22, some (50, false)⟩,
    ⟨some 53, (Op.call ⟨(Callee.value (Operand.func 18)), #[(Operand.tmp 51), (Operand.tmp 52)], #[22, 22]⟩), 4, some (50, false)⟩,
    ⟨some 54, (Op.unOp UnOp.not 4 (Operand.tmp 53)), 4, some (50, false)⟩,
    ⟨some 55, (Op.pick (Operand.tmp 50) (Operand.const (Value.bool true)) (Operand.tmp 54)), 4, none⟩,
    ⟨some 56, (Op.move (Operand.tmp 55)), 4, none⟩,
    ⟨some 57, (Op.move (Operand.tmp 11)), 24, some (56, false)⟩,
    ⟨some 58, (Op.call ⟨(Callee.value (Operand.func 19)), #[(Operand.tmp 57)], #[24]⟩), 3, some (56, false)⟩,
    ⟨some 59, (Op.move (Operand.tmp 13)), 3, some (56, false)⟩,
    ⟨some 60, (Op.binOp BinOp.neq 3 (Operand.tmp 58) (Operand.tmp 59) 3), 4, some (56, false)⟩,
    ⟨some 61, (Op.pick (Operand.tmp 56) (Operand.const (Value.bool true)) (Operand.tmp 60)), 4, none⟩,
    ⟨some 62, (Op.move (Operand.tmp 61)), 4, none⟩,
    ⟨some 63, (Op.move (Operand.tmp 5)), 22, some (62, false)⟩,
    ⟨some 64, (Op.call ⟨(Callee.value (Operand.func 20)), #[(Operand.tmp 63)], #[22]⟩), 4, some (62, false)⟩,
    ⟨some 65, (Op.move (Operand.tmp 0)), 22, some (62, false)⟩,
    ⟨some 66, (Op.call ⟨(Callee.value (Operand.func 21)), #[(Operand.tmp 65)], #[22]⟩), 4, some (62, false)⟩,
    ⟨some 67, (Op.binOp BinOp.neq 4 (Operand.tmp 64) (Operand.tmp 66) 4), 4, some (62, false)⟩,
    ⟨some 68, (Op.pick (Operand.tmp 62) (Operand.const (Value.bool true)) (Operand.tmp 67)), 4, none⟩]) (.cond (Operand.tmp 68) (.seq (.ops [⟨some 4, (Op.assign (Operand.const (Value.bool false))), 4, none⟩]) .ret) .skip)) (.seq (.ops [⟨some 69, (Op.move (Operand.tmp 6)), 22, none⟩,
    ⟨some 70, (Op.call ⟨(Callee.value (Operand.func 22)), #[(Operand.tmp 69)], #[22]⟩), 0, none⟩]) (.seq (.ops [⟨some 71, (Op.move (Operand.tmp 10)), 22, none⟩,
    ⟨some 72, (Op.call ⟨(Callee.value (Operand.func 22)), #[(Operand.tmp 71)], #[22]⟩), 0, none⟩]) (.seq (.ops [⟨some 73, (Op.move (Operand.tmp 5)), 22, none⟩,
    ⟨some 74, (Op.move (Operand.tmp 0)), 22, none⟩,
    ⟨some 75, (Op.call ⟨(Callee.value (Operand.func 23)), #[(Operand.tmp 73), (Operand.tmp 74)], #[22, 22]⟩), 4, none⟩,
    ⟨some 76, (Op.move (Operand.tmp 75)), 4, none⟩,
    ⟨some 77, (Op.call ⟨(Callee.value (Operand.func 24)), #[], #[]⟩), 4, some (76, true)⟩,
    ⟨some 78, (Op.pick (Operand.tmp 76) (Operand.tmp 77) (Operand.const (Value.bool false))), 4, none⟩,
    ⟨some 4, (Op.assign (Operand.tmp 78)), 4, none⟩]) .ret))))))))))⟩
theorem is_gimmallaw8_Passives (c : Cfg) (h : c.lendT = [69, 71]) : isF PP c 3 c_gimmallaw8_Passives := isF_of (fn := Proofs.Try.f3) (by kernel_rfl) (by kernel_rfl) rfl h (by kernel_rfl) rfl rfl (by kernel_rfl)
def c_gimmallaw8_PassiveForms_L0 : SC := (.seq (.seq (.ops [⟨some 69, (Op.move (Operand.tmp 17)), 3, none⟩,
    ⟨some 70, (Op.binOp BinOp.lss 3 (Operand.tmp 69) (Operand.const (Value.int IntKind.i64 16)) 3), 4, none⟩]) (.cond (Operand.tmp 70) .skip (.exit 0))) (.seq (.block 1 (.ops [⟨some 73, (Op.move (Operand.tmp 16)), 22, none⟩,
    ⟨some 74, (Op.move (Operand.tmp 17)), 3, none⟩,
    ⟨some 75, (Op.binOp BinOp.mul 3 (Operand.const (Value.int IntKind.i64 2)) (Operand.tmp 74) 3), 3, none⟩,
    ⟨some 76, (Op.buildSlice 22 1 #[(0, (Operand.tmp 75))]), 22, none⟩,
    ⟨some 77, (Op.call ⟨(Callee.builtin Builtin.append), #[(Operand.tmp 73), (Operand.tmp 76)], #[22, 22]⟩), 22, none⟩,
    ⟨some 16, (Op.assign (Operand.tmp 77)), 22, none⟩])) (.ops [⟨some 71, (Op.move (Operand.tmp 17)), 3, none⟩,
    ⟨some 72, (Op.binOp BinOp.add 3 (Operand.tmp 71) (Operand.const (Value.int IntKind.i64 1)) 3), 3, none⟩,
    ⟨some 17, (Op.assign (Operand.tmp 72)), 3, none⟩])))
def c_gimmallaw8_PassiveForms : SF := ⟨137, [(ResultVar.tmp 4)],
  (.seq (.ops [⟨some 4, (Op.assign (Operand.const (Value.bool false))), 4, none⟩]) (.seq (.seq (.ops [⟨some 22, (Op.call ⟨(Callee.value (Operand.func 24)), #[], #[]⟩), 4, none⟩,
    ⟨some 23, (Op.unOp UnOp.not 4 (Operand.tmp 22)), 4, none⟩]) (.cond (Operand.tmp 23) (.seq (.ops [⟨some 4, (Op.assign (Operand.const (Value.bool false))), 4, none⟩]) .ret) .skip)) (.seq (.ops [⟨some 24, (Op.move (Operand.tmp 1)), 3, none⟩,
    ⟨some 25, (Op.binOp BinOp.and 3 (Operand.tmp 24) (Operand.const (Value.int IntKind.i64 1023)) 3), 3, none⟩,
    ⟨some 26, (Op.binOp BinOp.add 3 (Operand.const (Value.int IntKind.i64 1)) (Operand.tmp 25) 3), 3, none⟩,
    ⟨some 5, (Op.assign (Operand.tmp 26)), 3, none⟩]) (.seq (.ops [⟨some 27, (Op.buildSlice 22 2 #[(0, (Operand.const (Value.int IntKind.i64 9))), (1, (Operand.const (Value.int IntKind.i64 3)))]), 22, none⟩,
    ⟨some 28, (Op.buildSlice 22 2 #[(0, (Operand.const (Value.int IntKind.i64 3))), (1, (Operand.const (Value.int IntKind.i64 3)))]), 22, none⟩,
    ⟨some 29, (Op.move (Operand.tmp 5)), 3, none⟩,
    ⟨some 30, (Op.unOp UnOp.neg 3 (Operand.tmp 29)), 3, none⟩,
    ⟨some 31, (Op.buildSlice 22 1 #[(0, (Operand.tmp 30))]), 22, none⟩,
    ⟨some 32, (Op.move (Operand.tmp 5)), 3, none⟩,
    ⟨some 33, (Op.binOp BinOp.add 3 (Operand.const (Value.int IntKind.i64 255)) (Operand.tmp 32) 3), 3, none⟩,
    ⟨some 34, (Op.buildSlice 22 1 #[(0, (Operand.tmp 33))]), 22, none⟩,
    ⟨some 35, (Op.buildSlice 35 4 #[(0, (Operand.tmp 27)), (1, (Operand.tmp 28)), (2, (Operand.tmp 31)), (3, (Operand.tmp 34))]), 35, none⟩,
    ⟨some 36, (Op.move (Operand.tmp 0)), 3, none⟩,
    ⟨some 37, (Op.binOp BinOp.and 3 (Operand.tmp 36) (Operand.const (Value.int IntKind.i64 3)) 3), 3, none⟩,
    ⟨some 38, (Op.indexAddr 35 (Operand.tmp 35) (Operand.tmp 37)), 0, none⟩,
    ⟨some 39, (Op.load 22 (Operand.tmp 38)), 22, none⟩,
    ⟨some 6, (Op.assign (Operand.tmp 39)), 22, none⟩]) (.seq (.ops [⟨some 41, (Op.move (Operand.tmp 6)), 22, none⟩,
    ⟨some 42, (Op.call ⟨(Callee.value (Operand.func 14)), #[(Operand.tmp 41), (Operand.const (Value.int IntKind.i64 5))], #[22, 3]⟩), 25, none⟩,
    ⟨some 40, (Op.move (Operand.tmp 42)), 25, none⟩,
    ⟨some 43, (Op.extract (Operand.tmp 40) 0), 22, none⟩,
    ⟨some 44, (Op.extract (Operand.tmp 40) 1), 24, none⟩,
    ⟨some 7, (Op.assign (Operand.tmp 43)), 22, none⟩,
    ⟨some 8, (Op.assign (Operand.tmp 44)), 24, none⟩]) (.seq (.ops [⟨some 46, (Op.move (Operand.tmp 6)), 22, none⟩,
    ⟨some 47, (Op.call ⟨(Callee.value (Operand.func 16)), #[(Operand.tmp 46), (Operand.const (Value.int IntKind.i64 5))], #[22, 3]⟩), 25, none⟩,
    ⟨some 45, (Op.move (Operand.tmp 47)), 25, none⟩,
    ⟨some 48, (Op.extract (Operand.tmp 45) 0), 22, none⟩,
    ⟨some 49, (Op.extract (Operand.tmp 45) 1), 24, none⟩,
    ⟨some 9, (Op.assign (Operand.tmp 48)), 22, none⟩,
    ⟨some 10, (Op.assign (Operand.tmp 49)), 24, none⟩]) (.seq (.ops [⟨some 50, (Op.move (Operand.tmp 5)), 3, none⟩,
    ⟨some 51, (Op.unOp UnOp.neg 3 (Operand.tmp 50)), 3, none⟩,
    ⟨some 52, (Op.move (Operand.tmp 5)), 3, none⟩,
    ⟨some 53, (Op.binOp BinOp.add 3 (Operand.const (Value.int IntKind.i64 255)) (Operand.tmp 52) 3), 3, none⟩,
    ⟨some 54, (Op.buildSlice 22 2 #[(0, (Operand.tmp 51)), (1, (Operand.tmp 53))]), 22, none⟩,
    ⟨some 55, (Op.move (Operand.tmp 0)), 3, none⟩,
    ⟨some 56, (Op.binOp BinOp.and 3 (Operand.tmp 55) (Operand.const (Value.int IntKind.i64 1)) 3), 3, none⟩,
    ⟨some 57, (Op.indexAddr 22 (Operand.tmp 54) (Operand.tmp 56)), 0, none⟩,
    ⟨some 58, (Op.load 3 (Operand.tmp 57)), 3, none⟩,
    ⟨some 11, (Op.assign (Operand.tmp 58)), 3, none⟩]) (.seq (.ops [⟨some 60, (Op.move (Operand.tmp 11)), 3, none⟩,
    ⟨some 61, (Op.call ⟨(Callee.value (Operand.func 14)), #[(Operand.const (Value.slice none 0 0)), (Operand.tmp 60)], #[22, 3]⟩), 25, none⟩,
    ⟨some 59, (Op.move (Operand.tmp 61)), 25, none⟩,
    ⟨some 62, (Op.extract (Operand.tmp 59) 0), 22, none⟩,
    ⟨some 63, (Op.extract (Operand.tmp 59) 1), 24, none⟩,
    ⟨some 12, (Op.assign (Operand.tmp 62)), 22, none⟩,
    ⟨some 13, (Op.assign (Operand.tmp 63)), 24, none⟩]) (.seq (.ops [⟨some 65, (Op.move (Operand.tmp 11)), 3, none⟩,
    ⟨some 66, (Op.call ⟨(Callee.value (Operand.func 16)), #[(Operand.const (Value.slice none 0 0)), (Operand.tmp 65)], #[22, 3]⟩), 25, none⟩,
    ⟨some 64, (Op.move (Operand.tmp 66)), 25, none⟩,
    ⟨some 67, (Op.extract (Operand.tmp 64) 0), 22, none⟩,
    ⟨some 68, (Op.extract (Operand.tmp 64) 1), 24, none⟩,
    ⟨some 14, (Op.assign (Operand.tmp 67)), 22, none⟩,
    ⟨some 15, (Op.assign (Operand.tmp 68)), 24, none⟩]) (.seq (.ops [⟨some 16, (Op.assign (Operand.const (Value.slice none 0 0))), 22, none⟩]) (.seq (.seq (.ops [⟨some 17, (Op.assign (Operand.const (Value.int IntKind.i64 0))), 3, none⟩]) (.block 0 (.loop c_gimmallaw8_PassiveForms_L0))) (.seq (.ops [⟨some 79, (Op.move (Operand.tmp 16)), 22, none⟩,
    ⟨some 80, (Op.move (Operand.tmp 1)), 3, none⟩,
    ⟨some 81, (Op.binOp BinOp.and 3 (Operand.tmp 80) (Operand.const (Value.int IntKind.i64 15)) 3), 3, none⟩,
    ⟨some 82, (Op.binOp BinOp.mul 3 (Operand.const (Value.int IntKind.i64 2)) (Operand.tmp 81) 3), 3, none⟩,
    ⟨some 83, (Op.binOp BinOp.add 3 (Operand.const (Value.int IntKind.i64 1)) (Operand.tmp 82) 3), 3, none⟩,
    ⟨some 84, (Op.call ⟨(Callee.value (Operand.func 14)), #[(Operand.tmp 79), (Operand.tmp 83)], #[22, 3]⟩), 25, none⟩,
    ⟨some 78, (Op.move (Operand.tmp 84)), 25, none⟩,
    ⟨some 85, (Op.extract (Operand.tmp 78) 0), 22, none⟩,
    ⟨some 86, (Op.extract (Operand.tmp 78) 1), 24, none⟩,
    ⟨some 18, (Op.assign (Operand.tmp 85)), 22, none⟩,
    ⟨some 19, (Op.assign (Operand.tmp 86)), 24, none⟩]) (.seq (.ops [⟨some 88, (Op.move (Operand.tmp 16)), 22, none⟩,
    ⟨some 89, (Op.move (Operand.tmp 1)), 3, none⟩,
    ⟨some 90, (Op.binOp BinOp.and 3 (Operand.tmp 89) (Operand.const (Value.int IntKind.i64 15)) 3), 3, none⟩,
    ⟨some 91, (Op.binOp BinOp.mul 3 (Operand.const (Value.int IntKind.i64 2)) (Operand.tmp 90) 3), 3, none⟩,
    ⟨some 92, (Op.call ⟨(Callee.value (Operand.func 14)), #[(Operand.tmp 88), (Operand.tmp 91)], #[22, 3]⟩), 25, none⟩,
    ⟨some 87, (Op.move (Operand.tmp 92)), 25, none⟩,
    ⟨some 93, (Op.extract (Operand.tmp 87) 0), 22, none⟩,
    ⟨some 94, (Op.extract (Operand.tmp 87) 1), 24, none⟩,
    ⟨some 20, (Op.assign (Operand.tmp 93)), 22, none⟩,
    ⟨some 21, (Op.assign (Operand.tmp 94)), 24, none⟩]) (.seq (.ops [⟨some 95, (Op.move (Operand.tmp 6)), 22, none⟩,
    ⟨some 96, (Op.call ⟨(Callee.value (Operand.func 20)), #[(Operand.tmp 95)], #[22]⟩), 4, none⟩,
    ⟨some 97, (Op.unOp UnOp.not 4 (Operand.tmp 96)), 4, none⟩,
    ⟨some 98, (Op.move (Operand.tmp 97)), 4, none⟩,
    ⟨some 99, (Op.move (Operand.tmp 16)), 22, some (98, true)⟩,
    ⟨some 100, (Op.call ⟨(Callee.value (Operand.func 20)), #[(Operand.tmp 99)], #[22]⟩), 4, some (98, true)⟩,
    ⟨some 101, (Op.pick (Operand.tmp 98) (Operand.tmp 100) (Operand.const (Value.bool false))), 4, none⟩,
    ⟨some 102, (Op.move (Operand.tmp 101)), 4, none⟩,
    ⟨some 103, (Op.move (Operand.tmp 8)), 24, some (102, true)⟩,
    ⟨some 104, (Op.call ⟨(Callee.value (Operand.func 19)), #[(Operand.tmp 103)], #[24]⟩), 3, some (102, true)⟩,
    ⟨some 105, (Op.binOp BinOp.eql 3 (Operand.tmp 104) (Operand.const (Value.int IntKind.i64 800)) 3), 4, some (102, true)⟩,
    ⟨some 106, (Op.pick (Operand.tmp 102) (Operand.tmp 105) (Operand.const (Value.bool false))), 4, none⟩,
    ⟨some 107, (Op.move (Operand.tmp 106)), 4, none⟩,
    ⟨some 108, (Op.move (Operand.tmp 10)), 24, some (107, true)⟩,
    ⟨some 109, (Op.call ⟨(Callee.value (Operand.func 19)), #[(Operand.tmp 108)], #[24]⟩), 3, some (107, true)⟩,
    ⟨some 110, (Op.binOp BinOp.eql 3 (Operand.tmp 109) (Operand.const (Value.int IntKind.i64 800)) 3), 4, some (107, true)⟩,
    ⟨some 111, (Op.pick (Operand.tmp 107) (Operand.tmp 110) (Operand.const (Value.bool false))), 4, none⟩,
    ⟨some 112, (Op.move (Operand.tmp 111)), 4, none⟩,
    ⟨some 113, (Op.move (Operand.tmp 13)), 24, some (112, true)⟩,
    ⟨some 114, (Op.call ⟨(Callee.value (Operand.func 19)), #[(Operand.tmp 113)], #[24]⟩), 3, some (112, true)⟩,
    ⟨some 115, (Op.binOp BinOp.eql 3 (Operand.tmp 114) (Operand.const (Value.int IntKind.i64 800)) 3), 4, some (112, true)⟩,
    ⟨some 116, (Op.pick (Operand.tmp 112) (Operand.tmp 115) (Operand.const (Value.bool false))), 4, none⟩,
    ⟨some 117, (Op.move (Operand.tmp 116)), 4, none⟩,
    ⟨some 118, (Op.move (Operand.tmp 15)), 24, some (117, true)⟩,
    ⟨some 119, (Op.call ⟨(Callee.value (Operand.func 19)), #[(Operand.tmp 118)], #[24]⟩), 3, some (117, true)⟩,
    ⟨some 120, (Op.binOp BinOp.eql 3 (Operand.tmp 119) (Operand.const (Value.int IntKind.i64 800)) 3), 4, some (117, true)⟩,
    ⟨some 121, (Op.pick (Operand.tmp 117) (Operand.tmp 120) (Operand.const (Value.bool false))), 4, none⟩,
    ⟨some 122, (Op.move (Operand.tmp 121)), 4, none⟩,
    ⟨some 123, (Op.move (Operand.tmp 19)), 24, some (122, true)⟩,
    ⟨some 124, (Op.call ⟨(Callee.value (Operand.func 19)), #[(Operand.tmp 123)], #[24]⟩), 3, some (122, true)⟩,
    ⟨some 125, (Op.binOp BinOp.eql 3 (Operand.tmp 124) (Operand.const (Value.int IntKind.i64 801)) 3), 4, some (122, true)⟩,
    ⟨some 126, (Op.pick (Operand.tmp 122) (Operand.tmp 125) (Operand.const (Value.bool false))), 4, none⟩,
    ⟨some 127, (Op.move (Operand.tmp 126)), 4, none⟩,
    ⟨some 128, (Op.move (Operand.tmp 20)), 22, some (127, true)⟩,
    ⟨some 129, (Op.move (Operand.tmp 16)), 22, some (127, true)⟩,
    ⟨some 130, (Op.call ⟨(Callee.value (Operand.func 18)), #[(Operand.tmp 128), (Operand.tmp 129)], #[22, 22]⟩), 4, some (127, true)⟩,
    ⟨some 131, (Op.pick (Operand.tmp 127) (Operand.tmp 130) (Operand.const (Value.bool false))), 4, none⟩,
    ⟨some 132, (Op.move (Operand.tmp 131)), 4, none⟩,
    ⟨some 133, (Op.move (Operand.tmp 21)), 24, some (132, true)⟩,
    ⟨some 134, (Op.call ⟨(Callee.value (Operand.func 19)), #[(Operand.tmp 133)], #[24]⟩), 3, some (132, true)⟩,
    ⟨some 135, (Op.binOp BinOp.eql 3 (Operand.tmp 134) (Operand.const (Value.int IntKind.i64 0)) 3), 4, some (132, true)⟩,
    ⟨some 136, (Op.pick (Operand.tmp 132) (Operand.tmp 135) (Operand.const (Value.bool false))), 4, none⟩,
    ⟨some 4, (Op.assign (Operand.tmp 136)), 4, none⟩]) .ret))))))))))))))⟩
theorem is_gimmallaw8_PassiveForms (c : Cfg) (h : c.lendT = []) : isF PP c 4 c_gimmallaw8_PassiveForms := isF_of (fn := Proofs.Try.f4) (by kernel_rfl) (by kernel_rfl) rfl h (by kernel_rfl) rfl rfl (by kernel_rfl)
def c_gimmallaw8_PassiveRow_L1 : SC := (.seq (.seq (.ops [⟨some 63, (Op.move (Operand.tmp 12)), 3, none⟩,
    ⟨some 64, (Op.binOp BinOp.lss 3 (Operand.tmp 63) (Operand.const (Value.int IntKind.i64 16)) 3), 4, none⟩]) (.cond (Operand.tmp 64) .skip (.exit 2))) (.seq (.block 3 (.seq (.ops [⟨some 67, (Op.move (Operand.tmp 12)), 3, none⟩,
    ⟨some 68, (Op.indexAddr 37 (Operand.tmp 4) (Operand.tmp 67)), 0, none⟩,
    ⟨some 69, (Op.load 4 (Operand.tmp 68)), 4, none⟩]) (.cond (Operand.tmp 69) (.ops [⟨some 70, (Op.move (Operand.tmp 11)), 22, none⟩,
    ⟨some 71, (Op.move (Operand.tmp 12)), 3, none⟩,
    ⟨some 72, (Op.binOp BinOp.mul 3 (Operand.const (Value.int IntKind.i64 10)) (Operand.tmp 71) 3), 3, none⟩,
    ⟨some 73, (Op.buildSlice 22 1 #[(0, (Operand.tmp 72))]), 22, none⟩,
    ⟨some 74, (Op.call ⟨(Callee.builtin Builtin.append), #[(Operand.tmp 70), (Operand.tmp 73)], #[22, 22]⟩), 22, none⟩,
    ⟨some 11, (Op.assign (Operand.tmp 74)), 22, none⟩]) .skip))) (.ops [⟨some 65, (Op.move (Operand.tmp 12)), 3, none⟩,
    ⟨some 66, (Op.binOp BinOp.add 3 (Operand.tmp 65) (Operand.const (Value.int IntKind.i64 1)) 3), 3, none⟩,
    ⟨some 12, (Op.assign (Operand.tmp 66)), 3, none⟩])))
def c_gimmallaw8_PassiveRow_L0 : SC := (.seq (.seq (.ops [⟨some 15, (Op.move (Operand.tmp 5)), 3, none⟩,
    ⟨some 16, (Op.move (Operand.tmp 0)), 22, none⟩,
    ⟨some 17, (Op.call ⟨(Callee.builtin Builtin.len), #[(Operand.tmp 16)], #[22]⟩), 3, none⟩,
    ⟨some 18, (Op.binOp BinOp.lss 3 (Operand.tmp 15) (Operand.tmp 17) 3), 4, none⟩,
    ⟨some 19, (Op.move (Operand.tmp 18)), 4, none⟩,
    ⟨some 20, (Op.move (Operand.tmp 5)), 3, some (19, true)⟩,
    ⟨some 21, (Op.binOp BinOp.lss 3 (Operand.tmp 20) (Operand.const (Value.int IntKind.i64 40)) 3), 4, some (19, true)⟩,
    ⟨some 22, (Op.pick (Operand.tmp 19) (Operand.tmp 21) (Operand.const (Value.bool false))), 4, none⟩]) (.cond (Operand.tmp 22) .skip (.exit 0))) (.seq (.block 1 (.seq (.ops [⟨some 25, (Op.move (Operand.tmp 0)), 22, none⟩,
    ⟨some 26, (Op.move (Operand.tmp 5)), 3, none⟩,
    ⟨some 27, (Op.indexAddr 22 (Operand.tmp 25) (Operand.tmp 26)), 0, none⟩,
    ⟨some 28, (Op.load 3 (Operand.tmp 27)), 3, none⟩,
    ⟨some 29, (Op.binOp BinOp.and 3 (Operand.tmp 28) (Operand.const (Value.int IntKind.i64 15)) 3), 3, none⟩,
    ⟨some 6, (Op.assign (Operand.tmp 29)), 3, none⟩]) (.seq (.ops [⟨some 30, (Op.move (Operand.tmp 0)), 22, none⟩,
    ⟨some 31, (Op.move (Operand.tmp 5)), 3, none⟩,
    ⟨some 32, (Op.indexAddr 22 (Operand.tmp 30) (Operand.tmp 31)), 0, none⟩,
    ⟨some 33, (Op.load 3 (Operand.tmp 32)), 3, none⟩,
    ⟨some 34, (Op.binOp BinOp.shr 3 (Operand.tmp 33) (Operand.const (Value.int IntKind.u64 4)) 38), 3, none⟩,
    ⟨some 35, (Op.binOp BinOp.and 3 (Operand.tmp 34) (Operand.const (Value.int IntKind.i64 3)) 3), 3, none⟩,
    ⟨some 36, (Op.binOp BinOp.gtr 3 (Operand.tmp 35) (Operand.const (Value.int IntKind.i64 0)) 3), 4, none⟩]) (.cond (Operand.tmp 36) (.seq (.ops [⟨some 38, (Op.move (Operand.tmp 3)), 22, none⟩,
    ⟨some 39, (Op.move (Operand.tmp 6)), 3, none⟩,
    ⟨some 40, (Op.binOp BinOp.mul 3 (Operand.const (Value.int IntKind.i64 10)) (Operand.tmp 39) 3), 3, none⟩,
    ⟨some 41, (Op.call ⟨(Callee.value (Operand.func 14)), #[(Operand.tmp 38), (Operand.tmp 40)], #[22, 3]⟩), 25, none⟩,
    ⟨some 37, (Op.move (Operand.tmp 41)), 25, none⟩,
    ⟨some 42, (Op.extract (Operand.tmp 37) 0), 22, none⟩,
    ⟨some 43, (Op.extract (Operand.tmp 37) 1), 24, none⟩,
    ⟨some 7, (Op.assign (Operand.tmp 42)), 22, none⟩,
    ⟨some 8, (Op.assign (Operand.tmp 43)), 24, none⟩]) (.seq (.seq (.ops [⟨some 44, (Op.move (Operand.tmp 8)), 24, none⟩,
    ⟨some 45, (Op.call ⟨(Callee.value (Operand.func 19)), #[(Operand.tmp 44)], #[24]⟩), 3, none⟩,
    ⟨some 46, (Op.binOp BinOp.neq 3 (Operand.tmp 45) (Operand.const (Value.int IntKind.i64 0)) 3), 4, none⟩]) (.cond (Operand.tmp 46) (.seq (.ops [⟨some 2, (Op.assign (Operand.const (Value.bool false))), 4, none⟩]) .ret) .skip)) (.seq (.ops [⟨some 47, (Op.move (Operand.tmp 7)), 22, none⟩,
    ⟨some 3, (Op.assign (Operand.tmp 47)), 22, none⟩]) (.ops [⟨some 48, (Op.move (Operand.tmp 6)), 3, none⟩,
    ⟨some 49, (Op.indexAddr 37 (Operand.tmp 4) (Operand.tmp 48)), 0, none⟩,
    ⟨none, (Op.store 4 (Operand.tmp 49) (Operand.const (Value.bool true))), 0, none⟩])))) (.seq (.ops [⟨some 51, (Op.move (Operand.tmp 3)), 22, none⟩,
    ⟨some 52, (Op.move (Operand.tmp 6)), 3, none⟩,
    ⟨some 53, (Op.binOp BinOp.mul 3 (Operand.const (Value.int IntKind.i64 10)) (Operand.tmp 52) 3), 3, none⟩,
    ⟨some 54, (Op.call ⟨(Callee.value (Operand.func 16)), #[(Operand.tmp 51), (Operand.tmp 53)], #[22, 3]⟩), 25, none⟩,
    ⟨some 50, (Op.move (Operand.tmp 54)), 25, none⟩,
    ⟨some 55, (Op.extract (Operand.tmp 50) 0), 22, none⟩,
    ⟨some 56, (Op.extract (Operand.tmp 50) 1), 24, none⟩,
    ⟨some 9, (Op.assign (Operand.tmp 55)), 22, none⟩,
    ⟨some 10, (Op.assign (Operand.tmp 56)), 24, none⟩]) (.seq (.seq (.ops [⟨some 57, (Op.move (Operand.tmp 10)), 24, none⟩,
    ⟨some 58, (Op.call ⟨(Callee.value (Operand.func 19)), #[(Operand.tmp 57)], #[24]⟩), 3, none⟩,
    ⟨some 59, (Op.binOp BinOp.neq 3 (Operand.tmp 58) (Operand.const (Value.int IntKind.i64 0)) 3), 4, none⟩]) (.cond (Operand.tmp 59) (.seq (.ops [⟨some 2, (Op.assign (Operand.const (Value.bool false))), 4, none⟩]) .ret) .skip)) (.seq (.ops [⟨some 60, (Op.move (Operand.tmp 9)), 22, none⟩,
    ⟨some 3, (Op.assign (Operand.tmp 60)), 22, none⟩]) (.ops [⟨some 61, (Op.move (Operand.tmp 6)), 3, none⟩,
    ⟨some 62, (Op.indexAddr 37 (Operand.tmp 4) (Operand.tmp 61)), 0, none⟩,
    ⟨none, (Op.store 4 (Operand.tmp 62) (Operand.const (Value.bool false))), 0, none⟩])))))))) (.ops [⟨some 23, (Op.move (Operand.tmp 5)), 3, none⟩,
    ⟨some 24, (Op.binOp BinOp.add 3 (Operand.tmp 23) (Operand.const (Value.int IntKind.i64 1)) 3), 3, none⟩,
    ⟨some 5, (Op.assign (Operand.tmp 24)), 3, none⟩])))
def c_gimmallaw8_PassiveRow : SF := ⟨82, [(ResultVar.tmp 2)],
  (.seq (.ops [⟨some 2, (Op.assign (Operand.const (Value.bool false))), 4, none⟩]) (.seq (.seq (.ops [⟨some 13, (Op.call ⟨(Callee.value (Operand.func 24)), #[], #[]⟩), 4, none⟩,
    ⟨some 14, (Op.unOp UnOp.not 4 (Operand.tmp 13)), 4, none⟩]) (.cond (Operand.tmp 14) (.seq (.ops [⟨some 2, (Op.assign (Operand.const (Value.bool false))), 4, none⟩]) .ret) .skip)) (.seq (.ops [⟨some 3, (Op.assign (Operand.const (Value.slice none 0 0))), 22, none⟩]) (.seq (.ops [⟨some 4, (Op.alloc 37), 0, none⟩]) (.seq (.seq (.ops [⟨some 5, (Op.assign (Operand.const (Value.int IntKind.i64 0))), 3, none⟩]) (.block 0 (.loop c_gimmallaw8_PassiveRow_L0))) (.seq (.ops [⟨some 11, (Op.assign (Operand.const (Value.slice none 0 0))), 22, none⟩]) (.seq (.seq (.ops [⟨some 12, (Op.assign (Operand.const (Value.int IntKind.i64 0))), 3, none⟩]) (.block 2 (.loop c_gimmallaw8_PassiveRow_L1))) (.seq (.ops [⟨some 75, (Op.move (Operand.tmp 3)), 22, none⟩,
    ⟨some 76, (Op.move (Operand.tmp 11)), 22, none⟩,
    ⟨some 77, (Op.call ⟨(Callee.value (Operand.func 18)), #[(Operand.tmp 75), (Operand.tmp 76)], #[22, 22]⟩), 4, none⟩,
    ⟨some 78, (Op.move (Operand.tmp 77)), 4, none⟩,
    ⟨some 79, (Op.move (Operand.tmp 3)), 22, some (78, true)⟩,
    ⟨some 80, (Op.call ⟨(Callee.value (Operand.func 20)), #[(Operand.tmp 79)], #[22]⟩), 4, some (78, true)⟩,
    ⟨some 81, (Op.pick (Operand.tmp 78) (Operand.tmp 80) (Operand.const (Value.bool false))), 4, none⟩,
    ⟨some 2, (Op.assign (Operand.tmp 81)), 4, none⟩]) .ret))))))))⟩
theorem is_gimmallaw8_PassiveRow (c : Cfg) (h : c.lendT = []) : isF PP c 5 c_gimmallaw8_PassiveRow := isF_of (fn := Proofs.Try.f5) (by kernel_rfl) (by kernel_rfl) rfl h (by kernel_rfl) rfl rfl (by kernel_rfl)
def c_gimmallaw8_PassiveOther : SF := ⟨80, [(ResultVar.tmp 4)],
  (.seq (.ops [⟨some 4, (Op.assign (Operand.const (Value.bool false))), 4, none⟩]) (.seq (.seq (.ops [⟨some 11, (Op.call ⟨(Callee.value (Operand.func 24)), #[], #[]⟩), 4, none⟩,
    ⟨some 12, (Op.unOp UnOp.not 4 (Operand.tmp 11)), 4, none⟩]) (.cond (Operand.tmp 12) (.seq (.ops [⟨some 4, (Op.assign (Operand.const (Value.bool false))), 4, none⟩]) .ret) .skip)) (.seq (.ops [⟨some 14, (Op.move (Operand.tmp 0)), 22, none⟩,
    ⟨some 15, (Op.move (Operand.tmp 1)), 3, none⟩,
    ⟨some 16, (Op.call ⟨(Callee.value (Operand.func 14)), #[(Operand.tmp 14), (Operand.tmp 15)], #[22, 3]⟩), 25, none⟩,
    ⟨some 13, (Op.move (Operand.tmp 16)), 25, none⟩,
    ⟨some 17, (Op.extract (Operand.tmp 13) 0), 22, none⟩,
    ⟨some 18, (Op.extract (Operand.tmp 13) 1), 24, none⟩,
    ⟨some 5, (Op.assign (Operand.tmp 17)), 22, none⟩,
    ⟨some 6, (Op.assign (Operand.tmp 18)), 24, none⟩]) (.seq (.ops [⟨some 20, (Op.move (Operand.tmp 0)), 22, none⟩,
    ⟨some 21, (Op.move (Operand.tmp 1)), 3, none⟩,
    ⟨some 22, (Op.call ⟨(Callee.value (Operand.func 16)), #[(Operand.tmp 20), (Operand.tmp 21)], #[22, 3]⟩), 25, none⟩,
    ⟨some 19, (Op.move (Operand.tmp 22)), 25, none⟩,
    ⟨some 23, (Op.extract (Operand.tmp 19) 0), 22, none⟩,
    ⟨some 24, (Op.extract (Operand.tmp 19) 1), 24, none⟩,
    ⟨some 7, (Op.assign (Operand.tmp 23)), 22, none⟩,
    ⟨some 8, (Op.assign (Operand.tmp 24)), 24, none⟩]) (.seq (.seq (.ops [⟨some 25, (Op.move (Operand.tmp 8)), 24, none⟩,
    ⟨some 26, (Op.call ⟨(Callee.value (Operand.func 19)), #[(Operand.tmp 25)], #[24]⟩), 3, none⟩,
    ⟨some 27, (Op.binOp BinOp.neq 3 (Operand.tmp 26) (Operand.const (Value.int IntKind.i64 0)) 3), 4, none⟩]) (.cond (Operand.tmp 27) (.seq (.ops [⟨some 28, (Op.move (Operand.tmp 5)), 22, none⟩,
    ⟨some 29, (Op.call ⟨(Callee.builtin Builtin.len), #[(Operand.tmp 28)], #[22]⟩), 3, none⟩,
    ⟨some 30, (Op.move (Operand.tmp 7)), 22, none⟩,
    ⟨some 31, (Op.call ⟨(Callee.builtin Builtin.len), #[(Operand.tmp 30)], #[22]⟩), 3, none⟩,
    ⟨some 32, (Op.binOp BinOp.add 3 (Operand.tmp 29) (Operand.tmp 31) 3), 3, none⟩,
    ⟨some 33, (Op.binOp BinOp.eql 3 (Operand.tmp 32) (Operand.const (Value.int IntKind.i64 0)) 3), 4, none⟩,
    ⟨some 4, (Op.assign (Operand.tmp 33)), 4, none⟩]) .ret) .skip)) (.seq (.ops [⟨some 35, (Op.move (Operand.tmp 5)), 22, none⟩,
    ⟨some 36, (Op.move (Operand.tmp 1)), 3, none⟩,
    ⟨some 37, (Op.call ⟨(Callee.value (Operand.func 16)), #[(Operand.tmp 35), (Operand.tmp 36)], #[22, 3]⟩), 25, none⟩,
    ⟨some 34, (Op.move (Operand.tmp 37)), 25, none⟩,
    ⟨some 38, (Op.extract (Operand.tmp 34) 0), 22, none⟩,
    ⟨some 39, (Op.extract (Operand.tmp 34) 1), 24, none⟩,
    ⟨some 9, (Op.assign (Operand.tmp 38)), 22, none⟩,
    ⟨some 10, (Op.assign (Operand.tmp 39)), 24, none⟩]) (.seq (.seq (.ops [⟨some 40, (Op.move (Operand.tmp 6)), 24, none⟩,
    ⟨some 41, (Op.call ⟨(Callee.value (Operand.func 19)), #[(Operand.tmp 40)], #[24]⟩), 3, none⟩,
    ⟨some 42, (Op.binOp BinOp.neq 3 (Operand.tmp 41) (Operand.const (Value.int IntKind.i64 0)) 3), 4, none⟩]) (.cond (Operand.tmp 42) (.seq (.ops [⟨some 43, (Op.move (Operand.tmp 6)), 24, none⟩,
    ⟨some 44, (Op.call ⟨(Callee.value (Operand.func 19)), #[(Operand.tmp 43)], #[24]⟩), 3, none⟩,
    ⟨some 45, (Op.binOp BinOp.eql 3 (Operand.tmp 44) (Operand.const (Value.int IntKind.i64 801)) 3), 4, none⟩,
    ⟨some 46, (Op.move (Operand.tmp 45)), 4, none⟩,
    ⟨some 47, (Op.move (Operand.tmp 0)), 22, some (46, true)⟩,
    ⟨some 48, (Op.call ⟨(Callee.builtin Builtin.len), #[(Operand.tmp 47)], #[22]⟩), 3, some (46, true)⟩,
    ⟨some 49, (Op.binOp BinOp.eql 3 (Operand.tmp 48) (Operand.const (Value.int IntKind.i64 16)) 3), 4, some (46, true)⟩,
    ⟨some 50, (Op.pick (Operand.tmp 46) (Operand.tmp 49) (Operand.const (Value.bool false))), 4, none⟩,
    ⟨some 51, (Op.move (Operand.tmp 50)), 4, none⟩,
    ⟨some 52, (Op.move (Operand.tmp 7)), 22, some (51, true)⟩,
    ⟨some 53, (Op.move (Operand.tmp 0)), 22, some (51, true)⟩,
    ⟨some 54, (Op.call ⟨(Callee.value (Operand.func 18)), #[(Operand.tmp 52), (Operand.tmp 53)], #[22, 22]⟩), 4, some (51, true)⟩,
    ⟨some 55, (Op.pick (Operand.tmp 51) (Operand.tmp 54) (Operand.const (Value.bool false))), 4, none⟩,
    ⟨some 4, (Op.assign (Operand.tmp 55)), 4, none⟩]) .ret) .skip)) (.seq (.ops [⟨some 56, (Op.move (Operand.tmp 10)), 24, none⟩,
    ⟨some 57, (Op.call ⟨(Callee.value (Operand.func 19)), #[(Operand.tmp 56)], #[24]⟩), 3, none⟩,
    ⟨some 58, (Op.binOp BinOp.eql 3 (Operand.tmp 57) (Operand.const (Value.int IntKind.i64 0)) 3), 4, none⟩,
    ⟨some 59, (Op.move (Operand.tmp 58)), 4, none⟩,
    ⟨some 60, (Op.move (Operand.tmp 7)), 22, some (59, true)⟩,
    ⟨some 61, (Op.move (Operand.tmp 9)), 22, some (59, true)⟩,
    ⟨some 62, (Op.call ⟨(Callee.value (Operand.func 18)), #[(Operand.tmp 60), (Operand.tmp 61)], #[22, 22]⟩), 4, some (59, true)⟩,
    ⟨some 63, (Op.pick (Operand.tmp 59) (Operand.tmp 62) (Operand.const (Value.bool false))), 4, none⟩,
    ⟨some 64, (Op.move (Operand.tmp 63)), 4, none⟩,
    ⟨some 65, (Op.move (Operand.tmp 5)), 22, some (64, true)⟩,
    ⟨some 66, (Op.call ⟨(Callee.builtin Builtin.len), #[(Operand.tmp 65)], #[22]⟩), 3, some (64, true)⟩,
    ⟨some 67, (Op.move (Operand.tmp 7)), 22, some (64, true)⟩,
    ⟨some 68, (Op.call ⟨(Callee.builtin Builtin.len), #[(Operand.tmp 67)], #[22]⟩), 3, some (64, true)⟩,
    ⟨some 69, (Op.binOp BinOp.add 3 (Operand.tmp 68) (Operand.const (Value.int IntKind.i64 1)) 3), 3, some (64, true)⟩,
    ⟨some 70, (Op.binOp BinOp.eql 3 (Operand.tmp 66) (Operand.tmp 69) 3), 4, some (64, true)⟩,
    ⟨some 71, (Op.pick (Operand.tmp 64) (Operand.tmp 70) (Operand.const (Value.bool false))), 4, none⟩,
    ⟨some 72, (Op.move (Operand.tmp 71)), 4, none⟩,
    ⟨some 73, (Op.move (Operand.tmp 5)), 22, some (72, true)⟩,
    ⟨some 74, (Op.call ⟨(Callee.value (Operand.func 20)), #[(Operand.tmp 73)], #[22]⟩), 4, some (72, true)⟩,
    ⟨some 75, (Op.pick (Operand.tmp 72) (Operand.tmp 74) (Operand.const (Value.bool false))), 4, none⟩,
    ⟨some 76, (Op.move (Operand.tmp 75)), 4, none⟩,
    ⟨some 77, (Op.move (Operand.tmp 7)), 22, some (76, true)⟩,
    ⟨some 78, (Op.call ⟨(Callee.value (Operand.func 20)), #[(Operand.tmp 77)], #[22]⟩), 4, some (76, true)⟩,
    ⟨some 79, (Op.pick (Operand.tmp 76) (Operand.tmp 78) (Operand.const (Value.bool false))), 4, none⟩,
    ⟨some 4, (Op.assign (Operand.tmp 79)), 4, none⟩]) .ret))))))))⟩
theorem is_gimmallaw8_PassiveOther (c : Cfg) (h : c.lendT = []) : isF PP c 6 c_gimmallaw8_PassiveOther := isF_of (fn := Proofs.Try.f6) (by kernel_rfl) (by kernel_rfl) rfl h (by kernel_rfl) rfl rfl (by kernel_rfl)
def c_gimmallaw7_Peers : SF := ⟨97, [(ResultVar.tmp 6)],
  (.seq (.ops [⟨some 6, (Op.assign (Operand.const (Value.bool false))), 4, none⟩]) (.seq (.ops [⟨some 18, (Op.move (Operand.tmp 1)), 39, none⟩,
    ⟨some 19, (Op.call ⟨(Callee.value (Operand.func 25)), #[(Operand.tmp 18)], #[39]⟩), 39, none⟩,
    ⟨some 7, (Op.assign (Operand.tmp 19)), 39, none⟩]) (.seq (.ops [⟨some 21, (Op.move (Operand.tmp 0)), 3, none⟩,
    ⟨some 22, (Op.move (Operand.tmp 7)), 39, none⟩,
    ⟨some 23, (Op.move (Operand.tmp 2)), 3, none⟩,
    ⟨some 24, (Op.call ⟨(Callee.value (Operand.func 26)), #[(Operand.tmp 21), (Operand.tmp 22), (Operand.tmp 23)], #[3, 39, 3]⟩), 41, none⟩,
    ⟨some 20, (Op.move (Operand.tmp 24)), 41, none⟩,
    ⟨some 25, (Op.extract (Operand.tmp 20) 0), 39, none⟩,
    ⟨some 26, (Op.extract (Operand.tmp 20) 1), 24, none⟩,
    ⟨some 8, (Op.assign (Operand.tmp 25)), 39, none⟩,
    ⟨some 9, (Op.assign (Operand.tmp 26)), 24, none⟩]) (.seq (.ops [⟨some 28, (Op.move (Operand.tmp 0)), 3, none⟩,
    ⟨some 29, (Op.move (Operand.tmp 1)), 39, none⟩,
    ⟨some 30, (Op.move (Operand.tmp 2)), 3, none⟩,
    ⟨some 31, (Op.call ⟨(Callee.value (Operand.func 27)), #[(Operand.tmp 28), (Operand.tmp 29), (Operand.tmp 30)], #[3, 39, 3]⟩), 43, none⟩,
    ⟨some 27, (Op.move (Operand.tmp 31)), 43, none⟩,
    ⟨some 32, (Op.extract (Operand.tmp 27) 0), 39, none⟩,
    ⟨some 33, (Op.extract (Operand.tmp 27) 1), 3, none⟩,
    ⟨some 10, (Op.assign (Operand.tmp 32)), 39, none⟩,
    ⟨some 11, (Op.assign (Operand.tmp 33)), 3, none⟩]) (.seq (.ops [⟨some 35, (Op.move (Operand.tmp 0)), 3, none⟩,
    ⟨some 36, (Op.move (Operand.tmp 7)), 39, none⟩,
    ⟨some 37, (Op.call ⟨(Callee.value (Operand.func 28)), #[(Operand.tmp 35), (Operand.tmp 36)], #[3, 39]⟩), 45, none⟩,
    ⟨some 34, (Op.move (Operand.tmp 37)), 45, none⟩,
    ⟨some 38, (Op.extract (Operand.tmp 34) 0), 39, none⟩,
    ⟨some 39, (Op.extract (Operand.tmp 34) 1), 22, none⟩,
    ⟨some 40, (Op.extract (Operand.tmp 34) 2), 24, none⟩,
    ⟨some 12, (Op.assign (Operand.tmp 38)), 39, none⟩,
    ⟨some 13, (Op.assign (Operand.tmp 39)), 22, none⟩,
    ⟨some 14, (Op.assign (Operand.tmp 40)), 24, none⟩]) (.seq (.ops [⟨some 42, (Op.move (Operand.tmp 0)), 3, none⟩,
    ⟨some 43, (Op.move (Operand.tmp 1)), 39, none⟩,
    ⟨some 44, (Op.call ⟨(Callee.value (Operand.func 29)), #[(Operand.tmp 42), (Operand.tmp 43)], #[3, 39]⟩), 47, none⟩,
    ⟨some 41, (Op.move (Operand.tmp 44)), 47, none⟩,
    ⟨some 45, (Op.extract (Operand.tmp 41) 0), 39, none⟩,
    ⟨some 46, (Op.extract (Operand.tmp 41) 1), 22, none⟩,
    ⟨some 47, (Op.extract (Operand.tmp 41) 2), 3, none⟩,
    ⟨some 15, (Op.assign (Operand.tmp 45)), 39, none⟩,
    ⟨some 16, (Op.assign (Operand.tmp 46)), 22, none⟩,
    ⟨some 17, (Op.assign (Operand.tmp 47)), 3, none⟩]) (.seq (.seq (.ops [⟨some 48, (Op.move (Operand.tmp 8)), 39, none⟩,
    ⟨some 49, (Op.move (Operand.tmp 10)), 39, none⟩,
    ⟨some 50, (Op.call ⟨(Callee.value (Operand.func 30)), #[(Operand.tmp 48), (Operand.tmp 49)], #[39, 39]⟩), 4, none⟩,
    ⟨some 51, (Op.unOp UnOp.not 4 (Operand.tmp 50)), 4, none⟩,
    ⟨some 52, (Op.move (Operand.tmp 51)), 4, none⟩,
    ⟨some 53, (Op.move (Operand.tmp 9)), 24, some (52, false)⟩,
    ⟨some 54, (Op.call ⟨(Callee.value (Operand.func 19)), #[(Operand.tmp 53)], #[24]⟩), 3, some (52, false)⟩,
    ⟨some 55, (Op.move (Operand.tmp 11)), 3, some (52, false)⟩,
    ⟨some 56, (Op.binOp BinOp.neq 3 (Operand.tmp 54) (Operand.tmp 55) 3), 4, some (52, false)⟩,
    ⟨some 57, (Op.pick (Operand.tmp 52) (Operand.const (Value.bool true)) (Operand.tmp 56)), 4, none⟩,
    ⟨some 58, (Op.move (Operand.tmp 57)), 4, none⟩,
    ⟨some 59, (Op.move (Operand.tmp 12)), 39, some (58, false)⟩,
    ⟨some 60, (Op.move (Operand.tmp 15)), 39, some (58, false)⟩,
    ⟨some 61, (Op.call ⟨(Callee.value (Operand.func 30)), #[(Operand.tmp 59), (Operand.tmp 60)], #[39, 39]⟩), 4, some (58, false)⟩,
    ⟨some 62, (Op.unOp UnOp.not 4 (Operand.tmp 61)), 4, some (58, false)⟩,
    ⟨some 63, (Op.pick (Operand.tmp 58) (Operand.const (Value.bool true)) (Operand.tmp 62)), 4, none⟩,
    ⟨some 64, (Op.move (Operand.tmp 63)), 4, none⟩,
    ⟨some 65, (Op.move (Operand.tmp 13)), 22, some (64, false)⟩,
    ⟨some 66, (Op.move (Operand.tmp 16)), 22, some (64, false)⟩,
    ⟨some 67, (Op.call ⟨(Callee.value (Operand.func 18)), #[(Operand.tmp 65), (Operand.tmp 66)], #[22, 22]⟩), 4, some (64, false)⟩,
    ⟨some 68, (Op.unOp UnOp.not 4 (Operand.tmp 67)), 4, some (64, false)⟩,
    ⟨some 69, (Op.pick (Operand.tmp 64) (Operand.const (Value.bool true)) (Operand.tmp 68)), 4, none⟩,
    ⟨some 70, (Op.move (Operand.tmp 69)), 4, none⟩,
    ⟨some 71, (Op.move (Operand.tmp 14)), 24, some (70, false)⟩,
    ⟨some 72, (Op.call ⟨(Callee.value (Operand.func 19)), #[(Operand.tmp 71)], #[24]⟩), 3, some (70, false)⟩,
    ⟨some 73, (Op.move (Operand.tmp 17)), 3, some (70, false)⟩,
    ⟨some 74, (Op.binOp BinOp.neq 3 (Operand.tmp 72) (Operand.tmp 73) 3), 4, some (70, false)⟩,
    ⟨some 75, (Op.pick (Operand.tmp 70) (Operand.const (Value.bool true)) (Operand.tmp 74)), 4, none⟩,
    ⟨some 76, (Op.move (Operand.tmp 75)), 4, none⟩,
    ⟨some 77, (Op.move (Operand.tmp 0)), 3, some (76, false)⟩,
    ⟨some 78, (Op.move (Operand.tmp 7)), 39, some (76, false)⟩,
    ⟨some 79, (Op.call ⟨(Callee.value (Operand.func 31)), #[(Operand.tmp 77), (Operand.tmp 78)], #[3, 39]⟩), 4, some (76, false)⟩,
    ⟨some 80, (Op.move (Operand.tmp 0)), 3, some (76, false)⟩,
    ⟨some 81, (Op.move (Operand.tmp 1)), 39, some (76, false)⟩,
    ⟨some 82, (Op.call ⟨(Callee.value (Operand.func 32)), #[(Operand.tmp 80), (Operand.tmp 81)], #[3, 39]⟩), 4, some (76, false)⟩,
    ⟨some 83, (Op.binOp BinOp.neq 4 (Operand.tmp 79) (Operand.tmp 82) 4), 4, some (76, false)⟩,
    ⟨some 84, (Op.pick (Operand.tmp 76) (Operand.const (Value.bool true)) (Operand.tmp 83)), 4, none⟩]) (.cond (Operand.tmp 84) (.seq (.ops [⟨some 6, (Op.assign (Operand.const (Value.bool false))), 4, none⟩]) .ret) .skip)) (.seq (.ops [⟨some 85, (Op.move (Operand.tmp 8)), 39, none⟩,
    ⟨some 86, (Op.call ⟨(Callee.value (Operand.func 33)), #[(Operand.tmp 85)], #[39]⟩), 0, none⟩]) (.seq (.ops [⟨some 87, (Op.move (Operand.tmp 12)), 39, none⟩,
    ⟨some 88, (Op.call ⟨(Callee.value (Operand.func 33)), #[(Operand.tmp 87)], #[39]⟩), 0, none⟩]) (.seq (.ops [⟨some 89, (Op.move (Operand.tmp 13)), 22, none⟩,
    ⟨some 90, (Op.call ⟨(Callee.value (Operand.func 22)), #[(Operand.tmp 89)], #[22]⟩), 0, none⟩]) (.seq (.ops [⟨some 91, (Op.move (Operand.tmp 7)), 39, none⟩,
    ⟨some 92, (Op.move (Operand.tmp 1)), 39, none⟩,
    ⟨some 93, (Op.call ⟨(Callee.value (Operand.func 34)), #[(Operand.tmp 91), (Operand.tmp 92)], #[39, 39]⟩), 4, none⟩,
    ⟨some 94, (Op.move (Operand.tmp 93)), 4, none⟩,
    ⟨some 95, (Op.call ⟨(Callee.value (Operand.func 35)), #[], #[]⟩), 4, some (94, true)⟩,
    ⟨some 96, (Op.pick (Operand.tmp 94) (Operand.tmp 95) (Operand.const (Value.bool false))), 4, none⟩,
    ⟨some 6, (Op.assign (Operand.tmp 96)), 4, none⟩]) .ret)))))))))))⟩
theorem is_gimmallaw7_Peers (c : Cfg) (h : c.lendT = [85, 87, 89]) : isF PP c 7 c_gimmallaw7_Peers := isF_of (fn := Proofs.Try.f7) (by kernel_rfl) (by kernel_rfl) rfl h (by kernel_rfl) rfl rfl (by kernel_rfl)
def c_gimmallaw7_PeersForms_L0 : SC := (.seq (.seq (.ops [⟨some 101, (Op.move (Operand.tmp 19)), 3, none⟩,
    ⟨some 102, (Op.binOp BinOp.lss 3 (Operand.tmp 101) (Operand.const (Value.int IntKind.i64 16)) 3), 4, none⟩]) (.cond (Operand.tmp 102) .skip (.exit 0))) (.seq (.block 1 (.ops [⟨some 105, (Op.move (Operand.tmp 18)), 39, none⟩,
    ⟨some 106, (Op.move (Operand.tmp 19)), 3, none⟩,
    ⟨some 107, (Op.binOp BinOp.mul 3 (Operand.const (Value.int IntKind.i64 2)) (Operand.tmp 106) 3), 3, none⟩,
    ⟨some 108, (Op.binOp BinOp.add 3 (Operand.const (Value.int IntKind.i64 101)) (Operand.tmp 107) 3), 3, none⟩,
    ⟨some 109, (Op.build 54 #[(0, (Operand.tmp 108))]), 54, none⟩,
    ⟨some 110, (Op.buildSlice 39 1 #[(0, (Operand.tmp 109))]), 39, none⟩,
    ⟨some 111, (Op.call ⟨(Callee.builtin Builtin.append), #[(Operand.tmp 105), (Operand.tmp 110)], #[39, 39]⟩), 39, none⟩,
    ⟨some 18, (Op.assign (Operand.tmp 111)), 39, none⟩])) (.ops [⟨some 103, (Op.move (Operand.tmp 19)), 3, none⟩,
    ⟨some 104, (Op.binOp BinOp.add 3 (Operand.tmp 103) (Operand.const (Value.int IntKind.i64 1)) 3), 3, none⟩,
    ⟨some 19, (Op.assign (Operand.tmp 104)), 3, none⟩])))
def c_gimmallaw7_PeersForms : SF := ⟨172, [(ResultVar.tmp 4)],
  (.seq (.ops [⟨some 4, (Op.assign (Operand.const (Value.bool false))), 4, none⟩]) (.seq (.seq (.ops [⟨some 24, (Op.call ⟨(Callee.value (Operand.func 35)), #[], #[]⟩), 4, none⟩,
    ⟨some 25, (Op.unOp UnOp.not 4 (Operand.tmp 24)), 4, none⟩]) (.cond (Operand.tmp 25) (.seq (.ops [⟨some 4, (Op.assign (Operand.const (Value.bool false))), 4, none⟩]) .ret) .skip)) (.seq (.ops [⟨some 26, (Op.move (Operand.tmp 1)), 3, none⟩,
    ⟨some 27, (Op.binOp BinOp.and 3 (Operand.tmp 26) (Operand.const (Value.int IntKind.i64 1023)) 3), 3, none⟩,
    ⟨some 28, (Op.binOp BinOp.add 3 (Operand.const (Value.int IntKind.i64 1)) (Operand.tmp 27) 3), 3, none⟩,
    ⟨some 5, (Op.assign (Operand.tmp 28)), 3, none⟩]) (.seq (.ops [⟨some 29, (Op.build 54 #[(0, (Operand.const (Value.int IntKind.i64 90)))]), 54, none⟩,
    ⟨some 30, (Op.build 54 #[(0, (Operand.const (Value.int IntKind.i64 101)))]), 54, none⟩,
    ⟨some 31, (Op.buildSlice 39 2 #[(0, (Operand.tmp 29)), (1, (Operand.tmp 30))]), 39, none⟩,
    ⟨some 32, (Op.build 54 #[(0, (Operand.const (Value.int IntKind.i64 101)))]), 54, none⟩,
    ⟨some 33, (Op.build 54 #[(0, (Operand.const (Value.int IntKind.i64 101)))]), 54, none⟩,
    ⟨some 34, (Op.buildSlice 39 2 #[(0, (Operand.tmp 32)), (1, (Operand.tmp 33))]), 39, none⟩,
    ⟨some 35, (Op.build 54 #[(0, (Operand.const (Value.int IntKind.i64 100)))]), 54, none⟩,
    ⟨some 36, (Op.buildSlice 39 1 #[(0, (Operand.tmp 35))]), 39, none⟩,
    ⟨some 37, (Op.move (Operand.tmp 5)), 3, none⟩,
    ⟨some 38, (Op.unOp UnOp.neg 3 (Operand.tmp 37)), 3, none⟩,
    ⟨some 39, (Op.build 54 #[(0, (Operand.tmp 38))]), 54, none⟩,
    ⟨some 40, (Op.buildSlice 39 1 #[(0, (Operand.tmp 39))]), 39, none⟩,
    ⟨some 41, (Op.move (Operand.tmp 5)), 3, none⟩,
    ⟨some 42, (Op.binOp BinOp.add 3 (Operand.const (Value.int IntKind.i64 255)) (Operand.tmp 41) 3), 3, none⟩,
    ⟨some 43, (Op.build 54 #[(0, (Operand.tmp 42))]), 54, none⟩,
    ⟨some 44, (Op.buildSlice 39 1 #[(0, (Operand.tmp 43))]), 39, none⟩,
    ⟨some 45, (Op.move (Operand.tmp 5)), 3, none⟩,
    ⟨some 46, (Op.unOp UnOp.neg 3 (Operand.tmp 45)), 3, none⟩,
    ⟨some 47, (Op.build 54 #[(0, (Operand.const (Value.int IntKind.i64 101))), (1, (Operand.tmp 46))]), 54, none⟩,
    ⟨some 48, (Op.buildSlice 39 1 #[(0, (Operand.tmp 47))]), 39, none⟩,
    ⟨some 49, (Op.move (Operand.tmp 5)), 3, none⟩,
    ⟨some 50, (Op.binOp BinOp.add 3 (Operand.const (Value.int IntKind.i64 2)) (Operand.tmp 49) 3), 3, none⟩,
    ⟨some 51, (Op.build 54 #[(0, (Operand.const (Value.int IntKind.i64 101))), (1, (Operand.tmp 50))]), 54, none⟩,
    ⟨some 52, (Op.buildSlice 39 1 #[(0, (Operand.tmp 51))]), 39, none⟩,
    ⟨some 53, (Op.buildSlice 55 7 #[(0, (Operand.tmp 31)), (1, (Operand.tmp 34)), (2, (Operand.tmp 36)), (3, (Operand.tmp 40)), (4, (Operand.tmp 44)), (5, (Operand.tmp 48)), (6, (Operand.tmp 52))]), 55, none⟩,
    ⟨some 6, (Op.assign (Operand.tmp 53)), 55, none⟩]) (.seq (.ops [⟨some 54, (Op.move (Operand.tmp 6)), 55, none⟩,
    ⟨some 55, (Op.move (Operand.tmp 0)), 3, none⟩,
    ⟨some 56, (Op.convert 3 38 (Operand.tmp 55)), 38, none⟩,
    ⟨some 57, (Op.binOp BinOp.rem 38 (Operand.tmp 56) (Operand.const (Value.int IntKind.u64 7)) 38), 38, none⟩,
    ⟨some 58, (Op.convert 38 3 (Operand.tmp 57)), 3, none⟩,
    ⟨some 59, (Op.indexAddr 55 (Operand.tmp 54) (Operand.tmp 58)), 0, none⟩,
    ⟨some 60, (Op.load 39 (Operand.tmp 59)), 39, none⟩,
    ⟨some 7, (Op.assign (Operand.tmp 60)), 39, none⟩]) (.seq (.ops [⟨some 62, (Op.move (Operand.tmp 7)), 39, none⟩,
    ⟨some 63, (Op.call ⟨(Callee.value (Operand.func 26)), #[(Operand.const (Value.int IntKind.i64 100)), (Operand.tmp 62), (Operand.const (Value.int IntKind.i64 5))], #[3, 39, 3]⟩), 41, none⟩,
    ⟨some 61, (Op.move (Operand.tmp 63)), 41, none⟩,
    ⟨some 64, (Op.extract (Operand.tmp 61) 0), 39, none⟩,
    ⟨some 65, (Op.extract (Operand.tmp 61) 1), 24, none⟩,
    ⟨some 8, (Op.assign (Operand.tmp 64)), 39, none⟩,
    ⟨some 9, (Op.assign (Operand.tmp 65)), 24, none⟩]) (.seq (.ops [⟨some 67, (Op.move (Operand.tmp 7)), 39, none⟩,
    ⟨some 68, (Op.call ⟨(Callee.value (Operand.func 28)), #[(Operand.const (Value.int IntKind.i64 100)), (Operand.tmp 67)], #[3, 39]⟩), 45, none⟩,
    ⟨some 66, (Op.move (Operand.tmp 68)), 45, none⟩,
    ⟨some 69, (Op.extract (Operand.tmp 66) 0), 39, none⟩,
    ⟨some 70, (Op.extract (Operand.tmp 66) 1), 22, none⟩,
    ⟨some 71, (Op.extract (Operand.tmp 66) 2), 24, none⟩,
    ⟨some 10, (Op.assign (Operand.tmp 69)), 39, none⟩,
    ⟨some 11, (Op.assign (Operand.tmp 70)), 22, none⟩,
    ⟨some 12, (Op.assign (Operand.tmp 71)), 24, none⟩]) (.seq (.ops [⟨some 73, (Op.move (Operand.tmp 5)), 3, none⟩,
    ⟨some 74, (Op.unOp UnOp.neg 3 (Operand.tmp 73)), 3, none⟩,
    ⟨some 75, (Op.move (Operand.tmp 5)), 3, none⟩,
    ⟨some 76, (Op.binOp BinOp.add 3 (Operand.const (Value.int IntKind.i64 255)) (Operand.tmp 75) 3), 3, none⟩,
    ⟨some 77, (Op.buildSlice 22 3 #[(0, (Operand.tmp 74)), (1, (Operand.tmp 76)), (2, (Operand.const (Value.int IntKind.i64 100)))]), 22, none⟩,
    ⟨some 78, (Op.move (Operand.tmp 0)), 3, none⟩,
    ⟨some 79, (Op.convert 3 38 (Operand.tmp 78)), 38, none⟩,
    ⟨some 80, (Op.binOp BinOp.rem 38 (Operand.tmp 79) (Operand.const (Value.int IntKind.u64 3)) 38), 38, none⟩,
    ⟨some 81, (Op.convert 38 3 (Operand.tmp 80)), 3, none⟩,
    ⟨some 82, (Op.indexAddr 22 (Operand.tmp 77) (Operand.tmp 81)), 0, none⟩,
    ⟨some 83, (Op.load 3 (Operand.tmp 82)), 3, none⟩,
    ⟨some 84, (Op.call ⟨(Callee.value (Operand.func 26)), #[(Operand.const (Value.int IntKind.i64 100)), (Operand.const (Value.slice none 0 0)), (Operand.tmp 83)], #[3, 39, 3]⟩), 41, none⟩,
    ⟨some 72, (Op.move (Operand.tmp 84)), 41, none⟩,
    ⟨some 85, (Op.extract (Operand.tmp 72) 0), 39, none⟩,
    ⟨some 86, (Op.extract (Operand.tmp 72) 1), 24, none⟩,
    ⟨some 13, (Op.assign (Operand.tmp 85)), 39, none⟩,
    ⟨some 14, (Op.assign (Operand.tmp 86)), 24, none⟩]) (.seq (.ops [⟨some 88, (Op.move (Operand.tmp 5)), 3, none⟩,
    ⟨some 89, (Op.unOp UnOp.neg 3 (Operand.tmp 88)), 3, none⟩,
    ⟨some 90, (Op.move (Operand.tmp 5)), 3, none⟩,
    ⟨some 91, (Op.binOp BinOp.add 3 (Operand.const (Value.int IntKind.i64 255)) (Operand.tmp 90) 3), 3, none⟩,
    ⟨some 92, (Op.buildSlice 22 2 #[(0, (Operand.tmp 89)), (1, (Operand.tmp 91))]), 22, none⟩,
    ⟨some 93, (Op.move (Operand.tmp 0)), 3, none⟩,
    ⟨some 94, (Op.binOp BinOp.and 3 (Operand.tmp 93) (Operand.const (Value.int IntKind.i64 1)) 3), 3, none⟩,
    ⟨some 95, (Op.indexAddr 22 (Operand.tmp 92) (Operand.tmp 94)), 0, none⟩,
    ⟨some 96, (Op.load 3 (Operand.tmp 95)), 3, none⟩,
    ⟨some 97, (Op.call ⟨(Callee.value (Operand.func 28)), #[(Operand.tmp 96), (Operand.const (Value.slice none 0 0))], #[3, 39]⟩), 45, none⟩,
    ⟨some 87, (Op.move (Operand.tmp 97)), 45, none⟩,
    ⟨some 98, (Op.extract (Operand.tmp 87) 0), 39, none⟩,
    ⟨some 99, (Op.extract (Operand.tmp 87) 1), 22, none⟩,
    ⟨some 100, (Op.extract (Operand.tmp 87) 2), 24, none⟩,
    ⟨some 15, (Op.assign (Operand.tmp 98)), 39, none⟩,
    ⟨some 16, (Op.assign (Operand.tmp 99)), 22, none⟩,
    ⟨some 17, (Op.assign (Operand.tmp 100)), 24, none⟩]) (.seq (.ops [⟨some 18, (Op.assign (Operand.const (Value.slice none 0 0))), 39, none⟩]) (.seq (.seq (.ops [⟨some 19, (Op.assign (Operand.const (Value.int IntKind.i64 0))), 3, none⟩]) (.block 0 (.loop c_gimmallaw7_PeersForms_L0))) (.seq (.ops [⟨some 113, (Op.move (Operand.tmp 18)), 39, none⟩,
    ⟨some 114, (Op.move (Operand.tmp 1)), 3, none⟩,
    ⟨some 115, (Op.binOp BinOp.and 3 (Operand.tmp 114) (Operand.const (Value.int IntKind.i64 15)) 3), 3, none⟩,
    ⟨some 116, (Op.binOp BinOp.mul 3 (Operand.const (Value.int IntKind.i64 2)) (Operand.tmp 115) 3), 3, none⟩,
    ⟨some 117, (Op.binOp BinOp.add 3 (Operand.const (Value.int IntKind.i64 102)) (Operand.tmp 116) 3), 3, none⟩,
    ⟨some 118, (Op.call ⟨(Callee.value (Operand.func 26)), #[(Operand.const (Value.int IntKind.i64 100)), (Operand.tmp 113), (Operand.tmp 117)], #[3, 39, 3]⟩), 41, none⟩,
    ⟨some 112, (Op.move (Operand.tmp 118)), 41, none⟩,
    ⟨some 119, (Op.extract (Operand.tmp 112) 0), 39, none⟩,
    ⟨some 120, (Op.extract (Operand.tmp 112) 1), 24, none⟩,
    ⟨some 20, (Op.assign (Operand.tmp 119)), 39, none⟩,
    ⟨some 21, (Op.assign (Operand.tmp 120)), 24, none⟩]) (.seq (.ops [⟨some 122, (Op.move (Operand.tmp 18)), 39, none⟩,
    ⟨some 123, (Op.move (Operand.tmp 1)), 3, none⟩,
    ⟨some 124, (Op.binOp BinOp.and 3 (Operand.tmp 123) (Operand.const (Value.int IntKind.i64 15)) 3), 3, none⟩,
    ⟨some 125, (Op.binOp BinOp.mul 3 (Operand.const (Value.int IntKind.i64 2)) (Operand.tmp 124) 3), 3, none⟩,
    ⟨some 126, (Op.binOp BinOp.add 3 (Operand.const (Value.int IntKind.i64 101)) (Operand.tmp 125) 3), 3, none⟩,
    ⟨some 127, (Op.call ⟨(Callee.value (Operand.func 26)), #[(Operand.const (Value.int IntKind.i64 100)), (Operand.tmp 122), (Operand.tmp 126)], #[3, 39, 3]⟩), 41, none⟩,
    ⟨some 121, (Op.move (Operand.tmp 127)), 41, none⟩,
    ⟨some 128, (Op.extract (Operand.tmp 121) 0), 39, none⟩,
    ⟨some 129, (Op.extract (Operand.tmp 121) 1), 24, none⟩,
    ⟨some 22, (Op.assign (Operand.tmp 128)), 39, none⟩,
    ⟨some 23, (Op.assign (Operand.tmp 129)), 24, none⟩]) (.seq (.ops [⟨some 130, (Op.move (Operand.tmp 7)), 39, none⟩,
    ⟨some 131, (Op.call ⟨(Callee.value (Operand.func 31)), #[(Operand.const (Value.int IntKind.i64 100)), (Operand.tmp 130)], #[3, 39]⟩), 4, none⟩,
    ⟨some 132, (Op.unOp UnOp.not 4 (Operand.tmp 131)), 4, none⟩,
    ⟨some 133, (Op.move (Operand.tmp 132)), 4, none⟩,
    ⟨some 134, (Op.move (Operand.tmp 18)), 39, some (133, true)⟩,
    ⟨some 135, (Op.call ⟨(Callee.value (Operand.func 31)), #[(Operand.const (Value.int IntKind.i64 100)), (Operand.tmp 134)], #[3, 39]⟩), 4, some (133, true)⟩,
    ⟨some 136, (Op.pick (Operand.tmp 133) (Operand.tmp 135) (Operand.const (Value.bool false))), 4, none⟩,
    ⟨some 137, (Op.move (Operand.tmp 136)), 4, none⟩,
    ⟨some 138, (Op.move (Operand.tmp 9)), 24, some (137, true)⟩,
    ⟨some 139, (Op.call ⟨(Callee.value (Operand.func 19)), #[(Operand.tmp 138)], #[24]⟩), 3, some (137, true)⟩,
    ⟨some 140, (Op.binOp BinOp.eql 3 (Operand.tmp 139) (Operand.const (Value.int IntKind.i64 700)) 3), 4, some (137, true)⟩,
    ⟨some 141, (Op.pick (Operand.tmp 137) (Operand.tmp 140) (Operand.const (Value.bool false))), 4, none⟩,
    ⟨some 142, (Op.move (Operand.tmp 141)), 4, none⟩,
    ⟨some 143, (Op.move (Operand.tmp 12)), 24, some (142, true)⟩,
    ⟨some 144, (Op.call ⟨(Callee.value (Operand.func 19)), #[(Operand.tmp 143)], #[24]⟩), 3, some (142, true)⟩,
    ⟨some 145, (Op.binOp BinOp.eql 3 (Operand.tmp 144) (Operand.const (Value.int IntKind.i64 700)) 3), 4, some (142, true)⟩,
    ⟨some 146, (Op.pick (Operand.tmp 142) (Operand.tmp 145) (Operand.const (Value.bool false))), 4, none⟩,
    ⟨some 147, (Op.move (Operand.tmp 146)), 4, none⟩,
    ⟨some 148, (Op.move (Operand.tmp 14)), 24, some (147, true)⟩,
    ⟨some 149, (Op.call ⟨(Callee.value (Operand.func 19)), #[(Operand.tmp 148)], #[24]⟩), 3, some (147, true)⟩,
    ⟨some 150, (Op.binOp BinOp.eql 3 (Operand.tmp 149) (Operand.const (Value.int IntKind.i64 700)) 3), 4, some (147, true)⟩,
    ⟨some 151, (Op.pick (Operand.tmp 147) (Operand.tmp 150) (Operand.const (Value.bool false))), 4, none⟩,
    ⟨some 152, (Op.move (Operand.tmp 151)), 4, none⟩,
    ⟨some 153, (Op.move (Operand.tmp 17)), 24, some (152, true)⟩,
    ⟨some 154, (Op.call ⟨(Callee.value (Operand.func 19)), #[(Operand.tmp 153)], #[24]⟩), 3, some (152, true)⟩,
    ⟨some 155, (Op.binOp BinOp.eql 3 (Operand.tmp 154) (Operand.const (Value.int IntKind.i64 700)) 3), 4, some (152, true)⟩,
    ⟨some 156, (Op.pick (Operand.tmp 152) (Operand.tmp 155) (Operand.const (Value.bool false))), 4, none⟩,
    ⟨some 157, (Op.move (Operand.tmp 156)), 4, none⟩,
    ⟨some 158, (Op.move (Operand.tmp 21)), 24, some (157, true)⟩,
    ⟨some 159, (Op.call ⟨(Callee.value (Operand.func 19)), #[(Operand.tmp 158)], #[24]⟩), 3, some (157, true)⟩,
    ⟨some 160, (Op.binOp BinOp.eql 3 (Operand.tmp 159) (Operand.const (Value.int IntKind.i64 701)) 3), 4, some (157, true)⟩,
    ⟨some 161, (Op.pick (Operand.tmp 157) (Operand.tmp 160) (Operand.const (Value.bool false))), 4, none⟩,
    ⟨some 162, (Op.move (Operand.tmp 161)), 4, none⟩,
    ⟨some 163, (Op.move (Operand.tmp 22)), 39, some (162, true)⟩,
    ⟨some 164, (Op.move (Operand.tmp 18)), 39, some (162, true)⟩,
    ⟨some 165, (Op.call ⟨(Callee.value (Operand.func 30)), #[(Operand.tmp 163), (Operand.tmp 164)], #[39, 39]⟩), 4, some (162, true)⟩,
    ⟨some 166, (Op.pick (Operand.tmp 162) (Operand.tmp 165) (Operand.const (Value.bool false))), 4, none⟩,
    ⟨some 167, (Op.move (Operand.tmp 166)), 4, none⟩,
    ⟨some 168, (Op.move (Operand.tmp 23)), 24, some (167, true)⟩,
    ⟨some 169, (Op.call ⟨(Callee.value (Operand.func 19)), #[(Operand.tmp 168)], #[24]⟩), 3, some (167, true)⟩,
    ⟨some 170, (Op.binOp BinOp.eql 3 (Operand.tmp 169) (Operand.const (Value.int IntKind.i64 0)) 3), 4, some (167, true)⟩,
    ⟨some 171, (Op.pick (Operand.tmp 167) (Operand.tmp 170) (Operand.const (Value.bool false))), 4, none⟩,
    ⟨some 4, (Op.assign (Operand.tmp 171)), 4, none⟩]) .ret))))))))))))))⟩
theorem is_gimmallaw7_PeersForms (c : Cfg) (h : c.lendT = []) : isF PP c 8 c_gimmallaw7_PeersForms := isF_of (fn := Proofs.Try.f8) (by kernel_rfl) (by kernel_rfl) rfl h (by kernel_rfl) rfl rfl (by kernel_rfl)
def c_gimmallaw7_PeersLost_L0 : SC := (.seq (.seq (.ops [⟨some 39, (Op.move (Operand.tmp 12)), 3, none⟩,
    ⟨some 40, (Op.binOp BinOp.lss 3 (Operand.tmp 39) (Operand.const (Value.int IntKind.i64 12)) 3), 4, none⟩]) (.cond (Operand.tmp 40) .skip (.exit 0))) (.seq (.block 1 (.seq (.seq (.ops [⟨some 43, (Op.move (Operand.tmp 2)), 3, none⟩,
    ⟨some 44, (Op.move (Operand.tmp 12)), 3, none⟩,
    ⟨some 45, (Op.binOp BinOp.shr 3 (Operand.tmp 43) (Operand.tmp 44) 3), 3, none⟩,
    ⟨some 46, (Op.binOp BinOp.and 3 (Operand.tmp 45) (Operand.const (Value.int IntKind.i64 1)) 3), 3, none⟩,
    ⟨some 47, (Op.binOp BinOp.eql 3 (Operand.tmp 46) (Operand.const (Value.int IntKind.i64 1)) 3), 4, none⟩]) (.cond (Operand.tmp 47) (.seq (.ops [⟨some 49, (Op.move (Operand.tmp 7)), 3, none⟩,
    ⟨some 50, (Op.move (Operand.tmp 9)), 39, none⟩,
    ⟨some 51, (Op.move (Operand.tmp 8)), 3, none⟩,
    ⟨some 52, (Op.call ⟨(Callee.value (Operand.func 26)), #[(Operand.tmp 49), (Operand.tmp 50), (Operand.tmp 51)], #[3, 39, 3]⟩), 41, none⟩,
    ⟨some 48, (Op.move (Operand.tmp 52)), 41, none⟩,
    ⟨some 53, (Op.extract (Operand.tmp 48) 0), 39, none⟩,
    ⟨some 54, (Op.extract (Operand.tmp 48) 1), 24, none⟩,
    ⟨some 13, (Op.assign (Operand.tmp 53)), 39, none⟩,
    ⟨some 14, (Op.assign (Operand.tmp 54)), 24, none⟩]) (.seq (.seq (.ops [⟨some 55, (Op.move (Operand.tmp 14)), 24, none⟩,
    ⟨some 56, (Op.call ⟨(Callee.value (Operand.func 19)), #[(Operand.tmp 55)], #[24]⟩), 3, none⟩,
    ⟨some 57, (Op.binOp BinOp.neq 3 (Operand.tmp 56) (Operand.const (Value.int IntKind.i64 0)) 3), 4, none⟩]) (.cond (Operand.tmp 57) (.seq (.ops [⟨some 6, (Op.assign (Operand.const (Value.bool false))), 4, none⟩]) .ret) .skip)) (.seq (.ops [⟨some 58, (Op.move (Operand.tmp 13)), 39, none⟩,
    ⟨some 9, (Op.assign (Operand.tmp 58)), 39, none⟩]) (.ops [⟨some 11, (Op.assign (Operand.const (Value.int IntKind.i64 0))), 3, none⟩])))) .skip)) (.seq (.ops [⟨some 60, (Op.move (Operand.tmp 7)), 3, none⟩,
    ⟨some 61, (Op.move (Operand.tmp 9)), 39, none⟩,
    ⟨some 62, (Op.call ⟨(Callee.value (Operand.func 28)), #[(Operand.tmp 60), (Operand.tmp 61)], #[3, 39]⟩), 45, none⟩,
    ⟨some 59, (Op.move (Operand.tmp 62)), 45, none⟩,
    ⟨some 63, (Op.extract (Operand.tmp 59) 0), 39, none⟩,
    ⟨some 64, (Op.extract (Operand.tmp 59) 1), 22, none⟩,
    ⟨some 65, (Op.extract (Operand.tmp 59) 2), 24, none⟩,
    ⟨some 15, (Op.assign (Operand.tmp 63)), 39, none⟩,
    ⟨some 16, (Op.assign (Operand.tmp 64)), 22, none⟩,
    ⟨some 17, (Op.assign (Operand.tmp 65)), 24, none⟩]) (.seq (.seq (.ops [⟨some 66, (Op.move (Operand.tmp 17)), 24, none⟩,
    ⟨some 67, (Op.call ⟨(Callee.value (Operand.func 19)), #[(Operand.tmp 66)], #[24]⟩), 3, none⟩,
    ⟨some 68, (Op.binOp BinOp.neq 3 (Operand.tmp 67) (Operand.const (Value.int IntKind.i64 0)) 3), 4, none⟩]) (.cond (Operand.tmp 68) (.seq (.ops [⟨some 6, (Op.assign (Operand.const (Value.bool false))), 4, none⟩]) .ret) .skip)) (.seq (.ops [⟨some 69, (Op.move (Operand.tmp 11)), 3, none⟩,
    ⟨some 70, (Op.binOp BinOp.add 3 (Operand.tmp 69) (Operand.const (Value.int IntKind.i64 1)) 3), 3, none⟩,
    ⟨some 11, (Op.assign (Operand.tmp 70)), 3, none⟩]) (.seq (.seq (.ops [⟨some 71, (Op.move (Operand.tmp 11)), 3, none⟩,
    ⟨some 72, (Op.binOp BinOp.eql 3 (Operand.tmp 71) (Operand.const (Value.int IntKind.i64 3)) 3), 4, none⟩]) (.cond (Operand.tmp 72) (.seq (.ops [⟨some 73, (Op.move (Operand.tmp 15)), 39, none⟩,
    ⟨some 74, (Op.call ⟨(Callee.builtin Builtin.len), #[(Operand.tmp 73)], #[39]⟩), 3, none⟩,
    ⟨some 75, (Op.binOp BinOp.eql 3 (Operand.tmp 74) (Operand.const (Value.int IntKind.i64 0)) 3), 4, none⟩,
    ⟨some 76, (Op.move (Operand.tmp 75)), 4, none⟩,
    ⟨some 77, (Op.move (Operand.tmp 16)), 22, some (76, true)⟩,
    ⟨some 78, (Op.move (Operand.tmp 8)), 3, some (76, true)⟩,
    ⟨some 79, (Op.buildSlice 22 1 #[(0, (Operand.tmp 78))]), 22, some (76, true)⟩,
    ⟨some 80, (Op.call ⟨(Callee.value (Operand.func 18)), #[(Operand.tmp 77), (Operand.tmp 79)], #[22, 22]⟩), 4, some (76, true)⟩,
    ⟨some 81, (Op.pick (Operand.tmp 76) (Operand.tmp 80) (Operand.const (Value.bool false))), 4, none⟩,
    ⟨some 6, (Op.assign (Operand.tmp 81)), 4, none⟩]) .ret) .skip)) (.seq (.seq (.ops [⟨some 82, (Op.move (Operand.tmp 16)), 22, none⟩,
    ⟨some 83, (Op.call ⟨(Callee.builtin Builtin.len), #[(Operand.tmp 82)], #[22]⟩), 3, none⟩,
    ⟨some 84, (Op.binOp BinOp.neq 3 (Operand.tmp 83) (Operand.const (Value.int IntKind.i64 0)) 3), 4, none⟩,
    ⟨some 85, (Op.move (Operand.tmp 84)), 4, none⟩,
    ⟨some 86, (Op.move (Operand.tmp 15)), 39, some (85, false)⟩,
    ⟨some 87, (Op.move (Operand.tmp 8)), 3, some (85, false)⟩,
    ⟨some 88, (Op.move (Operand.tmp 11)), 3, some (85, false)⟩,
    ⟨some 89, (Op.build 54 #[(0, (Operand.tmp 87)), (1, (Operand.tmp 88))]), 54, some (85, false)⟩,
    ⟨some 90, (Op.buildSlice 39 1 #[(0, (Operand.tmp 89))]), 39, some (85, false)⟩,
    ⟨some 91, (Op.call ⟨(Callee.value (Operand.func 30)), #[(Operand.tmp 86), (Operand.tmp 90)], #[39, 39]⟩), 4, some (85, false)⟩,
    ⟨some 92, (Op.unOp UnOp.not 4 (Operand.tmp 91)), 4, some (85, false)⟩,
    ⟨some 93, (Op.pick (Operand.tmp 85) (Operand.const (Value.bool true)) (Operand.tmp 92)), 4, none⟩]) (.cond (Operand.tmp 93) (.seq (.ops [⟨some 6, (Op.assign (Operand.const (Value.bool false))), 4, none⟩]) .ret) .skip)) (.ops [⟨some 94, (Op.move (Operand.tmp 15)), 39, none⟩,
    ⟨some 9, (Op.assign (Operand.tmp 94)), 39, none⟩])))))))) (.ops [⟨some 41, (Op.move (Operand.tmp 12)), 3, none⟩,
    ⟨some 42, (Op.binOp BinOp.add 3 (Operand.tmp 41) (Operand.const (Value.int IntKind.i64 1)) 3), 3, none⟩,
    ⟨some 12, (Op.assign (Operand.tmp 42)), 3, none⟩])))
def c_gimmallaw7_PeersLost : SF := ⟨95, [(ResultVar.tmp 6)],
  (.seq (.ops [⟨some 6, (Op.assign (Operand.const (Value.bool false))), 4, none⟩]) (.seq (.seq (.ops [⟨some 18, (Op.call ⟨(Callee.value (Operand.func 35)), #[], #[]⟩), 4, none⟩,
    ⟨some 19, (Op.unOp UnOp.not 4 (Operand.tmp 18)), 4, none⟩]) (.cond (Operand.tmp 19) (.seq (.ops [⟨some 6, (Op.assign (Operand.const (Value.bool false))), 4, none⟩]) .ret) .skip)) (.seq (.ops [⟨some 20, (Op.move (Operand.tmp 0)), 3, none⟩,
    ⟨some 21, (Op.binOp BinOp.and 3 (Operand.tmp 20) (Operand.const (Value.int IntKind.i64 255)) 3), 3, none⟩,
    ⟨some 7, (Op.assign (Operand.tmp 21)), 3, none⟩]) (.seq (.ops [⟨some 22, (Op.move (Operand.tmp 7)), 3, none⟩,
    ⟨some 23, (Op.binOp BinOp.add 3 (Operand.tmp 22) (Operand.const (Value.int IntKind.i64 1)) 3), 3, none⟩,
    ⟨some 24, (Op.move (Operand.tmp 1)), 3, none⟩,
    ⟨some 25, (Op.convert 3 38 (Operand.tmp 24)), 38, none⟩,
    ⟨some 26, (Op.binOp BinOp.rem 38 (Operand.tmp 25) (Operand.const (Value.int IntKind.u64 255)) 38), 38, none⟩,
    ⟨some 27, (Op.convert 38 3 (Operand.tmp 26)), 3, none⟩,
    ⟨some 28, (Op.binOp BinOp.add 3 (Operand.tmp 23) (Operand.tmp 27) 3), 3, none⟩,
    ⟨some 29, (Op.binOp BinOp.rem 3 (Operand.tmp 28) (Operand.const (Value.int IntKind.i64 256)) 3), 3, none⟩,
    ⟨some 8, (Op.assign (Operand.tmp 29)), 3, none⟩]) (.seq (.ops [⟨some 31, (Op.move (Operand.tmp 7)), 3, none⟩,
    ⟨some 32, (Op.move (Operand.tmp 8)), 3, none⟩,
    ⟨some 33, (Op.call ⟨(Callee.value (Operand.func 26)), #[(Operand.tmp 31), (Operand.const (Value.slice none 0 0)), (Operand.tmp 32)], #[3, 39, 3]⟩), 41, none⟩,
    ⟨some 30, (Op.move (Operand.tmp 33)), 41, none⟩,
    ⟨some 34, (Op.extract (Operand.tmp 30) 0), 39, none⟩,
    ⟨some 35, (Op.extract (Operand.tmp 30) 1), 24, none⟩,
    ⟨some 9, (Op.assign (Operand.tmp 34)), 39, none⟩,
    ⟨some 10, (Op.assign (Operand.tmp 35)), 24, none⟩]) (.seq (.seq (.ops [⟨some 36, (Op.move (Operand.tmp 10)), 24, none⟩,
    ⟨some 37, (Op.call ⟨(Callee.value (Operand.func 19)), #[(Operand.tmp 36)], #[24]⟩), 3, none⟩,
    ⟨some 38, (Op.binOp BinOp.neq 3 (Operand.tmp 37) (Operand.const (Value.int IntKind.i64 0)) 3), 4, none⟩]) (.cond (Operand.tmp 38) (.seq (.ops [⟨some 6, (Op.assign (Operand.const (Value.bool false))), 4, none⟩]) .ret) .skip)) (.seq (.ops [⟨some 11, (Op.assign (Operand.const (Value.int IntKind.i64 0))), 3, none⟩]) (.seq (.seq (.ops [⟨some 12, (Op.assign (Operand.const (Value.int IntKind.i64 0))), 3, none⟩]) (.block 0 (.loop c_gimmallaw7_PeersLost_L0))) (.seq (.ops [⟨some 6, (Op.assign (Operand.const (Value.bool true))), 4, none⟩]) .ret)))))))))⟩
theorem is_gimmallaw7_PeersLost (c : Cfg) (h : c.lendT = []) : isF PP c 9 c_gimmallaw7_PeersLost := isF_of (fn := Proofs.Try.f9) (by kernel_rfl) (by kernel_rfl) rfl h (by kernel_rfl) rfl rfl (by kernel_rfl)
def c_gimmallaw7_PeersOther_L1 : SC := (.seq (.seq (.ops [⟨some 49, (Op.move (Operand.tmp 13)), 3, none⟩,
    ⟨some 50, (Op.move (Operand.tmp 7)), 39, none⟩,
    ⟨some 51, (Op.call ⟨(Callee.builtin Builtin.len), #[(Operand.tmp 50)], #[39]⟩), 3, none⟩,
    ⟨some 52, (Op.binOp BinOp.lss 3 (Operand.tmp 49) (Operand.tmp 51) 3), 4, none⟩]) (.cond (Operand.tmp 52) .skip (.exit 2))) (.seq (.block 3 (.seq (.ops [⟨some 55, (Op.move (Operand.tmp 7)), 39, none⟩,
    ⟨some 56, (Op.move (Operand.tmp 13)), 3, none⟩,
    ⟨some 57, (Op.indexAddr 39 (Operand.tmp 55) (Operand.tmp 56)), 0, none⟩,
    ⟨some 58, (Op.fieldAddr 54 (Operand.tmp 57) 0), 0, none⟩,
    ⟨some 59, (Op.load 3 (Operand.tmp 58)), 3, none⟩,
    ⟨some 60, (Op.move (Operand.tmp 2)), 3, none⟩,
    ⟨some 61, (Op.binOp BinOp.neq 3 (Operand.tmp 59) (Operand.tmp 60) 3), 4, none⟩]) (.cond (Operand.tmp 61) (.ops [⟨some 62, (Op.move (Operand.tmp 10)), 39, none⟩,
    ⟨some 63, (Op.move (Operand.tmp 7)), 39, none⟩,
    ⟨some 64, (Op.move (Operand.tmp 13)), 3, none⟩,
    ⟨some 65, (Op.indexAddr 39 (Operand.tmp 63) (Operand.tmp 64)), 0, none⟩,
    ⟨some 66, (Op.load 54 (Operand.tmp 65)), 54, none⟩,
    ⟨some 67, (Op.buildSlice 39 1 #[(0, (Operand.tmp 66))]), 39, none⟩,
    ⟨some 68, (Op.call ⟨(Callee.builtin Builtin.append), #[(Operand.tmp 62), (Operand.tmp 67)], #[39, 39]⟩), 39, none⟩,
    ⟨some 10, (Op.assign (Operand.tmp 68)), 39, none⟩]) (.ops [⟨some 69, (Op.move (Operand.tmp 13)), 3, none⟩,
    ⟨some 12, (Op.assign (Operand.tmp 69)), 3, none⟩])))) (.ops [⟨some 53, (Op.move (Operand.tmp 13)), 3, none⟩,
    ⟨some 54, (Op.binOp BinOp.add 3 (Operand.tmp 53) (Operand.const (Value.int IntKind.i64 1)) 3), 3, none⟩,
    ⟨some 13, (Op.assign (Operand.tmp 54)), 3, none⟩])))
def c_gimmallaw7_PeersOther_L0 : SC := (.seq (.seq (.ops [⟨some 29, (Op.move (Operand.tmp 11)), 3, none⟩,
    ⟨some 30, (Op.move (Operand.tmp 1)), 39, none⟩,
    ⟨some 31, (Op.call ⟨(Callee.builtin Builtin.len), #[(Operand.tmp 30)], #[39]⟩), 3, none⟩,
    ⟨some 32, (Op.binOp BinOp.lss 3 (Operand.tmp 29) (Operand.tmp 31) 3), 4, none⟩]) (.cond (Operand.tmp 32) .skip (.exit 0))) (.seq (.block 1 (.seq (.ops [⟨some 35, (Op.move (Operand.tmp 1)), 39, none⟩,
    ⟨some 36, (Op.move (Operand.tmp 11)), 3, none⟩,
    ⟨some 37, (Op.indexAddr 39 (Operand.tmp 35) (Operand.tmp 36)), 0, none⟩,
    ⟨some 38, (Op.fieldAddr 54 (Operand.tmp 37) 0), 0, none⟩,
    ⟨some 39, (Op.load 3 (Operand.tmp 38)), 3, none⟩,
    ⟨some 40, (Op.move (Operand.tmp 2)), 3, none⟩,
    ⟨some 41, (Op.binOp BinOp.neq 3 (Operand.tmp 39) (Operand.tmp 40) 3), 4, none⟩]) (.cond (Operand.tmp 41) (.ops [⟨some 42, (Op.move (Operand.tmp 9)), 39, none⟩,
    ⟨some 43, (Op.move (Operand.tmp 1)), 39, none⟩,
    ⟨some 44, (Op.move (Operand.tmp 11)), 3, none⟩,
    ⟨some 45, (Op.indexAddr 39 (Operand.tmp 43) (Operand.tmp 44)), 0, none⟩,
    ⟨some 46, (Op.load 54 (Operand.tmp 45)), 54, none⟩,
    ⟨some 47, (Op.buildSlice 39 1 #[(0, (Operand.tmp 46))]), 39, none⟩,
    ⟨some 48, (Op.call ⟨(Callee.builtin Builtin.append), #[(Operand.tmp 42), (Operand.tmp 47)], #[39, 39]⟩), 39, none⟩,
    ⟨some 9, (Op.assign (Operand.tmp 48)), 39, none⟩]) .skip))) (.ops [⟨some 33, (Op.move (Operand.tmp 11)), 3, none⟩,
    ⟨some 34, (Op.binOp BinOp.add 3 (Operand.tmp 33) (Operand.const (Value.int IntKind.i64 1)) 3), 3, none⟩,
    ⟨some 11, (Op.assign (Operand.tmp 34)), 3, none⟩])))
def c_gimmallaw7_PeersOther : SF := ⟨98, [(ResultVar.tmp 6)],
  (.seq (.ops [⟨some 6, (Op.assign (Operand.const (Value.bool false))), 4, none⟩]) (.seq (.seq (.ops [⟨some 14, (Op.call ⟨(Callee.value (Operand.func 35)), #[], #[]⟩), 4, none⟩,
    ⟨some 15, (Op.unOp UnOp.not 4 (Operand.tmp 14)), 4, none⟩]) (.cond (Operand.tmp 15) (.seq (.ops [⟨some 6, (Op.assign (Operand.const (Value.bool false))), 4, none⟩]) .ret) .skip)) (.seq (.ops [⟨some 17, (Op.move (Operand.tmp 0)), 3, none⟩,
    ⟨some 18, (Op.move (Operand.tmp 1)), 39, none⟩,
    ⟨some 19, (Op.move (Operand.tmp 2)), 3, none⟩,
    ⟨some 20, (Op.call ⟨(Callee.value (Operand.func 26)), #[(Operand.tmp 17), (Operand.tmp 18), (Operand.tmp 19)], #[3, 39, 3]⟩), 41, none⟩,
    ⟨some 16, (Op.move (Operand.tmp 20)), 41, none⟩,
    ⟨some 21, (Op.extract (Operand.tmp 16) 0), 39, none⟩,
    ⟨some 22, (Op.extract (Operand.tmp 16) 1), 24, none⟩,
    ⟨some 7, (Op.assign (Operand.tmp 21)), 39, none⟩,
    ⟨some 8, (Op.assign (Operand.tmp 22)), 24, none⟩]) (.seq (.seq (.ops [⟨some 23, (Op.move (Operand.tmp 8)), 24, none⟩,
    ⟨some 24, (Op.call ⟨(Callee.value (Operand.func 19)), #[(Operand.tmp 23)], #[24]⟩), 3, none⟩,
    ⟨some 25, (Op.binOp BinOp.neq 3 (Operand.tmp 24) (Operand.const (Value.int IntKind.i64 0)) 3), 4, none⟩]) (.cond (Operand.tmp 25) (.seq (.ops [⟨some 26, (Op.move (Operand.tmp 7)), 39, none⟩,
    ⟨some 27, (Op.call ⟨(Callee.builtin Builtin.len), #[(Operand.tmp 26)], #[39]⟩), 3, none⟩,
    ⟨some 28, (Op.binOp BinOp.eql 3 (Operand.tmp 27) (Operand.const (Value.int IntKind.i64 0)) 3), 4, none⟩,
    ⟨some 6, (Op.assign (Operand.tmp 28)), 4, none⟩]) .ret) .skip)) (.seq (.ops [⟨some 9, (Op.assign (Operand.const (Value.slice none 0 0))), 39, none⟩,
    ⟨some 10, (Op.assign (Operand.const (Value.slice none 0 0))), 39, none⟩]) (.seq (.seq (.ops [⟨some 11, (Op.assign (Operand.const (Value.int IntKind.i64 0))), 3, none⟩]) (.block 0 (.loop c_gimmallaw7_PeersOther_L0))) (.seq (.ops [⟨some 12, (Op.assign (Operand.const (Value.int IntKind.i64 (-1)))), 3, none⟩]) (.seq (.seq (.ops [⟨some 13, (Op.assign (Operand.const (Value.int IntKind.i64 0))), 3, none⟩]) (.block 2 (.loop c_gimmallaw7_PeersOther_L1))) (.seq (.ops [⟨some 70, (Op.move (Operand.tmp 9)), 39, none⟩,
    ⟨some 71, (Op.move (Operand.tmp 10)), 39, none⟩,
    ⟨some 72, (Op.call ⟨(Callee.value (Operand.func 30)), #[(Operand.tmp 70), (Operand.tmp 71)], #[39, 39]⟩), 4, none⟩,
    ⟨some 73, (Op.move (Operand.tmp 72)), 4, none⟩,
    ⟨some 74, (Op.move (Operand.tmp 12)), 3, some (73, true)⟩,
    ⟨some 75, (Op.binOp BinOp.geq 3 (Operand.tmp 74) (Operand.const (Value.int IntKind.i64 0)) 3), 4, some (73, true)⟩,
    ⟨some 76, (Op.pick (Operand.tmp 73) (Operand.tmp 75) (Operand.const (Value.bool false))), 4, none⟩,
    ⟨some 77, (Op.move (Operand.tmp 76)), 4, none⟩,
    ⟨some 78, (Op.move (Operand.tmp 7)), 39, some (77, true)⟩,
    ⟨some 79, (Op.move (Operand.tmp 12)), 3, some (77, true)⟩,
    ⟨some 80, (Op.indexAddr 39 (Operand.tmp 78) (Operand.tmp 79)), 0, some (77, true)⟩,
    ⟨some 81, (Op.fieldAddr 54 (Operand.tmp 80) 1), 0, some (77, true)⟩,
    ⟨some 82, (Op.load 3 (Operand.tmp 81)), 3, some (77, true)⟩,
    ⟨some 83, (Op.binOp BinOp.eql 3 (Operand.tmp 82) (Operand.const (Value.int IntKind.i64 0)) 3), 4, some (77, true)⟩,
    ⟨some 84, (Op.pick (Operand.tmp 77) (Operand.tmp 83) (Operand.const (Value.bool false))), 4, none⟩,
    ⟨some 85, (Op.move (Operand.tmp 84)), 4, none⟩,
    ⟨some 86, (Op.move (Operand.tmp 7)), 39, some (85, true)⟩,
    ⟨some 87, (Op.call ⟨(Callee.builtin Builtin.len), #[(Operand.tmp 86)], #[39]⟩), 3, some (85, true)⟩,
    ⟨some 88, (Op.move (Operand.tmp 9)), 39, some (85, true)⟩,
    ⟨some 89, (Op.call ⟨(Callee.builtin Builtin.len), #[(Operand.tmp 88)], #[39]⟩), 3, some (85, true)⟩,
    ⟨some 90, (Op.binOp BinOp.add 3 (Operand.tmp 89) (Operand.const (Value.int IntKind.i64 1)) 3), 3, some (85, true)⟩,
    ⟨some 91, (Op.binOp BinOp.eql 3 (Operand.tmp 87) (Operand.tmp 90) 3), 4, some (85, true)⟩,
    ⟨some 92, (Op.pick (Operand.tmp 85) (Operand.tmp 91) (Operand.const (Value.bool false))), 4, none⟩,
    ⟨some 93, (Op.move (Operand.tmp 92)), 4, none⟩,
    ⟨some 94, (Op.move (Operand.tmp 0)), 3, some (93, true)⟩,
    ⟨some 95, (Op.move (Operand.tmp 7)), 39, some (93, true)⟩,
    ⟨some 96, (Op.call ⟨(Callee.value (Operand.func 31)), #[(Operand.tmp 94), (Operand.tmp 95)], #[3, 39]⟩), 4, some (93, true)⟩,
    ⟨some 97, (Op.pick (Operand.tmp 93) (Operand.tmp 96) (Operand.const (Value.bool false))), 4, none⟩,
    ⟨some 6, (Op.assign (Operand.tmp 97)), 4, none⟩]) .ret)))))))))⟩
theorem is_gimmallaw7_PeersOther (c : Cfg) (h : c.lendT = []) : isF PP c 10 c_gimmallaw7_PeersOther := isF_of (fn := Proofs.Try.f10) (by kernel_rfl) (by kernel_rfl) rfl h (by kernel_rfl) rfl rfl (by kernel_rfl)
def c_gimmallaw7_PeersAge_L0 : SC := (.seq (.seq (.ops [⟨some 35, (Op.move (Operand.tmp 10)), 3, none⟩,
    ⟨some 36, (Op.move (Operand.tmp 1)), 39, none⟩,
    ⟨some 37, (Op.call ⟨(Callee.builtin Builtin.len), #[(Operand.tmp 36)], #[39]⟩), 3, none⟩,
    ⟨some 38, (Op.binOp BinOp.lss 3 (Operand.tmp 35) (Operand.tmp 37) 3), 4, none⟩]) (.cond (Operand.tmp 38) .skip (.exit 0))) (.seq (.block 1 (.block 2 (.seq (.ops [⟨some 42, (Op.move (Operand.tmp 8)), 3, none⟩,
    ⟨some 43, (Op.move (Operand.tmp 5)), 39, none⟩,
    ⟨some 44, (Op.call ⟨(Callee.builtin Builtin.len), #[(Operand.tmp 43)], #[39]⟩), 3, none⟩,
    ⟨some 45, (Op.binOp BinOp.lss 3 (Operand.tmp 42) (Operand.tmp 44) 3), 4, none⟩,
    ⟨some 46, (Op.move (Operand.tmp 45)), 4, none⟩,
    ⟨some 47, (Op.move (Operand.tmp 5)), 39, some (46, true)⟩,
    ⟨some 48, (Op.move (Operand.tmp 8)), 3, some (46, true)⟩,
    ⟨some 49, (Op.indexAddr 39 (Operand.tmp 47) (Operand.tmp 48)), 0, some (46, true)⟩,
    ⟨some 50, (Op.load 54 (Operand.tmp 49)), 54, some (46, true)⟩,
    ⟨some 51, (Op.move (Operand.tmp 1)), 39, some (46, true)⟩,
    ⟨some 52, (Op.move (Operand.tmp 10)), 3, some (46, true)⟩,
    ⟨some 53, (Op.indexAddr 39 (Operand.tmp 51) (Operand.tmp 52)), 0, some (46, true)⟩,
    ⟨some 54, (Op.fieldAddr 54 (Operand.tmp 53) 0), 0, some (46, true)⟩,
    ⟨some 55, (Op.load 3 (Operand.tmp 54)), 3, some (46, true)⟩,
    ⟨some 56, (Op.move (Operand.tmp 1)), 39, some (46, true)⟩,
    ⟨some 57, (Op.move (Operand.tmp 10)), 3, some (46, true)⟩,
    ⟨some 58, (Op.indexAddr 39 (Operand.tmp 56) (Operand.tmp 57)), 0, some (46, true)⟩,
    ⟨some 59, (Op.fieldAddr 54 (Operand.tmp 58) 1), 0, some (46, true)⟩,
    ⟨some 60, (Op.load 3 (Operand.tmp 59)), 3, some (46, true)⟩,
    ⟨some 61, (Op.binOp BinOp.add 3 (Operand.tmp 60) (Operand.const (Value.int IntKind.i64 1)) 3), 3, some (46, true)⟩,
    ⟨some 62, (Op.build 54 #[(0, (Operand.tmp 55)), (1, (Operand.tmp 61))]), 54, some (46, true)⟩,
    ⟨some 63, (Op.binOp BinOp.eql 54 (Operand.tmp 50) (Operand.tmp 62) 54), 4, some (46, true)⟩,
    ⟨some 64, (Op.pick (Operand.tmp 46) (Operand.tmp 63) (Operand.const (Value.bool false))), 4, none⟩,
    ⟨some 41, (Op.assign (Operand.tmp 64)), 4, none⟩]) (.cond (Operand.tmp 41) (.ops [⟨some 65, (Op.move (Operand.tmp 8)), 3, none⟩,
    ⟨some 66, (Op.binOp BinOp.add 3 (Operand.tmp 65) (Operand.const (Value.int IntKind.i64 1)) 3), 3, none⟩,
    ⟨some 8, (Op.assign (Operand.tmp 66)), 3, none⟩]) (.seq (.ops [⟨some 68, (Op.move (Operand.tmp 9)), 3, none⟩,
    ⟨some 69, (Op.move (Operand.tmp 6)), 22, none⟩,
    ⟨some 70, (Op.call ⟨(Callee.builtin Builtin.len), #[(Operand.tmp 69)], #[22]⟩), 3, none⟩,
    ⟨some 71, (Op.binOp BinOp.lss 3 (Operand.tmp 68) (Operand.tmp 70) 3), 4, none⟩,
    ⟨some 72, (Op.move (Operand.tmp 71)), 4, none⟩,
    ⟨some 73, (Op.move (Operand.tmp 6)), 22, some (72, true)⟩,
    ⟨some 74, (Op.move (Operand.tmp 9)), 3, some (72, true)⟩,
    ⟨some 75, (Op.indexAddr 22 (Operand.tmp 73) (Operand.tmp 74)), 0, some (72, true)⟩,
    ⟨some 76, (Op.load 3 (Operand.tmp 75)), 3, some (72, true)⟩,
    ⟨some 77, (Op.move (Operand.tmp 1)), 39, some (72, true)⟩,
    ⟨some 78, (Op.move (Operand.tmp 10)), 3, some (72, true)⟩,
    ⟨some 79, (Op.indexAddr 39 (Operand.tmp 77) (Operand.tmp 78)), 0, some (72, true)⟩,
    ⟨some 80, (Op.fieldAddr 54 (Operand.tmp 79) 0), 0, some (72, true)⟩,
    ⟨some 81, (Op.load 3 (Operand.tmp 80)), 3, some (72, true)⟩,
    ⟨some 82, (Op.binOp BinOp.eql 3 (Operand.tmp 76) (Operand.tmp 81) 3), 4, some (72, true)⟩,
    ⟨some 83, (Op.pick (Operand.tmp 72) (Operand.tmp 82) (Operand.const (Value.bool false))), 4, none⟩,
    ⟨some 84, (Op.move (Operand.tmp 83)), 4, none⟩,
    ⟨some 85, (Op.move (Operand.tmp 1)), 39, some (84, true)⟩,
    ⟨some 86, (Op.move (Operand.tmp 10)), 3, some (84, true)⟩,
    ⟨some 87, (Op.indexAddr 39 (Operand.tmp 85) (Operand.tmp 86)), 0, some (84, true)⟩,
    ⟨some 88, (Op.fieldAddr 54 (Operand.tmp 87) 1), 0, some (84, true)⟩,
    ⟨some 89, (Op.load 3 (Operand.tmp 88)), 3, some (84, true)⟩,
    ⟨some 90, (Op.binOp BinOp.eql 3 (Operand.tmp 89) (Operand.const (Value.int IntKind.i64 2)) 3), 4, some (84, true)⟩,
    ⟨some 91, (Op.pick (Operand.tmp 84) (Operand.tmp 90) (Operand.const (Value.bool false))), 4, none⟩,
    ⟨some 67, (Op.assign (Operand.tmp 91)), 4, none⟩]) (.cond (Operand.tmp 67) (.ops [⟨some 92, (Op.move (Operand.tmp 9)), 3, none⟩,
    ⟨some 93, (Op.binOp BinOp.add 3 (Operand.tmp 92) (Operand.const (Value.int IntKind.i64 1)) 3), 3, none⟩,
    ⟨some 9, (Op.assign (Operand.tmp 93)), 3, none⟩]) (.seq (.ops [⟨some 4, (Op.assign (Operand.const (Value.bool false))), 4, none⟩]) .ret))))))) (.ops [⟨some 39, (Op.move (Operand.tmp 10)), 3, none⟩,
    ⟨some 40, (Op.binOp BinOp.add 3 (Operand.tmp 39) (Operand.const (Value.int IntKind.i64 1)) 3), 3, none⟩,
    ⟨some 10, (Op.assign (Operand.tmp 40)), 3, none⟩])))
def c_gimmallaw7_PeersAge : SF := ⟨109, [(ResultVar.tmp 4)],
  (.seq (.ops [⟨some 4, (Op.assign (Operand.const (Value.bool false))), 4, none⟩]) (.seq (.seq (.ops [⟨some 11, (Op.call ⟨(Callee.value (Operand.func 35)), #[], #[]⟩), 4, none⟩,
    ⟨some 12, (Op.unOp UnOp.not 4 (Operand.tmp 11)), 4, none⟩]) (.cond (Operand.tmp 12) (.seq (.ops [⟨some 4, (Op.assign (Operand.const (Value.bool false))), 4, none⟩]) .ret) .skip)) (.seq (.ops [⟨some 14, (Op.move (Operand.tmp 0)), 3, none⟩,
    ⟨some 15, (Op.move (Operand.tmp 1)), 39, none⟩,
    ⟨some 16, (Op.call ⟨(Callee.value (Operand.func 28)), #[(Operand.tmp 14), (Operand.tmp 15)], #[3, 39]⟩), 45, none⟩,
    ⟨some 13, (Op.move (Operand.tmp 16)), 45, none⟩,
    ⟨some 17, (Op.extract (Operand.tmp 13) 0), 39, none⟩,
    ⟨some 18, (Op.extract (Operand.tmp 13) 1), 22, none⟩,
    ⟨some 19, (Op.extract (Operand.tmp 13) 2), 24, none⟩,
    ⟨some 5, (Op.assign (Operand.tmp 17)), 39, none⟩,
    ⟨some 6, (Op.assign (Operand.tmp 18)), 22, none⟩,
    ⟨some 7, (Op.assign (Operand.tmp 19)), 24, none⟩]) (.seq (.seq (.ops [⟨some 20, (Op.move (Operand.tmp 7)), 24, none⟩,
    ⟨some 21, (Op.call ⟨(Callee.value (Operand.func 19)), #[(Operand.tmp 20)], #[24]⟩), 3, none⟩,
    ⟨some 22, (Op.binOp BinOp.neq 3 (Operand.tmp 21) (Operand.const (Value.int IntKind.i64 0)) 3), 4, none⟩]) (.cond (Operand.tmp 22) (.seq (.ops [⟨some 23, (Op.move (Operand.tmp 5)), 39, none⟩,
    ⟨some 24, (Op.call ⟨(Callee.builtin Builtin.len), #[(Operand.tmp 23)], #[39]⟩), 3, none⟩,
    ⟨some 25, (Op.move (Operand.tmp 6)), 22, none⟩,
    ⟨some 26, (Op.call ⟨(Callee.builtin Builtin.len), #[(Operand.tmp 25)], #[22]⟩), 3, none⟩,
    ⟨some 27, (Op.binOp BinOp.add 3 (Operand.tmp 24) (Operand.tmp 26) 3), 3, none⟩,
    ⟨some 28, (Op.binOp BinOp.eql 3 (Operand.tmp 27) (Operand.const (Value.int IntKind.i64 0)) 3), 4, none⟩,
    ⟨some 29, (Op.move (Operand.tmp 28)), 4, none⟩,
    ⟨some 30, (Op.move (Operand.tmp 0)), 3, some (29, true)⟩,
    ⟨some 31, (Op.move (Operand.tmp 1)), 39, some (29, true)⟩,
    ⟨some 32, (Op.call ⟨(Callee.value (Operand.func 31)), #[(Operand.tmp 30), (Operand.tmp 31)], #[3, 39]⟩), 4, some (29, true)⟩,
    ⟨some 33, (Op.unOp UnOp.not 4 (Operand.tmp 32)), 4, some (29, true)⟩,
    ⟨some 34, (Op.pick (Operand.tmp 29) (Operand.tmp 33) (Operand.const (Value.bool false))), 4, none⟩,
    ⟨some 4, (Op.assign (Operand.tmp 34)), 4, none⟩]) .ret) .skip)) (.seq (.ops [⟨some 8, (Op.assign (Operand.const (Value.int IntKind.i64 0))), 3, none⟩,
    ⟨some 9, (Op.assign (Operand.const (Value.int IntKind.i64 0))), 3, none⟩]) (.seq (.seq (.ops [⟨some 10, (Op.assign (Operand.const (Value.int IntKind.i64 0))), 3, none⟩]) (.block 0 (.loop c_gimmallaw7_PeersAge_L0))) (.seq (.ops [⟨some 94, (Op.move (Operand.tmp 8)), 3, none⟩,
    ⟨some 95, (Op.move (Operand.tmp 5)), 39, none⟩,
    ⟨some 96, (Op.call ⟨(Callee.builtin Builtin.len), #[(Operand.tmp 95)], #[39]⟩), 3, none⟩,
    ⟨some 97, (Op.binOp BinOp.eql 3 (Operand.tmp 94) (Operand.tmp 96) 3), 4, none⟩,
    ⟨some 98, (Op.move (Operand.tmp 97)), 4, none⟩,
    ⟨some 99, (Op.move (Operand.tmp 9)), 3, some (98, true)⟩,
    ⟨some 100, (Op.move (Operand.tmp 6)), 22, some (98, true)⟩,
    ⟨some 101, (Op.call ⟨(Callee.builtin Builtin.len), #[(Operand.tmp 100)], #[22]⟩), 3, some (98, true)⟩,
    ⟨some 102, (Op.binOp BinOp.eql 3 (Operand.tmp 99) (Operand.tmp 101) 3), 4, some (98, true)⟩,
    ⟨some 103, (Op.pick (Operand.tmp 98) (Operand.tmp 102) (Operand.const (Value.bool false))), 4, none⟩,
    ⟨some 104, (Op.move (Operand.tmp 103)), 4, none⟩,
    ⟨some 105, (Op.move (Operand.tmp 0)), 3, some (104, true)⟩,
    ⟨some 106, (Op.move (Operand.tmp 5)), 39, some (104, true)⟩,
    ⟨some 107, (Op.call ⟨(Callee.value (Operand.func 31)), #[(Operand.tmp 105), (Operand.tmp 106)], #[3, 39]⟩), 4, some (104, true)⟩,
    ⟨some 108, (Op.pick (Operand.tmp 104) (Operand.tmp 107) (Operand.const (Value.bool false))), 4, none⟩,
    ⟨some 4, (Op.assign (Operand.tmp 108)), 4, none⟩]) .ret)))))))⟩
theorem is_gimmallaw7_PeersAge (c : Cfg) (h : c.lendT = []) : isF PP c 11 c_gimmallaw7_PeersAge := isF_of (fn := Proofs.Try.f11) (by kernel_rfl) (by kernel_rfl) rfl h (by kernel_rfl) rfl rfl (by kernel_rfl)
def c_gimmallaw7_PeersRow_L2 : SC := (.seq (.seq (.ops [⟨some 52, (Op.move (Operand.tmp 14)), 3, none⟩,
    ⟨some 53, (Op.move (Operand.tmp 1)), 22, none⟩,
    ⟨some 54, (Op.call ⟨(Callee.builtin Builtin.len), #[(Operand.tmp 53)], #[22]⟩), 3, none⟩,
    ⟨some 55, (Op.binOp BinOp.lss 3 (Operand.tmp 52) (Operand.tmp 54) 3), 4, none⟩,
    ⟨some 56, (Op.move (Operand.tmp 55)), 4, none⟩,
    ⟨some 57, (Op.move (Operand.tmp 14)), 3, some (56, true)⟩,
    ⟨some 58, (Op.binOp BinOp.lss 3 (Operand.tmp 57) (Operand.const (Value.int IntKind.i64 12)) 3), 4, some (56, true)⟩,
    ⟨some 59, (Op.pick (Operand.tmp 56) (Operand.tmp 58) (Operand.const (Value.bool false))), 4, none⟩]) (.cond (Operand.tmp 59) .skip (.exit 4))) (.seq (.block 5 (.ops [⟨some 62, (Op.move (Operand.tmp 13)), 4, none⟩,
    ⟨some 63, (Op.move (Operand.tmp 62)), 4, none⟩,
    ⟨some 64, (Op.move (Operand.tmp 1)), 22, some (63, false)⟩,
    ⟨some 65, (Op.move (Operand.tmp 14)), 3, some (63, false)⟩,
    ⟨some 66, (Op.indexAddr 22 (Operand.tmp 64) (Operand.tmp 65)), 0, some (63, false)⟩,
    ⟨some 67, (Op.load 3 (Operand.tmp 66)), 3, some (63, false)⟩,
    ⟨some 68, (Op.binOp BinOp.and 3 (Operand.tmp 67) (Operand.const (Value.int IntKind.i64 255)) 3), 3, some (63, false)⟩,
    ⟨some 69, (Op.move (Operand.tmp 5)), 3, some (63, false)⟩,
    ⟨some 70, (Op.move (Operand.tmp 12)), 3, some (63, false)⟩,
    ⟨some 71, (Op.binOp BinOp.add 3 (Operand.tmp 69) (Operand.tmp 70) 3), 3, some (63, false)⟩,
    ⟨some 72, (Op.binOp BinOp.rem 3 (Operand.tmp 71) (Operand.const (Value.int IntKind.i64 256)) 3), 3, some (63, false)⟩,
    ⟨some 73, (Op.binOp BinOp.eql 3 (Operand.tmp 68) (Operand.tmp 72) 3), 4, some (63, false)⟩,
    ⟨some 74, (Op.pick (Operand.tmp 63) (Operand.const (Value.bool true)) (Operand.tmp 73)), 4, none⟩,
    ⟨some 13, (Op.assign (Operand.tmp 74)), 4, none⟩])) (.ops [⟨some 60, (Op.move (Operand.tmp 14)), 3, none⟩,
    ⟨some 61, (Op.binOp BinOp.add 3 (Operand.tmp 60) (Operand.const (Value.int IntKind.i64 1)) 3), 3, none⟩,
    ⟨some 14, (Op.assign (Operand.tmp 61)), 3, none⟩])))
def c_gimmallaw7_PeersRow_L1 : SC := (.seq (.seq (.ops [⟨some 48, (Op.move (Operand.tmp 12)), 3, none⟩,
    ⟨some 49, (Op.binOp BinOp.lss 3 (Operand.tmp 48) (Operand.const (Value.int IntKind.i64 256)) 3), 4, none⟩]) (.cond (Operand.tmp 49) .skip (.exit 2))) (.seq (.block 3 (.seq (.ops [⟨some 13, (Op.assign (Operand.const (Value.bool false))), 4, none⟩]) (.seq (.seq (.ops [⟨some 14, (Op.assign (Operand.const (Value.int IntKind.i64 0))), 3, none⟩]) (.block 4 (.loop c_gimmallaw7_PeersRow_L2))) (.seq (.seq (.ops [⟨some 75, (Op.move (Operand.tmp 13)), 4, none⟩,
    ⟨some 76, (Op.unOp UnOp.not 4 (Operand.tmp 75)), 4, none⟩]) (.cond (Operand.tmp 76) (.exit 3) .skip)) (.seq (.seq (.ops [⟨some 77, (Op.move (Operand.tmp 11)), 3, none⟩,
    ⟨some 78, (Op.move (Operand.tmp 6)), 39, none⟩,
    ⟨some 79, (Op.call ⟨(Callee.builtin Builtin.len), #[(Operand.tmp 78)], #[39]⟩), 3, none⟩,
    ⟨some 80, (Op.binOp BinOp.geq 3 (Operand.tmp 77) (Operand.tmp 79) 3), 4, none⟩,
    ⟨some 81, (Op.move (Operand.tmp 80)), 4, none⟩,
    ⟨some 82, (Op.move (Operand.tmp 6)), 39, some (81, false)⟩,
    ⟨some 83, (Op.move (Operand.tmp 11)), 3, some (81, false)⟩,
    ⟨some 84, (Op.indexAddr 39 (Operand.tmp 82) (Operand.tmp 83)), 0, some (81, false)⟩,
    ⟨some 85, (Op.load 54 (Operand.tmp 84)), 54, some (81, false)⟩,
    ⟨some 86, (Op.move (Operand.tmp 5)), 3, some (81, false)⟩,
    ⟨some 87, (Op.move (Operand.tmp 12)), 3, some (81, false)⟩,
    ⟨some 88, (Op.binOp BinOp.add 3 (Operand.tmp 86) (Operand.tmp 87) 3), 3, some (81, false)⟩,
    ⟨some 89, (Op.binOp BinOp.rem 3 (Operand.tmp 88) (Operand.const (Value.int IntKind.i64 256)) 3), 3, some (81, false)⟩,
    ⟨some 90, (Op.build 54 #[(0, (Operand.tmp 89))]), 54, some (81, false)⟩,
    ⟨some 91, (Op.binOp BinOp.neq 54 (Operand.tmp 85) (Operand.tmp 90) 54), 4, some (81, false)⟩,
    ⟨some 92, (Op.pick (Operand.tmp 81) (Operand.const (Value.bool true)) (Operand.tmp 91)), 4, none⟩]) (.cond (Operand.tmp 92) (.seq (.ops [⟨some 4, (Op.assign (Operand.const (Value.bool false))), 4, none⟩]) .ret) .skip)) (.ops [⟨some 93, (Op.move (Operand.tmp 11)), 3, none⟩,
    ⟨some 94, (Op.binOp BinOp.add 3 (Operand.tmp 93) (Operand.const (Value.int IntKind.i64 1)) 3), 3, none⟩,
    ⟨some 11, (Op.assign (Operand.tmp 94)), 3, none⟩])))))) (.ops [⟨some 50, (Op.move (Operand.tmp 12)), 3, none⟩,
    ⟨some 51, (Op.binOp BinOp.add 3 (Operand.tmp 50) (Operand.const (Value.int IntKind.i64 1)) 3), 3, none⟩,
    ⟨some 12, (Op.assign (Operand.tmp 51)), 3, none⟩])))
def c_gimmallaw7_PeersRow_L0 : SC := (.seq (.seq (.ops [⟨some 19, (Op.move (Operand.tmp 7)), 3, none⟩,
    ⟨some 20, (Op.move (Operand.tmp 1)), 22, none⟩,
    ⟨some 21, (Op.call ⟨(Callee.builtin Builtin.len), #[(Operand.tmp 20)], #[22]⟩), 3, none⟩,
    ⟨some 22, (Op.binOp BinOp.lss 3 (Operand.tmp 19) (Operand.tmp 21) 3), 4, none⟩,
    ⟨some 23, (Op.move (Operand.tmp 22)), 4, none⟩,
    ⟨some 24, (Op.move (Operand.tmp 7)), 3, some (23, true)⟩,
    ⟨some 25, (Op.binOp BinOp.lss 3 (Operand.tmp 24) (Operand.const (Value.int IntKind.i64 12)) 3), 4, some (23, true)⟩,
    ⟨some 26, (Op.pick (Operand.tmp 23) (Operand.tmp 25) (Operand.const (Value.bool false))), 4, none⟩]) (.cond (Operand.tmp 26) .skip (.exit 0))) (.seq (.block 1 (.seq (.ops [⟨some 29, (Op.move (Operand.tmp 1)), 22, none⟩,
    ⟨some 30, (Op.move (Operand.tmp 7)), 3, none⟩,
    ⟨some 31, (Op.indexAddr 22 (Operand.tmp 29) (Operand.tmp 30)), 0, none⟩,
    ⟨some 32, (Op.load 3 (Operand.tmp 31)), 3, none⟩,
    ⟨some 33, (Op.binOp BinOp.and 3 (Operand.tmp 32) (Operand.const (Value.int IntKind.i64 255)) 3), 3, none⟩,
    ⟨some 8, (Op.assign (Operand.tmp 33)), 3, none⟩]) (.seq (.seq (.ops [⟨some 34, (Op.move (Operand.tmp 8)), 3, none⟩,
    ⟨some 35, (Op.move (Operand.tmp 5)), 3, none⟩,
    ⟨some 36, (Op.binOp BinOp.eql 3 (Operand.tmp 34) (Operand.tmp 35) 3), 4, none⟩]) (.cond (Operand.tmp 36) (.exit 1) .skip)) (.seq (.ops [⟨some 38, (Op.move (Operand.tmp 5)), 3, none⟩,
    ⟨some 39, (Op.move (Operand.tmp 6)), 39, none⟩,
    ⟨some 40, (Op.move (Operand.tmp 8)), 3, none⟩,
    ⟨some 41, (Op.call ⟨(Callee.value (Operand.func 26)), #[(Operand.tmp 38), (Operand.tmp 39), (Operand.tmp 40)], #[3, 39, 3]⟩), 41, none⟩,
    ⟨some 37, (Op.move (Operand.tmp 41)), 41, none⟩,
    ⟨some 42, (Op.extract (Operand.tmp 37) 0), 39, none⟩,
    ⟨some 43, (Op.extract (Operand.tmp 37) 1), 24, none⟩,
    ⟨some 9, (Op.assign (Operand.tmp 42)), 39, none⟩,
    ⟨some 10, (Op.assign (Operand.tmp 43)), 24, none⟩]) (.seq (.seq (.ops [⟨some 44, (Op.move (Operand.tmp 10)), 24, none⟩,
    ⟨some 45, (Op.call ⟨(Callee.value (Operand.func 19)), #[(Operand.tmp 44)], #[24]⟩), 3, none⟩,
    ⟨some 46, (Op.binOp BinOp.neq 3 (Operand.tmp 45) (Operand.const (Value.int IntKind.i64 0)) 3), 4, none⟩]) (.cond (Operand.tmp 46) (.seq (.ops [⟨some 4, (Op.assign (Operand.const (Value.bool false))), 4, none⟩]) .ret) .skip)) (.ops [⟨some 47, (Op.move (Operand.tmp 9)), 39, none⟩,
    ⟨some 6, (Op.assign (Operand.tmp 47)), 39, none⟩])))))) (.ops [⟨some 27, (Op.move (Operand.tmp 7)), 3, none⟩,
    ⟨some 28, (Op.binOp BinOp.add 3 (Operand.tmp 27) (Operand.const (Value.int IntKind.i64 1)) 3), 3, none⟩,
    ⟨some 7, (Op.assign (Operand.tmp 28)), 3, none⟩])))
def c_gimmallaw7_PeersRow : SF := ⟨99, [(ResultVar.tmp 4)],
  (.seq (.ops [⟨some 4, (Op.assign (Operand.const (Value.bool false))), 4, none⟩]) (.seq (.seq (.ops [⟨some 15, (Op.call ⟨(Callee.value (Operand.func 35)), #[], #[]⟩), 4, none⟩,
    ⟨some 16, (Op.unOp UnOp.not 4 (Operand.tmp 15)), 4, none⟩]) (.cond (Operand.tmp 16) (.seq (.ops [⟨some 4, (Op.assign (Operand.const (Value.bool false))), 4, none⟩]) .ret) .skip)) (.seq (.ops [⟨some 17, (Op.move (Operand.tmp 0)), 3, none⟩,
    ⟨some 18, (Op.binOp BinOp.and 3 (Operand.tmp 17) (Operand.const (Value.int IntKind.i64 255)) 3), 3, none⟩,
    ⟨some 5, (Op.assign (Operand.tmp 18)), 3, none⟩]) (.seq (.ops [⟨some 6, (Op.assign (Operand.const (Value.slice none 0 0))), 39, none⟩]) (.seq (.seq (.ops [⟨some 7, (Op.assign (Operand.const (Value.int IntKind.i64 0))), 3, none⟩]) (.block 0 (.loop c_gimmallaw7_PeersRow_L0))) (.seq (.ops [⟨some 11, (Op.assign (Operand.const (Value.int IntKind.i64 0))), 3, none⟩]) (.seq (.seq (.ops [⟨some 12, (Op.assign (Operand.const (Value.int IntKind.i64 1))), 3, none⟩]) (.block 2 (.loop c_gimmallaw7_PeersRow_L1))) (.seq (.ops [⟨some 95, (Op.move (Operand.tmp 11)), 3, none⟩,
    ⟨some 96, (Op.move (Operand.tmp 6)), 39, none⟩,
    ⟨some 97, (Op.call ⟨(Callee.builtin Builtin.len), #[(Operand.tmp 96)], #[39]⟩), 3, none⟩,
    ⟨some 98, (Op.binOp BinOp.eql 3 (Operand.tmp 95) (Operand.tmp 97) 3), 4, none⟩,
    ⟨some 4, (Op.assign (Operand.tmp 98)), 4, none⟩]) .ret))))))))⟩
theorem is_gimmallaw7_PeersRow (c : Cfg) (h : c.lendT = []) : isF PP c 12 c_gimmallaw7_PeersRow := isF_of (fn := Proofs.Try.f12) (by kernel_rfl) (by kernel_rfl) rfl h (by kernel_rfl) rfl rfl (by kernel_rfl)
def c_gimmallaw0_LendInts : SF := ⟨12, [(ResultVar.tmp 2)],
  (.seq (.ops [⟨some 2, (Op.assign (Operand.const (Value.slice none 0 0))), 22, none⟩]) (.seq (.ops [⟨some 4, (Op.move (Operand.tmp 0)), 22, none⟩,
    ⟨some 5, (Op.call ⟨(Callee.value (Operand.func 36)), #[(Operand.tmp 4)], #[22]⟩), 22, none⟩,
    ⟨some 6, (Op.buildSlice 22 2 #[(0, (Operand.const (Value.int IntKind.i64 (-7777)))), (1, (Operand.const (Value.int IntKind.i64 (-8888))))]), 22, none⟩,
    ⟨some 7, (Op.call ⟨(Callee.builtin Builtin.append), #[(Operand.tmp 5), (Operand.tmp 6)], #[22, 22]⟩), 22, none⟩,
    ⟨some 3, (Op.assign (Operand.tmp 7)), 22, none⟩]) (.seq (.ops [⟨some 8, (Op.move (Operand.tmp 3)), 22, none⟩,
    ⟨some 9, (Op.move (Operand.tmp 0)), 22, none⟩,
    ⟨some 10, (Op.call ⟨(Callee.builtin Builtin.len), #[(Operand.tmp 9)], #[22]⟩), 3, none⟩,
    ⟨some 11, (Op.slice 22 (Operand.tmp 8) none (some (Operand.tmp 10)) none), 22, none⟩,
    ⟨some 2, (Op.assign (Operand.tmp 11)), 22, none⟩]) .ret)))⟩
theorem is_gimmallaw0_LendInts (c : Cfg) (h : c.lendT = []) : isF PP c 13 c_gimmallaw0_LendInts := isF_of (fn := Proofs.Try.f13) (by kernel_rfl) (by kernel_rfl) rfl h (by kernel_rfl) rfl rfl (by kernel_rfl)
def c_passive_With : SF := ⟨36, [(ResultVar.tmp 4), (ResultVar.tmp 5)],
  (.seq (.ops [⟨some 4, (Op.assign (Operand.const (Value.slice none 0 0))), 22, none⟩,
    ⟨some 5, (Op.assign (Operand.const (Value.int IntKind.i64 0))), 24, none⟩]) (.seq (.seq (.ops [⟨some 8, (Op.move (Operand.tmp 0)), 22, none⟩,
    ⟨some 9, (Op.call ⟨(Callee.value (Operand.func 20)), #[(Operand.tmp 8)], #[22]⟩), 4, none⟩,
    ⟨some 10, (Op.unOp UnOp.not 4 (Operand.tmp 9)), 4, none⟩,
    ⟨some 11, (Op.move (Operand.tmp 10)), 4, none⟩,
    ⟨some 12, (Op.move (Operand.tmp 1)), 3, some (11, false)⟩,
    ⟨some 13, (Op.call ⟨(Callee.value (Operand.func 37)), #[(Operand.tmp 12)], #[3]⟩), 4, some (11, false)⟩,
    ⟨some 14, (Op.unOp UnOp.not 4 (Operand.tmp 13)), 4, some (11, false)⟩,
    ⟨some 15, (Op.pick (Operand.tmp 11) (Operand.const (Value.bool true)) (Operand.tmp 14)), 4, none⟩]) (.cond (Operand.tmp 15) (.seq (.ops [⟨some 4, (Op.assign (Operand.const (Value.slice none 0 0))), 22, none⟩,
    ⟨some 5, (Op.assign (Operand.const (Value.int IntKind.i64 800))), 24, none⟩]) .ret) .skip)) (.seq (.ops [⟨some 17, (Op.move (Operand.tmp 0)), 22, none⟩,
    ⟨some 18, (Op.move (Operand.tmp 1)), 3, none⟩,
    ⟨some 19, (Op.call ⟨(Callee.value (Operand.func 38)), #[(Operand.tmp 17), (Operand.tmp 18)], #[22, 3]⟩), 59, none⟩,
    ⟨some 16, (Op.move (Operand.tmp 19)), 59, none⟩,
    ⟨some 20, (Op.extract (Operand.tmp 16) 0), 3, none⟩,
    ⟨some 21, (Op.extract (Operand.tmp 16) 1), 4, none⟩,
    ⟨some 6, (Op.assign (Operand.tmp 20)), 3, none⟩,
    ⟨some 7, (Op.assign (Operand.tmp 21)), 4, none⟩]) (.seq (.block 0 (.seq (.ops [⟨some 23, (Op.move (Operand.tmp 7)), 4, none⟩,
    ⟨some 22, (Op.assign (Operand.tmp 23)), 4, none⟩]) (.cond (Operand.tmp 22) (.seq (.ops [⟨some 24, (Op.move (Operand.tmp 0)), 22, none⟩,
    ⟨some 25, (Op.call ⟨(Callee.value (Operand.func 39)), #[(Operand.tmp 24)], #[22]⟩), 22, none⟩,
    ⟨some 4, (Op.assign (Operand.tmp 25)), 22, none⟩,
    ⟨some 5, (Op.assign (Operand.const (Value.int IntKind.i64 0))), 24, none⟩]) .ret) (.seq (.ops [⟨some 27, (Op.move (Operand.tmp 0)), 22, none⟩,
    ⟨some 28, (Op.call ⟨(Callee.builtin Builtin.len), #[(Operand.tmp 27)], #[22]⟩), 3, none⟩,
    ⟨some 29, (Op.binOp BinOp.eql 3 (Operand.tmp 28) (Operand.const (Value.int IntKind.i64 16)) 3), 4, none⟩,
    ⟨some 26, (Op.assign (Operand.tmp 29)), 4, none⟩]) (.cond (Operand.tmp 26) (.seq (.ops [⟨some 4, (Op.assign (Operand.const (Value.slice none 0 0))), 22, none⟩,
    ⟨some 5, (Op.assign (Operand.const (Value.int IntKind.i64 801))), 24, none⟩]) .ret) .skip))))) (.seq (.ops [⟨some 30, (Op.move (Operand.tmp 0)), 22, none⟩,
    ⟨some 31, (Op.call ⟨(Callee.value (Operand.func 39)), #[(Operand.tmp 30)], #[22]⟩), 22, none⟩,
    ⟨some 32, (Op.move (Operand.tmp 6)), 3, none⟩,
    ⟨some 33, (Op.move (Operand.tmp 1)), 3, none⟩,
    ⟨some 34, (Op.buildSlice 22 1 #[(0, (Operand.tmp 33))]), 22, none⟩,
    ⟨some 35, (Op.call ⟨(Callee.value (Operand.func 40)), #[(Operand.tmp 31), (Operand.tmp 32), (Operand.tmp 34)], #[22, 3, 22]⟩), 22, none⟩,
    ⟨some 4, (Op.assign (Operand.tmp 35)), 22, none⟩,
    ⟨some 5, (Op.assign (Operand.const (Value.int IntKind.i64 0))), 24, none⟩]) .ret)))))⟩
theorem is_passive_With (c : Cfg) (h : c.lendT = [31]) : isF PP c 14 c_passive_With := isF_of (fn := Proofs.Try.f14) (by kernel_rfl) (by kernel_rfl) rfl h (by kernel_rfl) rfl rfl (by kernel_rfl)
def c_gimmalref1_WithPassive_L0 : SC := (.seq (.seq (.ops [⟨some 16, (Op.move (Operand.tmp 7)), 3, none⟩,
    ⟨some 17, (Op.binOp BinOp.lss 3 (Operand.tmp 16) (Operand.const (Value.int IntKind.i64 256)) 3), 4, none⟩]) (.cond (Operand.tmp 17) .skip (.exit 0))) (.seq (.block 1 (.seq (.ops [⟨some 20, (Op.move (Operand.tmp 7)), 3, none⟩,
    ⟨some 21, (Op.move (Operand.tmp 1)), 3, none⟩,
    ⟨some 22, (Op.binOp BinOp.eql 3 (Operand.tmp 20) (Operand.tmp 21) 3), 4, none⟩,
    ⟨some 23, (Op.move (Operand.tmp 22)), 4, none⟩,
    ⟨some 24, (Op.move (Operand.tmp 0)), 22, some (23, false)⟩,
    ⟨some 25, (Op.move (Operand.tmp 7)), 3, some (23, false)⟩,
    ⟨some 26, (Op.call ⟨(Callee.value (Operand.func 42)), #[(Operand.tmp 24), (Operand.tmp 25)], #[22, 3]⟩), 4, some (23, false)⟩,
    ⟨some 27, (Op.pick (Operand.tmp 23) (Operand.const (Value.bool true)) (Operand.tmp 26)), 4, none⟩]) (.cond (Operand.tmp 27) (.ops [⟨some 28, (Op.move (Operand.tmp 6)), 22, none⟩,
    ⟨some 29, (Op.move (Operand.tmp 7)), 3, none⟩,
    ⟨some 30, (Op.buildSlice 22 1 #[(0, (Operand.tmp 29))]), 22, none⟩,
    ⟨some 31, (Op.call ⟨(Callee.builtin Builtin.append), #[(Operand.tmp 28), (Operand.tmp 30)], #[22, 22]⟩), 22, none⟩,
    ⟨some 6, (Op.assign (Operand.tmp 31)), 22, none⟩]) .skip))) (.ops [⟨some 18, (Op.move (Operand.tmp 7)), 3, none⟩,
    ⟨some 19, (Op.binOp BinOp.add 3 (Operand.tmp 18) (Operand.const (Value.int IntKind.i64 1)) 3), 3, none⟩,
    ⟨some 7, (Op.assign (Operand.tmp 19)), 3, none⟩])))
def c_gimmalref1_WithPassive : SF := ⟨36, [(ResultVar.tmp 4), (ResultVar.tmp 5)],
  (.seq (.ops [⟨some 4, (Op.assign (Operand.const (Value.slice none 0 0))), 22, none⟩,
    ⟨some 5, (Op.assign (Operand.const (Value.int IntKind.i64 0))), 3, none⟩]) (.seq (.seq (.ops [⟨some 8, (Op.move (Operand.tmp 0)), 22, none⟩,
    ⟨some 9, (Op.call ⟨(Callee.value (Operand.func 21)), #[(Operand.tmp 8)], #[22]⟩), 4, none⟩,
    ⟨some 10, (Op.unOp UnOp.not 4 (Operand.tmp 9)), 4, none⟩,
    ⟨some 11, (Op.move (Operand.tmp 10)), 4, none⟩,
    ⟨some 12, (Op.move (Operand.tmp 1)), 3, some (11, false)⟩,
    ⟨some 13, (Op.call ⟨(Callee.value (Operand.func 41)), #[(Operand.tmp 12)], #[3]⟩), 4, some (11, false)⟩,
    ⟨some 14, (Op.unOp UnOp.not 4 (Operand.tmp 13)), 4, some (11, false)⟩,
    ⟨some 15, (Op.pick (Operand.tmp 11) (Operand.const (Value.bool true)) (Operand.tmp 14)), 4, none⟩]) (.cond (Operand.tmp 15) (.seq (.ops [⟨some 4, (Op.assign (Operand.const (Value.slice none 0 0))), 22, none⟩,
    ⟨some 5, (Op.assign (Operand.const (Value.int IntKind.i64 800))), 3, none⟩]) .ret) .skip)) (.seq (.ops [⟨some 6, (Op.assign (Operand.const (Value.slice none 0 0))), 22, none⟩]) (.seq (.seq (.ops [⟨some 7, (Op.assign (Operand.const (Value.int IntKind.i64 0))), 3, none⟩]) (.block 0 (.loop c_gimmalref1_WithPassive_L0))) (.seq (.seq (.ops [⟨some 32, (Op.move (Operand.tmp 6)), 22, none⟩,
    ⟨some 33, (Op.call ⟨(Callee.builtin Builtin.len), #[(Operand.tmp 32)], #[22]⟩), 3, none⟩,
    ⟨some 34, (Op.binOp BinOp.gtr 3 (Operand.tmp 33) (Operand.const (Value.int IntKind.i64 16)) 3), 4, none⟩]) (.cond (Operand.tmp 34) (.seq (.ops [⟨some 4, (Op.assign (Operand.const (Value.slice none 0 0))), 22, none⟩,
    ⟨some 5, (Op.assign (Operand.const (Value.int IntKind.i64 801))), 3, none⟩]) .ret) .skip)) (.seq (.ops [⟨some 35, (Op.move (Operand.tmp 6)), 22, none⟩,
    ⟨some 4, (Op.assign (Operand.tmp 35)), 22, none⟩,
    ⟨some 5, (Op.assign (Operand.const (Value.int IntKind.i64 0))), 3, none⟩]) .ret))))))⟩
theorem is_gimmalref1_WithPassive (c : Cfg) (h : c.lendT = []) : isF PP c 15 c_gimmalref1_WithPassive := isF_of (fn := Proofs.Try.f15) (by kernel_rfl) (by kernel_rfl) rfl h (by kernel_rfl) rfl rfl (by kernel_rfl)
def c_passive_Without : SF := ⟨20, [(ResultVar.tmp 4), (ResultVar.tmp 5)],
  (.seq (.ops [⟨some 3, (Op.box 3 (Operand.tmp 1)), 0, none⟩,
    ⟨some 4, (Op.assign (Operand.const (Value.slice none 0 0))), 22, none⟩,
    ⟨some 5, (Op.assign (Operand.const (Value.int IntKind.i64 0))), 24, none⟩]) (.seq (.seq (.ops [⟨some 7, (Op.move (Operand.tmp 0)), 22, none⟩,
    ⟨some 8, (Op.call ⟨(Callee.value (Operand.func 20)), #[(Operand.tmp 7)], #[22]⟩), 4, none⟩,
    ⟨some 9, (Op.unOp UnOp.not 4 (Operand.tmp 8)), 4, none⟩,
    ⟨some 10, (Op.move (Operand.tmp 9)), 4, none⟩,
    ⟨some 11, (Op.load 3 (Operand.tmp 3)), 3, some (10, false)⟩,
    ⟨some 12, (Op.call ⟨(Callee.value (Operand.func 37)), #[(Operand.tmp 11)], #[3]⟩), 4, some (10, false)⟩,
    ⟨some 13, (Op.unOp UnOp.not 4 (Operand.tmp 12)), 4, some (10, false)⟩,
    ⟨some 14, (Op.pick (Operand.tmp 10) (Operand.const (Value.bool true)) (Operand.tmp 13)), 4, none⟩]) (.cond (Operand.tmp 14) (.seq (.ops [⟨some 4, (Op.assign (Operand.const (Value.slice none 0 0))), 22, none⟩,
    ⟨some 5, (Op.assign (Operand.const (Value.int IntKind.i64 800))), 24, none⟩]) .ret) .skip)) (.seq (.ops [⟨some 15, (Op.makeFunc (Fn.func 43) #[] #[(Operand.tmp 3)]), 58, none⟩,
    ⟨some 6, (Op.assign (Operand.tmp 15)), 58, none⟩]) (.seq (.ops [⟨some 16, (Op.move (Operand.tmp 0)), 22, none⟩,
    ⟨some 17, (Op.call ⟨(Callee.value (Operand.func 39)), #[(Operand.tmp 16)], #[22]⟩), 22, none⟩,
    ⟨some 18, (Op.move (Operand.tmp 6)), 58, none⟩,
    ⟨some 19, (Op.call ⟨(Callee.value (Operand.func 44)), #[(Operand.tmp 17), (Operand.tmp 18)], #[22, 58]⟩), 22, none⟩,
    ⟨some 4, (Op.assign (Operand.tmp 19)), 22, none⟩,
    ⟨some 5, (Op.assign (Operand.const (Value.int IntKind.i64 0))), 24, none⟩]) .ret))))⟩
theorem is_passive_Without (c : Cfg) (h : c.lendT = [17]) : isF PP c 16 c_passive_Without := isF_of (fn := Proofs.Try.f16) (by kernel_rfl) (by kernel_rfl) rfl h (by kernel_rfl) rfl rfl (by kernel_rfl)
def c_gimmalref1_WithoutPassive_L0 : SC := (.seq (.seq (.ops [⟨some 16, (Op.move (Operand.tmp 7)), 3, none⟩,
    ⟨some 17, (Op.move (Operand.tmp 0)), 22, none⟩,
    ⟨some 18, (Op.call ⟨(Callee.builtin Builtin.len), #[(Operand.tmp 17)], #[22]⟩), 3, none⟩,
    ⟨some 19, (Op.binOp BinOp.lss 3 (Operand.tmp 16) (Operand.tmp 18) 3), 4, none⟩]) (.cond (Operand.tmp 19) .skip (.exit 0))) (.seq (.block 1 (.seq (.ops [⟨some 22, (Op.move (Operand.tmp 0)), 22, none⟩,
    ⟨some 23, (Op.move (Operand.tmp 7)), 3, none⟩,
    ⟨some 24, (Op.indexAddr 22 (Operand.tmp 22) (Operand.tmp 23)), 0, none⟩,
    ⟨some 25, (Op.load 3 (Operand.tmp 24)), 3, none⟩,
    ⟨some 26, (Op.move (Operand.tmp 1)), 3, none⟩,
    ⟨some 27, (Op.binOp BinOp.neq 3 (Operand.tmp 25) (Operand.tmp 26) 3), 4, none⟩]) (.cond (Operand.tmp 27) (.ops [⟨some 28, (Op.move (Operand.tmp 6)), 22, none⟩,
    ⟨some 29, (Op.move (Operand.tmp 0)), 22, none⟩,
    ⟨some 30, (Op.move (Operand.tmp 7)), 3, none⟩,
    ⟨some 31, (Op.indexAddr 22 (Operand.tmp 29) (Operand.tmp 30)), 0, none⟩,
    ⟨some 32, (Op.load 3 (Operand.tmp 31)), 3, none⟩,
    ⟨some 33, (Op.buildSlice 22 1 #[(0, (Operand.tmp 32))]), 22, none⟩,
    ⟨some 34, (Op.call ⟨(Callee.builtin Builtin.append), #[(Operand.tmp 28), (Operand.tmp 33)], #[22, 22]⟩), 22, none⟩,
    ⟨some 6, (Op.assign (Operand.tmp 34)), 22, none⟩]) .skip))) (.ops [⟨some 20, (Op.move (Operand.tmp 7)), 3, none⟩,
    ⟨some 21, (Op.binOp BinOp.add 3 (Operand.tmp 20) (Operand.const (Value.int IntKind.i64 1)) 3), 3, none⟩,
    ⟨some 7, (Op.assign (Operand.tmp 21)), 3, none⟩])))
def c_gimmalref1_WithoutPassive : SF := ⟨36, [(ResultVar.tmp 4), (ResultVar.tmp 5)],
  (.seq (.ops [⟨some 4, (Op.assign (Operand.const (Value.slice none 0 0))), 22, none⟩,
    ⟨some 5, (Op.assign (Operand.const (Value.int IntKind.i64 0))), 3, none⟩]) (.seq (.seq (.ops [⟨some 8, (Op.move (Operand.tmp 0)), 22, none⟩,
    ⟨some 9, (Op.call ⟨(Callee.value (Operand.func 21)), #[(Operand.tmp 8)], #[22]⟩), 4, none⟩,
    ⟨some 10, (Op.unOp UnOp.not 4 (Operand.tmp 9)), 4, none⟩,
    ⟨some 11, (Op.move (Operand.tmp 10)), 4, none⟩,
    ⟨some 12, (Op.move (Operand.tmp 1)), 3, some (11, false)⟩,
    ⟨some 13, (Op.call ⟨(Callee.value (Operand.func 41)), #[(Operand.tmp 12)], #[3]⟩), 4, some (11, false)⟩,
    ⟨some 14, (Op.unOp UnOp.not 4 (Operand.tmp 13)), 4, some (11, false)⟩,
    ⟨some 15, (Op.pick (Operand.tmp 11) (Operand.const (Value.bool true)) (Operand.tmp 14)), 4, none⟩]) (.cond (Operand.tmp 15) (.seq (.ops [⟨some 4, (Op.assign (Operand.const (Value.slice none 0 0))), 22, none⟩,
    ⟨some 5, (Op.assign (Operand.const (Value.int IntKind.i64 800))), 3, none⟩]) .ret) .skip)) (.seq (.ops [⟨some 6, (Op.assign (Operand.const (Value.slice none 0 0))), 22, none⟩]) (.seq (.seq (.ops [⟨some 7, (Op.assign (Operand.const (Value.int IntKind.i64 0))), 3, none⟩]) (.block 0 (.loop c_gimmalref1_WithoutPassive_L0))) (.seq (.ops [⟨some 35, (Op.move (Operand.tmp 6)), 22, none⟩,
    ⟨some 4, (Op.assign (Operand.tmp 35)), 22, none⟩,
    ⟨some 5, (Op.assign (Operand.const (Value.int IntKind.i64 0))), 3, none⟩]) .ret)))))⟩
theorem is_gimmalref1_WithoutPassive (c : Cfg) (h : c.lendT = []) : isF PP c 17 c_gimmalref1_WithoutPassive := isF_of (fn := Proofs.Try.f17) (by kernel_rfl) (by kernel_rfl) rfl h (by kernel_rfl) rfl rfl (by kernel_rfl)
def c_gimmallaw0_SameInts_L0 : SC := (.seq (.seq (.ops [⟨some 11, (Op.move (Operand.tmp 5)), 3, none⟩,
    ⟨some 12, (Op.move (Operand.tmp 0)), 22, none⟩,
    ⟨some 13, (Op.call ⟨(Callee.builtin Builtin.len), #[(Operand.tmp 12)], #[22]⟩), 3, none⟩,
    ⟨some 14, (Op.binOp BinOp.lss 3 (Operand.tmp 11) (Operand.tmp 13) 3), 4, none⟩]) (.cond (Operand.tmp 14) .skip (.exit 0))) (.seq (.block 1 (.seq (.ops [⟨some 17, (Op.move (Operand.tmp 0)), 22, none⟩,
    ⟨some 18, (Op.move (Operand.tmp 5)), 3, none⟩,
    ⟨some 21, (Op.move (Operand.tmp 1)), 22, none⟩,
    ⟨some 22, (Op.move (Operand.tmp 5)), 3, none⟩,
    ⟨some 19, (Op.indexAddr 22 (Operand.tmp 17) (Operand.tmp 18)), 0, none⟩,
    ⟨some 20, (Op.load 3 (Operand.tmp 19)), 3, none⟩,
    ⟨some 23, (Op.indexAddr 22 (Operand.tmp 21) (Operand.tmp 22)), 0, none⟩,
    ⟨some 24, (Op.load 3 (Operand.tmp 23)), 3, none⟩,
    ⟨some 25, (Op.binOp BinOp.neq 3 (Operand.tmp 20) (Operand.tmp 24) 3), 4, none⟩]) (.cond (Operand.tmp 25) (.seq (.ops [⟨some 4, (Op.assign (Operand.const (Value.bool false))), 4, none⟩]) .ret) .skip))) (.ops [⟨some 15, (Op.move (Operand.tmp 5)), 3, none⟩,
    ⟨some 16, (Op.binOp BinOp.add 3 (Operand.tmp 15) (Operand.const (Value.int IntKind.i64 1)) 3), 3, none⟩,
    ⟨some 5, (Op.assign (Operand.tmp 16)), 3, none⟩])))
def c_gimmallaw0_SameInts : SF := ⟨26, [(ResultVar.tmp 4)],
  (.seq (.ops [⟨some 4, (Op.assign (Operand.const (Value.bool false))), 4, none⟩]) (.seq (.seq (.ops [⟨some 6, (Op.move (Operand.tmp 0)), 22, none⟩,
    ⟨some 7, (Op.call ⟨(Callee.builtin Builtin.len), #[(Operand.tmp 6)], #[22]⟩), 3, none⟩,
    ⟨some 8, (Op.move (Operand.tmp 1)), 22, none⟩,
    ⟨some 9, (Op.call ⟨(Callee.builtin Builtin.len), #[(Operand.tmp 8)], #[22]⟩), 3, none⟩,
    ⟨some 10, (Op.binOp BinOp.neq 3 (Operand.tmp 7) (Operand.tmp 9) 3), 4, none⟩]) (.cond (Operand.tmp 10) (.seq (.ops [⟨some 4, (Op.assign (Operand.const (Value.bool false))), 4, none⟩]) .ret) .skip)) (.seq (.seq (.ops [⟨some 5, (Op.assign (Operand.const (Value.int IntKind.i64 0))), 3, none⟩]) (.block 0 (.loop c_gimmallaw0_SameInts_L0))) (.seq (.ops [⟨some 4, (Op.assign (Operand.const (Value.bool true))), 4, none⟩]) .ret))))⟩
theorem is_gimmallaw0_SameInts (c : Cfg) (h : c.lendT = []) : isF PP c 18 c_gimmallaw0_SameInts := isF_of (fn := Proofs.Try.f18) (by kernel_rfl) (by kernel_rfl) rfl h (by kernel_rfl) rfl rfl (by kernel_rfl)
def c_gimmallaw0_Num : SF := ⟨4, [(ResultVar.tmp 2)],
  (.seq (.ops [⟨some 2, (Op.assign (Operand.const (Value.int IntKind.i64 0))), 3, none⟩]) (.seq (.ops [⟨some 3, (Op.move (Operand.tmp 0)), 24, none⟩,
    ⟨some 2, (Op.assign (Operand.tmp 3)), 3, none⟩]) .ret))⟩
theorem is_gimmallaw0_Num (c : Cfg) (h : c.lendT = []) : isF PP c 19 c_gimmallaw0_Num := isF_of (fn := Proofs.Try.f19) (by kernel_rfl) (by kernel_rfl) rfl h (by kernel_rfl) rfl rfl (by kernel_rfl)
def c_passive_May_L0 : SC := (.seq (.ops [⟨some 8, (Op.binOp BinOp.lss 3 (Operand.tmp 7) (Operand.tmp 6) 3), 0, none⟩]) (.seq (.cond (Operand.tmp 8) .skip (.exit 0)) (.seq (.block 1 (.seq (.ops [⟨some 9, (Op.move (Operand.tmp 7)), 3, none⟩,
    ⟨some 10, (Op.indexAddr 22 (Operand.tmp 5) (Operand.tmp 7)), 0, none⟩,
    ⟨some 11, (Op.load 3 (Operand.tmp 10)), 3, none⟩,
    ⟨some 3, (Op.assign (Operand.tmp 9)), 3, none⟩,
    ⟨some 4, (Op.assign (Operand.tmp 11)), 3, none⟩]) (.seq (.ops [⟨some 12, (Op.move (Operand.tmp 4)), 3, none⟩,
    ⟨some 13, (Op.call ⟨(Callee.value (Operand.func 37)), #[(Operand.tmp 12)], #[3]⟩), 4, none⟩,
    ⟨some 14, (Op.unOp UnOp.not 4 (Operand.tmp 13)), 4, none⟩,
    ⟨some 15, (Op.move (Operand.tmp 14)), 4, none⟩,
    ⟨some 16, (Op.move (Operand.tmp 3)), 3, some (15, false)⟩,
    ⟨some 17, (Op.binOp BinOp.gtr 3 (Operand.tmp 16) (Operand.const (Value.int IntKind.i64 0)) 3), 4, some (15, false)⟩,
    ⟨some 18, (Op.move (Operand.tmp 17)), 4, some (15, false)⟩,
    ⟨some 19, (Op.move (Operand.tmp 0)), 22, some (18, true)⟩,
    ⟨some 20, (Op.move (Operand.tmp 3)), 3, some (18, true)⟩,
    ⟨some 21, (Op.binOp BinOp.sub 3 (Operand.tmp 20) (Operand.const (Value.int IntKind.i64 1)) 3), 3, some (18, true)⟩,
    ⟨some 22, (Op.indexAddr 22 (Operand.tmp 19) (Operand.tmp 21)), 0, some (18, true)⟩,
    ⟨some 23, (Op.load 3 (Operand.tmp 22)), 3, some (18, true)⟩,
    ⟨some 24, (Op.move (Operand.tmp 4)), 3, some (18, true)⟩,
    ⟨some 25, (Op.binOp BinOp.geq 3 (Operand.tmp 23) (Operand.tmp 24) 3), 4, some (18, true)⟩,
    ⟨some 26, (Op.pick (Operand.tmp 18) (Operand.tmp 25) (Operand.const (Value.bool false))), 4, some (15, false)⟩,
    ⟨some 27, (Op.pick (Operand.tmp 15) (Operand.const (Value.bool true)) (Operand.tmp 26)), 4, none⟩]) (.cond (Operand.tmp 27) (.seq (.ops [⟨some 2, (Op.assign (Operand.const (Value.bool false))), 4, none⟩]) .ret) .skip)))) (.ops [⟨some 28, (Op.binOp BinOp.add 3 (Operand.tmp 7) (Operand.const (Value.int IntKind.i64 1)) 3), 3, none⟩,
    ⟨some 7, (Op.move (Operand.tmp 28)), 3, none⟩]))))
def c_passive_May : SF := ⟨32, [(ResultVar.tmp 2)],
  (.seq (.ops [⟨some 2, (Op.assign (Operand.const (Value.bool false))), 4, none⟩]) (.seq (.seq (.ops [⟨some 5, (Op.move (Operand.tmp 0)), 22, none⟩,
    ⟨some 6, (Op.call ⟨(Callee.builtin Builtin.len), #[(Operand.tmp 5)], #[22]⟩), 3, none⟩,
    ⟨some 7, (Op.move (Operand.const (Value.int IntKind.i64 0))), 3, none⟩]) (.block 0 (.loop c_passive_May_L0))) (.seq (.ops [⟨some 29, (Op.move (Operand.tmp 0)), 22, none⟩,
    ⟨some 30, (Op.call ⟨(Callee.builtin Builtin.len), #[(Operand.tmp 29)], #[22]⟩), 3, none⟩,
    ⟨some 31, (Op.binOp BinOp.leq 3 (Operand.tmp 30) (Operand.const (Value.int IntKind.i64 16)) 3), 4, none⟩,
    ⟨some 2, (Op.assign (Operand.tmp 31)), 4, none⟩]) .ret)))⟩
theorem is_passive_May (c : Cfg) (h : c.lendT = []) : isF PP c 20 c_passive_May := isF_of (fn := Proofs.Try.f20) (by kernel_rfl) (by kernel_rfl) rfl h (by kernel_rfl) rfl rfl (by kernel_rfl)
def c_gimmalref1_PassiveMay_L0 : SC := (.seq (.seq (.ops [⟨some 4, (Op.move (Operand.tmp 3)), 3, none⟩,
    ⟨some 5, (Op.move (Operand.tmp 0)), 22, none⟩,
    ⟨some 6, (Op.call ⟨(Callee.builtin Builtin.len), #[(Operand.tmp 5)], #[22]⟩), 3, none⟩,
    ⟨some 7, (Op.binOp BinOp.lss 3 (Operand.tmp 4) (Operand.tmp 6) 3), 4, none⟩]) (.cond (Operand.tmp 7) .skip (.exit 0))) (.seq (.block 1 (.seq (.ops [⟨some 10, (Op.move (Operand.tmp 0)), 22, none⟩,
    ⟨some 11, (Op.move (Operand.tmp 3)), 3, none⟩,
    ⟨some 15, (Op.move (Operand.tmp 0)), 22, none⟩,
    ⟨some 16, (Op.move (Operand.tmp 3)), 3, none⟩,
    ⟨some 12, (Op.binOp BinOp.sub 3 (Operand.tmp 11) (Operand.const (Value.int IntKind.i64 1)) 3), 3, none⟩,
    ⟨some 13, (Op.indexAddr 22 (Operand.tmp 10) (Operand.tmp 12)), 0, none⟩,
    ⟨some 14, (Op.load 3 (Operand.tmp 13)), 3, none⟩,
    ⟨some 17, (Op.indexAddr 22 (Operand.tmp 15) (Operand.tmp 16)), 0, none⟩,
    ⟨some 18, (Op.load 3 (Operand.tmp 17)), 3, none⟩,
    ⟨some 19, (Op.binOp BinOp.geq 3 (Operand.tmp 14) (Operand.tmp 18) 3), 4, none⟩]) (.cond (Operand.tmp 19) (.seq (.ops [⟨some 2, (Op.assign (Operand.const (Value.bool false))), 4, none⟩]) .ret) .skip))) (.ops [⟨some 8, (Op.move (Operand.tmp 3)), 3, none⟩,
    ⟨some 9, (Op.binOp BinOp.add 3 (Operand.tmp 8) (Operand.const (Value.int IntKind.i64 1)) 3), 3, none⟩,
    ⟨some 3, (Op.assign (Operand.tmp 9)), 3, none⟩])))
def c_gimmalref1_PassiveMay : SF := ⟨27, [(ResultVar.tmp 2)],
  (.seq (.ops [⟨some 2, (Op.assign (Operand.const (Value.bool false))), 4, none⟩]) (.seq (.seq (.ops [⟨some 3, (Op.assign (Operand.const (Value.int IntKind.i64 1))), 3, none⟩]) (.block 0 (.loop c_gimmalref1_PassiveMay_L0))) (.seq (.ops [⟨some 20, (Op.move (Operand.tmp 0)), 22, none⟩,
    ⟨some 21, (Op.call ⟨(Callee.value (Operand.func 45)), #[(Operand.tmp 20)], #[22]⟩), 4, none⟩,
    ⟨some 22, (Op.move (Operand.tmp 21)), 4, none⟩,
    ⟨some 23, (Op.move (Operand.tmp 0)), 22, some (22, true)⟩,
    ⟨some 24, (Op.call ⟨(Callee.builtin Builtin.len), #[(Operand.tmp 23)], #[22]⟩), 3, some (22, true)⟩,
    ⟨some 25, (Op.binOp BinOp.leq 3 (Operand.tmp 24) (Operand.const (Value.int IntKind.i64 16)) 3), 4, some (22, true)⟩,
    ⟨some 26, (Op.pick (Operand.tmp 22) (Operand.tmp 25) (Operand.const (Value.bool false))), 4, none⟩,
    ⟨some 2, (Op.assign (Operand.tmp 26)), 4, none⟩]) .ret)))⟩
theorem is_gimmalref1_PassiveMay (c : Cfg) (h : c.lendT = []) : isF PP c 21 c_gimmalref1_PassiveMay := isF_of (fn := Proofs.Try.f21) (by kernel_rfl) (by kernel_rfl) rfl h (by kernel_rfl) rfl rfl (by kernel_rfl)
def c_gimmallaw0_SpoilInts_L0 : SC := (.seq (.seq (.ops [⟨some 3, (Op.move (Operand.tmp 2)), 3, none⟩,
    ⟨some 4, (Op.move (Operand.tmp 0)), 22, none⟩,
    ⟨some 5, (Op.call ⟨(Callee.builtin Builtin.len), #[(Operand.tmp 4)], #[22]⟩), 3, none⟩,
    ⟨some 6, (Op.binOp BinOp.lss 3 (Operand.tmp 3) (Operand.tmp 5) 3), 4, none⟩]) (.cond (Operand.tmp 6) .skip (.exit 0))) (.seq (.block 1 (.ops [⟨some 9, (Op.move (Operand.tmp 0)), 22, none⟩,
    ⟨some 10, (Op.move (Operand.tmp 2)), 3, none⟩,
    ⟨some 11, (Op.move (Operand.tmp 0)), 22, none⟩,
    ⟨some 12, (Op.move (Operand.tmp 2)), 3, none⟩,
    ⟨some 13, (Op.indexAddr 22 (Operand.tmp 11) (Operand.tmp 12)), 0, none⟩,
    ⟨some 14, (Op.load 3 (Operand.tmp 13)), 3, none⟩,
    ⟨some 15, (Op.binOp BinOp.sub 3 (Operand.const (Value.int IntKind.i64 (-9))) (Operand.tmp 14) 3), 3, none⟩,
    ⟨some 16, (Op.indexAddr 22 (Operand.tmp 9) (Operand.tmp 10)), 0, none⟩,
    ⟨none, (Op.store 3 (Operand.tmp 16) (Operand.tmp 15)), 0, none⟩])) (.ops [⟨some 7, (Op.move (Operand.tmp 2)), 3, none⟩,
    ⟨some 8, (Op.binOp BinOp.add 3 (Operand.tmp 7) (Operand.const (Value.int IntKind.i64 1)) 3), 3, none⟩,
    ⟨some 2, (Op.assign (Operand.tmp 8)), 3, none⟩])))
def c_gimmallaw0_SpoilInts : SF := ⟨17, [],
  (.seq (.ops [⟨some 2, (Op.assign (Operand.const (Value.int IntKind.i64 0))), 3, none⟩]) (.block 0 (.loop c_gimmallaw0_SpoilInts_L0)))⟩
theorem is_gimmallaw0_SpoilInts (c : Cfg) (h : c.lendT = []) : isF PP c 22 c_gimmallaw0_SpoilInts := isF_of (fn := Proofs.Try.f22) (by kernel_rfl) (by kernel_rfl) rfl h (by kernel_rfl) rfl rfl (by kernel_rfl)
def c_gimmallaw0_KeptInts : SF := ⟨31, [(ResultVar.tmp 4)],
  (.seq (.ops [⟨some 4, (Op.assign (Operand.const (Value.bool false))), 4, none⟩]) (.seq (.ops [⟨some 6, (Op.move (Operand.tmp 0)), 22, none⟩,
    ⟨some 7, (Op.move (Operand.tmp 0)), 22, none⟩,
    ⟨some 8, (Op.call ⟨(Callee.builtin Builtin.len), #[(Operand.tmp 7)], #[22]⟩), 3, none⟩,
    ⟨some 9, (Op.binOp BinOp.add 3 (Operand.tmp 8) (Operand.const (Value.int IntKind.i64 2)) 3), 3, none⟩,
    ⟨some 10, (Op.slice 22 (Operand.tmp 6) none (some (Operand.tmp 9)) none), 22, none⟩,
    ⟨some 5, (Op.assign (Operand.tmp 10)), 22, none⟩]) (.seq (.ops [⟨some 11, (Op.move (Operand.tmp 0)), 22, none⟩,
    ⟨some 12, (Op.move (Operand.tmp 1)), 22, none⟩,
    ⟨some 13, (Op.call ⟨(Callee.value (Operand.func 18)), #[(Operand.tmp 11), (Operand.tmp 12)], #[22, 22]⟩), 4, none⟩,
    ⟨some 14, (Op.move (Operand.tmp 13)), 4, none⟩,
    ⟨some 15, (Op.move (Operand.tmp 5)), 22, some (14, true)⟩,
    ⟨some 16, (Op.move (Operand.tmp 1)), 22, some (14, true)⟩,
    ⟨some 17, (Op.call ⟨(Callee.builtin Builtin.len), #[(Operand.tmp 16)], #[22]⟩), 3, some (14, true)⟩,
    ⟨some 18, (Op.indexAddr 22 (Operand.tmp 15) (Operand.tmp 17)), 0, some (14, true)⟩,
    ⟨some 19, (Op.load 3 (Operand.tmp 18)), 3, some (14, true)⟩,
    ⟨some 20, (Op.binOp BinOp.eql 3 (Operand.tmp 19) (Operand.const (Value.int IntKind.i64 (-7777))) 3), 4, some (14, true)⟩,
    ⟨some 21, (Op.pick (Operand.tmp 14) (Operand.tmp 20) (Operand.const (Value.bool false))), 4, none⟩,
    ⟨some 22, (Op.move (Operand.tmp 21)), 4, none⟩,
    ⟨some 23, (Op.move (Operand.tmp 5)), 22, some (22, true)⟩,
    ⟨some 24, (Op.move (Operand.tmp 1)), 22, some (22, true)⟩,
    ⟨some 25, (Op.call ⟨(Callee.builtin Builtin.len), #[(Operand.tmp 24)], #[22]⟩), 3, some (22, true)⟩,
    ⟨some 26, (Op.binOp BinOp.add 3 (Operand.tmp 25) (Operand.const (Value.int IntKind.i64 1)) 3), 3, some (22, true)⟩,
    ⟨some 27, (Op.indexAddr 22 (Operand.tmp 23) (Operand.tmp 26)), 0, some (22, true)⟩,
    ⟨some 28, (Op.load 3 (Operand.tmp 27)), 3, some (22, true)⟩,
    ⟨some 29, (Op.binOp BinOp.eql 3 (Operand.tmp 28) (Operand.const (Value.int IntKind.i64 (-8888))) 3), 4, some (22, true)⟩,
    ⟨some 30, (Op.pick (Operand.tmp 22) (Operand.tmp 29) (Operand.const (Value.bool false))), 4, none⟩,
    ⟨some 4, (Op.assign (Operand.tmp 30)), 4, none⟩]) .ret)))⟩
theorem is_gimmallaw0_KeptInts (c : Cfg) (h : c.lendT = []) : isF PP c 23 c_gimmallaw0_KeptInts := isF_of (fn := Proofs.Try.f23) (by kernel_rfl) (by kernel_rfl) rfl h (by kernel_rfl) rfl rfl (by kernel_rfl)
def c_gimmallaw8_awake : SF := ⟨60, [(ResultVar.tmp 0)],
  (.seq (.ops [⟨some 0, (Op.assign (Operand.const (Value.bool false))), 4, none⟩]) (.seq (.ops [⟨some 10, (Op.buildSlice 22 2 #[(0, (Operand.const (Value.int IntKind.i64 3))), (1, (Operand.const (Value.int IntKind.i64 9)))]), 22, none⟩,
    ⟨some 11, (Op.call ⟨(Callee.value (Operand.func 14)), #[(Operand.tmp 10), (Operand.const (Value.int IntKind.i64 5))], #[22, 3]⟩), 25, none⟩,
    ⟨some 9, (Op.move (Operand.tmp 11)), 25, none⟩,
    ⟨some 12, (Op.extract (Operand.tmp 9) 0), 22, none⟩,
    ⟨some 13, (Op.extract (Operand.tmp 9) 1), 24, none⟩,
    ⟨some 1, (Op.assign (Operand.tmp 12)), 22, none⟩,
    ⟨some 2, (Op.assign (Operand.tmp 13)), 24, none⟩]) (.seq (.ops [⟨some 15, (Op.move (Operand.tmp 1)), 22, none⟩,
    ⟨some 16, (Op.call ⟨(Callee.value (Operand.func 16)), #[(Operand.tmp 15), (Operand.const (Value.int IntKind.i64 9))], #[22, 3]⟩), 25, none⟩,
    ⟨some 14, (Op.move (Operand.tmp 16)), 25, none⟩,
    ⟨some 17, (Op.extract (Operand.tmp 14) 0), 22, none⟩,
    ⟨some 18, (Op.extract (Operand.tmp 14) 1), 24, none⟩,
    ⟨some 3, (Op.assign (Operand.tmp 17)), 22, none⟩,
    ⟨some 4, (Op.assign (Operand.tmp 18)), 24, none⟩]) (.seq (.ops [⟨some 20, (Op.buildSlice 22 2 #[(0, (Operand.const (Value.int IntKind.i64 9))), (1, (Operand.const (Value.int IntKind.i64 3)))]), 22, none⟩,
    ⟨some 21, (Op.call ⟨(Callee.value (Operand.func 14)), #[(Operand.tmp 20), (Operand.const (Value.int IntKind.i64 5))], #[22, 3]⟩), 25, none⟩,
    ⟨some 19, (Op.move (Operand.tmp 21)), 25, none⟩,
    ⟨some 22, (Op.extract (Operand.tmp 19) 0), 22, none⟩,
    ⟨some 23, (Op.extract (Operand.tmp 19) 1), 24, none⟩,
    ⟨some 5, (Op.assign (Operand.tmp 22)), 22, none⟩,
    ⟨some 6, (Op.assign (Operand.tmp 23)), 24, none⟩]) (.seq (.ops [⟨some 25, (Op.call ⟨(Callee.value (Operand.func 16)), #[(Operand.const (Value.slice none 0 0)), (Operand.const (Value.int IntKind.i64 256))], #[22, 3]⟩), 25, none⟩,
    ⟨some 24, (Op.move (Operand.tmp 25)), 25, none⟩,
    ⟨some 26, (Op.extract (Operand.tmp 24) 0), 22, none⟩,
    ⟨some 27, (Op.extract (Operand.tmp 24) 1), 24, none⟩,
    ⟨some 7, (Op.assign (Operand.tmp 26)), 22, none⟩,
    ⟨some 8, (Op.assign (Operand.tmp 27)), 24, none⟩]) (.seq (.ops [⟨some 28, (Op.move (Operand.tmp 1)), 22, none⟩,
    ⟨some 29, (Op.buildSlice 22 3 #[(0, (Operand.const (Value.int IntKind.i64 3))), (1, (Operand.const (Value.int IntKind.i64 5))), (2, (Operand.const (Value.int IntKind.i64 9)))]), 22, none⟩,
    ⟨some 30, (Op.call ⟨(Callee.value (Operand.func 18)), #[(Operand.tmp 28), (Operand.tmp 29)], #[22, 22]⟩), 4, none⟩,
    ⟨some 31, (Op.move (Operand.tmp 30)), 4, none⟩,
    ⟨some 32, (Op.move (Operand.tmp 2)), 24, some (31, true)⟩,
    ⟨some 33, (Op.call ⟨(Callee.value (Operand.func 19)), #[(Operand.tmp 32)], #[24]⟩), 3, some (31, true)⟩,
    ⟨some 34, (Op.binOp BinOp.eql 3 (Operand.tmp 33) (Operand.const (Value.int IntKind.i64 0)) 3), 4, some (31, true)⟩,
    ⟨some 35, (Op.pick (Operand.tmp 31) (Operand.tmp 34) (Operand.const (Value.bool false))), 4, none⟩,
    ⟨some 36, (Op.move (Operand.tmp 35)), 4, none⟩,
    ⟨some 37, (Op.move (Operand.tmp 3)), 22, some (36, true)⟩,
    ⟨some 38, (Op.buildSlice 22 2 #[(0, (Operand.const (Value.int IntKind.i64 3))), (1, (Operand.const (Value.int IntKind.i64 5)))]), 22, some (36, true)⟩,
    ⟨some 39, (Op.call ⟨(Callee.value (Operand.func 18)), #[(Operand.tmp 37), (Operand.tmp 38)], #[22, 22]⟩), 4, some (36, true)⟩,
    ⟨some 40, (Op.pick (Operand.tmp 36) (Operand.tmp 39) (Operand.const (Value.bool false))), 4, none⟩,
    ⟨some 41, (Op.move (Operand.tmp 40)), 4, none⟩,
    ⟨some 42, (Op.move (Operand.tmp 4)), 24, some (41, true)⟩,
    ⟨some 43, (Op.call ⟨(Callee.value (Operand.func 19)), #[(Operand.tmp 42)], #[24]⟩), 3, some (41, true)⟩,
    ⟨some 44, (Op.binOp BinOp.eql 3 (Operand.tmp 43) (Operand.const (Value.int IntKind.i64 0)) 3), 4, some (41, true)⟩,
    ⟨some 45, (Op.pick (Operand.tmp 41) (Operand.tmp 44) (Operand.const (Value.bool false))), 4, none⟩,
    ⟨some 46, (Op.move (Operand.tmp 45)), 4, none⟩,
    ⟨some 47, (Op.move (Operand.tmp 6)), 24, some (46, true)⟩,
    ⟨some 48, (Op.call ⟨(Callee.value (Operand.func 19)), #[(Operand.tmp 47)], #[24]⟩), 3, some (46, true)⟩,
    ⟨some 49, (Op.binOp BinOp.eql 3 (Operand.tmp 48) (Operand.const (Value.int IntKind.i64 800)) 3), 4, some (46, true)⟩,
    ⟨some 50, (Op.pick (Operand.tmp 46) (Operand.tmp 49) (Operand.const (Value.bool false))), 4, none⟩,
    ⟨some 51, (Op.move (Operand.tmp 50)), 4, none⟩,
    ⟨some 52, (Op.move (Operand.tmp 8)), 24, some (51, true)⟩,
    ⟨some 53, (Op.call ⟨(Callee.value (Operand.func 19)), #[(Operand.tmp 52)], #[24]⟩), 3, some (51, true)⟩,
    ⟨some 54, (Op.binOp BinOp.eql 3 (Operand.tmp 53) (Operand.const (Value.int IntKind.i64 800)) 3), 4, some (51, true)⟩,
    ⟨some 55, (Op.pick (Operand.tmp 51) (Operand.tmp 54) (Operand.const (Value.bool false))), 4, none⟩,
    ⟨some 56, (Op.move (Operand.tmp 55)), 4, none⟩,
    ⟨some 57, (Op.move (Operand.tmp 1)), 22, some (56, true)⟩,
    ⟨some 58, (Op.call ⟨(Callee.value (Operand.func 20)), #[(Operand.tmp 57)], #[22]⟩), 4, some (56, true)⟩,
    ⟨some 59, (Op.pick (Operand.tmp 56) (Operand.tmp 58) (Operand.const (Value.bool false))), 4, none⟩,
    ⟨some 0, (Op.assign (Operand.tmp 59)), 4, none⟩]) .ret))))))⟩
theorem is_gimmallaw8_awake (c : Cfg) (h : c.lendT = []) : isF PP c 24 c_gimmallaw8_awake := isF_of (fn := Proofs.Try.f24) (by kernel_rfl) (by kernel_rfl) rfl h (by kernel_rfl) rfl rfl (by kernel_rfl)
end Go.AM
/- AM: this seat's functions in short. -/
namespace Go.AM
set_option linter.unusedSimpArgs false
set_option linter.unusedVariables false
def c_gimmallaw0_LendPeers : SF := ⟨14, [(ResultVar.tmp 2)],
  (.seq (.ops [⟨some 2, (Op.assign (Operand.const (Value.slice none 0 0))), 39, none⟩]) (.seq (.ops [⟨some 4, (Op.move (Operand.tmp 0)), 39, none⟩,
    ⟨some 5, (Op.call ⟨(Callee.value (Operand.func 46)), #[(Operand.tmp 4)], #[39]⟩), 39, none⟩,
    ⟨some 6, (Op.build 54 #[(1, (Operand.const (Value.int IntKind.i64 77777)))]), 54, none⟩,
    ⟨some 7, (Op.build 54 #[(1, (Operand.const (Value.int IntKind.i64 77777)))]), 54, none⟩,
    ⟨some 8, (Op.buildSlice 39 2 #[(0, (Operand.tmp 6)), (1, (Operand.tmp 7))]), 39, none⟩,
    ⟨some 9, (Op.call ⟨(Callee.builtin Builtin.append), #[(Operand.tmp 5), (Operand.tmp 8)], #[39, 39]⟩), 39, none⟩,
    ⟨some 3, (Op.assign (Operand.tmp 9)), 39, none⟩]) (.seq (.ops [⟨some 10, (Op.move (Operand.tmp 3)), 39, none⟩,
    ⟨some 11, (Op.move (Operand.tmp 0)), 39, none⟩,
    ⟨some 12, (Op.call ⟨(Callee.builtin Builtin.len), #[(Operand.tmp 11)], #[39]⟩), 3, none⟩,
    ⟨some 13, (Op.slice 39 (Operand.tmp 10) none (some (Operand.tmp 12)) none), 39, none⟩,
    ⟨some 2, (Op.assign (Operand.tmp 13)), 39, none⟩]) .ret)))⟩
theorem is_gimmallaw0_LendPeers (c : Cfg) (h : c.lendT = []) : isF PP c 25 c_gimmallaw0_LendPeers := isF_of (fn := Proofs.Try.f25) (by kernel_rfl) (by kernel_rfl) rfl h (by kernel_rfl) rfl rfl (by kernel_rfl)
def c_peers_Heard : SF := ⟨51, [(ResultVar.tmp 6), (ResultVar.tmp 7)],
  (.seq (.ops [⟨some 6, (Op.assign (Operand.const (Value.slice none 0 0))), 39, none⟩,
    ⟨some 7, (Op.assign (Operand.const (Value.int IntKind.i64 0))), 24, none⟩]) (.seq (.seq (.ops [⟨some 11, (Op.move (Operand.tmp 0)), 3, none⟩,
    ⟨some 12, (Op.move (Operand.tmp 1)), 39, none⟩,
    ⟨some 13, (Op.call ⟨(Callee.value (Operand.func 31)), #[(Operand.tmp 11), (Operand.tmp 12)], #[3, 39]⟩), 4, none⟩,
    ⟨some 14, (Op.unOp UnOp.not 4 (Operand.tmp 13)), 4, none⟩,
    ⟨some 15, (Op.move (Operand.tmp 14)), 4, none⟩,
    ⟨some 16, (Op.move (Operand.tmp 2)), 3, some (15, false)⟩,
    ⟨some 17, (Op.call ⟨(Callee.value (Operand.func 37)), #[(Operand.tmp 16)], #[3]⟩), 4, some (15, false)⟩,
    ⟨some 18, (Op.unOp UnOp.not 4 (Operand.tmp 17)), 4, some (15, false)⟩,
    ⟨some 19, (Op.pick (Operand.tmp 15) (Operand.const (Value.bool true)) (Operand.tmp 18)), 4, none⟩,
    ⟨some 20, (Op.move (Operand.tmp 19)), 4, none⟩,
    ⟨some 21, (Op.move (Operand.tmp 2)), 3, some (20, false)⟩,
    ⟨some 22, (Op.move (Operand.tmp 0)), 3, some (20, false)⟩,
    ⟨some 23, (Op.binOp BinOp.eql 3 (Operand.tmp 21) (Operand.tmp 22) 3), 4, some (20, false)⟩,
    ⟨some 24, (Op.pick (Operand.tmp 20) (Operand.const (Value.bool true)) (Operand.tmp 23)), 4, none⟩]) (.cond (Operand.tmp 24) (.seq (.ops [⟨some 6, (Op.assign (Operand.const (Value.slice none 0 0))), 39, none⟩,
    ⟨some 7, (Op.assign (Operand.const (Value.int IntKind.i64 700))), 24, none⟩]) .ret) .skip)) (.seq (.ops [⟨some 25, (Op.move (Operand.tmp 1)), 39, none⟩,
    ⟨some 26, (Op.call ⟨(Callee.value (Operand.func 47)), #[(Operand.tmp 25)], #[39]⟩), 39, none⟩,
    ⟨some 8, (Op.assign (Operand.tmp 26)), 39, none⟩]) (.seq (.ops [⟨some 28, (Op.move (Operand.tmp 0)), 3, none⟩,
    ⟨some 29, (Op.move (Operand.tmp 8)), 39, none⟩,
    ⟨some 30, (Op.move (Operand.tmp 2)), 3, none⟩,
    ⟨some 31, (Op.call ⟨(Callee.value (Operand.func 48)), #[(Operand.tmp 28), (Operand.tmp 29), (Operand.tmp 30)], #[3, 39, 3]⟩), 59, none⟩,
    ⟨some 27, (Op.move (Operand.tmp 31)), 59, none⟩,
    ⟨some 32, (Op.extract (Operand.tmp 27) 0), 3, none⟩,
    ⟨some 33, (Op.extract (Operand.tmp 27) 1), 4, none⟩,
    ⟨some 9, (Op.assign (Operand.tmp 32)), 3, none⟩,
    ⟨some 10, (Op.assign (Operand.tmp 33)), 4, none⟩]) (.seq (.block 0 (.seq (.ops [⟨some 41, (Op.move (Operand.tmp 10)), 4, none⟩,
    ⟨some 40, (Op.assign (Operand.tmp 41)), 4, none⟩]) (.cond (Operand.tmp 40) (.ops [⟨some 42, (Op.move (Operand.tmp 8)), 39, none⟩,
    ⟨some 43, (Op.move (Operand.tmp 9)), 3, none⟩,
    ⟨some 44, (Op.indexAddr 39 (Operand.tmp 42) (Operand.tmp 43)), 0, none⟩,
    ⟨some 45, (Op.fieldAddr 54 (Operand.tmp 44) 1), 0, none⟩,
    ⟨none, (Op.store 3 (Operand.tmp 45) (Operand.const (Value.int IntKind.i64 0))), 0, none⟩]) (.seq (.ops [⟨some 47, (Op.move (Operand.tmp 8)), 39, none⟩,
    ⟨some 48, (Op.call ⟨(Callee.builtin Builtin.len), #[(Operand.tmp 47)], #[39]⟩), 3, none⟩,
    ⟨some 49, (Op.binOp BinOp.eql 3 (Operand.tmp 48) (Operand.const (Value.int IntKind.i64 16)) 3), 4, none⟩,
    ⟨some 46, (Op.assign (Operand.tmp 49)), 4, none⟩]) (.cond (Operand.tmp 46) (.seq (.ops [⟨some 6, (Op.assign (Operand.const (Value.slice none 0 0))), 39, none⟩,
    ⟨some 7, (Op.assign (Operand.const (Value.int IntKind.i64 701))), 24, none⟩]) .ret) (.ops [⟨some 34, (Op.move (Operand.tmp 8)), 39, none⟩,
    ⟨some 35, (Op.move (Operand.tmp 9)), 3, none⟩,
    ⟨some 36, (Op.move (Operand.tmp 2)), 3, none⟩,
    ⟨some 37, (Op.build 54 #[(0, (Operand.tmp 36))]), 54, none⟩,
    ⟨some 38, (Op.buildSlice 39 1 #[(0, (Operand.tmp 37))]), 39, none⟩,
    ⟨some 39, (Op.call ⟨(Callee.value (Operand.func 49)), #[(Operand.tmp 34), (Operand.tmp 35), (Operand.tmp 38)], #[39, 3, 39]⟩), 39, none⟩,
    ⟨some 8, (Op.assign (Operand.tmp 39)), 39, none⟩])))))) (.seq (.ops [⟨some 50, (Op.move (Operand.tmp 8)), 39, none⟩,
    ⟨some 6, (Op.assign (Operand.tmp 50)), 39, none⟩,
    ⟨some 7, (Op.assign (Operand.const (Value.int IntKind.i64 0))), 24, none⟩]) .ret))))))⟩
theorem is_peers_Heard (c : Cfg) (h : c.lendT = [34]) : isF PP c 26 c_peers_Heard := isF_of (fn := Proofs.Try.f26) (by kernel_rfl) (by kernel_rfl) rfl h (by kernel_rfl) rfl rfl (by kernel_rfl)
def c_gimmalref1_Heard_L0 : SC := (.seq (.seq (.ops [⟨some 25, (Op.move (Operand.tmp 10)), 3, none⟩,
    ⟨some 26, (Op.move (Operand.tmp 1)), 39, none⟩,
    ⟨some 27, (Op.call ⟨(Callee.builtin Builtin.len), #[(Operand.tmp 26)], #[39]⟩), 3, none⟩,
    ⟨some 28, (Op.binOp BinOp.lss 3 (Operand.tmp 25) (Operand.tmp 27) 3), 4, none⟩]) (.cond (Operand.tmp 28) .skip (.exit 0))) (.seq (.block 1 (.seq (.seq (.ops [⟨some 31, (Op.move (Operand.tmp 9)), 4, none⟩,
    ⟨some 32, (Op.unOp UnOp.not 4 (Operand.tmp 31)), 4, none⟩,
    ⟨some 33, (Op.move (Operand.tmp 32)), 4, none⟩,
    ⟨some 34, (Op.move (Operand.tmp 0)), 3, some (33, true)⟩,
    ⟨some 35, (Op.move (Operand.tmp 1)), 39, some (33, true)⟩,
    ⟨some 36, (Op.move (Operand.tmp 10)), 3, some (33, true)⟩,
    ⟨some 37, (Op.indexAddr 39 (Operand.tmp 35) (Operand.tmp 36)), 0, some (33, true)⟩,
    ⟨some 38, (Op.fieldAddr 54 (Operand.tmp 37) 0), 0, some (33, true)⟩,
    ⟨some 39, (Op.load 3 (Operand.tmp 38)), 3, some (33, true)⟩,
    ⟨some 40, (Op.call ⟨(Callee.value (Operand.func 50)), #[(Operand.tmp 34), (Operand.tmp 39)], #[3, 3]⟩), 3, some (33, true)⟩,
    ⟨some 41, (Op.move (Operand.tmp 0)), 3, some (33, true)⟩,
    ⟨some 42, (Op.move (Operand.tmp 2)), 3, some (33, true)⟩,
    ⟨some 43, (Op.call ⟨(Callee.value (Operand.func 50)), #[(Operand.tmp 41), (Operand.tmp 42)], #[3, 3]⟩), 3, some (33, true)⟩,
    ⟨some 44, (Op.binOp BinOp.geq 3 (Operand.tmp 40) (Operand.tmp 43) 3), 4, some (33, true)⟩,
    ⟨some 45, (Op.pick (Operand.tmp 33) (Operand.tmp 44) (Operand.const (Value.bool false))), 4, none⟩]) (.cond (Operand.tmp 45) (.seq (.ops [⟨some 46, (Op.move (Operand.tmp 8)), 39, none⟩,
    ⟨some 47, (Op.move (Operand.tmp 2)), 3, none⟩,
    ⟨some 48, (Op.build 54 #[(0, (Operand.tmp 47))]), 54, none⟩,
    ⟨some 49, (Op.buildSlice 39 1 #[(0, (Operand.tmp 48))]), 39, none⟩,
    ⟨some 50, (Op.call ⟨(Callee.builtin Builtin.append), #[(Operand.tmp 46), (Operand.tmp 49)], #[39, 39]⟩), 39, none⟩,
    ⟨some 8, (Op.assign (Operand.tmp 50)), 39, none⟩]) (.ops [⟨some 9, (Op.assign (Operand.const (Value.bool true))), 4, none⟩])) .skip)) (.seq (.ops [⟨some 51, (Op.move (Operand.tmp 1)), 39, none⟩,
    ⟨some 52, (Op.move (Operand.tmp 10)), 3, none⟩,
    ⟨some 53, (Op.indexAddr 39 (Operand.tmp 51) (Operand.tmp 52)), 0, none⟩,
    ⟨some 54, (Op.fieldAddr 54 (Operand.tmp 53) 0), 0, none⟩,
    ⟨some 55, (Op.load 3 (Operand.tmp 54)), 3, none⟩,
    ⟨some 56, (Op.move (Operand.tmp 2)), 3, none⟩,
    ⟨some 57, (Op.binOp BinOp.neq 3 (Operand.tmp 55) (Operand.tmp 56) 3), 4, none⟩]) (.cond (Operand.tmp 57) (.ops [⟨some 58, (Op.move (Operand.tmp 8)), 39, none⟩,
    ⟨some 59, (Op.move (Operand.tmp 1)), 39, none⟩,
    ⟨some 60, (Op.move (Operand.tmp 10)), 3, none⟩,
    ⟨some 61, (Op.indexAddr 39 (Operand.tmp 59) (Operand.tmp 60)), 0, none⟩,
    ⟨some 62, (Op.load 54 (Operand.tmp 61)), 54, none⟩,
    ⟨some 63, (Op.buildSlice 39 1 #[(0, (Operand.tmp 62))]), 39, none⟩,
    ⟨some 64, (Op.call ⟨(Callee.builtin Builtin.append), #[(Operand.tmp 58), (Operand.tmp 63)], #[39, 39]⟩), 39, none⟩,
    ⟨some 8, (Op.assign (Operand.tmp 64)), 39, none⟩]) .skip)))) (.ops [⟨some 29, (Op.move (Operand.tmp 10)), 3, none⟩,
    ⟨some 30, (Op.binOp BinOp.add 3 (Operand.tmp 29) (Operand.const (Value.int IntKind.i64 1)) 3), 3, none⟩,
    ⟨some 10, (Op.assign (Operand.tmp 30)), 3, none⟩])))
def c_gimmalref1_Heard : SF := ⟨76, [(ResultVar.tmp 6), (ResultVar.tmp 7)],
  (.seq (.ops [⟨some 6, (Op.assign (Operand.const (Value.slice none 0 0))), 39, none⟩,
    ⟨some 7, (Op.assign (Operand.const (Value.int IntKind.i64 0))), 3, none⟩]) (.seq (.seq (.ops [⟨some 11, (Op.move (Operand.tmp 0)), 3, none⟩,
    ⟨some 12, (Op.move (Operand.tmp 1)), 39, none⟩,
    ⟨some 13, (Op.call ⟨(Callee.value (Operand.func 32)), #[(Operand.tmp 11), (Operand.tmp 12)], #[3, 39]⟩), 4, none⟩,
    ⟨some 14, (Op.unOp UnOp.not 4 (Operand.tmp 13)), 4, none⟩,
    ⟨some 15, (Op.move (Operand.tmp 14)), 4, none⟩,
    ⟨some 16, (Op.move (Operand.tmp 2)), 3, some (15, false)⟩,
    ⟨some 17, (Op.call ⟨(Callee.value (Operand.func 41)), #[(Operand.tmp 16)], #[3]⟩), 4, some (15, false)⟩,
    ⟨some 18, (Op.unOp UnOp.not 4 (Operand.tmp 17)), 4, some (15, false)⟩,
    ⟨some 19, (Op.pick (Operand.tmp 15) (Operand.const (Value.bool true)) (Operand.tmp 18)), 4, none⟩,
    ⟨some 20, (Op.move (Operand.tmp 19)), 4, none⟩,
    ⟨some 21, (Op.move (Operand.tmp 2)), 3, some (20, false)⟩,
    ⟨some 22, (Op.move (Operand.tmp 0)), 3, some (20, false)⟩,
    ⟨some 23, (Op.binOp BinOp.eql 3 (Operand.tmp 21) (Operand.tmp 22) 3), 4, some (20, false)⟩,
    ⟨some 24, (Op.pick (Operand.tmp 20) (Operand.const (Value.bool true)) (Operand.tmp 23)), 4, none⟩]) (.cond (Operand.tmp 24) (.seq (.ops [⟨some 6, (Op.assign (Operand.const (Value.slice none 0 0))), 39, none⟩,
    ⟨some 7, (Op.assign (Operand.const (Value.int IntKind.i64 700))), 3, none⟩]) .ret) .skip)) (.seq (.ops [⟨some 8, (Op.assign (Operand.const (Value.slice none 0 0))), 39, none⟩]) (.seq (.ops [⟨some 9, (Op.assign (Operand.const (Value.bool false))), 4, none⟩]) (.seq (.seq (.ops [⟨some 10, (Op.assign (Operand.const (Value.int IntKind.i64 0))), 3, none⟩]) (.block 0 (.loop c_gimmalref1_Heard_L0))) (.seq (.seq (.ops [⟨some 65, (Op.move (Operand.tmp 9)), 4, none⟩,
    ⟨some 66, (Op.unOp UnOp.not 4 (Operand.tmp 65)), 4, none⟩]) (.cond (Operand.tmp 66) (.ops [⟨some 67, (Op.move (Operand.tmp 8)), 39, none⟩,
    ⟨some 68, (Op.move (Operand.tmp 2)), 3, none⟩,
    ⟨some 69, (Op.build 54 #[(0, (Operand.tmp 68))]), 54, none⟩,
    ⟨some 70, (Op.buildSlice 39 1 #[(0, (Operand.tmp 69))]), 39, none⟩,
    ⟨some 71, (Op.call ⟨(Callee.builtin Builtin.append), #[(Operand.tmp 67), (Operand.tmp 70)], #[39, 39]⟩), 39, none⟩,
    ⟨some 8, (Op.assign (Operand.tmp 71)), 39, none⟩]) .skip)) (.seq (.seq (.ops [⟨some 72, (Op.move (Operand.tmp 8)), 39, none⟩,
    ⟨some 73, (Op.call ⟨(Callee.builtin Builtin.len), #[(Operand.tmp 72)], #[39]⟩), 3, none⟩,
    ⟨some 74, (Op.binOp BinOp.gtr 3 (Operand.tmp 73) (Operand.const (Value.int IntKind.i64 16)) 3), 4, none⟩]) (.cond (Operand.tmp 74) (.seq (.ops [⟨some 6, (Op.assign (Operand.const (Value.slice none 0 0))), 39, none⟩,
    ⟨some 7, (Op.assign (Operand.const (Value.int IntKind.i64 701))), 3, none⟩]) .ret) .skip)) (.seq (.ops [⟨some 75, (Op.move (Operand.tmp 8)), 39, none⟩,
    ⟨some 6, (Op.assign (Operand.tmp 75)), 39, none⟩,
    ⟨some 7, (Op.assign (Operand.const (Value.int IntKind.i64 0))), 3, none⟩]) .ret))))))))⟩
theorem is_gimmalref1_Heard (c : Cfg) (h : c.lendT = []) : isF PP c 27 c_gimmalref1_Heard := isF_of (fn := Proofs.Try.f27) (by kernel_rfl) (by kernel_rfl) rfl h (by kernel_rfl) rfl rfl (by kernel_rfl)
def c_peers_Age_L0 : SC := (.seq (.ops [⟨some 18, (Op.binOp BinOp.lss 3 (Operand.tmp 17) (Operand.tmp 16) 3), 0, none⟩]) (.seq (.cond (Operand.tmp 18) .skip (.exit 0)) (.seq (.block 1 (.seq (.ops [⟨some 19, (Op.indexAddr 39 (Operand.tmp 15) (Operand.tmp 17)), 0, none⟩,
    ⟨some 20, (Op.load 54 (Operand.tmp 19)), 54, none⟩,
    ⟨some 10, (Op.alloc 54), 0, none⟩,
    ⟨none, (Op.store 54 (Operand.tmp 10) (Operand.tmp 20)), 0, none⟩]) (.seq (.ops [⟨some 21, (Op.fieldAddr 54 (Operand.tmp 10) 1), 0, none⟩,
    ⟨some 22, (Op.load 3 (Operand.tmp 21)), 3, none⟩,
    ⟨some 23, (Op.binOp BinOp.add 3 (Operand.tmp 22) (Operand.const (Value.int IntKind.i64 1)) 3), 3, none⟩,
    ⟨some 24, (Op.fieldAddr 54 (Operand.tmp 10) 1), 0, none⟩,
    ⟨none, (Op.store 3 (Operand.tmp 24) (Operand.tmp 23)), 0, none⟩]) (.seq (.ops [⟨some 25, (Op.fieldAddr 54 (Operand.tmp 10) 1), 0, none⟩,
    ⟨some 26, (Op.load 3 (Operand.tmp 25)), 3, none⟩,
    ⟨some 27, (Op.binOp BinOp.eql 3 (Operand.tmp 26) (Operand.const (Value.int IntKind.i64 3)) 3), 4, none⟩]) (.cond (Operand.tmp 27) (.ops [⟨some 28, (Op.move (Operand.tmp 8)), 22, none⟩,
    ⟨some 29, (Op.fieldAddr 54 (Operand.tmp 10) 0), 0, none⟩,
    ⟨some 30, (Op.load 3 (Operand.tmp 29)), 3, none⟩,
    ⟨some 31, (Op.buildSlice 22 1 #[(0, (Operand.tmp 30))]), 22, none⟩,
    ⟨some 32, (Op.call ⟨(Callee.builtin Builtin.append), #[(Operand.tmp 28), (Operand.tmp 31)], #[22, 22]⟩), 22, none⟩,
    ⟨some 8, (Op.assign (Operand.tmp 32)), 22, none⟩]) (.ops [⟨some 33, (Op.move (Operand.tmp 7)), 39, none⟩,
    ⟨some 34, (Op.load 54 (Operand.tmp 10)), 54, none⟩,
    ⟨some 35, (Op.buildSlice 39 1 #[(0, (Operand.tmp 34))]), 39, none⟩,
    ⟨some 36, (Op.call ⟨(Callee.builtin Builtin.append), #[(Operand.tmp 33), (Operand.tmp 35)], #[39, 39]⟩), 39, none⟩,
    ⟨some 7, (Op.assign (Operand.tmp 36)), 39, none⟩])))))) (.ops [⟨some 37, (Op.binOp BinOp.add 3 (Operand.tmp 17) (Operand.const (Value.int IntKind.i64 1)) 3), 3, none⟩,
    ⟨some 17, (Op.move (Operand.tmp 37)), 3, none⟩]))))
def c_peers_Age : SF := ⟨40, [(ResultVar.tmp 4), (ResultVar.tmp 5), (ResultVar.tmp 6)],
  (.seq (.ops [⟨some 4, (Op.assign (Operand.const (Value.slice none 0 0))), 39, none⟩,
    ⟨some 5, (Op.assign (Operand.const (Value.slice none 0 0))), 22, none⟩,
    ⟨some 6, (Op.assign (Operand.const (Value.int IntKind.i64 0))), 24, none⟩]) (.seq (.seq (.ops [⟨some 11, (Op.move (Operand.tmp 0)), 3, none⟩,
    ⟨some 12, (Op.move (Operand.tmp 1)), 39, none⟩,
    ⟨some 13, (Op.call ⟨(Callee.value (Operand.func 31)), #[(Operand.tmp 11), (Operand.tmp 12)], #[3, 39]⟩), 4, none⟩,
    ⟨some 14, (Op.unOp UnOp.not 4 (Operand.tmp 13)), 4, none⟩]) (.cond (Operand.tmp 14) (.seq (.ops [⟨some 4, (Op.assign (Operand.const (Value.slice none 0 0))), 39, none⟩,
    ⟨some 5, (Op.assign (Operand.const (Value.slice none 0 0))), 22, none⟩,
    ⟨some 6, (Op.assign (Operand.const (Value.int IntKind.i64 700))), 24, none⟩]) .ret) .skip)) (.seq (.ops [⟨some 7, (Op.assign (Operand.const (Value.slice none 0 0))), 39, none⟩]) (.seq (.ops [⟨some 8, (Op.assign (Operand.const (Value.slice none 0 0))), 22, none⟩]) (.seq (.seq (.ops [⟨some 15, (Op.move (Operand.tmp 1)), 39, none⟩,
    ⟨some 16, (Op.call ⟨(Callee.builtin Builtin.len), #[(Operand.tmp 15)], #[39]⟩), 3, none⟩,
    ⟨some 17, (Op.move (Operand.const (Value.int IntKind.i64 0))), 3, none⟩]) (.block 0 (.loop c_peers_Age_L0))) (.seq (.ops [⟨some 38, (Op.move (Operand.tmp 7)), 39, none⟩,
    ⟨some 39, (Op.move (Operand.tmp 8)), 22, none⟩,
    ⟨some 4, (Op.assign (Operand.tmp 38)), 39, none⟩,
    ⟨some 5, (Op.assign (Operand.tmp 39)), 22, none⟩,
    ⟨some 6, (Op.assign (Operand.const (Value.int IntKind.i64 0))), 24, none⟩]) .ret))))))⟩
theorem is_peers_Age (c : Cfg) (h : c.lendT = []) : isF PP c 28 c_peers_Age := isF_of (fn := Proofs.Try.f28) (by kernel_rfl) (by kernel_rfl) rfl h (by kernel_rfl) rfl rfl (by kernel_rfl)
def c_gimmalref1_AgePeers_L0 : SC := (.seq (.seq (.ops [⟨some 14, (Op.move (Operand.tmp 9)), 3, none⟩,
    ⟨some 15, (Op.move (Operand.tmp 1)), 39, none⟩,
    ⟨some 16, (Op.call ⟨(Callee.builtin Builtin.len), #[(Operand.tmp 15)], #[39]⟩), 3, none⟩,
    ⟨some 17, (Op.binOp BinOp.lss 3 (Operand.tmp 14) (Operand.tmp 16) 3), 4, none⟩]) (.cond (Operand.tmp 17) .skip (.exit 0))) (.seq (.block 1 (.seq (.ops [⟨some 20, (Op.move (Operand.tmp 1)), 39, none⟩,
    ⟨some 21, (Op.move (Operand.tmp 9)), 3, none⟩,
    ⟨some 22, (Op.indexAddr 39 (Operand.tmp 20) (Operand.tmp 21)), 0, none⟩,
    ⟨some 23, (Op.fieldAddr 54 (Operand.tmp 22) 1), 0, none⟩,
    ⟨some 24, (Op.load 3 (Operand.tmp 23)), 3, none⟩,
    ⟨some 25, (Op.binOp BinOp.add 3 (Operand.tmp 24) (Operand.const (Value.int IntKind.i64 1)) 3), 3, none⟩,
    ⟨some 26, (Op.binOp BinOp.eql 3 (Operand.tmp 25) (Operand.const (Value.int IntKind.i64 3)) 3), 4, none⟩]) (.cond (Operand.tmp 26) (.ops [⟨some 27, (Op.move (Operand.tmp 8)), 22, none⟩,
    ⟨some 28, (Op.move (Operand.tmp 1)), 39, none⟩,
    ⟨some 29, (Op.move (Operand.tmp 9)), 3, none⟩,
    ⟨some 30, (Op.indexAddr 39 (Operand.tmp 28) (Operand.tmp 29)), 0, none⟩,
    ⟨some 31, (Op.fieldAddr 54 (Operand.tmp 30) 0), 0, none⟩,
    ⟨some 32, (Op.load 3 (Operand.tmp 31)), 3, none⟩,
    ⟨some 33, (Op.buildSlice 22 1 #[(0, (Operand.tmp 32))]), 22, none⟩,
    ⟨some 34, (Op.call ⟨(Callee.builtin Builtin.append), #[(Operand.tmp 27), (Operand.tmp 33)], #[22, 22]⟩), 22, none⟩,
    ⟨some 8, (Op.assign (Operand.tmp 34)), 22, none⟩]) (.ops [⟨some 35, (Op.move (Operand.tmp 7)), 39, none⟩,
    ⟨some 36, (Op.move (Operand.tmp 1)), 39, none⟩,
    ⟨some 37, (Op.move (Operand.tmp 9)), 3, none⟩,
    ⟨some 41, (Op.move (Operand.tmp 1)), 39, none⟩,
    ⟨some 42, (Op.move (Operand.tmp 9)), 3, none⟩,
    ⟨some 38, (Op.indexAddr 39 (Operand.tmp 36) (Operand.tmp 37)), 0, none⟩,
    ⟨some 39, (Op.fieldAddr 54 (Operand.tmp 38) 0), 0, none⟩,
    ⟨some 40, (Op.load 3 (Operand.tmp 39)), 3, none⟩,
    ⟨some 43, (Op.indexAddr 39 (Operand.tmp 41) (Operand.tmp 42)), 0, none⟩,
    ⟨some 44, (Op.fieldAddr 54 (Operand.tmp 43) 1), 0, none⟩,
    ⟨some 45, (Op.load 3 (Operand.tmp 44)), 3, none⟩,
    ⟨some 46, (Op.binOp BinOp.add 3 (Operand.tmp 45) (Operand.const (Value.int IntKind.i64 1)) 3), 3, none⟩,
    ⟨some 47, (Op.build 54 #[(0, (Operand.tmp 40)), (1, (Operand.tmp 46))]), 54, none⟩,
    ⟨some 48, (Op.buildSlice 39 1 #[(0, (Operand.tmp 47))]), 39, none⟩,
    ⟨some 49, (Op.call ⟨(Callee.builtin Builtin.append), #[(Operand.tmp 35), (Operand.tmp 48)], #[39, 39]⟩), 39, none⟩,
    ⟨some 7, (Op.assign (Operand.tmp 49)), 39, none⟩])))) (.ops [⟨some 18, (Op.move (Operand.tmp 9)), 3, none⟩,
    ⟨some 19, (Op.binOp BinOp.add 3 (Operand.tmp 18) (Operand.const (Value.int IntKind.i64 1)) 3), 3, none⟩,
    ⟨some 9, (Op.assign (Operand.tmp 19)), 3, none⟩])))
def c_gimmalref1_AgePeers : SF := ⟨52, [(ResultVar.tmp 4), (ResultVar.tmp 5), (ResultVar.tmp 6)],
  (.seq (.ops [⟨some 4, (Op.assign (Operand.const (Value.slice none 0 0))), 39, none⟩,
    ⟨some 5, (Op.assign (Operand.const (Value.slice none 0 0))), 22, none⟩,
    ⟨some 6, (Op.assign (Operand.const (Value.int IntKind.i64 0))), 3, none⟩]) (.seq (.seq (.ops [⟨some 10, (Op.move (Operand.tmp 0)), 3, none⟩,
    ⟨some 11, (Op.move (Operand.tmp 1)), 39, none⟩,
    ⟨some 12, (Op.call ⟨(Callee.value (Operand.func 32)), #[(Operand.tmp 10), (Operand.tmp 11)], #[3, 39]⟩), 4, none⟩,
    ⟨some 13, (Op.unOp UnOp.not 4 (Operand.tmp 12)), 4, none⟩]) (.cond (Operand.tmp 13) (.seq (.ops [⟨some 4, (Op.assign (Operand.const (Value.slice none 0 0))), 39, none⟩,
    ⟨some 5, (Op.assign (Operand.const (Value.slice none 0 0))), 22, none⟩,
    ⟨some 6, (Op.assign (Operand.const (Value.int IntKind.i64 700))), 3, none⟩]) .ret) .skip)) (.seq (.ops [⟨some 7, (Op.assign (Operand.const (Value.slice none 0 0))), 39, none⟩]) (.seq (.ops [⟨some 8, (Op.assign (Operand.const (Value.slice none 0 0))), 22, none⟩]) (.seq (.seq (.ops [⟨some 9, (Op.assign (Operand.const (Value.int IntKind.i64 0))), 3, none⟩]) (.block 0 (.loop c_gimmalref1_AgePeers_L0))) (.seq (.ops [⟨some 50, (Op.move (Operand.tmp 7)), 39, none⟩,
    ⟨some 51, (Op.move (Operand.tmp 8)), 22, none⟩,
    ⟨some 4, (Op.assign (Operand.tmp 50)), 39, none⟩,
    ⟨some 5, (Op.assign (Operand.tmp 51)), 22, none⟩,
    ⟨some 6, (Op.assign (Operand.const (Value.int IntKind.i64 0))), 3, none⟩]) .ret))))))⟩
theorem is_gimmalref1_AgePeers (c : Cfg) (h : c.lendT = []) : isF PP c 29 c_gimmalref1_AgePeers := isF_of (fn := Proofs.Try.f29) (by kernel_rfl) (by kernel_rfl) rfl h (by kernel_rfl) rfl rfl (by kernel_rfl)
def c_gimmallaw0_SamePeers_L0 : SC := (.seq (.seq (.ops [⟨some 11, (Op.move (Operand.tmp 5)), 3, none⟩,
    ⟨some 12, (Op.move (Operand.tmp 0)), 39, none⟩,
    ⟨some 13, (Op.call ⟨(Callee.builtin Builtin.len), #[(Operand.tmp 12)], #[39]⟩), 3, none⟩,
    ⟨some 14, (Op.binOp BinOp.lss 3 (Operand.tmp 11) (Operand.tmp 13) 3), 4, none⟩]) (.cond (Operand.tmp 14) .skip (.exit 0))) (.seq (.block 1 (.seq (.ops [⟨some 17, (Op.move (Operand.tmp 0)), 39, none⟩,
    ⟨some 18, (Op.move (Operand.tmp 5)), 3, none⟩,
    ⟨some 21, (Op.move (Operand.tmp 1)), 39, none⟩,
    ⟨some 22, (Op.move (Operand.tmp 5)), 3, none⟩,
    ⟨some 19, (Op.indexAddr 39 (Operand.tmp 17) (Operand.tmp 18)), 0, none⟩,
    ⟨some 20, (Op.load 54 (Operand.tmp 19)), 54, none⟩,
    ⟨some 23, (Op.indexAddr 39 (Operand.tmp 21) (Operand.tmp 22)), 0, none⟩,
    ⟨some 24, (Op.load 54 (Operand.tmp 23)), 54, none⟩,
    ⟨some 25, (Op.binOp BinOp.neq 54 (Operand.tmp 20) (Operand.tmp 24) 54), 4, none⟩]) (.cond (Operand.tmp 25) (.seq (.ops [⟨some 4, (Op.assign (Operand.const (Value.bool false))), 4, none⟩]) .ret) .skip))) (.ops [⟨some 15, (Op.move (Operand.tmp 5)), 3, none⟩,
    ⟨some 16, (Op.binOp BinOp.add 3 (Operand.tmp 15) (Operand.const (Value.int IntKind.i64 1)) 3), 3, none⟩,
    ⟨some 5, (Op.assign (Operand.tmp 16)), 3, none⟩])))
def c_gimmallaw0_SamePeers : SF := ⟨26, [(ResultVar.tmp 4)],
  (.seq (.ops [⟨some 4, (Op.assign (Operand.const (Value.bool false))), 4, none⟩]) (.seq (.seq (.ops [⟨some 6, (Op.move (Operand.tmp 0)), 39, none⟩,
    ⟨some 7, (Op.call ⟨(Callee.builtin Builtin.len), #[(Operand.tmp 6)], #[39]⟩), 3, none⟩,
    ⟨some 8, (Op.move (Operand.tmp 1)), 39, none⟩,
    ⟨some 9, (Op.call ⟨(Callee.builtin Builtin.len), #[(Operand.tmp 8)], #[39]⟩), 3, none⟩,
    ⟨some 10, (Op.binOp BinOp.neq 3 (Operand.tmp 7) (Operand.tmp 9) 3), 4, none⟩]) (.cond (Operand.tmp 10) (.seq (.ops [⟨some 4, (Op.assign (Operand.const (Value.bool false))), 4, none⟩]) .ret) .skip)) (.seq (.seq (.ops [⟨some 5, (Op.assign (Operand.const (Value.int IntKind.i64 0))), 3, none⟩]) (.block 0 (.loop c_gimmallaw0_SamePeers_L0))) (.seq (.ops [⟨some 4, (Op.assign (Operand.const (Value.bool true))), 4, none⟩]) .ret))))⟩
theorem is_gimmallaw0_SamePeers (c : Cfg) (h : c.lendT = []) : isF PP c 30 c_gimmallaw0_SamePeers := isF_of (fn := Proofs.Try.f30) (by kernel_rfl) (by kernel_rfl) rfl h (by kernel_rfl) rfl rfl (by kernel_rfl)
def c_peers_May_L0 : SC := (.seq (.ops [⟨some 19, (Op.binOp BinOp.lss 3 (Operand.tmp 18) (Operand.tmp 17) 3), 0, none⟩]) (.seq (.cond (Operand.tmp 19) .skip (.exit 0)) (.seq (.block 1 (.seq (.ops [⟨some 20, (Op.indexAddr 39 (Operand.tmp 16) (Operand.tmp 18)), 0, none⟩,
    ⟨some 21, (Op.load 54 (Operand.tmp 20)), 54, none⟩,
    ⟨some 7, (Op.alloc 54), 0, none⟩,
    ⟨none, (Op.store 54 (Operand.tmp 7) (Operand.tmp 21)), 0, none⟩]) (.seq (.seq (.ops [⟨some 22, (Op.fieldAddr 54 (Operand.tmp 7) 0), 0, none⟩,
    ⟨some 23, (Op.load 3 (Operand.tmp 22)), 3, none⟩,
    ⟨some 24, (Op.call ⟨(Callee.value (Operand.func 37)), #[(Operand.tmp 23)], #[3]⟩), 4, none⟩,
    ⟨some 25, (Op.unOp UnOp.not 4 (Operand.tmp 24)), 4, none⟩,
    ⟨some 26, (Op.move (Operand.tmp 25)), 4, none⟩,
    ⟨some 27, (Op.fieldAddr 54 (Operand.tmp 7) 1), 0, some (26, false)⟩,
    ⟨some 28, (Op.load 3 (Operand.tmp 27)), 3, some (26, false)⟩,
    ⟨some 29, (Op.binOp BinOp.lss 3 (Operand.tmp 28) (Operand.const (Value.int IntKind.i64 0)) 3), 4, some (26, false)⟩,
    ⟨some 30, (Op.pick (Operand.tmp 26) (Operand.const (Value.bool true)) (Operand.tmp 29)), 4, none⟩,
    ⟨some 31, (Op.move (Operand.tmp 30)), 4, none⟩,
    ⟨some 32, (Op.fieldAddr 54 (Operand.tmp 7) 1), 0, some (31, false)⟩,
    ⟨some 33, (Op.load 3 (Operand.tmp 32)), 3, some (31, false)⟩,
    ⟨some 34, (Op.binOp BinOp.geq 3 (Operand.tmp 33) (Operand.const (Value.int IntKind.i64 3)) 3), 4, some (31, false)⟩,
    ⟨some 35, (Op.pick (Operand.tmp 31) (Operand.const (Value.bool true)) (Operand.tmp 34)), 4, none⟩,
    ⟨some 36, (Op.move (Operand.tmp 35)), 4, none⟩,
    ⟨some 37, (Op.move (Operand.tmp 0)), 3, some (36, false)⟩,
    ⟨some 38, (Op.fieldAddr 54 (Operand.tmp 7) 0), 0, some (36, false)⟩,
    ⟨some 39, (Op.load 3 (Operand.tmp 38)), 3, some (36, false)⟩,
    ⟨some 40, (Op.call ⟨(Callee.value (Operand.func 51)), #[(Operand.tmp 37), (Operand.tmp 39)], #[3, 3]⟩), 3, some (36, false)⟩,
    ⟨some 41, (Op.move (Operand.tmp 5)), 3, some (36, false)⟩,
    ⟨some 42, (Op.binOp BinOp.leq 3 (Operand.tmp 40) (Operand.tmp 41) 3), 4, some (36, false)⟩,
    ⟨some 43, (Op.pick (Operand.tmp 36) (Operand.const (Value.bool true)) (Operand.tmp 42)), 4, none⟩]) (.cond (Operand.tmp 43) (.seq (.ops [⟨some 4, (Op.assign (Operand.const (Value.bool false))), 4, none⟩]) .ret) .skip)) (.ops [⟨some 44, (Op.move (Operand.tmp 0)), 3, none⟩,
    ⟨some 45, (Op.fieldAddr 54 (Operand.tmp 7) 0), 0, none⟩,
    ⟨some 46, (Op.load 3 (Operand.tmp 45)), 3, none⟩,
    ⟨some 47, (Op.call ⟨(Callee.value (Operand.func 51)), #[(Operand.tmp 44), (Operand.tmp 46)], #[3, 3]⟩), 3, none⟩,
    ⟨some 5, (Op.assign (Operand.tmp 47)), 3, none⟩])))) (.ops [⟨some 48, (Op.binOp BinOp.add 3 (Operand.tmp 18) (Operand.const (Value.int IntKind.i64 1)) 3), 3, none⟩,
    ⟨some 18, (Op.move (Operand.tmp 48)), 3, none⟩]))))
def c_peers_May : SF := ⟨49, [(ResultVar.tmp 4)],
  (.seq (.ops [⟨some 4, (Op.assign (Operand.const (Value.bool false))), 4, none⟩]) (.seq (.seq (.ops [⟨some 8, (Op.move (Operand.tmp 0)), 3, none⟩,
    ⟨some 9, (Op.call ⟨(Callee.value (Operand.func 37)), #[(Operand.tmp 8)], #[3]⟩), 4, none⟩,
    ⟨some 10, (Op.unOp UnOp.not 4 (Operand.tmp 9)), 4, none⟩,
    ⟨some 11, (Op.move (Operand.tmp 10)), 4, none⟩,
    ⟨some 12, (Op.move (Operand.tmp 1)), 39, some (11, false)⟩,
    ⟨some 13, (Op.call ⟨(Callee.builtin Builtin.len), #[(Operand.tmp 12)], #[39]⟩), 3, some (11, false)⟩,
    ⟨some 14, (Op.binOp BinOp.gtr 3 (Operand.tmp 13) (Operand.const (Value.int IntKind.i64 16)) 3), 4, some (11, false)⟩,
    ⟨some 15, (Op.pick (Operand.tmp 11) (Operand.const (Value.bool true)) (Operand.tmp 14)), 4, none⟩]) (.cond (Operand.tmp 15) (.seq (.ops [⟨some 4, (Op.assign (Operand.const (Value.bool false))), 4, none⟩]) .ret) .skip)) (.seq (.ops [⟨some 5, (Op.assign (Operand.const (Value.int IntKind.i64 0))), 3, none⟩]) (.seq (.seq (.ops [⟨some 16, (Op.move (Operand.tmp 1)), 39, none⟩,
    ⟨some 17, (Op.call ⟨(Callee.builtin Builtin.len), #[(Operand.tmp 16)], #[39]⟩), 3, none⟩,
    ⟨some 18, (Op.move (Operand.const (Value.int IntKind.i64 0))), 3, none⟩]) (.block 0 (.loop c_peers_May_L0))) (.seq (.ops [⟨some 4, (Op.assign (Operand.const (Value.bool true))), 4, none⟩]) .ret)))))⟩
theorem is_peers_May (c : Cfg) (h : c.lendT = []) : isF PP c 31 c_peers_May := isF_of (fn := Proofs.Try.f31) (by kernel_rfl) (by kernel_rfl) rfl h (by kernel_rfl) rfl rfl (by kernel_rfl)
def c_gimmalref1_PeersMay_L0 : SC := (.seq (.seq (.ops [⟨some 6, (Op.move (Operand.tmp 5)), 3, none⟩,
    ⟨some 7, (Op.move (Operand.tmp 1)), 39, none⟩,
    ⟨some 8, (Op.call ⟨(Callee.builtin Builtin.len), #[(Operand.tmp 7)], #[39]⟩), 3, none⟩,
    ⟨some 9, (Op.binOp BinOp.lss 3 (Operand.tmp 6) (Operand.tmp 8) 3), 4, none⟩]) (.cond (Operand.tmp 9) .skip (.exit 0))) (.seq (.block 1 (.seq (.ops [⟨some 12, (Op.move (Operand.tmp 1)), 39, none⟩,
    ⟨some 13, (Op.move (Operand.tmp 5)), 3, none⟩,
    ⟨some 14, (Op.indexAddr 39 (Operand.tmp 12) (Operand.tmp 13)), 0, none⟩,
    ⟨some 15, (Op.fieldAddr 54 (Operand.tmp 14) 0), 0, none⟩,
    ⟨some 16, (Op.load 3 (Operand.tmp 15)), 3, none⟩,
    ⟨some 17, (Op.call ⟨(Callee.value (Operand.func 41)), #[(Operand.tmp 16)], #[3]⟩), 4, none⟩,
    ⟨some 18, (Op.unOp UnOp.not 4 (Operand.tmp 17)), 4, none⟩,
    ⟨some 19, (Op.move (Operand.tmp 18)), 4, none⟩,
    ⟨some 20, (Op.move (Operand.tmp 1)), 39, some (19, false)⟩,
    ⟨some 21, (Op.move (Operand.tmp 5)), 3, some (19, false)⟩,
    ⟨some 22, (Op.indexAddr 39 (Operand.tmp 20) (Operand.tmp 21)), 0, some (19, false)⟩,
    ⟨some 23, (Op.fieldAddr 54 (Operand.tmp 22) 0), 0, some (19, false)⟩,
    ⟨some 24, (Op.load 3 (Operand.tmp 23)), 3, some (19, false)⟩,
    ⟨some 25, (Op.move (Operand.tmp 0)), 3, some (19, false)⟩,
    ⟨some 26, (Op.binOp BinOp.eql 3 (Operand.tmp 24) (Operand.tmp 25) 3), 4, some (19, false)⟩,
    ⟨some 27, (Op.pick (Operand.tmp 19) (Operand.const (Value.bool true)) (Operand.tmp 26)), 4, none⟩,
    ⟨some 28, (Op.move (Operand.tmp 27)), 4, none⟩,
    ⟨some 29, (Op.move (Operand.tmp 1)), 39, some (28, false)⟩,
    ⟨some 30, (Op.move (Operand.tmp 5)), 3, some (28, false)⟩,
    ⟨some 31, (Op.indexAddr 39 (Operand.tmp 29) (Operand.tmp 30)), 0, some (28, false)⟩,
    ⟨some 32, (Op.fieldAddr 54 (Operand.tmp 31) 1), 0, some (28, false)⟩,
    ⟨some 33, (Op.load 3 (Operand.tmp 32)), 3, some (28, false)⟩,
    ⟨some 34, (Op.binOp BinOp.lss 3 (Operand.tmp 33) (Operand.const (Value.int IntKind.i64 0)) 3), 4, some (28, false)⟩,
    ⟨some 35, (Op.pick (Operand.tmp 28) (Operand.const (Value.bool true)) (Operand.tmp 34)), 4, none⟩,
    ⟨some 36, (Op.move (Operand.tmp 35)), 4, none⟩,
    ⟨some 37, (Op.move (Operand.tmp 1)), 39, some (36, false)⟩,
    ⟨some 38, (Op.move (Operand.tmp 5)), 3, some (36, false)⟩,
    ⟨some 39, (Op.indexAddr 39 (Operand.tmp 37) (Operand.tmp 38)), 0, some (36, false)⟩,
    ⟨some 40, (Op.fieldAddr 54 (Operand.tmp 39) 1), 0, some (36, false)⟩,
    ⟨some 41, (Op.load 3 (Operand.tmp 40)), 3, some (36, false)⟩,
    ⟨some 42, (Op.binOp BinOp.geq 3 (Operand.tmp 41) (Operand.const (Value.int IntKind.i64 3)) 3), 4, some (36, false)⟩,
    ⟨some 43, (Op.pick (Operand.tmp 36) (Operand.const (Value.bool true)) (Operand.tmp 42)), 4, none⟩,
    ⟨some 44, (Op.move (Operand.tmp 43)), 4, none⟩,
    ⟨some 45, (Op.move (Operand.tmp 5)), 3, some (44, false)⟩,
    ⟨some 46, (Op.binOp BinOp.gtr 3 (Operand.tmp 45) (Operand.const (Value.int IntKind.i64 0)) 3), 4, some (44, false)⟩,
    ⟨some 47, (Op.move (Operand.tmp 46)), 4, some (44, false)⟩,
    ⟨some 48, (Op.move (Operand.tmp 0)), 3, some (47, true)⟩,
    ⟨some 49, (Op.move (Operand.tmp 1)), 39, some (47, true)⟩,
    ⟨some 50, (Op.move (Operand.tmp 5)), 3, some (47, true)⟩,
    ⟨some 51, (Op.binOp BinOp.sub 3 (Operand.tmp 50) (Operand.const (Value.int IntKind.i64 1)) 3), 3, some (47, true)⟩,
    ⟨some 52, (Op.indexAddr 39 (Operand.tmp 49) (Operand.tmp 51)), 0, some (47, true)⟩,
    ⟨some 53, (Op.fieldAddr 54 (Operand.tmp 52) 0), 0, some (47, true)⟩,
    ⟨some 54, (Op.load 3 (Operand.tmp 53)), 3, some (47, true)⟩,
    ⟨some 55, (Op.call ⟨(Callee.value (Operand.func 50)), #[(Operand.tmp 48), (Operand.tmp 54)], #[3, 3]⟩), 3, some (47, true)⟩,
    ⟨some 56, (Op.move (Operand.tmp 0)), 3, some (47, true)⟩,
    ⟨some 57, (Op.move (Operand.tmp 1)), 39, some (47, true)⟩,
    ⟨some 58, (Op.move (Operand.tmp 5)), 3, some (47, true)⟩,
    ⟨some 59, (Op.indexAddr 39 (Operand.tmp 57) (Operand.tmp 58)), 0, some (47, true)⟩,
    ⟨some 60, (Op.fieldAddr 54 (Operand.tmp 59) 0), 0, some (47, true)⟩,
    ⟨some 61, (Op.load 3 (Operand.tmp 60)), 3, some (47, true)⟩,
    ⟨some 62, (Op.call ⟨(Callee.value (Operand.func 50)), #[(Operand.tmp 56), (Operand.tmp 61)], #[3, 3]⟩), 3, some (47, true)⟩,
    ⟨some 63, (Op.binOp BinOp.geq 3 (Operand.tmp 55) (Operand.tmp 62) 3), 4, some (47, true)⟩,
    ⟨some 64, (Op.pick (Operand.tmp 47) (Operand.tmp 63) (Operand.const (Value.bool false))), 4, some (44, false)⟩,
    ⟨some 65, (Op.pick (Operand.tmp 44) (Operand.const (Value.bool true)) (Operand.tmp 64)), 4, none⟩]) (.cond (Operand.tmp 65) (.seq (.ops [⟨some 4, (Op.assign (Operand.const (Value.bool false))), 4, none⟩]) .ret) .skip))) (.ops [⟨some 10, (Op.move (Operand.tmp 5)), 3, none⟩,
    ⟨some 11, (Op.binOp BinOp.add 3 (Operand.tmp 10) (Operand.const (Value.int IntKind.i64 1)) 3), 3, none⟩,
    ⟨some 5, (Op.assign (Operand.tmp 11)), 3, none⟩])))
def c_gimmalref1_PeersMay : SF := ⟨73, [(ResultVar.tmp 4)],
  (.seq (.ops [⟨some 4, (Op.assign (Operand.const (Value.bool false))), 4, none⟩]) (.seq (.seq (.ops [⟨some 5, (Op.assign (Operand.const (Value.int IntKind.i64 0))), 3, none⟩]) (.block 0 (.loop c_gimmalref1_PeersMay_L0))) (.seq (.ops [⟨some 66, (Op.move (Operand.tmp 0)), 3, none⟩,
    ⟨some 67, (Op.call ⟨(Callee.value (Operand.func 41)), #[(Operand.tmp 66)], #[3]⟩), 4, none⟩,
    ⟨some 68, (Op.move (Operand.tmp 67)), 4, none⟩,
    ⟨some 69, (Op.move (Operand.tmp 1)), 39, some (68, true)⟩,
    ⟨some 70, (Op.call ⟨(Callee.builtin Builtin.len), #[(Operand.tmp 69)], #[39]⟩), 3, some (68, true)⟩,
    ⟨some 71, (Op.binOp BinOp.leq 3 (Operand.tmp 70) (Operand.const (Value.int IntKind.i64 16)) 3), 4, some (68, true)⟩,
    ⟨some 72, (Op.pick (Operand.tmp 68) (Operand.tmp 71) (Operand.const (Value.bool false))), 4, none⟩,
    ⟨some 4, (Op.assign (Operand.tmp 72)), 4, none⟩]) .ret)))⟩
theorem is_gimmalref1_PeersMay (c : Cfg) (h : c.lendT = []) : isF PP c 32 c_gimmalref1_PeersMay := isF_of (fn := Proofs.Try.f32) (by kernel_rfl) (by kernel_rfl) rfl h (by kernel_rfl) rfl rfl (by kernel_rfl)
def c_gimmallaw0_SpoilPeers_L0 : SC := (.seq (.seq (.ops [⟨some 3, (Op.move (Operand.tmp 2)), 3, none⟩,
    ⟨some 4, (Op.move (Operand.tmp 0)), 39, none⟩,
    ⟨some 5, (Op.call ⟨(Callee.builtin Builtin.len), #[(Operand.tmp 4)], #[39]⟩), 3, none⟩,
    ⟨some 6, (Op.binOp BinOp.lss 3 (Operand.tmp 3) (Operand.tmp 5) 3), 4, none⟩]) (.cond (Operand.tmp 6) .skip (.exit 0))) (.seq (.block 1 (.ops [⟨some 9, (Op.move (Operand.tmp 0)), 39, none⟩,
    ⟨some 10, (Op.move (Operand.tmp 2)), 3, none⟩,
    ⟨some 11, (Op.move (Operand.tmp 0)), 39, none⟩,
    ⟨some 12, (Op.move (Operand.tmp 2)), 3, none⟩,
    ⟨some 13, (Op.indexAddr 39 (Operand.tmp 11) (Operand.tmp 12)), 0, none⟩,
    ⟨some 14, (Op.fieldAddr 54 (Operand.tmp 13) 1), 0, none⟩,
    ⟨some 15, (Op.load 3 (Operand.tmp 14)), 3, none⟩,
    ⟨some 16, (Op.binOp BinOp.xor 3 (Operand.tmp 15) (Operand.const (Value.int IntKind.i64 90)) 3), 3, none⟩,
    ⟨some 17, (Op.indexAddr 39 (Operand.tmp 9) (Operand.tmp 10)), 0, none⟩,
    ⟨some 18, (Op.fieldAddr 54 (Operand.tmp 17) 1), 0, none⟩,
    ⟨none, (Op.store 3 (Operand.tmp 18) (Operand.tmp 16)), 0, none⟩])) (.ops [⟨some 7, (Op.move (Operand.tmp 2)), 3, none⟩,
    ⟨some 8, (Op.binOp BinOp.add 3 (Operand.tmp 7) (Operand.const (Value.int IntKind.i64 1)) 3), 3, none⟩,
    ⟨some 2, (Op.assign (Operand.tmp 8)), 3, none⟩])))
def c_gimmallaw0_SpoilPeers : SF := ⟨19, [],
  (.seq (.ops [⟨some 2, (Op.assign (Operand.const (Value.int IntKind.i64 0))), 3, none⟩]) (.block 0 (.loop c_gimmallaw0_SpoilPeers_L0)))⟩
theorem is_gimmallaw0_SpoilPeers (c : Cfg) (h : c.lendT = []) : isF PP c 33 c_gimmallaw0_SpoilPeers := isF_of (fn := Proofs.Try.f33) (by kernel_rfl) (by kernel_rfl) rfl h (by kernel_rfl) rfl rfl (by kernel_rfl)
def c_gimmallaw0_KeptPeers : SF := ⟨33, [(ResultVar.tmp 4)],
  (.seq (.ops [⟨some 4, (Op.assign (Operand.const (Value.bool false))), 4, none⟩]) (.seq (.ops [⟨some 6, (Op.move (Operand.tmp 0)), 39, none⟩,
    ⟨some 7, (Op.move (Operand.tmp 0)), 39, none⟩,
    ⟨some 8, (Op.call ⟨(Callee.builtin Builtin.len), #[(Operand.tmp 7)], #[39]⟩), 3, none⟩,
    ⟨some 9, (Op.binOp BinOp.add 3 (Operand.tmp 8) (Operand.const (Value.int IntKind.i64 2)) 3), 3, none⟩,
    ⟨some 10, (Op.slice 39 (Operand.tmp 6) none (some (Operand.tmp 9)) none), 39, none⟩,
    ⟨some 5, (Op.assign (Operand.tmp 10)), 39, none⟩]) (.seq (.ops [⟨some 11, (Op.move (Operand.tmp 0)), 39, none⟩,
    ⟨some 12, (Op.move (Operand.tmp 1)), 39, none⟩,
    ⟨some 13, (Op.call ⟨(Callee.value (Operand.func 30)), #[(Operand.tmp 11), (Operand.tmp 12)], #[39, 39]⟩), 4, none⟩,
    ⟨some 14, (Op.move (Operand.tmp 13)), 4, none⟩,
    ⟨some 15, (Op.move (Operand.tmp 5)), 39, some (14, true)⟩,
    ⟨some 16, (Op.move (Operand.tmp 1)), 39, some (14, true)⟩,
    ⟨some 17, (Op.call ⟨(Callee.builtin Builtin.len), #[(Operand.tmp 16)], #[39]⟩), 3, some (14, true)⟩,
    ⟨some 18, (Op.indexAddr 39 (Operand.tmp 15) (Operand.tmp 17)), 0, some (14, true)⟩,
    ⟨some 19, (Op.load 54 (Operand.tmp 18)), 54, some (14, true)⟩,
    ⟨some 20, (Op.build 54 #[(1, (Operand.const (Value.int IntKind.i64 77777)))]), 54, some (14, true)⟩,
    ⟨some 21, (Op.binOp BinOp.eql 54 (Operand.tmp 19) (Operand.tmp 20) 54), 4, some (14, true)⟩,
    ⟨some 22, (Op.pick (Operand.tmp 14) (Operand.tmp 21) (Operand.const (Value.bool false))), 4, none⟩,
    ⟨some 23, (Op.move (Operand.tmp 22)), 4, none⟩,
    ⟨some 24, (Op.move (Operand.tmp 5)), 39, some (23, true)⟩,
    ⟨some 25, (Op.move (Operand.tmp 1)), 39, some (23, true)⟩,
    ⟨some 26, (Op.call ⟨(Callee.builtin Builtin.len), #[(Operand.tmp 25)], #[39]⟩), 3, some (23, true)⟩,
    ⟨some 27, (Op.binOp BinOp.add 3 (Operand.tmp 26) (Operand.const (Value.int IntKind.i64 1)) 3), 3, some (23, true)⟩,
    ⟨some 28, (Op.indexAddr 39 (Operand.tmp 24) (Operand.tmp 27)), 0, some (23, true)⟩,
    ⟨some 29, (Op.load 54 (Operand.tmp 28)), 54, some (23, true)⟩,
    ⟨some 30, (Op.build 54 #[(1, (Operand.const (Value.int IntKind.i64 77777)))]), 54, some (23, true)⟩,
    ⟨some 31, (Op.binOp BinOp.eql 54 (Operand.tmp 29) (Operand.tmp 30) 54), 4, some (23, true)⟩,
    ⟨some 32, (Op.pick (Operand.tmp 23) (Operand.tmp 31) (Operand.const (Value.bool false))), 4, none⟩,
    ⟨some 4, (Op.assign (Operand.tmp 32)), 4, none⟩]) .ret)))⟩
theorem is_gimmallaw0_KeptPeers (c : Cfg) (h : c.lendT = []) : isF PP c 34 c_gimmallaw0_KeptPeers := isF_of (fn := Proofs.Try.f34) (by kernel_rfl) (by kernel_rfl) rfl h (by kernel_rfl) rfl rfl (by kernel_rfl)
def c_gimmallaw7_awake : SF := ⟨97, [(ResultVar.tmp 0)],
  (.seq (.ops [⟨some 0, (Op.assign (Operand.const (Value.bool false))), 4, none⟩]) (.seq (.ops [⟨some 14, (Op.build 54 #[(0, (Operand.const (Value.int IntKind.i64 101))), (1, (Operand.const (Value.int IntKind.i64 2)))]), 54, none⟩,
    ⟨some 15, (Op.build 54 #[(0, (Operand.const (Value.int IntKind.i64 90))), (1, (Operand.const (Value.int IntKind.i64 1)))]), 54, none⟩,
    ⟨some 16, (Op.buildSlice 39 2 #[(0, (Operand.tmp 14)), (1, (Operand.tmp 15))]), 39, none⟩,
    ⟨some 1, (Op.assign (Operand.tmp 16)), 39, none⟩]) (.seq (.ops [⟨some 18, (Op.move (Operand.tmp 1)), 39, none⟩,
    ⟨some 19, (Op.call ⟨(Callee.value (Operand.func 26)), #[(Operand.const (Value.int IntKind.i64 100)), (Operand.tmp 18), (Operand.const (Value.int IntKind.i64 200))], #[3, 39, 3]⟩), 41, none⟩,
    ⟨some 17, (Op.move (Operand.tmp 19)), 41, none⟩,
    ⟨some 20, (Op.extract (Operand.tmp 17) 0), 39, none⟩,
    ⟨some 21, (Op.extract (Operand.tmp 17) 1), 24, none⟩,
    ⟨some 2, (Op.assign (Operand.tmp 20)), 39, none⟩,
    ⟨some 3, (Op.assign (Operand.tmp 21)), 24, none⟩]) (.seq (.ops [⟨some 23, (Op.move (Operand.tmp 1)), 39, none⟩,
    ⟨some 24, (Op.call ⟨(Callee.value (Operand.func 26)), #[(Operand.const (Value.int IntKind.i64 100)), (Operand.tmp 23), (Operand.const (Value.int IntKind.i64 90))], #[3, 39, 3]⟩), 41, none⟩,
    ⟨some 22, (Op.move (Operand.tmp 24)), 41, none⟩,
    ⟨some 25, (Op.extract (Operand.tmp 22) 0), 39, none⟩,
    ⟨some 26, (Op.extract (Operand.tmp 22) 1), 24, none⟩,
    ⟨some 4, (Op.assign (Operand.tmp 25)), 39, none⟩,
    ⟨some 5, (Op.assign (Operand.tmp 26)), 24, none⟩]) (.seq (.ops [⟨some 28, (Op.move (Operand.tmp 1)), 39, none⟩,
    ⟨some 29, (Op.call ⟨(Callee.value (Operand.func 28)), #[(Operand.const (Value.int IntKind.i64 100)), (Operand.tmp 28)], #[3, 39]⟩), 45, none⟩,
    ⟨some 27, (Op.move (Operand.tmp 29)), 45, none⟩,
    ⟨some 30, (Op.extract (Operand.tmp 27) 0), 39, none⟩,
    ⟨some 31, (Op.extract (Operand.tmp 27) 1), 22, none⟩,
    ⟨some 32, (Op.extract (Operand.tmp 27) 2), 24, none⟩,
    ⟨some 6, (Op.assign (Operand.tmp 30)), 39, none⟩,
    ⟨some 7, (Op.assign (Operand.tmp 31)), 22, none⟩,
    ⟨some 8, (Op.assign (Operand.tmp 32)), 24, none⟩]) (.seq (.ops [⟨some 34, (Op.move (Operand.tmp 1)), 39, none⟩,
    ⟨some 35, (Op.call ⟨(Callee.value (Operand.func 26)), #[(Operand.const (Value.int IntKind.i64 100)), (Operand.tmp 34), (Operand.const (Value.int IntKind.i64 100))], #[3, 39, 3]⟩), 41, none⟩,
    ⟨some 33, (Op.move (Operand.tmp 35)), 41, none⟩,
    ⟨some 36, (Op.extract (Operand.tmp 33) 0), 39, none⟩,
    ⟨some 37, (Op.extract (Operand.tmp 33) 1), 24, none⟩,
    ⟨some 9, (Op.assign (Operand.tmp 36)), 39, none⟩,
    ⟨some 10, (Op.assign (Operand.tmp 37)), 24, none⟩]) (.seq (.ops [⟨some 39, (Op.move (Operand.tmp 1)), 39, none⟩,
    ⟨some 40, (Op.call ⟨(Callee.value (Operand.func 28)), #[(Operand.const (Value.int IntKind.i64 90)), (Operand.tmp 39)], #[3, 39]⟩), 45, none⟩,
    ⟨some 38, (Op.move (Operand.tmp 40)), 45, none⟩,
    ⟨some 41, (Op.extract (Operand.tmp 38) 0), 39, none⟩,
    ⟨some 42, (Op.extract (Operand.tmp 38) 1), 22, none⟩,
    ⟨some 43, (Op.extract (Operand.tmp 38) 2), 24, none⟩,
    ⟨some 11, (Op.assign (Operand.tmp 41)), 39, none⟩,
    ⟨some 12, (Op.assign (Operand.tmp 42)), 22, none⟩,
    ⟨some 13, (Op.assign (Operand.tmp 43)), 24, none⟩]) (.seq (.ops [⟨some 44, (Op.move (Operand.tmp 2)), 39, none⟩,
    ⟨some 45, (Op.build 54 #[(0, (Operand.const (Value.int IntKind.i64 101))), (1, (Operand.const (Value.int IntKind.i64 2)))]), 54, none⟩,
    ⟨some 46, (Op.build 54 #[(0, (Operand.const (Value.int IntKind.i64 200)))]), 54, none⟩,
    ⟨some 47, (Op.build 54 #[(0, (Operand.const (Value.int IntKind.i64 90))), (1, (Operand.const (Value.int IntKind.i64 1)))]), 54, none⟩,
    ⟨some 48, (Op.buildSlice 39 3 #[(0, (Operand.tmp 45)), (1, (Operand.tmp 46)), (2, (Operand.tmp 47))]), 39, none⟩,
    ⟨some 49, (Op.call ⟨(Callee.value (Operand.func 30)), #[(Operand.tmp 44), (Operand.tmp 48)], #[39, 39]⟩), 4, none⟩,
    ⟨some 50, (Op.move (Operand.tmp 49)), 4, none⟩,
    ⟨some 51, (Op.move (Operand.tmp 3)), 24, some (50, true)⟩,
    ⟨some 52, (Op.call ⟨(Callee.value (Operand.func 19)), #[(Operand.tmp 51)], #[24]⟩), 3, some (50, true)⟩,
    ⟨some 53, (Op.binOp BinOp.eql 3 (Operand.tmp 52) (Operand.const (Value.int IntKind.i64 0)) 3), 4, some (50, true)⟩,
    ⟨some 54, (Op.pick (Operand.tmp 50) (Operand.tmp 53) (Operand.const (Value.bool false))), 4, none⟩,
    ⟨some 55, (Op.move (Operand.tmp 54)), 4, none⟩,
    ⟨some 56, (Op.move (Operand.tmp 4)), 39, some (55, true)⟩,
    ⟨some 57, (Op.build 54 #[(0, (Operand.const (Value.int IntKind.i64 101))), (1, (Operand.const (Value.int IntKind.i64 2)))]), 54, some (55, true)⟩,
    ⟨some 58, (Op.build 54 #[(0, (Operand.const (Value.int IntKind.i64 90)))]), 54, some (55, true)⟩,
    ⟨some 59, (Op.buildSlice 39 2 #[(0, (Operand.tmp 57)), (1, (Operand.tmp 58))]), 39, some (55, true)⟩,
    ⟨some 60, (Op.call ⟨(Callee.value (Operand.func 30)), #[(Operand.tmp 56), (Operand.tmp 59)], #[39, 39]⟩), 4, some (55, true)⟩,
    ⟨some 61, (Op.pick (Operand.tmp 55) (Operand.tmp 60) (Operand.const (Value.bool false))), 4, none⟩,
    ⟨some 62, (Op.move (Operand.tmp 61)), 4, none⟩,
    ⟨some 63, (Op.move (Operand.tmp 5)), 24, some (62, true)⟩,
    ⟨some 64, (Op.call ⟨(Callee.value (Operand.func 19)), #[(Operand.tmp 63)], #[24]⟩), 3, some (62, true)⟩,
    ⟨some 65, (Op.binOp BinOp.eql 3 (Operand.tmp 64) (Operand.const (Value.int IntKind.i64 0)) 3), 4, some (62, true)⟩,
    ⟨some 66, (Op.pick (Operand.tmp 62) (Operand.tmp 65) (Operand.const (Value.bool false))), 4, none⟩,
    ⟨some 67, (Op.move (Operand.tmp 66)), 4, none⟩,
    ⟨some 68, (Op.move (Operand.tmp 6)), 39, some (67, true)⟩,
    ⟨some 69, (Op.build 54 #[(0, (Operand.const (Value.int IntKind.i64 90))), (1, (Operand.const (Value.int IntKind.i64 2)))]), 54, some (67, true)⟩,
    ⟨some 70, (Op.buildSlice 39 1 #[(0, (Operand.tmp 69))]), 39, some (67, true)⟩,
    ⟨some 71, (Op.call ⟨(Callee.value (Operand.func 30)), #[(Operand.tmp 68), (Operand.tmp 70)], #[39, 39]⟩), 4, some (67, true)⟩,
    ⟨some 72, (Op.pick (Operand.tmp 67) (Operand.tmp 71) (Operand.const (Value.bool false))), 4, none⟩,
    ⟨some 73, (Op.move (Operand.tmp 72)), 4, none⟩,
    ⟨some 74, (Op.move (Operand.tmp 7)), 22, some (73, true)⟩,
    ⟨some 75, (Op.buildSlice 22 1 #[(0, (Operand.const (Value.int IntKind.i64 101)))]), 22, some (73, true)⟩,
    ⟨some 76, (Op.call ⟨(Callee.value (Operand.func 18)), #[(Operand.tmp 74), (Operand.tmp 75)], #[22, 22]⟩), 4, some (73, true)⟩,
    ⟨some 77, (Op.pick (Operand.tmp 73) (Operand.tmp 76) (Operand.const (Value.bool false))), 4, none⟩,
    ⟨some 78, (Op.move (Operand.tmp 77)), 4, none⟩,
    ⟨some 79, (Op.move (Operand.tmp 8)), 24, some (78, true)⟩,
    ⟨some 80, (Op.call ⟨(Callee.value (Operand.func 19)), #[(Operand.tmp 79)], #[24]⟩), 3, some (78, true)⟩,
    ⟨some 81, (Op.binOp BinOp.eql 3 (Operand.tmp 80) (Operand.const (Value.int IntKind.i64 0)) 3), 4, some (78, true)⟩,
    ⟨some 82, (Op.pick (Operand.tmp 78) (Operand.tmp 81) (Operand.const (Value.bool false))), 4, none⟩,
    ⟨some 83, (Op.move (Operand.tmp 82)), 4, none⟩,
    ⟨some 84, (Op.move (Operand.tmp 10)), 24, some (83, true)⟩,
    ⟨some 85, (Op.call ⟨(Callee.value (Operand.func 19)), #[(Operand.tmp 84)], #[24]⟩), 3, some (83, true)⟩,
    ⟨some 86, (Op.binOp BinOp.eql 3 (Operand.tmp 85) (Operand.const (Value.int IntKind.i64 700)) 3), 4, some (83, true)⟩,
    ⟨some 87, (Op.pick (Operand.tmp 83) (Operand.tmp 86) (Operand.const (Value.bool false))), 4, none⟩,
    ⟨some 88, (Op.move (Operand.tmp 87)), 4, none⟩,
    ⟨some 89, (Op.move (Operand.tmp 13)), 24, some (88, true)⟩,
    ⟨some 90, (Op.call ⟨(Callee.value (Operand.func 19)), #[(Operand.tmp 89)], #[24]⟩), 3, some (88, true)⟩,
    ⟨some 91, (Op.binOp BinOp.eql 3 (Operand.tmp 90) (Operand.const (Value.int IntKind.i64 700)) 3), 4, some (88, true)⟩,
    ⟨some 92, (Op.pick (Operand.tmp 88) (Operand.tmp 91) (Operand.const (Value.bool false))), 4, none⟩,
    ⟨some 93, (Op.move (Operand.tmp 92)), 4, none⟩,
    ⟨some 94, (Op.move (Operand.tmp 1)), 39, some (93, true)⟩,
    ⟨some 95, (Op.call ⟨(Callee.value (Operand.func 31)), #[(Operand.const (Value.int IntKind.i64 100)), (Operand.tmp 94)], #[3, 39]⟩), 4, some (93, true)⟩,
    ⟨some 96, (Op.pick (Operand.tmp 93) (Operand.tmp 95) (Operand.const (Value.bool false))), 4, none⟩,
    ⟨some 0, (Op.assign (Operand.tmp 96)), 4, none⟩]) .ret))))))))⟩
theorem is_gimmallaw7_awake (c : Cfg) (h : c.lendT = []) : isF PP c 35 c_gimmallaw7_awake := isF_of (fn := Proofs.Try.f35) (by kernel_rfl) (by kernel_rfl) rfl h (by kernel_rfl) rfl rfl (by kernel_rfl)
def c_gimmallaw0_CopyInts : SF := ⟨6, [(ResultVar.tmp 2)],
  (.seq (.ops [⟨some 2, (Op.assign (Operand.const (Value.slice none 0 0))), 22, none⟩]) (.seq (.ops [⟨some 3, (Op.buildSlice 22 0 #[]), 22, none⟩,
    ⟨some 4, (Op.move (Operand.tmp 0)), 22, none⟩,
    ⟨some 5, (Op.call ⟨(Callee.builtin Builtin.append), #[(Operand.tmp 3), (Operand.tmp 4)], #[22, 22]⟩), 22, none⟩,
    ⟨some 2, (Op.assign (Operand.tmp 5)), 22, none⟩]) .ret))⟩
theorem is_gimmallaw0_CopyInts (c : Cfg) (h : c.lendT = []) : isF PP c 36 c_gimmallaw0_CopyInts := isF_of (fn := Proofs.Try.f36) (by kernel_rfl) (by kernel_rfl) rfl h (by kernel_rfl) rfl rfl (by kernel_rfl)
def c_ring_Place : SF := ⟨9, [(ResultVar.tmp 2)],
  (.seq (.ops [⟨some 2, (Op.assign (Operand.const (Value.bool false))), 4, none⟩]) (.seq (.ops [⟨some 3, (Op.move (Operand.tmp 0)), 3, none⟩,
    ⟨some 4, (Op.binOp BinOp.geq 3 (Operand.tmp 3) (Operand.const (Value.int IntKind.i64 0)) 3), 4, none⟩,
    ⟨some 5, (Op.move (Operand.tmp 4)), 4, none⟩,
    ⟨some 6, (Op.move (Operand.tmp 0)), 3, some (5, true)⟩,
    ⟨some 7, (Op.binOp BinOp.lss 3 (Operand.tmp 6) (Operand.const (Value.int IntKind.i64 256)) 3), 4, some (5, true)⟩,
    ⟨some 8, (Op.pick (Operand.tmp 5) (Operand.tmp 7) (Operand.const (Value.bool false))), 4, none⟩,
    ⟨some 2, (Op.assign (Operand.tmp 8)), 4, none⟩]) .ret))⟩
theorem is_ring_Place (c : Cfg) (h : c.lendT = []) : isF PP c 37 c_ring_Place := isF_of (fn := Proofs.Try.f37) (by kernel_rfl) (by kernel_rfl) rfl h (by kernel_rfl) rfl rfl (by kernel_rfl)
def c_slices_BinarySearch_int_int_L0 : SC := (.seq (.seq (.ops [⟨some 13, (Op.move (Operand.tmp 7)), 3, none⟩,
    ⟨some 14, (Op.move (Operand.tmp 8)), 3, none⟩,
    ⟨some 15, (Op.binOp BinOp.lss 3 (Operand.tmp 13) (Operand.tmp 14) 3), 4, none⟩]) (.cond (Operand.tmp 15) .skip (.exit 0))) (.block 1 (.seq (.ops [⟨some 16, (Op.move (Operand.tmp 7)), 3, none⟩,
    ⟨some 17, (Op.move (Operand.tmp 8)), 3, none⟩,
    ⟨some 18, (Op.binOp BinOp.add 3 (Operand.tmp 16) (Operand.tmp 17) 3), 3, none⟩,
    ⟨some 19, (Op.convert 3 38 (Operand.tmp 18)), 38, none⟩,
    ⟨some 20, (Op.binOp BinOp.shr 38 (Operand.tmp 19) (Operand.const (Value.int IntKind.u64 1)) 38), 38, none⟩,
    ⟨some 21, (Op.convert 38 3 (Operand.tmp 20)), 3, none⟩,
    ⟨some 9, (Op.assign (Operand.tmp 21)), 3, none⟩]) (.seq (.ops [⟨some 22, (Op.move (Operand.tmp 0)), 22, none⟩,
    ⟨some 23, (Op.move (Operand.tmp 9)), 3, none⟩,
    ⟨some 24, (Op.indexAddr 22 (Operand.tmp 22) (Operand.tmp 23)), 0, none⟩,
    ⟨some 25, (Op.load 3 (Operand.tmp 24)), 3, none⟩,
    ⟨some 26, (Op.move (Operand.tmp 1)), 3, none⟩,
    ⟨some 27, (Op.call ⟨(Callee.value (Operand.func 52)), #[(Operand.tmp 25), (Operand.tmp 26)], #[3, 3]⟩), 4, none⟩]) (.cond (Operand.tmp 27) (.ops [⟨some 28, (Op.move (Operand.tmp 9)), 3, none⟩,
    ⟨some 29, (Op.binOp BinOp.add 3 (Operand.tmp 28) (Operand.const (Value.int IntKind.i64 1)) 3), 3, none⟩,
    ⟨some 7, (Op.assign (Operand.tmp 29)), 3, none⟩]) (.ops [⟨some 30, (Op.move (Operand.tmp 9)), 3, none⟩,
    ⟨some 8, (Op.assign (Operand.tmp 30)), 3, none⟩]))))))
def c_slices_BinarySearch_int_int : SF := ⟨54, [(ResultVar.tmp 4), (ResultVar.tmp 5)],
  (.seq (.ops [⟨some 4, (Op.assign (Operand.const (Value.int IntKind.i64 0))), 3, none⟩,
    ⟨some 5, (Op.assign (Operand.const (Value.bool false))), 4, none⟩]) (.seq (.ops [⟨some 10, (Op.move (Operand.tmp 0)), 22, none⟩,
    ⟨some 11, (Op.call ⟨(Callee.builtin Builtin.len), #[(Operand.tmp 10)], #[22]⟩), 3, none⟩,
    ⟨some 6, (Op.assign (Operand.tmp 11)), 3, none⟩]) (.seq (.ops [⟨some 12, (Op.move (Operand.tmp 6)), 3, none⟩,
    ⟨some 7, (Op.assign (Operand.const (Value.int IntKind.i64 0))), 3, none⟩,
    ⟨some 8, (Op.assign (Operand.tmp 12)), 3, none⟩]) (.seq (.block 0 (.loop c_slices_BinarySearch_int_int_L0)) (.seq (.ops [⟨some 31, (Op.move (Operand.tmp 7)), 3, none⟩,
    ⟨some 32, (Op.move (Operand.tmp 7)), 3, none⟩,
    ⟨some 33, (Op.move (Operand.tmp 6)), 3, none⟩,
    ⟨some 34, (Op.binOp BinOp.lss 3 (Operand.tmp 32) (Operand.tmp 33) 3), 4, none⟩,
    ⟨some 35, (Op.move (Operand.tmp 34)), 4, none⟩,
    ⟨some 36, (Op.move (Operand.tmp 0)), 22, some (35, true)⟩,
    ⟨some 37, (Op.move (Operand.tmp 7)), 3, some (35, true)⟩,
    ⟨some 38, (Op.indexAddr 22 (Operand.tmp 36) (Operand.tmp 37)), 0, some (35, true)⟩,
    ⟨some 39, (Op.load 3 (Operand.tmp 38)), 3, some (35, true)⟩,
    ⟨some 40, (Op.move (Operand.tmp 1)), 3, some (35, true)⟩,
    ⟨some 41, (Op.binOp BinOp.eql 3 (Operand.tmp 39) (Operand.tmp 40) 3), 4, some (35, true)⟩,
    ⟨some 42, (Op.move (Operand.tmp 41)), 4, some (35, true)⟩,
    ⟨some 43, (Op.move (Operand.tmp 0)), 22, some (42, false)⟩,
    ⟨some 44, (Op.move (Operand.tmp 7)), 3, some (42, false)⟩,
    ⟨some 45, (Op.indexAddr 22 (Operand.tmp 43) (Operand.tmp 44)), 0, some (42, false)⟩,
    ⟨some 46, (Op.load 3 (Operand.tmp 45)), 3, some (42, false)⟩,
    ⟨some 47, (Op.call ⟨(Callee.value (Operand.func 53)), #[(Operand.tmp 46)], #[3]⟩), 4, some (42, false)⟩,
    ⟨some 48, (Op.move (Operand.tmp 47)), 4, some (42, false)⟩,
    ⟨some 49, (Op.move (Operand.tmp 1)), 3, some (48, true)⟩,
    ⟨some 50, (Op.call ⟨(Callee.value (Operand.func 53)), #[(Operand.tmp 49)], #[3]⟩), 4, some (48, true)⟩,
    ⟨some 51, (Op.pick (Operand.tmp 48) (Operand.tmp 50) (Operand.const (Value.bool false))), 4, some (42, false)⟩,
    ⟨some 52, (Op.pick (Operand.tmp 42) (Operand.const (Value.bool true)) (Operand.tmp 51)), 4, some (35, true)⟩,
    ⟨some 53, (Op.pick (Operand.tmp 35) (Operand.tmp 52) (Operand.const (Value.bool false))), 4, none⟩,
    ⟨some 4, (Op.assign (Operand.tmp 31)), 3, none⟩,
    ⟨some 5, (Op.assign (Operand.tmp 53)), 4, none⟩]) .ret)))))⟩
theorem is_slices_BinarySearch_int_int (c : Cfg) (h : c.lendT = []) : isF PP c 38 c_slices_BinarySearch_int_int := isF_of (fn := Proofs.Try.f38) (by kernel_rfl) (by kernel_rfl) rfl h (by kernel_rfl) rfl rfl (by kernel_rfl)
def c_slices_Clone_int_int : SF := ⟨8, [(ResultVar.tmp 2)],
  (.seq (.ops [⟨some 2, (Op.assign (Operand.const (Value.slice none 0 0))), 22, none⟩]) (.seq (.seq (.ops [⟨some 3, (Op.move (Operand.tmp 0)), 22, none⟩,
    ⟨some 4, (Op.binOp BinOp.eql 22 (Operand.tmp 3) (Operand.const (Value.slice none 0 0)) 22), 4, none⟩]) (.cond (Operand.tmp 4) (.seq (.ops [⟨some 2, (Op.assign (Operand.const (Value.slice none 0 0))), 22, none⟩]) .ret) .skip)) (.seq (.ops [⟨some 5, (Op.buildSlice 22 0 #[]), 22, none⟩,
    ⟨some 6, (Op.move (Operand.tmp 0)), 22, none⟩,
    ⟨some 7, (Op.call ⟨(Callee.builtin Builtin.append), #[(Operand.tmp 5), (Operand.tmp 6)], #[22, 22]⟩), 22, none⟩,
    ⟨some 2, (Op.assign (Operand.tmp 7)), 22, none⟩]) .ret)))⟩
theorem is_slices_Clone_int_int (c : Cfg) (h : c.lendT = []) : isF PP c 39 c_slices_Clone_int_int := isF_of (fn := Proofs.Try.f39) (by kernel_rfl) (by kernel_rfl) rfl h (by kernel_rfl) rfl rfl (by kernel_rfl)
def c_slices_Insert_int_int : SF := ⟨95, [(ResultVar.tmp 6)],
  (.seq (.ops [⟨some 6, (Op.assign (Operand.const (Value.slice none 0 0))), 22, none⟩]) (.seq (.ops [⟨some 10, (Op.move (Operand.tmp 0)), 22, none⟩,
    ⟨some 11, (Op.move (Operand.tmp 1)), 3, none⟩,
    ⟨some 12, (Op.slice 22 (Operand.tmp 10) (some (Operand.tmp 11)) none none), 22, none⟩]) (.seq (.ops [⟨some 13, (Op.move (Operand.tmp 2)), 22, none⟩,
    ⟨some 14, (Op.call ⟨(Callee.builtin Builtin.len), #[(Operand.tmp 13)], #[22]⟩), 3, none⟩,
    ⟨some 7, (Op.assign (Operand.tmp 14)), 3, none⟩]) (.seq (.seq (.ops [⟨some 15, (Op.move (Operand.tmp 7)), 3, none⟩,
    ⟨some 16, (Op.binOp BinOp.eql 3 (Operand.tmp 15) (Operand.const (Value.int IntKind.i64 0)) 3), 4, none⟩]) (.cond (Operand.tmp 16) (.seq (.ops [⟨some 17, (Op.move (Operand.tmp 0)), 22, none⟩,
    ⟨some 6, (Op.assign (Operand.tmp 17)), 22, none⟩]) .ret) .skip)) (.seq (.ops [⟨some 18, (Op.move (Operand.tmp 0)), 22, none⟩,
    ⟨some 19, (Op.call ⟨(Callee.builtin Builtin.len), #[(Operand.tmp 18)], #[22]⟩), 3, none⟩,
    ⟨some 8, (Op.assign (Operand.tmp 19)), 3, none⟩]) (.seq (.seq (.ops [⟨some 20, (Op.move (Operand.tmp 1)), 3, none⟩,
    ⟨some 21, (Op.move (Operand.tmp 8)), 3, none⟩,
    ⟨some 22, (Op.binOp BinOp.eql 3 (Operand.tmp 20) (Operand.tmp 21) 3), 4, none⟩]) (.cond (Operand.tmp 22) (.seq (.ops [⟨some 23, (Op.move (Operand.tmp 0)), 22, none⟩,
    ⟨some 24, (Op.move (Operand.tmp 2)), 22, none⟩,
    ⟨some 25, (Op.call ⟨(Callee.builtin Builtin.append), #[(Operand.tmp 23), (Operand.tmp 24)], #[22, 22]⟩), 22, none⟩,
    ⟨some 6, (Op.assign (Operand.tmp 25)), 22, none⟩]) .ret) .skip)) (.seq (.seq (.ops [⟨some 26, (Op.move (Operand.tmp 8)), 3, none⟩,
    ⟨some 27, (Op.move (Operand.tmp 7)), 3, none⟩,
    ⟨some 28, (Op.binOp BinOp.add 3 (Operand.tmp 26) (Operand.tmp 27) 3), 3, none⟩,
    ⟨some 29, (Op.move (Operand.tmp 0)), 22, none⟩,
    ⟨some 30, (Op.call ⟨(Callee.builtin Builtin.cap), #[(Operand.tmp 29)], #[22]⟩), 3, none⟩,
    ⟨some 31, (Op.binOp BinOp.gtr 3 (Operand.tmp 28) (Operand.tmp 30) 3), 4, none⟩]) (.cond (Operand.tmp 31) (.seq (.ops [⟨some 32, (Op.move (Operand.tmp 0)), 22, none⟩,
    ⟨some 33, (Op.move (Operand.tmp 1)), 3, none⟩,
    ⟨some 34, (Op.slice 22 (Operand.tmp 32) none (some (Operand.tmp 33)) none), 22, none⟩,
    ⟨some 35, (Op.move (Operand.tmp 8)), 3, none⟩,
    ⟨some 36, (Op.move (Operand.tmp 7)), 3, none⟩,
    ⟨some 37, (Op.binOp BinOp.add 3 (Operand.tmp 35) (Operand.tmp 36) 3), 3, none⟩,
    ⟨some 38, (Op.move (Operand.tmp 1)), 3, none⟩,
    ⟨some 39, (Op.binOp BinOp.sub 3 (Operand.tmp 37) (Operand.tmp 38) 3), 3, none⟩,
    ⟨some 40, (Op.call ⟨(Callee.builtin Builtin.append), #[(Operand.tmp 34), (Operand.tmp 39)], #[22, 3]⟩), 22, none⟩,
    ⟨some 9, (Op.assign (Operand.tmp 40)), 22, none⟩]) (.seq (.ops [⟨some 41, (Op.move (Operand.tmp 9)), 22, none⟩,
    ⟨some 42, (Op.move (Operand.tmp 1)), 3, none⟩,
    ⟨some 43, (Op.slice 22 (Operand.tmp 41) (some (Operand.tmp 42)) none none), 22, none⟩,
    ⟨some 44, (Op.move (Operand.tmp 2)), 22, none⟩,
    ⟨some 45, (Op.call ⟨(Callee.builtin Builtin.copy), #[(Operand.tmp 43), (Operand.tmp 44)], #[22, 22]⟩), 3, none⟩]) (.seq (.ops [⟨some 46, (Op.move (Operand.tmp 9)), 22, none⟩,
    ⟨some 47, (Op.move (Operand.tmp 1)), 3, none⟩,
    ⟨some 48, (Op.move (Operand.tmp 7)), 3, none⟩,
    ⟨some 51, (Op.move (Operand.tmp 0)), 22, none⟩,
    ⟨some 52, (Op.move (Operand.tmp 1)), 3, none⟩,
    ⟨some 49, (Op.binOp BinOp.add 3 (Operand.tmp 47) (Operand.tmp 48) 3), 3, none⟩,
    ⟨some 50, (Op.slice 22 (Operand.tmp 46) (some (Operand.tmp 49)) none none), 22, none⟩,
    ⟨some 53, (Op.slice 22 (Operand.tmp 51) (some (Operand.tmp 52)) none none), 22, none⟩,
    ⟨some 54, (Op.call ⟨(Callee.builtin Builtin.copy), #[(Operand.tmp 50), (Operand.tmp 53)], #[22, 22]⟩), 3, none⟩]) (.seq (.ops [⟨some 55, (Op.move (Operand.tmp 9)), 22, none⟩,
    ⟨some 6, (Op.assign (Operand.tmp 55)), 22, none⟩]) .ret)))) .skip)) (.seq (.ops [⟨some 56, (Op.move (Operand.tmp 0)), 22, none⟩,
    ⟨some 57, (Op.move (Operand.tmp 8)), 3, none⟩,
    ⟨some 58, (Op.move (Operand.tmp 7)), 3, none⟩,
    ⟨some 59, (Op.binOp BinOp.add 3 (Operand.tmp 57) (Operand.tmp 58) 3), 3, none⟩,
    ⟨some 60, (Op.slice 22 (Operand.tmp 56) none (some (Operand.tmp 59)) none), 22, none⟩,
    ⟨some 0, (Op.assign (Operand.tmp 60)), 22, none⟩]) (.seq (.seq (.ops [⟨some 61, (Op.move (Operand.tmp 2)), 22, none⟩,
    ⟨some 62, (Op.move (Operand.tmp 0)), 22, none⟩,
    ⟨some 63, (Op.move (Operand.tmp 1)), 3, none⟩,
    ⟨some 64, (Op.move (Operand.tmp 7)), 3, none⟩,
    ⟨some 65, (Op.binOp BinOp.add 3 (Operand.tmp 63) (Operand.tmp 64) 3), 3, none⟩,
    ⟨some 66, (Op.slice 22 (Operand.tmp 62) (some (Operand.tmp 65)) none none), 22, none⟩,
    ⟨some 67, (Op.call ⟨(Callee.value (Operand.func 54)), #[(Operand.tmp 61), (Operand.tmp 66)], #[22, 22]⟩), 4, none⟩,
    ⟨some 68, (Op.unOp UnOp.not 4 (Operand.tmp 67)), 4, none⟩]) (.cond (Operand.tmp 68) (.seq (.ops [⟨some 69, (Op.move (Operand.tmp 0)), 22, none⟩,
    ⟨some 70, (Op.move (Operand.tmp 1)), 3, none⟩,
    ⟨some 71, (Op.move (Operand.tmp 7)), 3, none⟩,
    ⟨some 74, (Op.move (Operand.tmp 0)), 22, none⟩,
    ⟨some 75, (Op.move (Operand.tmp 1)), 3, none⟩,
    ⟨some 72, (Op.binOp BinOp.add 3 (Operand.tmp 70) (Operand.tmp 71) 3), 3, none⟩,
    ⟨some 73, (Op.slice 22 (Operand.tmp 69) (some (Operand.tmp 72)) none none), 22, none⟩,
    ⟨some 76, (Op.slice 22 (Operand.tmp 74) (some (Operand.tmp 75)) none none), 22, none⟩,
    ⟨some 77, (Op.call ⟨(Callee.builtin Builtin.copy), #[(Operand.tmp 73), (Operand.tmp 76)], #[22, 22]⟩), 3, none⟩]) (.seq (.ops [⟨some 78, (Op.move (Operand.tmp 0)), 22, none⟩,
    ⟨some 79, (Op.move (Operand.tmp 1)), 3, none⟩,
    ⟨some 80, (Op.slice 22 (Operand.tmp 78) (some (Operand.tmp 79)) none none), 22, none⟩,
    ⟨some 81, (Op.move (Operand.tmp 2)), 22, none⟩,
    ⟨some 82, (Op.call ⟨(Callee.builtin Builtin.copy), #[(Operand.tmp 80), (Operand.tmp 81)], #[22, 22]⟩), 3, none⟩]) (.seq (.ops [⟨some 83, (Op.move (Operand.tmp 0)), 22, none⟩,
    ⟨some 6, (Op.assign (Operand.tmp 83)), 22, none⟩]) .ret))) .skip)) (.seq (.ops [⟨some 84, (Op.move (Operand.tmp 0)), 22, none⟩,
    ⟨some 85, (Op.move (Operand.tmp 8)), 3, none⟩,
    ⟨some 86, (Op.slice 22 (Operand.tmp 84) (some (Operand.tmp 85)) none none), 22, none⟩,
    ⟨some 87, (Op.move (Operand.tmp 2)), 22, none⟩,
    ⟨some 88, (Op.call ⟨(Callee.builtin Builtin.copy), #[(Operand.tmp 86), (Operand.tmp 87)], #[22, 22]⟩), 3, none⟩]) (.seq (.ops [⟨some 89, (Op.move (Operand.tmp 0)), 22, none⟩,
    ⟨some 90, (Op.move (Operand.tmp 1)), 3, none⟩,
    ⟨some 91, (Op.slice 22 (Operand.tmp 89) (some (Operand.tmp 90)) none none), 22, none⟩,
    ⟨some 92, (Op.move (Operand.tmp 7)), 3, none⟩,
    ⟨some 93, (Op.call ⟨(Callee.value (Operand.func 55)), #[(Operand.tmp 91), (Operand.tmp 92)], #[22, 3]⟩), 0, none⟩]) (.seq (.ops [⟨some 94, (Op.move (Operand.tmp 0)), 22, none⟩,
    ⟨some 6, (Op.assign (Operand.tmp 94)), 22, none⟩]) .ret))))))))))))⟩
theorem is_slices_Insert_int_int (c : Cfg) (h : c.lendT = [66]) : isF PP c 40 c_slices_Insert_int_int := isF_of (fn := Proofs.Try.f40) (by kernel_rfl) (by kernel_rfl) rfl h (by kernel_rfl) rfl rfl (by kernel_rfl)
def c_gimmalref1_PlaceMay : SF := ⟨9, [(ResultVar.tmp 2)],
  (.seq (.ops [⟨some 2, (Op.assign (Operand.const (Value.bool false))), 4, none⟩]) (.seq (.ops [⟨some 3, (Op.move (Operand.tmp 0)), 3, none⟩,
    ⟨some 4, (Op.binOp BinOp.geq 3 (Operand.tmp 3) (Operand.const (Value.int IntKind.i64 0)) 3), 4, none⟩,
    ⟨some 5, (Op.move (Operand.tmp 4)), 4, none⟩,
    ⟨some 6, (Op.move (Operand.tmp 0)), 3, some (5, true)⟩,
    ⟨some 7, (Op.binOp BinOp.lss 3 (Operand.tmp 6) (Operand.const (Value.int IntKind.i64 256)) 3), 4, some (5, true)⟩,
    ⟨some 8, (Op.pick (Operand.tmp 5) (Operand.tmp 7) (Operand.const (Value.bool false))), 4, none⟩,
    ⟨some 2, (Op.assign (Operand.tmp 8)), 4, none⟩]) .ret))⟩
theorem is_gimmalref1_PlaceMay (c : Cfg) (h : c.lendT = []) : isF PP c 41 c_gimmalref1_PlaceMay := isF_of (fn := Proofs.Try.f41) (by kernel_rfl) (by kernel_rfl) rfl h (by kernel_rfl) rfl rfl (by kernel_rfl)
def c_gimmalref1_has_L0 : SC := (.seq (.seq (.ops [⟨some 6, (Op.move (Operand.tmp 5)), 3, none⟩,
    ⟨some 7, (Op.move (Operand.tmp 0)), 22, none⟩,
    ⟨some 8, (Op.call ⟨(Callee.builtin Builtin.len), #[(Operand.tmp 7)], #[22]⟩), 3, none⟩,
    ⟨some 9, (Op.binOp BinOp.lss 3 (Operand.tmp 6) (Operand.tmp 8) 3), 4, none⟩]) (.cond (Operand.tmp 9) .skip (.exit 0))) (.seq (.block 1 (.seq (.ops [⟨some 12, (Op.move (Operand.tmp 0)), 22, none⟩,
    ⟨some 13, (Op.move (Operand.tmp 5)), 3, none⟩,
    ⟨some 14, (Op.indexAddr 22 (Operand.tmp 12) (Operand.tmp 13)), 0, none⟩,
    ⟨some 15, (Op.load 3 (Operand.tmp 14)), 3, none⟩,
    ⟨some 16, (Op.move (Operand.tmp 1)), 3, none⟩,
    ⟨some 17, (Op.binOp BinOp.eql 3 (Operand.tmp 15) (Operand.tmp 16) 3), 4, none⟩]) (.cond (Operand.tmp 17) (.seq (.ops [⟨some 4, (Op.assign (Operand.const (Value.bool true))), 4, none⟩]) .ret) .skip))) (.ops [⟨some 10, (Op.move (Operand.tmp 5)), 3, none⟩,
    ⟨some 11, (Op.binOp BinOp.add 3 (Operand.tmp 10) (Operand.const (Value.int IntKind.i64 1)) 3), 3, none⟩,
    ⟨some 5, (Op.assign (Operand.tmp 11)), 3, none⟩])))
def c_gimmalref1_has : SF := ⟨18, [(ResultVar.tmp 4)],
  (.seq (.ops [⟨some 4, (Op.assign (Operand.const (Value.bool false))), 4, none⟩]) (.seq (.seq (.ops [⟨some 5, (Op.assign (Operand.const (Value.int IntKind.i64 0))), 3, none⟩]) (.block 0 (.loop c_gimmalref1_has_L0))) (.seq (.ops [⟨some 4, (Op.assign (Operand.const (Value.bool false))), 4, none⟩]) .ret)))⟩
theorem is_gimmalref1_has (c : Cfg) (h : c.lendT = []) : isF PP c 42 c_gimmalref1_has := isF_of (fn := Proofs.Try.f42) (by kernel_rfl) (by kernel_rfl) rfl h (by kernel_rfl) rfl rfl (by kernel_rfl)
def c_passive_Without_1 : SF := ⟨7, [(ResultVar.tmp 3)],
  (.seq (.ops [⟨some 3, (Op.assign (Operand.const (Value.bool false))), 4, none⟩]) (.seq (.ops [⟨some 4, (Op.move (Operand.tmp 0)), 3, none⟩,
    ⟨some 5, (Op.load 3 (Operand.tmp 1)), 3, none⟩,
    ⟨some 6, (Op.binOp BinOp.eql 3 (Operand.tmp 4) (Operand.tmp 5) 3), 4, none⟩,
    ⟨some 3, (Op.assign (Operand.tmp 6)), 4, none⟩]) .ret))⟩
theorem is_passive_Without_1 (c : Cfg) (h : c.lendT = []) : isF PP c 43 c_passive_Without_1 := isF_of (fn := Proofs.Try.f43) (by kernel_rfl) (by kernel_rfl) rfl h (by kernel_rfl) rfl rfl (by kernel_rfl)
def c_slices_DeleteFunc_int_int_L0 : SC := (.seq (.seq (.ops [⟨some 16, (Op.move (Operand.tmp 6)), 3, none⟩,
    ⟨some 17, (Op.move (Operand.tmp 0)), 22, none⟩,
    ⟨some 18, (Op.call ⟨(Callee.builtin Builtin.len), #[(Operand.tmp 17)], #[22]⟩), 3, none⟩,
    ⟨some 19, (Op.binOp BinOp.lss 3 (Operand.tmp 16) (Operand.tmp 18) 3), 4, none⟩]) (.cond (Operand.tmp 19) .skip (.exit 0))) (.seq (.block 1 (.seq (.ops [⟨some 22, (Op.move (Operand.tmp 0)), 22, none⟩,
    ⟨some 23, (Op.move (Operand.tmp 6)), 3, none⟩,
    ⟨some 24, (Op.indexAddr 22 (Operand.tmp 22) (Operand.tmp 23)), 0, none⟩,
    ⟨some 25, (Op.load 3 (Operand.tmp 24)), 3, none⟩,
    ⟨some 7, (Op.assign (Operand.tmp 25)), 3, none⟩]) (.seq (.ops [⟨some 26, (Op.move (Operand.tmp 1)), 58, none⟩,
    ⟨some 27, (Op.move (Operand.tmp 7)), 3, none⟩,
    ⟨some 28, (Op.call ⟨(Callee.value (Operand.tmp 26)), #[(Operand.tmp 27)], #[3]⟩), 4, none⟩,
    ⟨some 29, (Op.unOp UnOp.not 4 (Operand.tmp 28)), 4, none⟩]) (.cond (Operand.tmp 29) (.seq (.ops [⟨some 30, (Op.move (Operand.tmp 0)), 22, none⟩,
    ⟨some 31, (Op.move (Operand.tmp 5)), 3, none⟩,
    ⟨some 32, (Op.move (Operand.tmp 7)), 3, none⟩,
    ⟨some 33, (Op.indexAddr 22 (Operand.tmp 30) (Operand.tmp 31)), 0, none⟩,
    ⟨none, (Op.store 3 (Operand.tmp 33) (Operand.tmp 32)), 0, none⟩]) (.ops [⟨some 34, (Op.move (Operand.tmp 5)), 3, none⟩,
    ⟨some 35, (Op.binOp BinOp.add 3 (Operand.tmp 34) (Operand.const (Value.int IntKind.i64 1)) 3), 3, none⟩,
    ⟨some 5, (Op.assign (Operand.tmp 35)), 3, none⟩])) .skip)))) (.ops [⟨some 20, (Op.move (Operand.tmp 6)), 3, none⟩,
    ⟨some 21, (Op.binOp BinOp.add 3 (Operand.tmp 20) (Operand.const (Value.int IntKind.i64 1)) 3), 3, none⟩,
    ⟨some 6, (Op.assign (Operand.tmp 21)), 3, none⟩])))
def c_slices_DeleteFunc_int_int : SF := ⟨42, [(ResultVar.tmp 4)],
  (.seq (.ops [⟨some 4, (Op.assign (Operand.const (Value.slice none 0 0))), 22, none⟩]) (.seq (.ops [⟨some 8, (Op.move (Operand.tmp 0)), 22, none⟩,
    ⟨some 9, (Op.move (Operand.tmp 1)), 58, none⟩,
    ⟨some 10, (Op.call ⟨(Callee.value (Operand.func 56)), #[(Operand.tmp 8), (Operand.tmp 9)], #[22, 58]⟩), 3, none⟩,
    ⟨some 5, (Op.assign (Operand.tmp 10)), 3, none⟩]) (.seq (.seq (.ops [⟨some 11, (Op.move (Operand.tmp 5)), 3, none⟩,
    ⟨some 12, (Op.binOp BinOp.eql 3 (Operand.tmp 11) (Operand.const (Value.int IntKind.i64 (-1))) 3), 4, none⟩]) (.cond (Operand.tmp 12) (.seq (.ops [⟨some 13, (Op.move (Operand.tmp 0)), 22, none⟩,
    ⟨some 4, (Op.assign (Operand.tmp 13)), 22, none⟩]) .ret) .skip)) (.seq (.seq (.ops [⟨some 14, (Op.move (Operand.tmp 5)), 3, none⟩,
    ⟨some 15, (Op.binOp BinOp.add 3 (Operand.tmp 14) (Operand.const (Value.int IntKind.i64 1)) 3), 3, none⟩,
    ⟨some 6, (Op.assign (Operand.tmp 15)), 3, none⟩]) (.block 0 (.loop c_slices_DeleteFunc_int_int_L0))) (.seq (.ops [⟨some 36, (Op.move (Operand.tmp 0)), 22, none⟩,
    ⟨some 37, (Op.move (Operand.tmp 5)), 3, none⟩,
    ⟨some 38, (Op.slice 22 (Operand.tmp 36) (some (Operand.tmp 37)) none none), 22, none⟩,
    ⟨none, (Op.call ⟨(Callee.builtin Builtin.clear), #[(Operand.tmp 38)], #[22]⟩), 0, none⟩]) (.seq (.ops [⟨some 39, (Op.move (Operand.tmp 0)), 22, none⟩,
    ⟨some 40, (Op.move (Operand.tmp 5)), 3, none⟩,
    ⟨some 41, (Op.slice 22 (Operand.tmp 39) none (some (Operand.tmp 40)) none), 22, none⟩,
    ⟨some 4, (Op.assign (Operand.tmp 41)), 22, none⟩]) .ret))))))⟩
theorem is_slices_DeleteFunc_int_int (c : Cfg) (h : c.lendT = []) : isF PP c 44 c_slices_DeleteFunc_int_int := isF_of (fn := Proofs.Try.f44) (by kernel_rfl) (by kernel_rfl) rfl h (by kernel_rfl) rfl rfl (by kernel_rfl)
def c_gimmalref1_placesMay_L0 : SC := (.seq (.seq (.ops [⟨some 4, (Op.move (Operand.tmp 3)), 3, none⟩,
    ⟨some 5, (Op.move (Operand.tmp 0)), 22, none⟩,
    ⟨some 6, (Op.call ⟨(Callee.builtin Builtin.len), #[(Operand.tmp 5)], #[22]⟩), 3, none⟩,
    ⟨some 7, (Op.binOp BinOp.lss 3 (Operand.tmp 4) (Operand.tmp 6) 3), 4, none⟩]) (.cond (Operand.tmp 7) .skip (.exit 0))) (.seq (.block 1 (.seq (.ops [⟨some 10, (Op.move (Operand.tmp 0)), 22, none⟩,
    ⟨some 11, (Op.move (Operand.tmp 3)), 3, none⟩,
    ⟨some 12, (Op.indexAddr 22 (Operand.tmp 10) (Operand.tmp 11)), 0, none⟩,
    ⟨some 13, (Op.load 3 (Operand.tmp 12)), 3, none⟩,
    ⟨some 14, (Op.call ⟨(Callee.value (Operand.func 41)), #[(Operand.tmp 13)], #[3]⟩), 4, none⟩,
    ⟨some 15, (Op.unOp UnOp.not 4 (Operand.tmp 14)), 4, none⟩]) (.cond (Operand.tmp 15) (.seq (.ops [⟨some 2, (Op.assign (Operand.const (Value.bool false))), 4, none⟩]) .ret) .skip))) (.ops [⟨some 8, (Op.move (Operand.tmp 3)), 3, none⟩,
    ⟨some 9, (Op.binOp BinOp.add 3 (Operand.tmp 8) (Operand.const (Value.int IntKind.i64 1)) 3), 3, none⟩,
    ⟨some 3, (Op.assign (Operand.tmp 9)), 3, none⟩])))
def c_gimmalref1_placesMay : SF := ⟨16, [(ResultVar.tmp 2)],
  (.seq (.ops [⟨some 2, (Op.assign (Operand.const (Value.bool false))), 4, none⟩]) (.seq (.seq (.ops [⟨some 3, (Op.assign (Operand.const (Value.int IntKind.i64 0))), 3, none⟩]) (.block 0 (.loop c_gimmalref1_placesMay_L0))) (.seq (.ops [⟨some 2, (Op.assign (Operand.const (Value.bool true))), 4, none⟩]) .ret)))⟩
theorem is_gimmalref1_placesMay (c : Cfg) (h : c.lendT = []) : isF PP c 45 c_gimmalref1_placesMay := isF_of (fn := Proofs.Try.f45) (by kernel_rfl) (by kernel_rfl) rfl h (by kernel_rfl) rfl rfl (by kernel_rfl)
def c_gimmallaw0_CopyPeers : SF := ⟨6, [(ResultVar.tmp 2)],
  (.seq (.ops [⟨some 2, (Op.assign (Operand.const (Value.slice none 0 0))), 39, none⟩]) (.seq (.ops [⟨some 3, (Op.buildSlice 39 0 #[]), 39, none⟩,
    ⟨some 4, (Op.move (Operand.tmp 0)), 39, none⟩,
    ⟨some 5, (Op.call ⟨(Callee.builtin Builtin.append), #[(Operand.tmp 3), (Operand.tmp 4)], #[39, 39]⟩), 39, none⟩,
    ⟨some 2, (Op.assign (Operand.tmp 5)), 39, none⟩]) .ret))⟩
theorem is_gimmallaw0_CopyPeers (c : Cfg) (h : c.lendT = []) : isF PP c 46 c_gimmallaw0_CopyPeers := isF_of (fn := Proofs.Try.f46) (by kernel_rfl) (by kernel_rfl) rfl h (by kernel_rfl) rfl rfl (by kernel_rfl)
def c_slices_Clone_api_Peer_api_Peer : SF := ⟨8, [(ResultVar.tmp 2)],
  (.seq (.ops [⟨some 2, (Op.assign (Operand.const (Value.slice none 0 0))), 39, none⟩]) (.seq (.seq (.ops [⟨some 3, (Op.move (Operand.tmp 0)), 39, none⟩,
    ⟨some 4, (Op.binOp BinOp.eql 39 (Operand.tmp 3) (Operand.const (Value.slice none 0 0)) 39), 4, none⟩]) (.cond (Operand.tmp 4) (.seq (.ops [⟨some 2, (Op.assign (Operand.const (Value.slice none 0 0))), 39, none⟩]) .ret) .skip)) (.seq (.ops [⟨some 5, (Op.buildSlice 39 0 #[]), 39, none⟩,
    ⟨some 6, (Op.move (Operand.tmp 0)), 39, none⟩,
    ⟨some 7, (Op.call ⟨(Callee.builtin Builtin.append), #[(Operand.tmp 5), (Operand.tmp 6)], #[39, 39]⟩), 39, none⟩,
    ⟨some 2, (Op.assign (Operand.tmp 7)), 39, none⟩]) .ret)))⟩
theorem is_slices_Clone_api_Peer_api_Peer (c : Cfg) (h : c.lendT = []) : isF PP c 47 c_slices_Clone_api_Peer_api_Peer := isF_of (fn := Proofs.Try.f47) (by kernel_rfl) (by kernel_rfl) rfl h (by kernel_rfl) rfl rfl (by kernel_rfl)
def c_peers_Find : SF := ⟨18, [(ResultVar.tmp 6), (ResultVar.tmp 7)],
  (.seq (.ops [⟨some 6, (Op.assign (Operand.const (Value.int IntKind.i64 0))), 3, none⟩,
    ⟨some 7, (Op.assign (Operand.const (Value.bool false))), 4, none⟩]) (.seq (.ops [⟨some 9, (Op.move (Operand.tmp 0)), 3, none⟩,
    ⟨some 10, (Op.build 70 #[(0, (Operand.tmp 9))]), 70, none⟩,
    ⟨some 11, (Op.makeFunc (Fn.func 57) #[(Operand.tmp 10)] #[]), 68, none⟩,
    ⟨some 8, (Op.assign (Operand.tmp 11)), 68, none⟩]) (.seq (.ops [⟨some 12, (Op.move (Operand.tmp 1)), 39, none⟩,
    ⟨some 13, (Op.move (Operand.tmp 2)), 3, none⟩,
    ⟨some 14, (Op.move (Operand.tmp 8)), 68, none⟩,
    ⟨some 15, (Op.call ⟨(Callee.value (Operand.func 58)), #[(Operand.tmp 12), (Operand.tmp 13), (Operand.tmp 14)], #[39, 3, 68]⟩), 59, none⟩,
    ⟨some 16, (Op.extract (Operand.tmp 15) 0), 3, none⟩,
    ⟨some 17, (Op.extract (Operand.tmp 15) 1), 4, none⟩,
    ⟨some 6, (Op.assign (Operand.tmp 16)), 3, none⟩,
    ⟨some 7, (Op.assign (Operand.tmp 17)), 4, none⟩]) .ret)))⟩
theorem is_peers_Find (c : Cfg) (h : c.lendT = []) : isF PP c 48 c_peers_Find := isF_of (fn := Proofs.Try.f48) (by kernel_rfl) (by kernel_rfl) rfl h (by kernel_rfl) rfl rfl (by kernel_rfl)
def c_slices_Insert_api_Peer_api_Peer : SF := ⟨95, [(ResultVar.tmp 6)],
  (.seq (.ops [⟨some 6, (Op.assign (Operand.const (Value.slice none 0 0))), 39, none⟩]) (.seq (.ops [⟨some 10, (Op.move (Operand.tmp 0)), 39, none⟩,
    ⟨some 11, (Op.move (Operand.tmp 1)), 3, none⟩,
    ⟨some 12, (Op.slice 39 (Operand.tmp 10) (some (Operand.tmp 11)) none none), 39, none⟩]) (.seq (.ops [⟨some 13, (Op.move (Operand.tmp 2)), 39, none⟩,
    ⟨some 14, (Op.call ⟨(Callee.builtin Builtin.len), #[(Operand.tmp 13)], #[39]⟩), 3, none⟩,
    ⟨some 7, (Op.assign (Operand.tmp 14)), 3, none⟩]) (.seq (.seq (.ops [⟨some 15, (Op.move (Operand.tmp 7)), 3, none⟩,
    ⟨some 16, (Op.binOp BinOp.eql 3 (Operand.tmp 15) (Operand.const (Value.int IntKind.i64 0)) 3), 4, none⟩]) (.cond (Operand.tmp 16) (.seq (.ops [⟨some 17, (Op.move (Operand.tmp 0)), 39, none⟩,
    ⟨some 6, (Op.assign (Operand.tmp 17)), 39, none⟩]) .ret) .skip)) (.seq (.ops [⟨some 18, (Op.move (Operand.tmp 0)), 39, none⟩,
    ⟨some 19, (Op.call ⟨(Callee.builtin Builtin.len), #[(Operand.tmp 18)], #[39]⟩), 3, none⟩,
    ⟨some 8, (Op.assign (Operand.tmp 19)), 3, none⟩]) (.seq (.seq (.ops [⟨some 20, (Op.move (Operand.tmp 1)), 3, none⟩,
    ⟨some 21, (Op.move (Operand.tmp 8)), 3, none⟩,
    ⟨some 22, (Op.binOp BinOp.eql 3 (Operand.tmp 20) (Operand.tmp 21) 3), 4, none⟩]) (.cond (Operand.tmp 22) (.seq (.ops [⟨some 23, (Op.move (Operand.tmp 0)), 39, none⟩,
    ⟨some 24, (Op.move (Operand.tmp 2)), 39, none⟩,
    ⟨some 25, (Op.call ⟨(Callee.builtin Builtin.append), #[(Operand.tmp 23), (Operand.tmp 24)], #[39, 39]⟩), 39, none⟩,
    ⟨some 6, (Op.assign (Operand.tmp 25)), 39, none⟩]) .ret) .skip)) (.seq (.seq (.ops [⟨some 26, (Op.move (Operand.tmp 8)), 3, none⟩,
    ⟨some 27, (Op.move (Operand.tmp 7)), 3, none⟩,
    ⟨some 28, (Op.binOp BinOp.add 3 (Operand.tmp 26) (Operand.tmp 27) 3), 3, none⟩,
    ⟨some 29, (Op.move (Operand.tmp 0)), 39, none⟩,
    ⟨some 30, (Op.call ⟨(Callee.builtin Builtin.cap), #[(Operand.tmp 29)], #[39]⟩), 3, none⟩,
    ⟨some 31, (Op.binOp BinOp.gtr 3 (Operand.tmp 28) (Operand.tmp 30) 3), 4, none⟩]) (.cond (Operand.tmp 31) (.seq (.ops [⟨some 32, (Op.move (Operand.tmp 0)), 39, none⟩,
    ⟨some 33, (Op.move (Operand.tmp 1)), 3, none⟩,
    ⟨some 34, (Op.slice 39 (Operand.tmp 32) none (some (Operand.tmp 33)) none), 39, none⟩,
    ⟨some 35, (Op.move (Operand.tmp 8)), 3, none⟩,
    ⟨some 36, (Op.move (Operand.tmp 7)), 3, none⟩,
    ⟨some 37, (Op.binOp BinOp.add 3 (Operand.tmp 35) (Operand.tmp 36) 3), 3, none⟩,
    ⟨some 38, (Op.move (Operand.tmp 1)), 3, none⟩,
    ⟨some 39, (Op.binOp BinOp.sub 3 (Operand.tmp 37) (Operand.tmp 38) 3), 3, none⟩,
    ⟨some 40, (Op.call ⟨(Callee.builtin Builtin.append), #[(Operand.tmp 34), (Operand.tmp 39)], #[39, 3]⟩), 39, none⟩,
    ⟨some 9, (Op.assign (Operand.tmp 40)), 39, none⟩]) (.seq (.ops [⟨some 41, (Op.move (Operand.tmp 9)), 39, none⟩,
    ⟨some 42, (Op.move (Operand.tmp 1)), 3, none⟩,
    ⟨some 43, (Op.slice 39 (Operand.tmp 41) (some (Operand.tmp 42)) none none), 39, none⟩,
    ⟨some 44, (Op.move (Operand.tmp 2)), 39, none⟩,
    ⟨some 45, (Op.call ⟨(Callee.builtin Builtin.copy), #[(Operand.tmp 43), (Operand.tmp 44)], #[39, 39]⟩), 3, none⟩]) (.seq (.ops [⟨some 46, (Op.move (Operand.tmp 9)), 39, none⟩,
    ⟨some 47, (Op.move (Operand.tmp 1)), 3, none⟩,
    ⟨some 48, (Op.move (Operand.tmp 7)), 3, none⟩,
    ⟨some 51, (Op.move (Operand.tmp 0)), 39, none⟩,
    ⟨some 52, (Op.move (Operand.tmp 1)), 3, none⟩,
    ⟨some 49, (Op.binOp BinOp.add 3 (Operand.tmp 47) (Operand.tmp 48) 3), 3, none⟩,
    ⟨some 50, (Op.slice 39 (Operand.tmp 46) (some (Operand.tmp 49)) none none), 39, none⟩,
    ⟨some 53, (Op.slice 39 (Operand.tmp 51) (some (Operand.tmp 52)) none none), 39, none⟩,
    ⟨some 54, (Op.call ⟨(Callee.builtin Builtin.copy), #[(Operand.tmp 50), (Operand.tmp 53)], #[39, 39]⟩), 3, none⟩]) (.seq (.ops [⟨some 55, (Op.move (Operand.tmp 9)), 39, none⟩,
    ⟨some 6, (Op.assign (Operand.tmp 55)), 39, none⟩]) .ret)))) .skip)) (.seq (.ops [⟨some 56, (Op.move (Operand.tmp 0)), 39, none⟩,
    ⟨some 57, (Op.move (Operand.tmp 8)), 3, none⟩,
    ⟨some 58, (Op.move (Operand.tmp 7)), 3, none⟩,
    ⟨some 59, (Op.binOp BinOp.add 3 (Operand.tmp 57) (Operand.tmp 58) 3), 3, none⟩,
    ⟨some 60, (Op.slice 39 (Operand.tmp 56) none (some (Operand.tmp 59)) none), 39, none⟩,
    ⟨some 0, (Op.assign (Operand.tmp 60)), 39, none⟩]) (.seq (.seq (.ops [⟨some 61, (Op.move (Operand.tmp 2)), 39, none⟩,
    ⟨some 62, (Op.move (Operand.tmp 0)), 39, none⟩,
    ⟨some 63, (Op.move (Operand.tmp 1)), 3, none⟩,
    ⟨some 64, (Op.move (Operand.tmp 7)), 3, none⟩,
    ⟨some 65, (Op.binOp BinOp.add 3 (Operand.tmp 63) (Operand.tmp 64) 3), 3, none⟩,
    ⟨some 66, (Op.slice 39 (Operand.tmp 62) (some (Operand.tmp 65)) none none), 39, none⟩,
    ⟨some 67, (Op.call ⟨(Callee.value (Operand.func 59)), #[(Operand.tmp 61), (Operand.tmp 66)], #[39, 39]⟩), 4, none⟩,
    ⟨some 68, (Op.unOp UnOp.not 4 (Operand.tmp 67)), 4, none⟩]) (.cond (Operand.tmp 68) (.seq (.ops [⟨some 69, (Op.move (Operand.tmp 0)), 39, none⟩,
    ⟨some 70, (Op.move (Operand.tmp 1)), 3, none⟩,
    ⟨some 71, (Op.move (Operand.tmp 7)), 3, none⟩,
    ⟨some 74, (Op.move (Operand.tmp 0)), 39, none⟩,
    ⟨some 75, (Op.move (Operand.tmp 1)), 3, none⟩,
    ⟨some 72, (Op.binOp BinOp.add 3 (Operand.tmp 70) (Operand.tmp 71) 3), 3, none⟩,
    ⟨some 73, (Op.slice 39 (Operand.tmp 69) (some (Operand.tmp 72)) none none), 39, none⟩,
    ⟨some 76, (Op.slice 39 (Operand.tmp 74) (some (Operand.tmp 75)) none none), 39, none⟩,
    ⟨some 77, (Op.call ⟨(Callee.builtin Builtin.copy), #[(Operand.tmp 73), (Operand.tmp 76)], #[39, 39]⟩), 3, none⟩]) (.seq (.ops [⟨some 78, (Op.move (Operand.tmp 0)), 39, none⟩,
    ⟨some 79, (Op.move (Operand.tmp 1)), 3, none⟩,
    ⟨some 80, (Op.slice 39 (Operand.tmp 78) (some (Operand.tmp 79)) none none), 39, none⟩,
    ⟨some 81, (Op.move (Operand.tmp 2)), 39, none⟩,
    ⟨some 82, (Op.call ⟨(Callee.builtin Builtin.copy), #[(Operand.tmp 80), (Operand.tmp 81)], #[39, 39]⟩), 3, none⟩]) (.seq (.ops [⟨some 83, (Op.move (Operand.tmp 0)), 39, none⟩,
    ⟨some 6, (Op.assign (Operand.tmp 83)), 39, none⟩]) .ret))) .skip)) (.seq (.ops [⟨some 84, (Op.move (Operand.tmp 0)), 39, none⟩,
    ⟨some 85, (Op.move (Operand.tmp 8)), 3, none⟩,
    ⟨some 86, (Op.slice 39 (Operand.tmp 84) (some (Operand.tmp 85)) none none), 39, none⟩,
    ⟨some 87, (Op.move (Operand.tmp 2)), 39, none⟩,
    ⟨some 88, (Op.call ⟨(Callee.builtin Builtin.copy), #[(Operand.tmp 86), (Operand.tmp 87)], #[39, 39]⟩), 3, none⟩]) (.seq (.ops [⟨some 89, (Op.move (Operand.tmp 0)), 39, none⟩,
    ⟨some 90, (Op.move (Operand.tmp 1)), 3, none⟩,
    ⟨some 91, (Op.slice 39 (Operand.tmp 89) (some (Operand.tmp 90)) none none), 39, none⟩,
    ⟨some 92, (Op.move (Operand.tmp 7)), 3, none⟩,
    ⟨some 93, (Op.call ⟨(Callee.value (Operand.func 60)), #[(Operand.tmp 91), (Operand.tmp 92)], #[39, 3]⟩), 0, none⟩]) (.seq (.ops [⟨some 94, (Op.move (Operand.tmp 0)), 39, none⟩,
    ⟨some 6, (Op.assign (Operand.tmp 94)), 39, none⟩]) .ret))))))))))))⟩
theorem is_slices_Insert_api_Peer_api_Peer (c : Cfg) (h : c.lendT = [66]) : isF PP c 49 c_slices_Insert_api_Peer_api_Peer := isF_of (fn := Proofs.Try.f49) (by kernel_rfl) (by kernel_rfl) rfl h (by kernel_rfl) rfl rfl (by kernel_rfl)
def c_gimmalref1_far : SF := ⟨10, [(ResultVar.tmp 4)],
  (.seq (.ops [⟨some 4, (Op.assign (Operand.const (Value.int IntKind.i64 0))), 3, none⟩]) (.seq (.ops [⟨some 5, (Op.move (Operand.tmp 1)), 3, none⟩,
    ⟨some 6, (Op.move (Operand.tmp 0)), 3, none⟩,
    ⟨some 7, (Op.binOp BinOp.sub 3 (Operand.tmp 5) (Operand.tmp 6) 3), 3, none⟩,
    ⟨some 8, (Op.binOp BinOp.add 3 (Operand.tmp 7) (Operand.const (Value.int IntKind.i64 256)) 3), 3, none⟩,
    ⟨some 9, (Op.binOp BinOp.rem 3 (Operand.tmp 8) (Operand.const (Value.int IntKind.i64 256)) 3), 3, none⟩,
    ⟨some 4, (Op.assign (Operand.tmp 9)), 3, none⟩]) .ret))⟩
theorem is_gimmalref1_far (c : Cfg) (h : c.lendT = []) : isF PP c 50 c_gimmalref1_far := isF_of (fn := Proofs.Try.f50) (by kernel_rfl) (by kernel_rfl) rfl h (by kernel_rfl) rfl rfl (by kernel_rfl)
def c_ring_Far : SF := ⟨10, [(ResultVar.tmp 4)],
  (.seq (.ops [⟨some 4, (Op.assign (Operand.const (Value.int IntKind.i64 0))), 3, none⟩]) (.seq (.ops [⟨some 5, (Op.move (Operand.tmp 1)), 3, none⟩,
    ⟨some 6, (Op.move (Operand.tmp 0)), 3, none⟩,
    ⟨some 7, (Op.binOp BinOp.sub 3 (Operand.tmp 5) (Operand.tmp 6) 3), 3, none⟩,
    ⟨some 8, (Op.binOp BinOp.add 3 (Operand.tmp 7) (Operand.const (Value.int IntKind.i64 256)) 3), 3, none⟩,
    ⟨some 9, (Op.binOp BinOp.rem 3 (Operand.tmp 8) (Operand.const (Value.int IntKind.i64 256)) 3), 3, none⟩,
    ⟨some 4, (Op.assign (Operand.tmp 9)), 3, none⟩]) .ret))⟩
theorem is_ring_Far (c : Cfg) (h : c.lendT = []) : isF PP c 51 c_ring_Far := isF_of (fn := Proofs.Try.f51) (by kernel_rfl) (by kernel_rfl) rfl h (by kernel_rfl) rfl rfl (by kernel_rfl)
def c_cmp_Less_int : SF := ⟨17, [(ResultVar.tmp 4)],
  (.seq (.ops [⟨some 4, (Op.assign (Operand.const (Value.bool false))), 4, none⟩]) (.seq (.ops [⟨some 5, (Op.move (Operand.tmp 0)), 3, none⟩,
    ⟨some 6, (Op.call ⟨(Callee.value (Operand.func 61)), #[(Operand.tmp 5)], #[3]⟩), 4, none⟩,
    ⟨some 7, (Op.move (Operand.tmp 6)), 4, none⟩,
    ⟨some 8, (Op.move (Operand.tmp 1)), 3, some (7, true)⟩,
    ⟨some 9, (Op.call ⟨(Callee.value (Operand.func 61)), #[(Operand.tmp 8)], #[3]⟩), 4, some (7, true)⟩,
    ⟨some 10, (Op.unOp UnOp.not 4 (Operand.tmp 9)), 4, some (7, true)⟩,
    ⟨some 11, (Op.pick (Operand.tmp 7) (Operand.tmp 10) (Operand.const (Value.bool false))), 4, none⟩,
    ⟨some 12, (Op.move (Operand.tmp 11)), 4, none⟩,
    ⟨some 13, (Op.move (Operand.tmp 0)), 3, some (12, false)⟩,
    ⟨some 14, (Op.move (Operand.tmp 1)), 3, some (12, false)⟩,
    ⟨some 15, (Op.binOp BinOp.lss 3 (Operand.tmp 13) (Operand.tmp 14) 3), 4, some (12, false)⟩,
    ⟨some 16, (Op.pick (Operand.tmp 12) (Operand.const (Value.bool true)) (Operand.tmp 15)), 4, none⟩,
    ⟨some 4, (Op.assign (Operand.tmp 16)), 4, none⟩]) .ret))⟩
theorem is_cmp_Less_int (c : Cfg) (h : c.lendT = []) : isF PP c 52 c_cmp_Less_int := isF_of (fn := Proofs.Try.f52) (by kernel_rfl) (by kernel_rfl) rfl h (by kernel_rfl) rfl rfl (by kernel_rfl)
def c_slices_isNaN_int : SF := ⟨6, [(ResultVar.tmp 2)],
  (.seq (.ops [⟨some 2, (Op.assign (Operand.const (Value.bool false))), 4, none⟩]) (.seq (.ops [⟨some 3, (Op.move (Operand.tmp 0)), 3, none⟩,
    ⟨some 4, (Op.move (Operand.tmp 0)), 3, none⟩,
    ⟨some 5, (Op.binOp BinOp.neq 3 (Operand.tmp 3) (Operand.tmp 4) 3), 4, none⟩,
    ⟨some 2, (Op.assign (Operand.tmp 5)), 4, none⟩]) .ret))⟩
theorem is_slices_isNaN_int (c : Cfg) (h : c.lendT = []) : isF PP c 53 c_slices_isNaN_int := isF_of (fn := Proofs.Try.f53) (by kernel_rfl) (by kernel_rfl) rfl h (by kernel_rfl) rfl rfl (by kernel_rfl)
def c_slices_rotateRight_int : SF := ⟨10, [],
  (.ops [⟨some 4, (Op.move (Operand.tmp 0)), 22, none⟩,
    ⟨some 5, (Op.move (Operand.tmp 0)), 22, none⟩,
    ⟨some 6, (Op.call ⟨(Callee.builtin Builtin.len), #[(Operand.tmp 5)], #[22]⟩), 3, none⟩,
    ⟨some 7, (Op.move (Operand.tmp 1)), 3, none⟩,
    ⟨some 8, (Op.binOp BinOp.sub 3 (Operand.tmp 6) (Operand.tmp 7) 3), 3, none⟩,
    ⟨some 9, (Op.call ⟨(Callee.value (Operand.func 62)), #[(Operand.tmp 4), (Operand.tmp 8)], #[22, 3]⟩), 0, none⟩])⟩
theorem is_slices_rotateRight_int (c : Cfg) (h : c.lendT = []) : isF PP c 55 c_slices_rotateRight_int := isF_of (fn := Proofs.Try.f55) (by kernel_rfl) (by kernel_rfl) rfl h (by kernel_rfl) rfl rfl (by kernel_rfl)
def c_slices_IndexFunc_int_int_L0 : SC := (.seq (.ops [⟨some 9, (Op.binOp BinOp.lss 3 (Operand.tmp 8) (Operand.tmp 7) 3), 0, none⟩]) (.seq (.cond (Operand.tmp 9) .skip (.exit 0)) (.seq (.block 1 (.seq (.ops [⟨some 10, (Op.move (Operand.tmp 8)), 3, none⟩,
    ⟨some 5, (Op.assign (Operand.tmp 10)), 3, none⟩]) (.seq (.ops [⟨some 11, (Op.move (Operand.tmp 1)), 58, none⟩,
    ⟨some 12, (Op.move (Operand.tmp 0)), 22, none⟩,
    ⟨some 13, (Op.move (Operand.tmp 5)), 3, none⟩,
    ⟨some 14, (Op.indexAddr 22 (Operand.tmp 12) (Operand.tmp 13)), 0, none⟩,
    ⟨some 15, (Op.load 3 (Operand.tmp 14)), 3, none⟩,
    ⟨some 16, (Op.call ⟨(Callee.value (Operand.tmp 11)), #[(Operand.tmp 15)], #[3]⟩), 4, none⟩]) (.cond (Operand.tmp 16) (.seq (.ops [⟨some 17, (Op.move (Operand.tmp 5)), 3, none⟩,
    ⟨some 4, (Op.assign (Operand.tmp 17)), 3, none⟩]) .ret) .skip)))) (.ops [⟨some 18, (Op.binOp BinOp.add 3 (Operand.tmp 8) (Operand.const (Value.int IntKind.i64 1)) 3), 3, none⟩,
    ⟨some 8, (Op.move (Operand.tmp 18)), 3, none⟩]))))
def c_slices_IndexFunc_int_int : SF := ⟨19, [(ResultVar.tmp 4)],
  (.seq (.ops [⟨some 4, (Op.assign (Operand.const (Value.int IntKind.i64 0))), 3, none⟩]) (.seq (.seq (.ops [⟨some 6, (Op.move (Operand.tmp 0)), 22, none⟩,
    ⟨some 7, (Op.call ⟨(Callee.builtin Builtin.len), #[(Operand.tmp 6)], #[22]⟩), 3, none⟩,
    ⟨some 8, (Op.move (Operand.const (Value.int IntKind.i64 0))), 3, none⟩]) (.block 0 (.loop c_slices_IndexFunc_int_int_L0))) (.seq (.ops [⟨some 4, (Op.assign (Operand.const (Value.int IntKind.i64 (-1)))), 3, none⟩]) .ret)))⟩
theorem is_slices_IndexFunc_int_int (c : Cfg) (h : c.lendT = []) : isF PP c 56 c_slices_IndexFunc_int_int := isF_of (fn := Proofs.Try.f56) (by kernel_rfl) (by kernel_rfl) rfl h (by kernel_rfl) rfl rfl (by kernel_rfl)
def c_peers_order_find : SF := ⟨17, [(ResultVar.tmp 6)],
  (.seq (.ops [⟨some 3, (Op.box 70 (Operand.tmp 0)), 0, none⟩,
    ⟨some 4, (Op.box 54 (Operand.tmp 1)), 0, none⟩,
    ⟨some 6, (Op.assign (Operand.const (Value.int IntKind.i64 0))), 3, none⟩]) (.seq (.ops [⟨some 14, (Op.move (Operand.tmp 2)), 3, none⟩,
    ⟨some 7, (Op.fieldAddr 70 (Operand.tmp 3) 0), 0, none⟩,
    ⟨some 8, (Op.load 3 (Operand.tmp 7)), 3, none⟩,
    ⟨some 9, (Op.fieldAddr 54 (Operand.tmp 4) 0), 0, none⟩,
    ⟨some 10, (Op.load 3 (Operand.tmp 9)), 3, none⟩,
    ⟨some 11, (Op.call ⟨(Callee.value (Operand.func 51)), #[(Operand.tmp 8), (Operand.tmp 10)], #[3, 3]⟩), 3, none⟩,
    ⟨some 12, (Op.fieldAddr 70 (Operand.tmp 3) 0), 0, none⟩,
    ⟨some 13, (Op.load 3 (Operand.tmp 12)), 3, none⟩,
    ⟨some 15, (Op.call ⟨(Callee.value (Operand.func 51)), #[(Operand.tmp 13), (Operand.tmp 14)], #[3, 3]⟩), 3, none⟩,
    ⟨some 16, (Op.call ⟨(Callee.value (Operand.func 63)), #[(Operand.tmp 11), (Operand.tmp 15)], #[3, 3]⟩), 3, none⟩,
    ⟨some 6, (Op.assign (Operand.tmp 16)), 3, none⟩]) .ret))⟩
theorem is_peers_order_find (c : Cfg) (h : c.lendT = []) : isF PP c 57 c_peers_order_find := isF_of (fn := Proofs.Try.f57) (by kernel_rfl) (by kernel_rfl) rfl h (by kernel_rfl) rfl rfl (by kernel_rfl)
def c_slices_BinarySearchFunc_api_Peer_api_Peer_int_L0 : SC := (.seq (.seq (.ops [⟨some 15, (Op.move (Operand.tmp 9)), 3, none⟩,
    ⟨some 16, (Op.move (Operand.tmp 10)), 3, none⟩,
    ⟨some 17, (Op.binOp BinOp.lss 3 (Operand.tmp 15) (Operand.tmp 16) 3), 4, none⟩]) (.cond (Operand.tmp 17) .skip (.exit 0))) (.block 1 (.seq (.ops [⟨some 18, (Op.move (Operand.tmp 9)), 3, none⟩,
    ⟨some 19, (Op.move (Operand.tmp 10)), 3, none⟩,
    ⟨some 20, (Op.binOp BinOp.add 3 (Operand.tmp 18) (Operand.tmp 19) 3), 3, none⟩,
    ⟨some 21, (Op.convert 3 38 (Operand.tmp 20)), 38, none⟩,
    ⟨some 22, (Op.binOp BinOp.shr 38 (Operand.tmp 21) (Operand.const (Value.int IntKind.u64 1)) 38), 38, none⟩,
    ⟨some 23, (Op.convert 38 3 (Operand.tmp 22)), 3, none⟩,
    ⟨some 11, (Op.assign (Operand.tmp 23)), 3, none⟩]) (.seq (.ops [⟨some 24, (Op.move (Operand.tmp 2)), 68, none⟩,
    ⟨some 25, (Op.move (Operand.tmp 0)), 39, none⟩,
    ⟨some 26, (Op.move (Operand.tmp 11)), 3, none⟩,
    ⟨some 27, (Op.indexAddr 39 (Operand.tmp 25) (Operand.tmp 26)), 0, none⟩,
    ⟨some 28, (Op.load 54 (Operand.tmp 27)), 54, none⟩,
    ⟨some 29, (Op.move (Operand.tmp 1)), 3, none⟩,
    ⟨some 30, (Op.call ⟨(Callee.value (Operand.tmp 24)), #[(Operand.tmp 28), (Operand.tmp 29)], #[54, 3]⟩), 3, none⟩,
    ⟨some 31, (Op.binOp BinOp.lss 3 (Operand.tmp 30) (Operand.const (Value.int IntKind.i64 0)) 3), 4, none⟩]) (.cond (Operand.tmp 31) (.ops [⟨some 32, (Op.move (Operand.tmp 11)), 3, none⟩,
    ⟨some 33, (Op.binOp BinOp.add 3 (Operand.tmp 32) (Operand.const (Value.int IntKind.i64 1)) 3), 3, none⟩,
    ⟨some 9, (Op.assign (Operand.tmp 33)), 3, none⟩]) (.ops [⟨some 34, (Op.move (Operand.tmp 11)), 3, none⟩,
    ⟨some 10, (Op.assign (Operand.tmp 34)), 3, none⟩]))))))
def c_slices_BinarySearchFunc_api_Peer_api_Peer_int : SF := ⟨49, [(ResultVar.tmp 6), (ResultVar.tmp 7)],
  (.seq (.ops [⟨some 6, (Op.assign (Operand.const (Value.int IntKind.i64 0))), 3, none⟩,
    ⟨some 7, (Op.assign (Operand.const (Value.bool false))), 4, none⟩]) (.seq (.ops [⟨some 12, (Op.move (Operand.tmp 0)), 39, none⟩,
    ⟨some 13, (Op.call ⟨(Callee.builtin Builtin.len), #[(Operand.tmp 12)], #[39]⟩), 3, none⟩,
    ⟨some 8, (Op.assign (Operand.tmp 13)), 3, none⟩]) (.seq (.ops [⟨some 14, (Op.move (Operand.tmp 8)), 3, none⟩,
    ⟨some 9, (Op.assign (Operand.const (Value.int IntKind.i64 0))), 3, none⟩,
    ⟨some 10, (Op.assign (Operand.tmp 14)), 3, none⟩]) (.seq (.block 0 (.loop c_slices_BinarySearchFunc_api_Peer_api_Peer_int_L0)) (.seq (.ops [⟨some 35, (Op.move (Operand.tmp 9)), 3, none⟩,
    ⟨some 36, (Op.move (Operand.tmp 9)), 3, none⟩,
    ⟨some 37, (Op.move (Operand.tmp 8)), 3, none⟩,
    ⟨some 38, (Op.binOp BinOp.lss 3 (Operand.tmp 36) (Operand.tmp 37) 3), 4, none⟩,
    ⟨some 39, (Op.move (Operand.tmp 38)), 4, none⟩,
    ⟨some 40, (Op.move (Operand.tmp 2)), 68, some (39, true)⟩,
    ⟨some 41, (Op.move (Operand.tmp 0)), 39, some (39, true)⟩,
    ⟨some 42, (Op.move (Operand.tmp 9)), 3, some (39, true)⟩,
    ⟨some 43, (Op.indexAddr 39 (Operand.tmp 41) (Operand.tmp 42)), 0, some (39, true)⟩,
    ⟨some 44, (Op.load 54 (Operand.tmp 43)), 54, some (39, true)⟩,
    ⟨some 45, (Op.move (Operand.tmp 1)), 3, some (39, true)⟩,
    ⟨some 46, (Op.call ⟨(Callee.value (Operand.tmp 40)), #[(Operand.tmp 44), (Operand.tmp 45)], #[54, 3]⟩), 3, some (39, true)⟩,
    ⟨some 47, (Op.binOp BinOp.eql 3 (Operand.tmp 46) (Operand.const (Value.int IntKind.i64 0)) 3), 4, some (39, true)⟩,
    ⟨some 48, (Op.pick (Operand.tmp 39) (Operand.tmp 47) (Operand.const (Value.bool false))), 4, none⟩,
    ⟨some 6, (Op.assign (Operand.tmp 35)), 3, none⟩,
    ⟨some 7, (Op.assign (Operand.tmp 48)), 4, none⟩]) .ret)))))⟩
theorem is_slices_BinarySearchFunc_api_Peer_api_Peer_int (c : Cfg) (h : c.lendT = []) : isF PP c 58 c_slices_BinarySearchFunc_api_Peer_api_Peer_int := isF_of (fn := Proofs.Try.f58) (by kernel_rfl) (by kernel_rfl) rfl h (by kernel_rfl) rfl rfl (by kernel_rfl)
def c_slices_rotateRight_api_Peer : SF := ⟨10, [],
  (.ops [⟨some 4, (Op.move (Operand.tmp 0)), 39, none⟩,
    ⟨some 5, (Op.move (Operand.tmp 0)), 39, none⟩,
    ⟨some 6, (Op.call ⟨(Callee.builtin Builtin.len), #[(Operand.tmp 5)], #[39]⟩), 3, none⟩,
    ⟨some 7, (Op.move (Operand.tmp 1)), 3, none⟩,
    ⟨some 8, (Op.binOp BinOp.sub 3 (Operand.tmp 6) (Operand.tmp 7) 3), 3, none⟩,
    ⟨some 9, (Op.call ⟨(Callee.value (Operand.func 64)), #[(Operand.tmp 4), (Operand.tmp 8)], #[39, 3]⟩), 0, none⟩])⟩
theorem is_slices_rotateRight_api_Peer (c : Cfg) (h : c.lendT = []) : isF PP c 60 c_slices_rotateRight_api_Peer := isF_of (fn := Proofs.Try.f60) (by kernel_rfl) (by kernel_rfl) rfl h (by kernel_rfl) rfl rfl (by kernel_rfl)
def c_cmp_isNaN_int : SF := ⟨6, [(ResultVar.tmp 2)],
  (.seq (.ops [⟨some 2, (Op.assign (Operand.const (Value.bool false))), 4, none⟩]) (.seq (.ops [⟨some 3, (Op.move (Operand.tmp 0)), 3, none⟩,
    ⟨some 4, (Op.move (Operand.tmp 0)), 3, none⟩,
    ⟨some 5, (Op.binOp BinOp.neq 3 (Operand.tmp 3) (Operand.tmp 4) 3), 4, none⟩,
    ⟨some 2, (Op.assign (Operand.tmp 5)), 4, none⟩]) .ret))⟩
theorem is_cmp_isNaN_int (c : Cfg) (h : c.lendT = []) : isF PP c 61 c_cmp_isNaN_int := isF_of (fn := Proofs.Try.f61) (by kernel_rfl) (by kernel_rfl) rfl h (by kernel_rfl) rfl rfl (by kernel_rfl)
def c_slices_rotateLeft_int : SF := ⟨14, [],
  (.seq (.ops [⟨some 4, (Op.move (Operand.tmp 0)), 22, none⟩,
    ⟨some 5, (Op.move (Operand.tmp 1)), 3, none⟩,
    ⟨some 6, (Op.slice 22 (Operand.tmp 4) none (some (Operand.tmp 5)) none), 22, none⟩,
    ⟨some 7, (Op.call ⟨(Callee.value (Operand.func 65)), #[(Operand.tmp 6)], #[22]⟩), 0, none⟩]) (.seq (.ops [⟨some 8, (Op.move (Operand.tmp 0)), 22, none⟩,
    ⟨some 9, (Op.move (Operand.tmp 1)), 3, none⟩,
    ⟨some 10, (Op.slice 22 (Operand.tmp 8) (some (Operand.tmp 9)) none none), 22, none⟩,
    ⟨some 11, (Op.call ⟨(Callee.value (Operand.func 65)), #[(Operand.tmp 10)], #[22]⟩), 0, none⟩]) (.ops [⟨some 12, (Op.move (Operand.tmp 0)), 22, none⟩,
    ⟨some 13, (Op.call ⟨(Callee.value (Operand.func 65)), #[(Operand.tmp 12)], #[22]⟩), 0, none⟩])))⟩
theorem is_slices_rotateLeft_int (c : Cfg) (h : c.lendT = []) : isF PP c 62 c_slices_rotateLeft_int := isF_of (fn := Proofs.Try.f62) (by kernel_rfl) (by kernel_rfl) rfl h (by kernel_rfl) rfl rfl (by kernel_rfl)
def c_cmp_Compare_int : SF := ⟨20, [(ResultVar.tmp 4)],
  (.seq (.ops [⟨some 4, (Op.assign (Operand.const (Value.int IntKind.i64 0))), 3, none⟩]) (.seq (.ops [⟨some 7, (Op.move (Operand.tmp 0)), 3, none⟩,
    ⟨some 8, (Op.call ⟨(Callee.value (Operand.func 61)), #[(Operand.tmp 7)], #[3]⟩), 4, none⟩,
    ⟨some 5, (Op.assign (Operand.tmp 8)), 4, none⟩]) (.seq (.ops [⟨some 9, (Op.move (Operand.tmp 1)), 3, none⟩,
    ⟨some 10, (Op.call ⟨(Callee.value (Operand.func 61)), #[(Operand.tmp 9)], #[3]⟩), 4, none⟩,
    ⟨some 6, (Op.assign (Operand.tmp 10)), 4, none⟩]) (.seq (.seq (.ops [⟨some 11, (Op.move (Operand.tmp 5)), 4, none⟩]) (.cond (Operand.tmp 11) (.seq (.seq (.ops [⟨some 12, (Op.move (Operand.tmp 6)), 4, none⟩]) (.cond (Operand.tmp 12) (.seq (.ops [⟨some 4, (Op.assign (Operand.const (Value.int IntKind.i64 0))), 3, none⟩]) .ret) .skip)) (.seq (.ops [⟨some 4, (Op.assign (Operand.const (Value.int IntKind.i64 (-1)))), 3, none⟩]) .ret)) .skip)) (.seq (.seq (.ops [⟨some 13, (Op.move (Operand.tmp 6)), 4, none⟩]) (.cond (Operand.tmp 13) (.seq (.ops [⟨some 4, (Op.assign (Operand.const (Value.int IntKind.i64 1))), 3, none⟩]) .ret) .skip)) (.seq (.seq (.ops [⟨some 14, (Op.move (Operand.tmp 0)), 3, none⟩,
    ⟨some 15, (Op.move (Operand.tmp 1)), 3, none⟩,
    ⟨some 16, (Op.binOp BinOp.lss 3 (Operand.tmp 14) (Operand.tmp 15) 3), 4, none⟩]) (.cond (Operand.tmp 16) (.seq (.ops [⟨some 4, (Op.assign (Operand.const (Value.int IntKind.i64 (-1)))), 3, none⟩]) .ret) .skip)) (.seq (.seq (.ops [⟨some 17, (Op.move (Operand.tmp 0)), 3, none⟩,
    ⟨some 18, (Op.move (Operand.tmp 1)), 3, none⟩,
    ⟨some 19, (Op.binOp BinOp.gtr 3 (Operand.tmp 17) (Operand.tmp 18) 3), 4, none⟩]) (.cond (Operand.tmp 19) (.seq (.ops [⟨some 4, (Op.assign (Operand.const (Value.int IntKind.i64 1))), 3, none⟩]) .ret) .skip)) (.seq (.ops [⟨some 4, (Op.assign (Operand.const (Value.int IntKind.i64 0))), 3, none⟩]) .ret))))))))⟩
theorem is_cmp_Compare_int (c : Cfg) (h : c.lendT = []) : isF PP c 63 c_cmp_Compare_int := isF_of (fn := Proofs.Try.f63) (by kernel_rfl) (by kernel_rfl) rfl h (by kernel_rfl) rfl rfl (by kernel_rfl)
def c_slices_rotateLeft_api_Peer : SF := ⟨14, [],
  (.seq (.ops [⟨some 4, (Op.move (Operand.tmp 0)), 39, none⟩,
    ⟨some 5, (Op.move (Operand.tmp 1)), 3, none⟩,
    ⟨some 6, (Op.slice 39 (Operand.tmp 4) none (some (Operand.tmp 5)) none), 39, none⟩,
    ⟨some 7, (Op.call ⟨(Callee.value (Operand.func 66)), #[(Operand.tmp 6)], #[39]⟩), 0, none⟩]) (.seq (.ops [⟨some 8, (Op.move (Operand.tmp 0)), 39, none⟩,
    ⟨some 9, (Op.move (Operand.tmp 1)), 3, none⟩,
    ⟨some 10, (Op.slice 39 (Operand.tmp 8) (some (Operand.tmp 9)) none none), 39, none⟩,
    ⟨some 11, (Op.call ⟨(Callee.value (Operand.func 66)), #[(Operand.tmp 10)], #[39]⟩), 0, none⟩]) (.ops [⟨some 12, (Op.move (Operand.tmp 0)), 39, none⟩,
    ⟨some 13, (Op.call ⟨(Callee.value (Operand.func 66)), #[(Operand.tmp 12)], #[39]⟩), 0, none⟩])))⟩
theorem is_slices_rotateLeft_api_Peer (c : Cfg) (h : c.lendT = []) : isF PP c 64 c_slices_rotateLeft_api_Peer := isF_of (fn := Proofs.Try.f64) (by kernel_rfl) (by kernel_rfl) rfl h (by kernel_rfl) rfl rfl (by kernel_rfl)
def c_slices_Reverse_int_int_L0 : SC := (.seq (.seq (.ops [⟨some 7, (Op.move (Operand.tmp 2)), 3, none⟩,
    ⟨some 8, (Op.move (Operand.tmp 3)), 3, none⟩,
    ⟨some 9, (Op.binOp BinOp.lss 3 (Operand.tmp 7) (Operand.tmp 8) 3), 4, none⟩]) (.cond (Operand.tmp 9) .skip (.exit 0))) (.seq (.block 1 (.ops [⟨some 14, (Op.move (Operand.tmp 0)), 22, none⟩,
    ⟨some 15, (Op.move (Operand.tmp 2)), 3, none⟩,
    ⟨some 16, (Op.move (Operand.tmp 0)), 22, none⟩,
    ⟨some 17, (Op.move (Operand.tmp 3)), 3, none⟩,
    ⟨some 18, (Op.move (Operand.tmp 0)), 22, none⟩,
    ⟨some 19, (Op.move (Operand.tmp 3)), 3, none⟩,
    ⟨some 22, (Op.move (Operand.tmp 0)), 22, none⟩,
    ⟨some 23, (Op.move (Operand.tmp 2)), 3, none⟩,
    ⟨some 20, (Op.indexAddr 22 (Operand.tmp 18) (Operand.tmp 19)), 0, none⟩,
    ⟨some 21, (Op.load 3 (Operand.tmp 20)), 3, none⟩,
    ⟨some 24, (Op.indexAddr 22 (Operand.tmp 22) (Operand.tmp 23)), 0, none⟩,
    ⟨some 25, (Op.load 3 (Operand.tmp 24)), 3, none⟩,
    ⟨some 26, (Op.indexAddr 22 (Operand.tmp 14) (Operand.tmp 15)), 0, none⟩,
    ⟨none, (Op.store 3 (Operand.tmp 26) (Operand.tmp 21)), 0, none⟩,
    ⟨some 27, (Op.indexAddr 22 (Operand.tmp 16) (Operand.tmp 17)), 0, none⟩,
    ⟨none, (Op.store 3 (Operand.tmp 27) (Operand.tmp 25)), 0, none⟩])) (.ops [⟨some 10, (Op.move (Operand.tmp 2)), 3, none⟩,
    ⟨some 11, (Op.binOp BinOp.add 3 (Operand.tmp 10) (Operand.const (Value.int IntKind.i64 1)) 3), 3, none⟩,
    ⟨some 12, (Op.move (Operand.tmp 3)), 3, none⟩,
    ⟨some 13, (Op.binOp BinOp.sub 3 (Operand.tmp 12) (Operand.const (Value.int IntKind.i64 1)) 3), 3, none⟩,
    ⟨some 2, (Op.assign (Operand.tmp 11)), 3, none⟩,
    ⟨some 3, (Op.assign (Operand.tmp 13)), 3, none⟩])))
def c_slices_Reverse_int_int : SF := ⟨28, [],
  (.seq (.ops [⟨some 4, (Op.move (Operand.tmp 0)), 22, none⟩,
    ⟨some 5, (Op.call ⟨(Callee.builtin Builtin.len), #[(Operand.tmp 4)], #[22]⟩), 3, none⟩,
    ⟨some 6, (Op.binOp BinOp.sub 3 (Operand.tmp 5) (Operand.const (Value.int IntKind.i64 1)) 3), 3, none⟩,
    ⟨some 2, (Op.assign (Operand.const (Value.int IntKind.i64 0))), 3, none⟩,
    ⟨some 3, (Op.assign (Operand.tmp 6)), 3, none⟩]) (.block 0 (.loop c_slices_Reverse_int_int_L0)))⟩
theorem is_slices_Reverse_int_int (c : Cfg) (h : c.lendT = []) : isF PP c 65 c_slices_Reverse_int_int := isF_of (fn := Proofs.Try.f65) (by kernel_rfl) (by kernel_rfl) rfl h (by kernel_rfl) rfl rfl (by kernel_rfl)
def c_slices_Reverse_api_Peer_api_Peer_L0 : SC := (.seq (.seq (.ops [⟨some 7, (Op.move (Operand.tmp 2)), 3, none⟩,
    ⟨some 8, (Op.move (Operand.tmp 3)), 3, none⟩,
    ⟨some 9, (Op.binOp BinOp.lss 3 (Operand.tmp 7) (Operand.tmp 8) 3), 4, none⟩]) (.cond (Operand.tmp 9) .skip (.exit 0))) (.seq (.block 1 (.ops [⟨some 14, (Op.move (Operand.tmp 0)), 39, none⟩,
    ⟨some 15, (Op.move (Operand.tmp 2)), 3, none⟩,
    ⟨some 16, (Op.move (Operand.tmp 0)), 39, none⟩,
    ⟨some 17, (Op.move (Operand.tmp 3)), 3, none⟩,
    ⟨some 18, (Op.move (Operand.tmp 0)), 39, none⟩,
    ⟨some 19, (Op.move (Operand.tmp 3)), 3, none⟩,
    ⟨some 22, (Op.move (Operand.tmp 0)), 39, none⟩,
    ⟨some 23, (Op.move (Operand.tmp 2)), 3, none⟩,
    ⟨some 20, (Op.indexAddr 39 (Operand.tmp 18) (Operand.tmp 19)), 0, none⟩,
    ⟨some 21, (Op.load 54 (Operand.tmp 20)), 54, none⟩,
    ⟨some 24, (Op.indexAddr 39 (Operand.tmp 22) (Operand.tmp 23)), 0, none⟩,
    ⟨some 25, (Op.load 54 (Operand.tmp 24)), 54, none⟩,
    ⟨some 26, (Op.indexAddr 39 (Operand.tmp 14) (Operand.tmp 15)), 0, none⟩,
    ⟨none, (Op.store 54 (Operand.tmp 26) (Operand.tmp 21)), 0, none⟩,
    ⟨some 27, (Op.indexAddr 39 (Operand.tmp 16) (Operand.tmp 17)), 0, none⟩,
    ⟨none, (Op.store 54 (Operand.tmp 27) (Operand.tmp 25)), 0, none⟩])) (.ops [⟨some 10, (Op.move (Operand.tmp 2)), 3, none⟩,
    ⟨some 11, (Op.binOp BinOp.add 3 (Operand.tmp 10) (Operand.const (Value.int IntKind.i64 1)) 3), 3, none⟩,
    ⟨some 12, (Op.move (Operand.tmp 3)), 3, none⟩,
    ⟨some 13, (Op.binOp BinOp.sub 3 (Operand.tmp 12) (Operand.const (Value.int IntKind.i64 1)) 3), 3, none⟩,
    ⟨some 2, (Op.assign (Operand.tmp 11)), 3, none⟩,
    ⟨some 3, (Op.assign (Operand.tmp 13)), 3, none⟩])))
def c_slices_Reverse_api_Peer_api_Peer : SF := ⟨28, [],
  (.seq (.ops [⟨some 4, (Op.move (Operand.tmp 0)), 39, none⟩,
    ⟨some 5, (Op.call ⟨(Callee.builtin Builtin.len), #[(Operand.tmp 4)], #[39]⟩), 3, none⟩,
    ⟨some 6, (Op.binOp BinOp.sub 3 (Operand.tmp 5) (Operand.const (Value.int IntKind.i64 1)) 3), 3, none⟩,
    ⟨some 2, (Op.assign (Operand.const (Value.int IntKind.i64 0))), 3, none⟩,
    ⟨some 3, (Op.assign (Operand.tmp 6)), 3, none⟩]) (.block 0 (.loop c_slices_Reverse_api_Peer_api_Peer_L0)))⟩
theorem is_slices_Reverse_api_Peer_api_Peer (c : Cfg) (h : c.lendT = []) : isF PP c 66 c_slices_Reverse_api_Peer_api_Peer := isF_of (fn := Proofs.Try.f66) (by kernel_rfl) (by kernel_rfl) rfl h (by kernel_rfl) rfl rfl (by kernel_rfl)
end Go.AM
/- AM: this seat's functions in short, all of them. -/
/- AM: contracts: places, peers. -/
namespace Go.AM
set_option linter.unusedSimpArgs false
set_option linter.unusedVariables false
set_option maxRecDepth 8000
set_option maxHeartbeats 0
theorem ring_Far (a b : Int) : Den PP 51 [.int .i64 a, .int .i64 b] [] (.int .i64 (far a b)) [] := by
  refine den_of [] [] is_ring_Far ?_
  simp -implicitDefEqProofs [c_ring_Far, far]

theorem ring_Place (a : Int) : Den PP 37 [.int .i64 a] [] (.bool (place a)) [] := by
  refine den_of [] [] is_ring_Place ?_
  simp -implicitDefEqProofs [c_ring_Place]
  refine gOps_dec (fun h => ?_) (fun h => ?_) <;> simp -implicitDefEqProofs [h, place]

theorem peers_May_loop (base : Int) (ps : List Peer) (hl : ps.length ≤ cap) (Q : Ex → St → Prop) (r : Bool) (hQ1 : ∀ fr, r = true → Q .normal ⟨fr, []⟩) (hQ2 : ∀ fr bs, r = false → fr 4 = .bool false → Q .ret ⟨fr, bs⟩) :
    ∀ (rest : List Peer) (i : Nat) (fr : Nat → D) (last : Int), ps.drop i = rest → i ≤ ps.length → fr 0 = .int .i64 base → fr 5 = .int .i64 last → fr 16 = .sl (ps.map Peer.row) ps.length → fr 17 = .int .i64 ps.length → fr 18 = .int .i64 i →
      peersOk base last rest = r → sLoop (cf 0 [] []) 0 c_peers_May_L0 (blockQ 0 Q) (rest.length + 1) ⟨fr, []⟩ := by
  intro rest
  induction rest with
  | nil =>
    intro i fr last e hi h0 h5 h16 h17 h18 hm
    refine sLoop_body c_peers_May_L0.eq_1 ?_
    have hi' := drop_nil e hi
    simp -implicitDefEqProofs [h0, h5, h16, h17, h18, hi']
    exact hQ1 _ hm.symm
  | cons p rest ih =>
    intro i fr last e hi h0 h5 h16 h17 h18 hm
    refine sLoop_body c_peers_May_L0.eq_1 ?_
    obtain ⟨hlt, hget, hd, hlen⟩ := drop_cons e
    have hlt' : (i : Int) < ps.length := by omega
    simp -implicitDefEqProofs [h0, h5, h16, h17, h18, hlt', hget, Peer.row]
    refine callThen_of (ring_Place p.id) ?_
    simp -implicitDefEqProofs [h0, h5, h16, h17, h18]
    simp only [peersOk] at hm
    refine gOps_split (fun h1 => ?_) (fun h1 => ?_)
    all_goals simp -implicitDefEqProofs [h1, h0, h5, h16, h17, h18]
    rotate_left
    · exact hQ2 _ _ (by rw [← hm, h1]; rfl) (by rfl)
    refine gOps_ndec (fun h2 => ?_) (fun h2 => ?_)
    all_goals simp -implicitDefEqProofs [h2, h0, h5, h16, h17, h18]
    · exact hQ2 _ _ (by rw [← hm]; simp; intros; omega) (by rfl)
    refine gOps_ndec (fun h3 => ?_) (fun h3 => ?_)
    all_goals simp -implicitDefEqProofs [h3, h0, h5, h16, h17, h18]
    · exact hQ2 _ _ (by rw [← hm]; simp; intros; omega) (by rfl)
    refine callThen_of (ring_Far base p.id) ?_
    simp -implicitDefEqProofs [h0, h5, h16, h17, h18]
    refine condC_dec (fun h4 => ?_) (fun h4 => ?_)
    all_goals simp -implicitDefEqProofs [h4, h0, h5, h16, h17, h18]
    · exact hQ2 _ _ (by rw [← hm]; simp; intros; omega) (by rfl)
    refine callThen_of (ring_Far base p.id) ?_
    simp -implicitDefEqProofs [h0, h5, h16, h17, h18, wrap_next (show i ≤ 140737488355328 by unfold cap at hl; omega)]
    exact ih (i + 1) _ (far base p.id) hd (by omega) (by simp [h0, h5, h16, h17, h18]) (by simp) (by simp [h0, h5, h16, h17, h18]) (by simp [h0, h5, h16, h17, h18]) (by simp) (by rw [← hm, h1, decide_eq_true (show 0 ≤ p.missed by omega), decide_eq_true (show p.missed < 3 by omega), decide_eq_true (show last < far base p.id by omega)]; rfl)

theorem peers_May (base : Int) (ps : List Peer) (hl : ps.length ≤ cap) : Den PP 31 [.int .i64 base, .sl (ps.map Peer.row) ps.length] [] (.bool (peersMay base ps)) [] := by
  refine den_of [] [] is_peers_May ?_
  simp -implicitDefEqProofs [c_peers_May]
  refine callThen_of (ring_Place base) ?_
  simp -implicitDefEqProofs
  cases hp : place base
  · simp -implicitDefEqProofs [peersMay, hp]
  simp -implicitDefEqProofs
  refine condC_dec (fun h16 => ?_) (fun h16 => ?_)
  · simp -implicitDefEqProofs [peersMay, hp, h16]
    omega
  simp -implicitDefEqProofs
  refine anyLoop_of (ps.length + 1) ?_
  have hm : peersMay base ps = peersOk base 0 ps := by simp [peersMay, hp]; intro _; omega
  rw [hm]
  refine peers_May_loop base ps hl _ (peersOk base 0 ps) (fun fr h => ?_) (fun fr bs h h4 => ?_) ps 0 _ 0 rfl (Nat.zero_le _) rfl rfl rfl rfl rfl rfl
  all_goals simp -implicitDefEqProofs [h]
  simp -implicitDefEqProofs [h4]
end Go.AM
/- AM: contracts: small parts. -/
namespace Go.AM
set_option linter.unusedSimpArgs false
set_option linter.unusedVariables false
set_option maxRecDepth 8000
set_option maxHeartbeats 0
theorem law_Num (a : Int) : Den PP 19 [.int .i64 a] [] (.int .i64 a) [] := by
  refine den_of [] [] is_gimmallaw0_Num ?_
  simp -implicitDefEqProofs [c_gimmallaw0_Num]

theorem ref_PlaceMay (a : Int) : Den PP 41 [.int .i64 a] [] (.bool (place a)) [] := by
  refine den_of [] [] is_gimmalref1_PlaceMay ?_
  simp -implicitDefEqProofs [c_gimmalref1_PlaceMay]
  refine gOps_dec (fun h => ?_) (fun h => ?_) <;> simp -implicitDefEqProofs [h, place]

theorem ref_far (a b : Int) : Den PP 50 [.int .i64 a, .int .i64 b] [] (.int .i64 (far a b)) [] := by
  refine den_of [] [] is_gimmalref1_far ?_
  simp -implicitDefEqProofs [c_gimmalref1_far, far]

theorem cmp_isNaN (a : Int) : Den PP 61 [.int .i64 a] [] (.bool false) [] := by
  refine den_of [] [] is_cmp_isNaN_int ?_
  simp -implicitDefEqProofs [c_cmp_isNaN_int]

theorem cmp_Compare (a b : Int) : Den PP 63 [.int .i64 a, .int .i64 b] [] (.int .i64 (cmpI a b)) [] := by
  refine den_of [] [] is_cmp_Compare_int ?_
  simp -implicitDefEqProofs [c_cmp_Compare_int]
  refine callThen_of (cmp_isNaN a) ?_
  simp -implicitDefEqProofs
  refine callThen_of (cmp_isNaN b) ?_
  simp -implicitDefEqProofs
  refine condC_dec (fun h => ?_) (fun h => ?_) <;> simp -implicitDefEqProofs [h, cmpI]
  refine condC_dec (fun h2 => ?_) (fun h2 => ?_) <;> simp -implicitDefEqProofs [h2]

theorem peers_order_find (base : Int) (p : Peer) (id : Int) : Den PP 57 [.agg [.int .i64 base], .agg p.row, .int .i64 id] [] (.int .i64 (cmpI (far base p.id) (far base id))) [] := by
  refine den_of [] [] is_peers_order_find ?_
  simp -implicitDefEqProofs [c_peers_order_find, Peer.row]
  refine callThen_of (ring_Far base p.id) ?_
  simp -implicitDefEqProofs
  refine callThen_of (ring_Far base id) ?_
  simp -implicitDefEqProofs
  refine callThen_of (cmp_Compare _ _) ?_
  simp -implicitDefEqProofs
end Go.AM
/- AM: contracts: loops over places. -/
namespace Go.AM
set_option linter.unusedSimpArgs false
set_option linter.unusedVariables false
set_option maxRecDepth 8000
set_option maxHeartbeats 0
theorem ref_placesMay (xs : List Int) (hl : xs.length ≤ cap) : Den PP 45 [intsD xs] [] (.bool (xs.all place)) [] := by
  refine den_of [] [] is_gimmalref1_placesMay ?_
  simp -implicitDefEqProofs [c_gimmalref1_placesMay, intsD]
  refine anyLoop_of (xs.length + 1) ?_
  have key : ∀ (Q : Ex → St → Prop) (r : Bool) (hQ1 : ∀ fr, r = true → Q .normal ⟨fr, []⟩) (hQ2 : ∀ fr bs, r = false → fr 2 = .bool false → Q .ret ⟨fr, bs⟩) (rest : List Int) (i : Nat) (fr : Nat → D), xs.drop i = rest → i ≤ xs.length →
      fr 0 = .sl (xs.map irow) xs.length → fr 3 = .int .i64 i → rest.all place = r → sLoop (cf 0 [] []) 0 c_gimmalref1_placesMay_L0 (blockQ 0 Q) (rest.length + 1) ⟨fr, []⟩ := by
    intro Q r hQ1 hQ2 rest
    induction rest with
    | nil =>
      intro i fr e hi h0 h3 hm
      refine sLoop_body c_gimmalref1_placesMay_L0.eq_1 ?_
      have hi' := drop_nil e hi
      simp -implicitDefEqProofs [h0, h3, hi']
      exact hQ1 _ hm.symm
    | cons x rest ih =>
      intro i fr e hi h0 h3 hm
      refine sLoop_body c_gimmalref1_placesMay_L0.eq_1 ?_
      obtain ⟨hlt, hget, hd, hlen⟩ := drop_cons e
      have hlt' : (i : Int) < xs.length := by omega
      simp -implicitDefEqProofs [h0, h3, hlt', hget, irow]
      refine callThen_of (ref_PlaceMay x) ?_
      simp -implicitDefEqProofs
      refine condC_not (fun h1 => ?_) (fun h1 => ?_)
      all_goals simp -implicitDefEqProofs [h1, h0, h3, wrap_next (show i ≤ 140737488355328 by unfold cap at hl; omega)]
      · exact ih (i + 1) _ hd (by omega) (by simp [h0, h3, intsD]) (by simp) (by rw [← hm]; simp [h1])
      · exact hQ2 _ _ (by rw [← hm]; simp [h1]) (by rfl)
  refine key _ (xs.all place) (fun fr h => ?_) (fun fr bs h h2 => ?_) xs 0 _ rfl (Nat.zero_le _) rfl rfl rfl
  · simp -implicitDefEqProofs [h]
  · simp -implicitDefEqProofs [h, h2]

theorem passive_May (xs : List Int) (hl : xs.length ≤ cap) : Den PP 20 [intsD xs] [] (.bool (passiveMay xs)) [] := by
  refine den_of [] [] is_passive_May ?_
  simp -implicitDefEqProofs [c_passive_May, intsD]
  refine anyLoop_of (xs.length + 1) ?_
  have key : ∀ (Q : Ex → St → Prop) (r : Bool) (hQ1 : ∀ fr, r = true → fr 0 = .sl (xs.map irow) xs.length → Q .normal ⟨fr, []⟩) (hQ2 : ∀ fr bs, r = false → fr 2 = .bool false → Q .ret ⟨fr, bs⟩) (rest : List Int) (i : Nat) (fr : Nat → D), xs.drop i = rest → i ≤ xs.length →
      fr 0 = .sl (xs.map irow) xs.length → fr 5 = .sl (xs.map irow) xs.length → fr 6 = .int .i64 xs.length → fr 7 = .int .i64 i → ups (if i = 0 then none else xs[i - 1]?) rest = r → sLoop (cf 0 [] []) 0 c_passive_May_L0 (blockQ 0 Q) (rest.length + 1) ⟨fr, []⟩ := by
    intro Q r hQ1 hQ2 rest
    induction rest with
    | nil =>
      intro i fr e hi h0 h5 h6 h7 hm
      refine sLoop_body c_passive_May_L0.eq_1 ?_
      have hi' := drop_nil e hi
      simp -implicitDefEqProofs [h0, h5, h6, h7, hi']
      exact hQ1 _ hm.symm (by simp [h0, h5, h6, h7])
    | cons x rest ih =>
      intro i fr e hi h0 h5 h6 h7 hm
      refine sLoop_body c_passive_May_L0.eq_1 ?_
      obtain ⟨hlt, hget, hd, hlen⟩ := drop_cons e
      have hlt' : (i : Int) < xs.length := by omega
      have hw := wrap_next (show i ≤ 140737488355328 by unfold cap at hl; omega)
      have hprev : (if i + 1 = 0 then none else xs[i + 1 - 1]?) = some x := by simp [hget]
      simp only [ups] at hm
      simp -implicitDefEqProofs [h0, h5, h6, h7, hlt', hget, irow]
      refine callThen_of (ring_Place x) ?_
      simp -implicitDefEqProofs [h0, h5, h6, h7]
      refine gOps_split (fun h1 => ?_) (fun h1 => ?_)
      rotate_left
      · simp -implicitDefEqProofs [h1, h0, h5, h6, h7]
        exact hQ2 _ _ (by rw [← hm]; simp [h1]) (by rfl)
      simp -implicitDefEqProofs [h1, h0, h5, h6, h7]
      by_cases hi0 : i = 0
      · simp -implicitDefEqProofs [hi0, h0, h5, h6, h7]
        simp -implicitDefEqProofs [hi0] at hw
        simp -implicitDefEqProofs [hw]
        refine ih 1 _ (by rw [← hd, hi0]) (by omega) (by simp [h0, h5, h6, h7]) (by simp [h0, h5, h6, h7]) (by simp [h0, h5, h6, h7]) (by simp) ?_
        rw [hi0] at hprev hm
        rw [← hm]
        simp [h1] at hprev ⊢
        rw [hprev]
      · have hpos : 0 < i := by omega
        have hwp : IntKind.wrap .i64 ((i : Int) - 1) = ((i - 1 : Nat) : Int) := by unfold cap at hl; rw [wrap_in (by omega) (by omega)]; omega
        have hlt2 : ((i - 1 : Nat) : Int) < xs.length := by omega
        obtain ⟨y, hy⟩ : ∃ y, xs[i - 1]? = some y := ⟨xs[i - 1], by simp⟩
        rw [if_neg hi0, hy] at hm
        simp -implicitDefEqProofs [hpos, h0, h5, h6, h7, hwp, hlt2, hy, irow]
        refine condC_dec (fun h2 => ?_) (fun h2 => ?_)
        all_goals simp -implicitDefEqProofs [h2, h0, h5, h6, h7, hw]
        · exact hQ2 _ _ (by rw [← hm]; simp; intros; omega) (by rfl)
        · refine ih (i + 1) _ hd (by omega) (by simp [h0, h5, h6, h7]) (by simp [h0, h5, h6, h7]) (by simp [h0, h5, h6, h7]) (by simp) ?_
          rw [hprev, ← hm, h1]
          simp [show y < x by omega]
  refine key _ (ups none xs) (fun fr h h0 => ?_) (fun fr bs h h2 => ?_) xs 0 _ rfl (Nat.zero_le _) rfl rfl rfl rfl rfl
  · simp -implicitDefEqProofs [h, h0, passiveMay]
    omega
  · simp -implicitDefEqProofs [h, h2, passiveMay]

/-- A function that answers a Bool to a number. -/
def TellsI (f : Nat) (caps : List D) (p : Int → Bool) (xs : List Int) : Prop := (∀ bs, caps.map (D.freeze bs) = caps) ∧ (∀ fr fp, mapRL fr fp caps = caps) ∧ ∀ x ∈ xs, Den PP f (.int .i64 x :: caps) [] (.bool (p x)) []
theorem slices_IndexFunc_int (xs : List Int) (hl : xs.length ≤ cap) (f : Nat) (caps : List D) (p : Int → Bool) (hp : TellsI f caps p xs) : Den PP 56 [intsD xs, .fn f [] caps] [] (.int .i64 (fIdx p 0 xs)) [] := by
  refine den_of [] [] is_slices_IndexFunc_int_int ?_
  simp -implicitDefEqProofs [c_slices_IndexFunc_int_int, intsD]
  refine anyLoop_of (xs.length + 1) ?_
  have key : ∀ (Q : Ex → St → Prop) (r : Int) (hQ1 : ∀ fr, r = -1 → Q .normal ⟨fr, []⟩) (hQ2 : ∀ fr bs, fr 4 = .int .i64 r → Q .ret ⟨fr, bs⟩) (rest : List Int) (i : Nat) (fr : Nat → D), xs.drop i = rest → i ≤ xs.length →
      fr 0 = .sl (xs.map irow) xs.length → fr 1 = .fn f [] caps → fr 7 = .int .i64 xs.length → fr 8 = .int .i64 i → fIdx p i rest = r → sLoop (cf 0 [] []) 0 c_slices_IndexFunc_int_int_L0 (blockQ 0 Q) (rest.length + 1) ⟨fr, []⟩ := by
    intro Q r hQ1 hQ2 rest
    induction rest with
    | nil =>
      intro i fr e hi h0 h1 h7 h8 hm
      refine sLoop_body c_slices_IndexFunc_int_int_L0.eq_1 ?_
      have hi' := drop_nil e hi
      simp -implicitDefEqProofs [h0, h1, h7, h8, hi']
      exact hQ1 _ hm.symm
    | cons x rest ih =>
      intro i fr e hi h0 h1 h7 h8 hm
      refine sLoop_body c_slices_IndexFunc_int_int_L0.eq_1 ?_
      obtain ⟨hlt, hget, hd, hlen⟩ := drop_cons e
      have hlt' : (i : Int) < xs.length := by omega
      have hw := wrap_next (show i ≤ 140737488355328 by unfold cap at hl; omega)
      simp -implicitDefEqProofs [h0, h1, h7, h8, hlt', hget, irow, hp.1]
      refine callThen_of (hp.2.2 x (List.mem_of_getElem? hget)) ?_
      simp only [fIdx] at hm
      simp -implicitDefEqProofs
      refine condC_split (fun h2 => ?_) (fun h2 => ?_)
      all_goals simp -implicitDefEqProofs [h2, h0, h1, h7, h8, hw]
      · exact hQ2 _ _ (by rw [← hm, h2]; simp)
      · exact ih (i + 1) _ hd (by omega) (by simp [h0, h1, h7, h8]) (by simp [h0, h1, h7, h8, hp.2.1]) (by simp [h0, h1, h7, h8]) (by simp) (by rw [← hm, h2]; simp)
  refine key _ (fIdx p 0 xs) (fun fr h => ?_) (fun fr bs h => ?_) xs 0 _ rfl (Nat.zero_le _) rfl rfl rfl rfl rfl
  · simp -implicitDefEqProofs [h]
  · simp -implicitDefEqProofs [h]

/-- Below at: less; from at on: not. -/
theorem bsearch_Peer (base : Int) (ps : List Peer) (id : Int) (hl : ps.length ≤ cap) (at_ : Nat) (hat : at_ ≤ ps.length)
    (hlo : ∀ i p, i < at_ → ps[i]? = some p → far base p.id < far base id) (hhi : ∀ i p, at_ ≤ i → ps[i]? = some p → far base id ≤ far base p.id) :
    Den PP 58 [peersD ps, .int .i64 id, .fn 57 [.agg [.int .i64 base]] []] [] (.tup [.int .i64 at_, .bool (isFar base id ps[at_]?)]) [] := by
  refine den_of [] [] is_slices_BinarySearchFunc_api_Peer_api_Peer_int ?_
  simp -implicitDefEqProofs [c_slices_BinarySearchFunc_api_Peer_api_Peer_int, peersD]
  refine anyLoop_of (ps.length + 1) ?_
  have key : ∀ (Q : Ex → St → Prop) (hQ1 : ∀ fr, fr 0 = .sl (ps.map Peer.row) ps.length → fr 1 = .int .i64 id → fr 2 = .fn 57 [.agg [.int .i64 base]] [] → fr 8 = .int .i64 ps.length → fr 9 = .int .i64 at_ → Q .normal ⟨fr, []⟩) (d lo hi : Nat) (fr : Nat → D), hi - lo ≤ d → lo ≤ at_ → at_ ≤ hi → hi ≤ ps.length →
      fr 0 = .sl (ps.map Peer.row) ps.length → fr 1 = .int .i64 id → fr 2 = .fn 57 [.agg [.int .i64 base]] [] → fr 8 = .int .i64 ps.length → fr 9 = .int .i64 lo → fr 10 = .int .i64 hi → sLoop (cf 0 [] []) 0 c_slices_BinarySearchFunc_api_Peer_api_Peer_int_L0 (blockQ 0 Q) (d + 1) ⟨fr, []⟩ := by
    intro Q hQ1 d
    induction d with
    | zero =>
      intro lo hi fr hd h3 h4 h5 h0 h1 h2 h8 h9 h10
      refine sLoop_body c_slices_BinarySearchFunc_api_Peer_api_Peer_int_L0.eq_1 ?_
      have e1 : lo = at_ := by omega
      have e2 : hi = at_ := by omega
      simp -implicitDefEqProofs [h0, h1, h2, h8, h9, h10, e1, e2]
      exact hQ1 _ (by simp [h0, h1, h2, h8, h9, h10]) (by simp [h0, h1, h2, h8, h9, h10]) (by simp [h0, h1, h2, h8, h9, h10]) (by simp [h0, h1, h2, h8, h9, h10]) (by simp [h0, h1, h2, h8, h9, h10, e1])
    | succ d ih =>
      intro lo hi fr hd h3 h4 h5 h0 h1 h2 h8 h9 h10
      refine sLoop_body c_slices_BinarySearchFunc_api_Peer_api_Peer_int_L0.eq_1 ?_
      by_cases hlt : lo < hi
      · have hlt' : (lo : Int) < hi := by omega
        have hm := mid_eq (lo := lo) (hi := hi) (by omega) (by omega)
        have hml : (lo + hi) / 2 < ps.length := by omega
        have hml' : (((lo + hi) / 2 : Nat) : Int) < ps.length := by omega
        have hw := wrap_next (n := (lo + hi) / 2) (by unfold cap at hl; omega)
        have hb1 : lo ≤ (lo + hi) / 2 := by omega
        have hb2 : (lo + hi) / 2 < hi := by omega
        generalize (lo + hi) / 2 = mid at *
        simp -implicitDefEqProofs [h0, h1, h2, h8, h9, h10, hlt', hlt, hm, hml, hml', Peer.row]
        refine callThen_of (peers_order_find base ps[mid] id) ?_
        simp -implicitDefEqProofs [cmpI_neg]
        refine condC_dec (fun hc => ?_) (fun hc => ?_)
        all_goals simp -implicitDefEqProofs [h0, h1, h2, h8, h9, h10, hc, hw]
        · have : mid < at_ := by
            apply Classical.byContradiction
            intro hx
            have := hhi mid ps[mid] (by omega) (by simp)
            omega
          refine ih (mid + 1) hi _ (by omega) (by omega) (by omega) (by omega) (by simp [h0, h1, h2, h8, h9, h10]) (by simp [h0, h1, h2, h8, h9, h10]) (by simp [h0, h1, h2, h8, h9, h10]) (by simp [h0, h1, h2, h8, h9, h10]) (by simp) (by simp [h0, h1, h2, h8, h9, h10])
        · have : at_ ≤ mid := by
            apply Classical.byContradiction
            intro hx
            have := hlo mid ps[mid] (by omega) (by simp)
            omega
          refine ih lo mid _ (by omega) (by omega) (by omega) (by omega) (by simp [h0, h1, h2, h8, h9, h10]) (by simp [h0, h1, h2, h8, h9, h10]) (by simp [h0, h1, h2, h8, h9, h10]) (by simp [h0, h1, h2, h8, h9, h10]) (by simp [h0, h1, h2, h8, h9, h10]) (by simp)
      · have e1 : lo = at_ := by omega
        have e2 : hi = at_ := by omega
        simp -implicitDefEqProofs [h0, h1, h2, h8, h9, h10, e1, e2]
        exact hQ1 _ (by simp [h0, h1, h2, h8, h9, h10]) (by simp [h0, h1, h2, h8, h9, h10]) (by simp [h0, h1, h2, h8, h9, h10]) (by simp [h0, h1, h2, h8, h9, h10]) (by simp [h0, h1, h2, h8, h9, h10, e1])
  refine key _ (fun fr h0 h1 h2 h8 h9 => ?_) ps.length 0 ps.length _ (by omega) (by omega) hat (Nat.le_refl _) rfl rfl rfl rfl rfl rfl
  simp -implicitDefEqProofs [h0, h1, h2, h8, h9]
  refine gOps_dec (fun hc => ?_) (fun hc => ?_)
  · simp -implicitDefEqProofs [h0, h1, h2, h8, h9, hc, Peer.row]
    refine callThen_of (peers_order_find base ps[at_] id) ?_
    simp -implicitDefEqProofs [cmpI_beq, cmpI_zero, hc, isFar]
  · have hp : ps[at_]? = none := by rw [List.getElem?_eq_none]; omega
    simp -implicitDefEqProofs [h0, h1, h2, h8, h9, hc, hp, isFar]

theorem peers_Find (base : Int) (ps : List Peer) (id : Int) (hl : ps.length ≤ cap) (hr : Rowed base ps) :
    Den PP 48 [.int .i64 base, peersD ps, .int .i64 id] [] (.tup [.int .i64 (findAt base ps id), .bool (peerIs base ps id)]) [] := by
  refine den_of [] [] is_peers_Find ?_
  simp -implicitDefEqProofs [c_peers_Find, peersD]
  refine callThen_of (bsearch_Peer base ps id hl (findAt base ps id) (findAt_le _ _ _) findAt_lo (findAt_hi hr)) ?_
  simp -implicitDefEqProofs [peerIs]
end Go.AM
/- AM: contracts: a view's ends. -/
namespace Go.AM
set_option linter.unusedSimpArgs false
set_option linter.unusedVariables false
set_option maxRecDepth 8000
set_option maxHeartbeats 0
theorem ref_has (xs : List Int) (x : Int) (hl : xs.length ≤ cap) : Den PP 42 [intsD xs, .int .i64 x] [] (.bool (xs.contains x)) [] := by
  refine den_of [] [] is_gimmalref1_has ?_
  simp -implicitDefEqProofs [c_gimmalref1_has, intsD]
  refine anyLoop_of (xs.length + 1) ?_
  have key : ∀ (Q : Ex → St → Prop) (r : Bool) (hQ1 : ∀ fr, r = false → Q .normal ⟨fr, []⟩) (hQ2 : ∀ fr bs, r = true → fr 4 = .bool true → Q .ret ⟨fr, bs⟩) (rest : List Int) (i : Nat) (fr : Nat → D), xs.drop i = rest → i ≤ xs.length →
      fr 0 = .sl (xs.map irow) xs.length → fr 1 = .int .i64 x → fr 5 = .int .i64 i → rest.contains x = r → sLoop (cf 0 [] []) 0 c_gimmalref1_has_L0 (blockQ 0 Q) (rest.length + 1) ⟨fr, []⟩ := by
    intro Q r hQ1 hQ2 rest
    induction rest with
    | nil =>
      intro i fr e hi h0 h1 h5 hm
      refine sLoop_body c_gimmalref1_has_L0.eq_1 ?_
      have hi' := drop_nil e hi
      simp -implicitDefEqProofs [h0, h1, h5, hi']
      exact hQ1 _ hm.symm
    | cons y rest ih =>
      intro i fr e hi h0 h1 h5 hm
      refine sLoop_body c_gimmalref1_has_L0.eq_1 ?_
      obtain ⟨hlt, hget, hd, hlen⟩ := drop_cons e
      have hlt' : (i : Int) < xs.length := by omega
      have hw := wrap_next (n := i) (by unfold cap at hl; omega)
      simp -implicitDefEqProofs [h0, h1, h5, hlt', hget, irow]
      refine condC_split (fun h2 => ?_) (fun h2 => ?_)
      all_goals simp -implicitDefEqProofs [h2, h0, h1, h5, hw]
      · exact hQ2 _ _ (by rw [← hm]; simp at h2; simp [h2]) (by rfl)
      · exact ih (i + 1) _ hd (by omega) (by simp [h0, h1, h5]) (by simp [h0, h1, h5]) (by simp) (by rw [← hm]; simp at h2; simp [Ne.symm h2])
  refine key _ (xs.contains x) (fun fr h => ?_) (fun fr bs h h2 => ?_) xs 0 _ rfl (Nat.zero_le _) rfl rfl rfl rfl
  · simp -implicitDefEqProofs [h]
    simpa using h
  · simp -implicitDefEqProofs [h, h2]
    simpa using h
end Go.AM
