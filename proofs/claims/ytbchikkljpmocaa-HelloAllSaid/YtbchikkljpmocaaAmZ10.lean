/- What the proof of this claim stands on, part 10. -/
import Derived.Test.YtbchikkljpmocaaProg
import Derived.KernelRfl
import Derived.Test.YtbchikkljpmocaaAmZ9
/- AM: this seat's types. -/
namespace Go.AM
set_option linter.unusedSimpArgs false
set_option linter.unusedVariables false
def tab : List (Nat × TyI) := [
  (3, ⟨.int .i64, 1, 8, [.int .i64 0]⟩),
  (4, ⟨.bool, 1, 1, [.bool false]⟩),
  (22, ⟨.slice 42, 1, 24, [.nil]⟩),
  (23, ⟨.slice 3, 1, 24, [.nil]⟩),
  (25, ⟨.struct [(0, 3), (1, 22), (2, 23)], 3, 56, [.int .i64 0, .nil, .nil]⟩),
  (28, ⟨.int .i64, 1, 8, [.int .i64 0]⟩),
  (42, ⟨.struct [(0, 3), (1, 3)], 2, 16, [.int .i64 0, .int .i64 0]⟩),
  (44, ⟨.int .u64, 1, 8, [.int .u64 0]⟩),
  (49, ⟨.slice 67, 1, 24, [.nil]⟩),
  (50, ⟨.slice 92, 1, 24, [.nil]⟩),
  (52, ⟨.struct [(0, 4), (1, 25), (4, 49), (5, 50)], 6, 112, [.bool false, .int .i64 0, .nil, .nil, .nil, .nil]⟩),
  (65, ⟨.struct [(0, 3), (1, 3)], 2, 16, [.int .i64 0, .int .i64 0]⟩),
  (67, ⟨.struct [(0, 3), (1, 65), (3, 3), (4, 4)], 5, 40, [.int .i64 0, .int .i64 0, .int .i64 0, .int .i64 0, .bool false]⟩),
  (69, ⟨.fn, 1, 8, [.undef]⟩),
  (79, ⟨.ptr, 1, 8, [.undef]⟩),
  (92, ⟨.struct [(0, 3), (1, 4), (2, 3)], 3, 24, [.int .i64 0, .bool false, .int .i64 0]⟩),
  (119, ⟨.fn, 1, 8, [.undef]⟩),
  (121, ⟨.struct [(0, 3)], 1, 8, [.int .i64 0]⟩),
  (125, ⟨.fn, 1, 8, [.undef]⟩),
  (133, ⟨.fn, 1, 8, [.undef]⟩),
  (135, ⟨.ptr, 1, 8, [.undef]⟩)]
def TT : Tab := fun t => match tab.find? (fun p => p.1 == t) with
  | some p => p.2
  | none => ⟨.other, 0, 0, []⟩
@[simp] theorem TT3 : TT 3 = ⟨.int .i64, 1, 8, [.int .i64 0]⟩ := by kernel_rfl
@[simp] theorem TT4 : TT 4 = ⟨.bool, 1, 1, [.bool false]⟩ := by kernel_rfl
@[simp] theorem TT22 : TT 22 = ⟨.slice 42, 1, 24, [.nil]⟩ := by kernel_rfl
@[simp] theorem TT23 : TT 23 = ⟨.slice 3, 1, 24, [.nil]⟩ := by kernel_rfl
@[simp] theorem TT25 : TT 25 = ⟨.struct [(0, 3), (1, 22), (2, 23)], 3, 56, [.int .i64 0, .nil, .nil]⟩ := by kernel_rfl
@[simp] theorem TT28 : TT 28 = ⟨.int .i64, 1, 8, [.int .i64 0]⟩ := by kernel_rfl
@[simp] theorem TT42 : TT 42 = ⟨.struct [(0, 3), (1, 3)], 2, 16, [.int .i64 0, .int .i64 0]⟩ := by kernel_rfl
@[simp] theorem TT44 : TT 44 = ⟨.int .u64, 1, 8, [.int .u64 0]⟩ := by kernel_rfl
@[simp] theorem TT49 : TT 49 = ⟨.slice 67, 1, 24, [.nil]⟩ := by kernel_rfl
@[simp] theorem TT50 : TT 50 = ⟨.slice 92, 1, 24, [.nil]⟩ := by kernel_rfl
@[simp] theorem TT52 : TT 52 = ⟨.struct [(0, 4), (1, 25), (4, 49), (5, 50)], 6, 112, [.bool false, .int .i64 0, .nil, .nil, .nil, .nil]⟩ := by kernel_rfl
@[simp] theorem TT65 : TT 65 = ⟨.struct [(0, 3), (1, 3)], 2, 16, [.int .i64 0, .int .i64 0]⟩ := by kernel_rfl
@[simp] theorem TT67 : TT 67 = ⟨.struct [(0, 3), (1, 65), (3, 3), (4, 4)], 5, 40, [.int .i64 0, .int .i64 0, .int .i64 0, .int .i64 0, .bool false]⟩ := by kernel_rfl
@[simp] theorem TT69 : TT 69 = ⟨.fn, 1, 8, [.undef]⟩ := by kernel_rfl
@[simp] theorem TT79 : TT 79 = ⟨.ptr, 1, 8, [.undef]⟩ := by kernel_rfl
@[simp] theorem TT92 : TT 92 = ⟨.struct [(0, 3), (1, 4), (2, 3)], 3, 24, [.int .i64 0, .bool false, .int .i64 0]⟩ := by kernel_rfl
@[simp] theorem TT119 : TT 119 = ⟨.fn, 1, 8, [.undef]⟩ := by kernel_rfl
@[simp] theorem TT121 : TT 121 = ⟨.struct [(0, 3)], 1, 8, [.int .i64 0]⟩ := by kernel_rfl
@[simp] theorem TT125 : TT 125 = ⟨.fn, 1, 8, [.undef]⟩ := by kernel_rfl
@[simp] theorem TT133 : TT 133 = ⟨.fn, 1, 8, [.undef]⟩ := by kernel_rfl
@[simp] theorem TT135 : TT 135 = ⟨.ptr, 1, 8, [.undef]⟩ := by kernel_rfl
@[simp] theorem TT0 : TT 0 = ⟨.other, 0, 0, []⟩ := by kernel_rfl
@[simp] theorem TT29 : TT 29 = ⟨.other, 0, 0, []⟩ := by kernel_rfl
@[simp] theorem TT31 : TT 31 = ⟨.other, 0, 0, []⟩ := by kernel_rfl
@[simp] theorem TT54 : TT 54 = ⟨.other, 0, 0, []⟩ := by kernel_rfl
@[simp] theorem TT56 : TT 56 = ⟨.other, 0, 0, []⟩ := by kernel_rfl
@[simp] theorem TT71 : TT 71 = ⟨.other, 0, 0, []⟩ := by kernel_rfl
@[simp] theorem TT73 : TT 73 = ⟨.other, 0, 0, []⟩ := by kernel_rfl
@[simp] theorem TT95 : TT 95 = ⟨.other, 0, 0, []⟩ := by kernel_rfl
@[simp] theorem TT100 : TT 100 = ⟨.other, 0, 0, []⟩ := by kernel_rfl
@[simp] theorem TT102 : TT 102 = ⟨.other, 0, 0, []⟩ := by kernel_rfl
@[simp] theorem TT104 : TT 104 = ⟨.other, 0, 0, []⟩ := by kernel_rfl
@[simp] theorem TT106 : TT 106 = ⟨.other, 0, 0, []⟩ := by kernel_rfl
@[simp] theorem TT108 : TT 108 = ⟨.other, 0, 0, []⟩ := by kernel_rfl
@[simp] theorem TT111 : TT 111 = ⟨.other, 0, 0, []⟩ := by kernel_rfl
@[simp] theorem TT113 : TT 113 = ⟨.other, 0, 0, []⟩ := by kernel_rfl
@[simp] theorem TT128 : TT 128 = ⟨.other, 0, 0, []⟩ := by kernel_rfl
@[simp] theorem TT138 : TT 138 = ⟨.other, 0, 0, []⟩ := by kernel_rfl
noncomputable abbrev PP : Program := Proofs.Try.prog
theorem ty3 : TyOk PP 3 ⟨.int .i64, 1, 8, [.int .i64 0]⟩ := ⟨⟨Proofs.Try.t3, _, by kernel_rfl, rfl, rfl, rfl, by kernel_rfl, by kernel_rfl, by kernel_rfl⟩, ⟨_, (by kernel_rfl : PP.underlying 3 = some (TypeDesc.int IntKind.i64)), by simp [descOk]⟩⟩
theorem ty4 : TyOk PP 4 ⟨.bool, 1, 1, [.bool false]⟩ := ⟨⟨Proofs.Try.t4, _, by kernel_rfl, rfl, rfl, rfl, by kernel_rfl, by kernel_rfl, by kernel_rfl⟩, ⟨_, (by kernel_rfl : PP.underlying 4 = some TypeDesc.bool), by simp [descOk]⟩⟩
theorem ty22 : TyOk PP 22 ⟨.slice 42, 1, 24, [.nil]⟩ := ⟨⟨Proofs.Try.t22, _, by kernel_rfl, rfl, rfl, rfl, by kernel_rfl, by kernel_rfl, by kernel_rfl⟩, ⟨_, (by kernel_rfl : PP.underlying 22 = some (TypeDesc.slice 42)), by simp [descOk]⟩⟩
theorem ty23 : TyOk PP 23 ⟨.slice 3, 1, 24, [.nil]⟩ := ⟨⟨Proofs.Try.t23, _, by kernel_rfl, rfl, rfl, rfl, by kernel_rfl, by kernel_rfl, by kernel_rfl⟩, ⟨_, (by kernel_rfl : PP.underlying 23 = some (TypeDesc.slice 3)), by simp [descOk]⟩⟩
theorem ty25 : TyOk PP 25 ⟨.struct [(0, 3), (1, 22), (2, 23)], 3, 56, [.int .i64 0, .nil, .nil]⟩ := ⟨⟨Proofs.Try.t25, _, by kernel_rfl, rfl, rfl, rfl, by kernel_rfl, by kernel_rfl, by kernel_rfl⟩, ⟨_, (by kernel_rfl : PP.underlying 25 = some (TypeDesc.struct #[{ name := "Id", type := 3, offset := 0, embedded := false, tag := "", pkgPath := "", byteOffset := 0 }, { name := "Peers", type := 22, offset := 1, embedded := false, tag := "", pkgPath := "", byteOffset := 8 }, { name := "Passive", type := 23, offset := 2, embedded := false, tag := "", pkgPath := "", byteOffset := 32 }])), by simp [descOk]⟩⟩
theorem ty28 : TyOk PP 28 ⟨.int .i64, 1, 8, [.int .i64 0]⟩ := ⟨⟨Proofs.Try.t28, _, by kernel_rfl, rfl, rfl, rfl, by kernel_rfl, by kernel_rfl, by kernel_rfl⟩, ⟨_, (by kernel_rfl : PP.underlying 28 = some (TypeDesc.int IntKind.i64)), by simp [descOk]⟩⟩
theorem ty42 : TyOk PP 42 ⟨.struct [(0, 3), (1, 3)], 2, 16, [.int .i64 0, .int .i64 0]⟩ := ⟨⟨Proofs.Try.t42, _, by kernel_rfl, rfl, rfl, rfl, by kernel_rfl, by kernel_rfl, by kernel_rfl⟩, ⟨_, (by kernel_rfl : PP.underlying 42 = some (TypeDesc.struct #[{ name := "Id", type := 3, offset := 0, embedded := false, tag := "", pkgPath := "", byteOffset := 0 }, { name := "Missed", type := 3, offset := 1, embedded := false, tag := "", pkgPath := "", byteOffset := 8 }])), by simp [descOk]⟩⟩
theorem ty44 : TyOk PP 44 ⟨.int .u64, 1, 8, [.int .u64 0]⟩ := ⟨⟨Proofs.Try.t44, _, by kernel_rfl, rfl, rfl, rfl, by kernel_rfl, by kernel_rfl, by kernel_rfl⟩, ⟨_, (by kernel_rfl : PP.underlying 44 = some (TypeDesc.int IntKind.u64)), by simp [descOk]⟩⟩
theorem ty49 : TyOk PP 49 ⟨.slice 67, 1, 24, [.nil]⟩ := ⟨⟨Proofs.Try.t49, _, by kernel_rfl, rfl, rfl, rfl, by kernel_rfl, by kernel_rfl, by kernel_rfl⟩, ⟨_, (by kernel_rfl : PP.underlying 49 = some (TypeDesc.slice 67)), by simp [descOk]⟩⟩
theorem ty50 : TyOk PP 50 ⟨.slice 92, 1, 24, [.nil]⟩ := ⟨⟨Proofs.Try.t50, _, by kernel_rfl, rfl, rfl, rfl, by kernel_rfl, by kernel_rfl, by kernel_rfl⟩, ⟨_, (by kernel_rfl : PP.underlying 50 = some (TypeDesc.slice 92)), by simp [descOk]⟩⟩
theorem ty52 : TyOk PP 52 ⟨.struct [(0, 4), (1, 25), (4, 49), (5, 50)], 6, 112, [.bool false, .int .i64 0, .nil, .nil, .nil, .nil]⟩ := ⟨⟨Proofs.Try.t52, _, by kernel_rfl, rfl, rfl, rfl, by kernel_rfl, by kernel_rfl, by kernel_rfl⟩, ⟨_, (by kernel_rfl : PP.underlying 52 = some (TypeDesc.struct #[{ name := "Up", type := 4, offset := 0, embedded := false, tag := "", pkgPath := "", byteOffset := 0 }, { name := "View", type := 25, offset := 1, embedded := false, tag := "", pkgPath := "", byteOffset := 8 }, { name := "Items", type := 49, offset := 4, embedded := false, tag := "", pkgPath := "", byteOffset := 64 }, { name := "Log", type := 50, offset := 5, embedded := false, tag := "", pkgPath := "", byteOffset := 88 }])), by simp [descOk]⟩⟩
theorem ty65 : TyOk PP 65 ⟨.struct [(0, 3), (1, 3)], 2, 16, [.int .i64 0, .int .i64 0]⟩ := ⟨⟨Proofs.Try.t65, _, by kernel_rfl, rfl, rfl, rfl, by kernel_rfl, by kernel_rfl, by kernel_rfl⟩, ⟨_, (by kernel_rfl : PP.underlying 65 = some (TypeDesc.struct #[{ name := "Count", type := 3, offset := 0, embedded := false, tag := "", pkgPath := "", byteOffset := 0 }, { name := "Writer", type := 3, offset := 1, embedded := false, tag := "", pkgPath := "", byteOffset := 8 }])), by simp [descOk]⟩⟩
theorem ty67 : TyOk PP 67 ⟨.struct [(0, 3), (1, 65), (3, 3), (4, 4)], 5, 40, [.int .i64 0, .int .i64 0, .int .i64 0, .int .i64 0, .bool false]⟩ := ⟨⟨Proofs.Try.t67, _, by kernel_rfl, rfl, rfl, rfl, by kernel_rfl, by kernel_rfl, by kernel_rfl⟩, ⟨_, (by kernel_rfl : PP.underlying 67 = some (TypeDesc.struct #[{ name := "Key", type := 3, offset := 0, embedded := false, tag := "", pkgPath := "", byteOffset := 0 }, { name := "Version", type := 65, offset := 1, embedded := false, tag := "", pkgPath := "", byteOffset := 8 }, { name := "Value", type := 3, offset := 3, embedded := false, tag := "", pkgPath := "", byteOffset := 24 }, { name := "Gone", type := 4, offset := 4, embedded := false, tag := "", pkgPath := "", byteOffset := 32 }])), by simp [descOk]⟩⟩
theorem ty69 : TyOk PP 69 ⟨.fn, 1, 8, [.undef]⟩ := ⟨⟨Proofs.Try.t69, _, by kernel_rfl, rfl, rfl, rfl, by kernel_rfl, by kernel_rfl, by kernel_rfl⟩, ⟨_, (by kernel_rfl : PP.underlying 69 = some (TypeDesc.func #[3] #[4] false)), by simp [descOk]⟩⟩
theorem ty79 : TyOk PP 79 ⟨.ptr, 1, 8, [.undef]⟩ := ⟨⟨Proofs.Try.t79, _, by kernel_rfl, rfl, rfl, rfl, by kernel_rfl, by kernel_rfl, by kernel_rfl⟩, ⟨_, (by kernel_rfl : PP.underlying 79 = some (TypeDesc.pointer 25)), by simp [descOk]⟩⟩
theorem ty92 : TyOk PP 92 ⟨.struct [(0, 3), (1, 4), (2, 3)], 3, 24, [.int .i64 0, .bool false, .int .i64 0]⟩ := ⟨⟨Proofs.Try.t92, _, by kernel_rfl, rfl, rfl, rfl, by kernel_rfl, by kernel_rfl, by kernel_rfl⟩, ⟨_, (by kernel_rfl : PP.underlying 92 = some (TypeDesc.struct #[{ name := "Key", type := 3, offset := 0, embedded := false, tag := "", pkgPath := "", byteOffset := 0 }, { name := "Has", type := 4, offset := 1, embedded := false, tag := "", pkgPath := "", byteOffset := 8 }, { name := "Value", type := 3, offset := 2, embedded := false, tag := "", pkgPath := "", byteOffset := 16 }])), by simp [descOk]⟩⟩
theorem ty119 : TyOk PP 119 ⟨.fn, 1, 8, [.undef]⟩ := ⟨⟨Proofs.Try.t119, _, by kernel_rfl, rfl, rfl, rfl, by kernel_rfl, by kernel_rfl, by kernel_rfl⟩, ⟨_, (by kernel_rfl : PP.underlying 119 = some (TypeDesc.func #[42, 3] #[3] false)), by simp [descOk]⟩⟩
theorem ty121 : TyOk PP 121 ⟨.struct [(0, 3)], 1, 8, [.int .i64 0]⟩ := ⟨⟨Proofs.Try.t121, _, by kernel_rfl, rfl, rfl, rfl, by kernel_rfl, by kernel_rfl, by kernel_rfl⟩, ⟨_, (by kernel_rfl : PP.underlying 121 = some (TypeDesc.struct #[{ name := "base", type := 3, offset := 0, embedded := false, tag := "", pkgPath := "gimmal/peers", byteOffset := 0 }])), by simp [descOk]⟩⟩
theorem ty125 : TyOk PP 125 ⟨.fn, 1, 8, [.undef]⟩ := ⟨⟨Proofs.Try.t125, _, by kernel_rfl, rfl, rfl, rfl, by kernel_rfl, by kernel_rfl, by kernel_rfl⟩, ⟨_, (by kernel_rfl : PP.underlying 125 = some (TypeDesc.func #[67, 3] #[3] false)), by simp [descOk]⟩⟩
theorem ty133 : TyOk PP 133 ⟨.fn, 1, 8, [.undef]⟩ := ⟨⟨Proofs.Try.t133, _, by kernel_rfl, rfl, rfl, rfl, by kernel_rfl, by kernel_rfl, by kernel_rfl⟩, ⟨_, (by kernel_rfl : PP.underlying 133 = some (TypeDesc.func #[92] #[4] false)), by simp [descOk]⟩⟩
theorem ty135 : TyOk PP 135 ⟨.ptr, 1, 8, [.undef]⟩ := ⟨⟨Proofs.Try.t135, _, by kernel_rfl, rfl, rfl, rfl, by kernel_rfl, by kernel_rfl, by kernel_rfl⟩, ⟨_, (by kernel_rfl : PP.underlying 135 = some (TypeDesc.pointer 67)), by simp [descOk]⟩⟩
theorem tyAll : ∀ p ∈ tab, TyOk PP p.1 p.2 := by
  intro p hp
  simp only [tab, List.mem_cons, List.not_mem_nil, or_false] at hp
  rcases hp with rfl | rfl | rfl | rfl | rfl | rfl | rfl | rfl | rfl | rfl | rfl | rfl | rfl | rfl | rfl | rfl | rfl | rfl | rfl | rfl | rfl
  · exact ty3
  · exact ty4
  · exact ty22
  · exact ty23
  · exact ty25
  · exact ty28
  · exact ty42
  · exact ty44
  · exact ty49
  · exact ty50
  · exact ty52
  · exact ty65
  · exact ty67
  · exact ty69
  · exact ty79
  · exact ty92
  · exact ty119
  · exact ty121
  · exact ty125
  · exact ty133
  · exact ty135
theorem TT_find {t : Nat} (h : (TT t).d.known = true) : (t, TT t) ∈ tab := by
  unfold TT at h ⊢
  split
  · rename_i p hp
    have h1 := List.find?_some hp
    have h2 := List.mem_of_find?_eq_some hp
    have : p.1 = t := by simpa using h1
    rw [← this]
    exact h2
  · rename_i hp
    rw [hp] at h
    cases h
theorem kidsAll : (tab.all fun p => p.2.d.kids.all fun k => (TT k).d.known) = true := by kernel_rfl
theorem tabOk0 : TabOk PP TT [] := by
  refine ⟨fun t h => tyAll _ (TT_find h), fun t k hk => ?_, ?_⟩
  · have h : (TT t).d.known = true := by
      generalize TT t = x at hk
      obtain ⟨d, _, _, _⟩ := x
      cases d <;> first | rfl | (simp [TD.kids] at hk)
    have := List.all_eq_true.1 kidsAll _ (TT_find h)
    exact List.all_eq_true.1 this k hk
  · intro t h
    simp at h
theorem eq42 : EqOk PP TT 42 := eqOk_of tabOk0 5 (by omega) (by kernel_rfl) (by kernel_rfl) (by kernel_rfl) (by kernel_rfl)
theorem eq65 : EqOk PP TT 65 := eqOk_of tabOk0 5 (by omega) (by kernel_rfl) (by kernel_rfl) (by kernel_rfl) (by kernel_rfl)
theorem eq67 : EqOk PP TT 67 := eqOk_of tabOk0 5 (by omega) (by kernel_rfl) (by kernel_rfl) (by kernel_rfl) (by kernel_rfl)
theorem eq92 : EqOk PP TT 92 := eqOk_of tabOk0 5 (by omega) (by kernel_rfl) (by kernel_rfl) (by kernel_rfl) (by kernel_rfl)
theorem eq121 : EqOk PP TT 121 := eqOk_of tabOk0 5 (by omega) (by kernel_rfl) (by kernel_rfl) (by kernel_rfl) (by kernel_rfl)
def EQS : List Nat := [42, 65, 67, 92, 121]
theorem tabOk : TabOk PP TT EQS := by
  refine ⟨tabOk0.ty, tabOk0.kids, ?_⟩
  intro t h
  simp only [EQS, List.mem_cons, List.not_mem_nil, or_false] at h
  rcases h with rfl | rfl | rfl | rfl | rfl
  · exact eq42
  · exact eq65
  · exact eq67
  · exact eq92
  · exact eq121
noncomputable def cfx (n0 : Nat) (own lend give full ovl : List Nat) : Cfg := ⟨TT, EQS, n0, own, lend, Den PP, full, give, DenF PP [0], ovl⟩
noncomputable abbrev cf (n0 : Nat) (own lend : List Nat) : Cfg := cfx n0 own lend [] [] []
section
variable (n0 : Nat) (own lend give full ovl : List Nat)
@[simp] theorem cf_T : (cfx n0 own lend give full ovl).T = TT := rfl
@[simp] theorem cf_eqs : (cfx n0 own lend give full ovl).eqs = EQS := rfl
@[simp] theorem cf_n0 : (cfx n0 own lend give full ovl).n0 = n0 := rfl
@[simp] theorem cf_own : (cfx n0 own lend give full ovl).own = own := rfl
@[simp] theorem cf_lendT : (cfx n0 own lend give full ovl).lendT = lend := rfl
@[simp] theorem cf_C : (cfx n0 own lend give full ovl).C = Den PP := rfl
@[simp] theorem cf_giveT : (cfx n0 own lend give full ovl).giveT = give := rfl
@[simp] theorem cf_full : (cfx n0 own lend give full ovl).full = full := rfl
@[simp] theorem cf_G : (cfx n0 own lend give full ovl).G = DenF PP [0] := rfl
@[simp] theorem cf_ovl : (cfx n0 own lend give full ovl).ovl = ovl := rfl
end
theorem den_ofG {f : Nat} {F : SF} {args : List D} {bs : List Blk} {r : D} {bs' : List Blk} (own lend give ovl : List Nat) (hO : ∀ f ∈ ovl, OvlOk PP TT f) (hF : ∀ c : Cfg, c.lendT = lend → isF PP c f F) (h : sFun (cfx bs.length own lend give [] ovl) F args bs r bs') : Den PP f args bs r bs' :=
  sFun_sound (c := cfx bs.length own lend give [] ovl) (by kernel_rfl) tabOk (fun _ _ _ _ _ h => h) (fun _ _ _ _ _ h => h) hO rfl (hF _ rfl) rfl h
theorem den_of {f : Nat} {F : SF} {args : List D} {bs : List Blk} {r : D} {bs' : List Blk} (own lend : List Nat) (hF : ∀ c : Cfg, c.lendT = lend → isF PP c f F) (h : sFun (cf bs.length own lend) F args bs r bs') : Den PP f args bs r bs' :=
  den_ofG own lend [] [] (fun _ h => absurd h List.not_mem_nil) hF h
theorem denF_of {f : Nat} {F : SF} {args : List D} {bs : List Blk} {r : D} {bs' : List Blk} (own lend give ovl : List Nat) (hb : 0 < bs.length) (hO : ∀ f ∈ ovl, OvlOk PP TT f) (hF : ∀ c : Cfg, c.lendT = lend → isF PP c f F) (h : sFun (cfx bs.length own lend give [0] ovl) F args bs r bs') : DenF PP [0] f args bs r bs' :=
  sFun_soundF (c := cfx bs.length own lend give [0] ovl) (by kernel_rfl) tabOk (fun _ _ _ _ _ h => h) (fun _ _ _ _ _ h => h) hO (by intro b hb'; simp at hb'; subst hb'; exact hb) (hF _ rfl) rfl h
theorem ovl111 : OvlOk PP TT 111 := ⟨Proofs.Try.f111, 22, 42, by kernel_rfl, by kernel_rfl, by kernel_rfl, by kernel_rfl, by kernel_rfl, by kernel_rfl, by simp, by simp⟩
theorem ovls111 : ∀ f ∈ [111], OvlOk PP TT f := fun f h => by rw [List.mem_singleton.1 h]; exact ovl111
theorem ovl118 : OvlOk PP TT 118 := ⟨Proofs.Try.f118, 49, 67, by kernel_rfl, by kernel_rfl, by kernel_rfl, by kernel_rfl, by kernel_rfl, by kernel_rfl, by simp, by simp⟩
theorem ovls118 : ∀ f ∈ [118], OvlOk PP TT f := fun f h => by rw [List.mem_singleton.1 h]; exact ovl118
end Go.AM
/- AM: this seat's functions in short. -/
namespace Go.AM
set_option linter.unusedSimpArgs false
set_option linter.unusedVariables false
def c_gimmallaw10_HelloAll_L2 : SC := (.seq (.seq (.ops [⟨some 80, (Op.move (Operand.tmp 13)), 3, none⟩,
    ⟨some 81, (Op.fieldAddr 25 (Operand.tmp 9) 1), 0, none⟩,
    ⟨some 82, (Op.load 22 (Operand.tmp 81)), 22, none⟩,
    ⟨some 83, (Op.call ⟨(Callee.builtin Builtin.len), #[(Operand.tmp 82)], #[22]⟩), 3, none⟩,
    ⟨some 84, (Op.binOp BinOp.lss 3 (Operand.tmp 80) (Operand.tmp 83) 3), 4, none⟩]) (.cond (Operand.tmp 84) .skip (.exit 4))) (.seq (.block 5 (.ops [⟨some 87, (Op.move (Operand.tmp 12)), 4, none⟩,
    ⟨some 88, (Op.move (Operand.tmp 87)), 4, none⟩,
    ⟨some 89, (Op.fieldAddr 25 (Operand.tmp 9) 1), 0, some (88, false)⟩,
    ⟨some 90, (Op.load 22 (Operand.tmp 89)), 22, some (88, false)⟩,
    ⟨some 91, (Op.move (Operand.tmp 13)), 3, some (88, false)⟩,
    ⟨some 92, (Op.indexAddr 22 (Operand.tmp 90) (Operand.tmp 91)), 0, some (88, false)⟩,
    ⟨some 93, (Op.fieldAddr 42 (Operand.tmp 92) 0), 0, some (88, false)⟩,
    ⟨some 94, (Op.load 3 (Operand.tmp 93)), 3, some (88, false)⟩,
    ⟨some 95, (Op.move (Operand.tmp 4)), 23, some (88, false)⟩,
    ⟨some 96, (Op.move (Operand.tmp 11)), 3, some (88, false)⟩,
    ⟨some 97, (Op.indexAddr 23 (Operand.tmp 95) (Operand.tmp 96)), 0, some (88, false)⟩,
    ⟨some 98, (Op.load 3 (Operand.tmp 97)), 3, some (88, false)⟩,
    ⟨some 99, (Op.binOp BinOp.eql 3 (Operand.tmp 94) (Operand.tmp 98) 3), 4, some (88, false)⟩,
    ⟨some 100, (Op.pick (Operand.tmp 88) (Operand.const (Value.bool true)) (Operand.tmp 99)), 4, none⟩,
    ⟨some 12, (Op.assign (Operand.tmp 100)), 4, none⟩])) (.ops [⟨some 85, (Op.move (Operand.tmp 13)), 3, none⟩,
    ⟨some 86, (Op.binOp BinOp.add 3 (Operand.tmp 85) (Operand.const (Value.int IntKind.i64 1)) 3), 3, none⟩,
    ⟨some 13, (Op.assign (Operand.tmp 86)), 3, none⟩])))
def c_gimmallaw10_HelloAll_L1 : SC := (.seq (.seq (.ops [⟨some 74, (Op.move (Operand.tmp 11)), 3, none⟩,
    ⟨some 75, (Op.move (Operand.tmp 4)), 23, none⟩,
    ⟨some 76, (Op.call ⟨(Callee.builtin Builtin.len), #[(Operand.tmp 75)], #[23]⟩), 3, none⟩,
    ⟨some 77, (Op.binOp BinOp.lss 3 (Operand.tmp 74) (Operand.tmp 76) 3), 4, none⟩]) (.cond (Operand.tmp 77) .skip (.exit 2))) (.seq (.block 3 (.seq (.ops [⟨some 12, (Op.assign (Operand.const (Value.bool false))), 4, none⟩]) (.seq (.seq (.ops [⟨some 13, (Op.assign (Operand.const (Value.int IntKind.i64 0))), 3, none⟩]) (.block 4 (.loop c_gimmallaw10_HelloAll_L2))) (.seq (.ops [⟨some 101, (Op.move (Operand.tmp 12)), 4, none⟩,
    ⟨some 102, (Op.unOp UnOp.not 4 (Operand.tmp 101)), 4, none⟩]) (.cond (Operand.tmp 102) (.seq (.ops [⟨some 2, (Op.assign (Operand.const (Value.bool false))), 4, none⟩]) .ret) .skip))))) (.ops [⟨some 78, (Op.move (Operand.tmp 11)), 3, none⟩,
    ⟨some 79, (Op.binOp BinOp.add 3 (Operand.tmp 78) (Operand.const (Value.int IntKind.i64 1)) 3), 3, none⟩,
    ⟨some 11, (Op.assign (Operand.tmp 79)), 3, none⟩])))
def c_gimmallaw10_HelloAll_L0 : SC := (.seq (.seq (.ops [⟨some 17, (Op.move (Operand.tmp 5)), 3, none⟩,
    ⟨some 18, (Op.move (Operand.tmp 0)), 23, none⟩,
    ⟨some 19, (Op.call ⟨(Callee.builtin Builtin.len), #[(Operand.tmp 18)], #[23]⟩), 3, none⟩,
    ⟨some 20, (Op.binOp BinOp.lss 3 (Operand.tmp 17) (Operand.tmp 19) 3), 4, none⟩,
    ⟨some 21, (Op.move (Operand.tmp 20)), 4, none⟩,
    ⟨some 22, (Op.move (Operand.tmp 5)), 3, some (21, true)⟩,
    ⟨some 23, (Op.binOp BinOp.lss 3 (Operand.tmp 22) (Operand.const (Value.int IntKind.i64 12)) 3), 4, some (21, true)⟩,
    ⟨some 24, (Op.pick (Operand.tmp 21) (Operand.tmp 23) (Operand.const (Value.bool false))), 4, none⟩]) (.cond (Operand.tmp 24) .skip (.exit 0))) (.seq (.block 1 (.seq (.ops [⟨some 27, (Op.move (Operand.tmp 0)), 23, none⟩,
    ⟨some 28, (Op.move (Operand.tmp 5)), 3, none⟩,
    ⟨some 29, (Op.indexAddr 23 (Operand.tmp 27) (Operand.tmp 28)), 0, none⟩,
    ⟨some 30, (Op.load 3 (Operand.tmp 29)), 3, none⟩,
    ⟨some 31, (Op.binOp BinOp.and 3 (Operand.tmp 30) (Operand.const (Value.int IntKind.i64 255)) 3), 3, none⟩,
    ⟨some 6, (Op.assign (Operand.tmp 31)), 3, none⟩]) (.seq (.seq (.ops [⟨some 32, (Op.move (Operand.tmp 6)), 3, none⟩,
    ⟨some 33, (Op.binOp BinOp.eql 3 (Operand.tmp 32) (Operand.const (Value.int IntKind.i64 100)) 3), 4, none⟩]) (.cond (Operand.tmp 33) (.exit 1) .skip)) (.seq (.ops [⟨some 35, (Op.load 25 (Operand.tmp 3)), 25, none⟩,
    ⟨some 36, (Op.move (Operand.tmp 6)), 3, none⟩,
    ⟨some 37, (Op.move (Operand.tmp 4)), 23, none⟩,
    ⟨some 38, (Op.call ⟨(Callee.value (Operand.func 17)), #[(Operand.tmp 35), (Operand.tmp 36), (Operand.tmp 37)], #[25, 3, 23]⟩), 29, none⟩,
    ⟨some 34, (Op.move (Operand.tmp 38)), 29, none⟩,
    ⟨some 39, (Op.extract (Operand.tmp 34) 0), 25, none⟩,
    ⟨some 40, (Op.extract (Operand.tmp 34) 1), 28, none⟩,
    ⟨some 7, (Op.alloc 25), 0, none⟩,
    ⟨none, (Op.store 25 (Operand.tmp 7) (Operand.tmp 39)), 0, none⟩,
    ⟨some 8, (Op.assign (Operand.tmp 40)), 28, none⟩]) (.seq (.seq (.ops [⟨some 41, (Op.move (Operand.tmp 8)), 28, none⟩,
    ⟨some 42, (Op.call ⟨(Callee.value (Operand.func 20)), #[(Operand.tmp 41)], #[28]⟩), 3, none⟩,
    ⟨some 43, (Op.binOp BinOp.neq 3 (Operand.tmp 42) (Operand.const (Value.int IntKind.i64 0)) 3), 4, none⟩]) (.cond (Operand.tmp 43) (.seq (.ops [⟨some 2, (Op.assign (Operand.const (Value.bool false))), 4, none⟩]) .ret) .skip)) (.seq (.ops [⟨some 44, (Op.load 25 (Operand.tmp 7)), 25, none⟩,
    ⟨none, (Op.store 25 (Operand.tmp 3) (Operand.tmp 44)), 0, none⟩]) (.seq (.ops [⟨some 45, (Op.move (Operand.tmp 4)), 23, none⟩,
    ⟨some 46, (Op.move (Operand.tmp 6)), 3, none⟩,
    ⟨some 47, (Op.call ⟨(Callee.value (Operand.func 25)), #[(Operand.tmp 45), (Operand.tmp 46)], #[23, 3]⟩), 4, none⟩,
    ⟨some 48, (Op.unOp UnOp.not 4 (Operand.tmp 47)), 4, none⟩]) (.cond (Operand.tmp 48) (.ops [⟨some 49, (Op.move (Operand.tmp 4)), 23, none⟩,
    ⟨some 50, (Op.move (Operand.tmp 6)), 3, none⟩,
    ⟨some 51, (Op.buildSlice 23 1 #[(0, (Operand.tmp 50))]), 23, none⟩,
    ⟨some 52, (Op.call ⟨(Callee.builtin Builtin.append), #[(Operand.tmp 49), (Operand.tmp 51)], #[23, 23]⟩), 23, none⟩,
    ⟨some 4, (Op.assign (Operand.tmp 52)), 23, none⟩]) .skip)))))))) (.ops [⟨some 25, (Op.move (Operand.tmp 5)), 3, none⟩,
    ⟨some 26, (Op.binOp BinOp.add 3 (Operand.tmp 25) (Operand.const (Value.int IntKind.i64 1)) 3), 3, none⟩,
    ⟨some 5, (Op.assign (Operand.tmp 26)), 3, none⟩])))
def c_gimmallaw10_HelloAll : SF := ⟨107, [(ResultVar.tmp 2)],
  (.seq (.ops [⟨some 2, (Op.assign (Operand.const (Value.bool false))), 4, none⟩]) (.seq (.seq (.ops [⟨some 14, (Op.call ⟨(Callee.value (Operand.func 23)), #[], #[]⟩), 4, none⟩,
    ⟨some 15, (Op.unOp UnOp.not 4 (Operand.tmp 14)), 4, none⟩]) (.cond (Operand.tmp 15) (.seq (.ops [⟨some 2, (Op.assign (Operand.const (Value.bool false))), 4, none⟩]) .ret) .skip)) (.seq (.ops [⟨some 16, (Op.build 25 #[(0, (Operand.const (Value.int IntKind.i64 100)))]), 25, none⟩,
    ⟨some 3, (Op.alloc 25), 0, none⟩,
    ⟨none, (Op.store 25 (Operand.tmp 3) (Operand.tmp 16)), 0, none⟩]) (.seq (.ops [⟨some 4, (Op.assign (Operand.const (Value.slice none 0 0))), 23, none⟩]) (.seq (.seq (.ops [⟨some 5, (Op.assign (Operand.const (Value.int IntKind.i64 0))), 3, none⟩]) (.block 0 (.loop c_gimmallaw10_HelloAll_L0))) (.seq (.seq (.ops [⟨some 53, (Op.fieldAddr 25 (Operand.tmp 3) 1), 0, none⟩,
    ⟨some 54, (Op.load 22 (Operand.tmp 53)), 22, none⟩,
    ⟨some 55, (Op.call ⟨(Callee.builtin Builtin.len), #[(Operand.tmp 54)], #[22]⟩), 3, none⟩,
    ⟨some 56, (Op.move (Operand.tmp 4)), 23, none⟩,
    ⟨some 57, (Op.call ⟨(Callee.builtin Builtin.len), #[(Operand.tmp 56)], #[23]⟩), 3, none⟩,
    ⟨some 58, (Op.binOp BinOp.neq 3 (Operand.tmp 55) (Operand.tmp 57) 3), 4, none⟩,
    ⟨some 59, (Op.move (Operand.tmp 58)), 4, none⟩,
    ⟨some 60, (Op.fieldAddr 25 (Operand.tmp 3) 2), 0, some (59, false)⟩,
    ⟨some 61, (Op.load 23 (Operand.tmp 60)), 23, some (59, false)⟩,
    ⟨some 62, (Op.call ⟨(Callee.builtin Builtin.len), #[(Operand.tmp 61)], #[23]⟩), 3, some (59, false)⟩,
    ⟨some 63, (Op.binOp BinOp.neq 3 (Operand.tmp 62) (Operand.const (Value.int IntKind.i64 0)) 3), 4, some (59, false)⟩,
    ⟨some 64, (Op.pick (Operand.tmp 59) (Operand.const (Value.bool true)) (Operand.tmp 63)), 4, none⟩]) (.cond (Operand.tmp 64) (.seq (.ops [⟨some 2, (Op.assign (Operand.const (Value.bool false))), 4, none⟩]) .ret) .skip)) (.seq (.ops [⟨some 66, (Op.build 25 #[(0, (Operand.const (Value.int IntKind.i64 100)))]), 25, none⟩,
    ⟨some 67, (Op.move (Operand.tmp 4)), 23, none⟩,
    ⟨some 68, (Op.call ⟨(Callee.value (Operand.func 17)), #[(Operand.tmp 66), (Operand.const (Value.int IntKind.i64 7)), (Operand.tmp 67)], #[25, 3, 23]⟩), 29, none⟩,
    ⟨some 65, (Op.move (Operand.tmp 68)), 29, none⟩,
    ⟨some 69, (Op.extract (Operand.tmp 65) 0), 25, none⟩,
    ⟨some 70, (Op.extract (Operand.tmp 65) 1), 28, none⟩,
    ⟨some 9, (Op.alloc 25), 0, none⟩,
    ⟨none, (Op.store 25 (Operand.tmp 9) (Operand.tmp 69)), 0, none⟩,
    ⟨some 10, (Op.assign (Operand.tmp 70)), 28, none⟩]) (.seq (.seq (.ops [⟨some 71, (Op.move (Operand.tmp 10)), 28, none⟩,
    ⟨some 72, (Op.call ⟨(Callee.value (Operand.func 20)), #[(Operand.tmp 71)], #[28]⟩), 3, none⟩,
    ⟨some 73, (Op.binOp BinOp.neq 3 (Operand.tmp 72) (Operand.const (Value.int IntKind.i64 0)) 3), 4, none⟩]) (.cond (Operand.tmp 73) (.seq (.ops [⟨some 2, (Op.assign (Operand.const (Value.bool false))), 4, none⟩]) .ret) .skip)) (.seq (.seq (.ops [⟨some 11, (Op.assign (Operand.const (Value.int IntKind.i64 0))), 3, none⟩]) (.block 2 (.loop c_gimmallaw10_HelloAll_L1))) (.seq (.ops [⟨some 103, (Op.call ⟨(Callee.value (Operand.func 26)), #[], #[]⟩), 25, none⟩,
    ⟨some 104, (Op.field 25 (Operand.tmp 103) 1), 22, none⟩,
    ⟨some 105, (Op.call ⟨(Callee.builtin Builtin.len), #[(Operand.tmp 104)], #[22]⟩), 3, none⟩,
    ⟨some 106, (Op.binOp BinOp.eql 3 (Operand.tmp 105) (Operand.const (Value.int IntKind.i64 3)) 3), 4, none⟩,
    ⟨some 2, (Op.assign (Operand.tmp 106)), 4, none⟩]) .ret))))))))))⟩
theorem is_gimmallaw10_HelloAll (c : Cfg) (h : c.lendT = []) : isF PP c 9 c_gimmallaw10_HelloAll := isF_of (fn := Proofs.Try.f9) (by kernel_rfl) (by kernel_rfl) rfl h (by kernel_rfl) rfl rfl (by kernel_rfl)
def c_hello_Take_L0 : SC := (.seq (.ops [⟨some 43, (Op.binOp BinOp.lss 3 (Operand.tmp 42) (Operand.tmp 41) 3), 0, none⟩]) (.seq (.cond (Operand.tmp 43) .skip (.exit 0)) (.seq (.block 1 (.seq (.ops [⟨some 44, (Op.indexAddr 23 (Operand.tmp 40) (Operand.tmp 42)), 0, none⟩,
    ⟨some 45, (Op.load 3 (Operand.tmp 44)), 3, none⟩,
    ⟨some 10, (Op.assign (Operand.tmp 45)), 3, none⟩]) (.seq (.ops [⟨some 46, (Op.move (Operand.tmp 10)), 3, none⟩,
    ⟨some 47, (Op.fieldAddr 25 (Operand.tmp 8) 0), 0, none⟩,
    ⟨some 48, (Op.load 3 (Operand.tmp 47)), 3, none⟩,
    ⟨some 49, (Op.binOp BinOp.neq 3 (Operand.tmp 46) (Operand.tmp 48) 3), 4, none⟩,
    ⟨some 50, (Op.move (Operand.tmp 49)), 4, none⟩,
    ⟨some 51, (Op.move (Operand.tmp 10)), 3, some (50, true)⟩,
    ⟨some 52, (Op.call ⟨(Callee.value (Operand.func 50)), #[(Operand.tmp 8), (Operand.tmp 51)], #[79, 3]⟩), 4, some (50, true)⟩,
    ⟨some 53, (Op.unOp UnOp.not 4 (Operand.tmp 52)), 4, some (50, true)⟩,
    ⟨some 54, (Op.pick (Operand.tmp 50) (Operand.tmp 53) (Operand.const (Value.bool false))), 4, none⟩,
    ⟨some 55, (Op.move (Operand.tmp 54)), 4, none⟩,
    ⟨some 56, (Op.move (Operand.tmp 10)), 3, some (55, true)⟩,
    ⟨some 57, (Op.call ⟨(Callee.value (Operand.func 51)), #[(Operand.tmp 8), (Operand.tmp 56)], #[79, 3]⟩), 4, some (55, true)⟩,
    ⟨some 58, (Op.unOp UnOp.not 4 (Operand.tmp 57)), 4, some (55, true)⟩,
    ⟨some 59, (Op.pick (Operand.tmp 55) (Operand.tmp 58) (Operand.const (Value.bool false))), 4, none⟩]) (.cond (Operand.tmp 59) (.ops [⟨some 60, (Op.move (Operand.tmp 10)), 3, none⟩,
    ⟨some 61, (Op.call ⟨(Callee.value (Operand.func 49)), #[(Operand.tmp 8), (Operand.tmp 60)], #[79, 3]⟩), 0, none⟩]) .skip)))) (.ops [⟨some 62, (Op.binOp BinOp.add 3 (Operand.tmp 42) (Operand.const (Value.int IntKind.i64 1)) 3), 3, none⟩,
    ⟨some 42, (Op.move (Operand.tmp 62)), 3, none⟩]))))
def c_hello_Take : SF := ⟨64, [(ResultVar.cell 6 25), (ResultVar.tmp 7)],
  (.seq (.ops [⟨some 3, (Op.box 25 (Operand.tmp 0)), 0, none⟩,
    ⟨some 6, (Op.alloc 25), 0, none⟩,
    ⟨some 7, (Op.assign (Operand.const (Value.int IntKind.i64 0))), 28, none⟩]) (.seq (.seq (.ops [⟨some 11, (Op.load 25 (Operand.tmp 3)), 25, none⟩,
    ⟨some 12, (Op.call ⟨(Callee.value (Operand.func 45)), #[(Operand.tmp 11)], #[25]⟩), 4, none⟩,
    ⟨some 13, (Op.unOp UnOp.not 4 (Operand.tmp 12)), 4, none⟩,
    ⟨some 14, (Op.move (Operand.tmp 13)), 4, none⟩,
    ⟨some 15, (Op.move (Operand.tmp 1)), 3, some (14, false)⟩,
    ⟨some 16, (Op.call ⟨(Callee.value (Operand.func 46)), #[(Operand.tmp 15)], #[3]⟩), 4, some (14, false)⟩,
    ⟨some 17, (Op.unOp UnOp.not 4 (Operand.tmp 16)), 4, some (14, false)⟩,
    ⟨some 18, (Op.pick (Operand.tmp 14) (Operand.const (Value.bool true)) (Operand.tmp 17)), 4, none⟩,
    ⟨some 19, (Op.move (Operand.tmp 18)), 4, none⟩,
    ⟨some 20, (Op.move (Operand.tmp 1)), 3, some (19, false)⟩,
    ⟨some 21, (Op.fieldAddr 25 (Operand.tmp 3) 0), 0, some (19, false)⟩,
    ⟨some 22, (Op.load 3 (Operand.tmp 21)), 3, some (19, false)⟩,
    ⟨some 23, (Op.binOp BinOp.eql 3 (Operand.tmp 20) (Operand.tmp 22) 3), 4, some (19, false)⟩,
    ⟨some 24, (Op.pick (Operand.tmp 19) (Operand.const (Value.bool true)) (Operand.tmp 23)), 4, none⟩,
    ⟨some 25, (Op.move (Operand.tmp 24)), 4, none⟩,
    ⟨some 26, (Op.move (Operand.tmp 2)), 23, some (25, false)⟩,
    ⟨some 27, (Op.call ⟨(Callee.builtin Builtin.len), #[(Operand.tmp 26)], #[23]⟩), 3, some (25, false)⟩,
    ⟨some 28, (Op.binOp BinOp.gtr 3 (Operand.tmp 27) (Operand.const (Value.int IntKind.i64 16)) 3), 4, some (25, false)⟩,
    ⟨some 29, (Op.pick (Operand.tmp 25) (Operand.const (Value.bool true)) (Operand.tmp 28)), 4, none⟩,
    ⟨some 30, (Op.move (Operand.tmp 29)), 4, none⟩,
    ⟨some 31, (Op.move (Operand.tmp 2)), 23, some (30, false)⟩,
    ⟨some 32, (Op.call ⟨(Callee.value (Operand.func 47)), #[(Operand.tmp 31)], #[23]⟩), 4, some (30, false)⟩,
    ⟨some 33, (Op.unOp UnOp.not 4 (Operand.tmp 32)), 4, some (30, false)⟩,
    ⟨some 34, (Op.pick (Operand.tmp 30) (Operand.const (Value.bool true)) (Operand.tmp 33)), 4, none⟩]) (.cond (Operand.tmp 34) (.seq (.ops [⟨some 35, (Op.build 25 #[]), 25, none⟩,
    ⟨none, (Op.store 25 (Operand.tmp 6) (Operand.tmp 35)), 0, none⟩,
    ⟨some 7, (Op.assign (Operand.const (Value.int IntKind.i64 1000))), 28, none⟩]) .ret) .skip)) (.seq (.ops [⟨some 36, (Op.load 25 (Operand.tmp 3)), 25, none⟩,
    ⟨some 37, (Op.call ⟨(Callee.value (Operand.func 48)), #[(Operand.tmp 36)], #[25]⟩), 25, none⟩,
    ⟨some 8, (Op.alloc 25), 0, none⟩,
    ⟨none, (Op.store 25 (Operand.tmp 8) (Operand.tmp 37)), 0, none⟩]) (.seq (.ops [⟨some 38, (Op.move (Operand.tmp 1)), 3, none⟩,
    ⟨some 39, (Op.call ⟨(Callee.value (Operand.func 49)), #[(Operand.tmp 8), (Operand.tmp 38)], #[79, 3]⟩), 0, none⟩]) (.seq (.seq (.ops [⟨some 40, (Op.move (Operand.tmp 2)), 23, none⟩,
    ⟨some 41, (Op.call ⟨(Callee.builtin Builtin.len), #[(Operand.tmp 40)], #[23]⟩), 3, none⟩,
    ⟨some 42, (Op.move (Operand.const (Value.int IntKind.i64 0))), 3, none⟩]) (.block 0 (.loop c_hello_Take_L0))) (.seq (.ops [⟨some 63, (Op.load 25 (Operand.tmp 8)), 25, none⟩,
    ⟨none, (Op.store 25 (Operand.tmp 6) (Operand.tmp 63)), 0, none⟩,
    ⟨some 7, (Op.assign (Operand.const (Value.int IntKind.i64 0))), 28, none⟩]) .ret))))))⟩
theorem is_hello_Take (c : Cfg) (h : c.lendT = [38, 60]) : isF PP c 17 c_hello_Take := isF_of (fn := Proofs.Try.f17) (by kernel_rfl) (by kernel_rfl) rfl h (by kernel_rfl) rfl rfl (by kernel_rfl)
def c_gimmallaw0_SameView : SF := ⟨24, [(ResultVar.tmp 4)],
  (.seq (.ops [⟨some 2, (Op.box 25 (Operand.tmp 0)), 0, none⟩,
    ⟨some 3, (Op.box 25 (Operand.tmp 1)), 0, none⟩,
    ⟨some 4, (Op.assign (Operand.const (Value.bool false))), 4, none⟩]) (.seq (.ops [⟨some 5, (Op.fieldAddr 25 (Operand.tmp 2) 0), 0, none⟩,
    ⟨some 6, (Op.load 3 (Operand.tmp 5)), 3, none⟩,
    ⟨some 7, (Op.fieldAddr 25 (Operand.tmp 3) 0), 0, none⟩,
    ⟨some 8, (Op.load 3 (Operand.tmp 7)), 3, none⟩,
    ⟨some 9, (Op.binOp BinOp.eql 3 (Operand.tmp 6) (Operand.tmp 8) 3), 4, none⟩,
    ⟨some 10, (Op.move (Operand.tmp 9)), 4, none⟩,
    ⟨some 11, (Op.fieldAddr 25 (Operand.tmp 2) 1), 0, some (10, true)⟩,
    ⟨some 12, (Op.load 22 (Operand.tmp 11)), 22, some (10, true)⟩,
    ⟨some 13, (Op.fieldAddr 25 (Operand.tmp 3) 1), 0, some (10, true)⟩,
    ⟨some 14, (Op.load 22 (Operand.tmp 13)), 22, some (10, true)⟩,
    ⟨some 15, (Op.call ⟨(Callee.value (Operand.func 56)), #[(Operand.tmp 12), (Operand.tmp 14)], #[22, 22]⟩), 4, some (10, true)⟩,
    ⟨some 16, (Op.pick (Operand.tmp 10) (Operand.tmp 15) (Operand.const (Value.bool false))), 4, none⟩,
    ⟨some 17, (Op.move (Operand.tmp 16)), 4, none⟩,
    ⟨some 18, (Op.fieldAddr 25 (Operand.tmp 2) 2), 0, some (17, true)⟩,
    ⟨some 19, (Op.load 23 (Operand.tmp 18)), 23, some (17, true)⟩,
    ⟨some 20, (Op.fieldAddr 25 (Operand.tmp 3) 2), 0, some (17, true)⟩,
    ⟨some 21, (Op.load 23 (Operand.tmp 20)), 23, some (17, true)⟩,
    ⟨some 22, (Op.call ⟨(Callee.value (Operand.func 27)), #[(Operand.tmp 19), (Operand.tmp 21)], #[23, 23]⟩), 4, some (17, true)⟩,
    ⟨some 23, (Op.pick (Operand.tmp 17) (Operand.tmp 22) (Operand.const (Value.bool false))), 4, none⟩,
    ⟨some 4, (Op.assign (Operand.tmp 23)), 4, none⟩]) .ret))⟩
theorem is_gimmallaw0_SameView (c : Cfg) (h : c.lendT = []) : isF PP c 19 c_gimmallaw0_SameView := isF_of (fn := Proofs.Try.f19) (by kernel_rfl) (by kernel_rfl) rfl h (by kernel_rfl) rfl rfl (by kernel_rfl)
def c_gimmallaw0_Num : SF := ⟨4, [(ResultVar.tmp 2)],
  (.seq (.ops [⟨some 2, (Op.assign (Operand.const (Value.int IntKind.i64 0))), 3, none⟩]) (.seq (.ops [⟨some 3, (Op.move (Operand.tmp 0)), 28, none⟩,
    ⟨some 2, (Op.assign (Operand.tmp 3)), 3, none⟩]) .ret))⟩
theorem is_gimmallaw0_Num (c : Cfg) (h : c.lendT = []) : isF PP c 20 c_gimmallaw0_Num := isF_of (fn := Proofs.Try.f20) (by kernel_rfl) (by kernel_rfl) rfl h (by kernel_rfl) rfl rfl (by kernel_rfl)
end Go.AM
/- AM: this seat's functions in short. -/
namespace Go.AM
set_option linter.unusedSimpArgs false
set_option linter.unusedVariables false
def c_gimmallaw10_awake : SF := ⟨51, [(ResultVar.tmp 0)],
  (.seq (.ops [⟨some 0, (Op.assign (Operand.const (Value.bool false))), 4, none⟩]) (.seq (.ops [⟨some 9, (Op.call ⟨(Callee.value (Operand.func 26)), #[], #[]⟩), 25, none⟩,
    ⟨some 10, (Op.buildSlice 23 4 #[(0, (Operand.const (Value.int IntKind.i64 7))), (1, (Operand.const (Value.int IntKind.i64 100))), (2, (Operand.const (Value.int IntKind.i64 102))), (3, (Operand.const (Value.int IntKind.i64 101)))]), 23, none⟩,
    ⟨some 11, (Op.call ⟨(Callee.value (Operand.func 17)), #[(Operand.tmp 9), (Operand.const (Value.int IntKind.i64 150)), (Operand.tmp 10)], #[25, 3, 23]⟩), 29, none⟩,
    ⟨some 8, (Op.move (Operand.tmp 11)), 29, none⟩,
    ⟨some 12, (Op.extract (Operand.tmp 8) 0), 25, none⟩,
    ⟨some 13, (Op.extract (Operand.tmp 8) 1), 28, none⟩,
    ⟨some 1, (Op.alloc 25), 0, none⟩,
    ⟨none, (Op.store 25 (Operand.tmp 1) (Operand.tmp 12)), 0, none⟩,
    ⟨some 2, (Op.assign (Operand.tmp 13)), 28, none⟩]) (.seq (.ops [⟨some 15, (Op.call ⟨(Callee.value (Operand.func 26)), #[], #[]⟩), 25, none⟩,
    ⟨some 16, (Op.call ⟨(Callee.value (Operand.func 17)), #[(Operand.tmp 15), (Operand.const (Value.int IntKind.i64 100)), (Operand.const (Value.slice none 0 0))], #[25, 3, 23]⟩), 29, none⟩,
    ⟨some 14, (Op.move (Operand.tmp 16)), 29, none⟩,
    ⟨some 17, (Op.extract (Operand.tmp 14) 0), 25, none⟩,
    ⟨some 18, (Op.extract (Operand.tmp 14) 1), 28, none⟩,
    ⟨some 3, (Op.alloc 25), 0, none⟩,
    ⟨none, (Op.store 25 (Operand.tmp 3) (Operand.tmp 17)), 0, none⟩,
    ⟨some 4, (Op.assign (Operand.tmp 18)), 28, none⟩]) (.seq (.ops [⟨some 20, (Op.call ⟨(Callee.value (Operand.func 26)), #[], #[]⟩), 25, none⟩,
    ⟨some 21, (Op.buildSlice 23 1 #[(0, (Operand.const (Value.int IntKind.i64 256)))]), 23, none⟩,
    ⟨some 22, (Op.call ⟨(Callee.value (Operand.func 17)), #[(Operand.tmp 20), (Operand.const (Value.int IntKind.i64 150)), (Operand.tmp 21)], #[25, 3, 23]⟩), 29, none⟩,
    ⟨some 19, (Op.move (Operand.tmp 22)), 29, none⟩,
    ⟨some 23, (Op.extract (Operand.tmp 19) 0), 25, none⟩,
    ⟨some 24, (Op.extract (Operand.tmp 19) 1), 28, none⟩,
    ⟨some 5, (Op.alloc 25), 0, none⟩,
    ⟨none, (Op.store 25 (Operand.tmp 5) (Operand.tmp 23)), 0, none⟩,
    ⟨some 6, (Op.assign (Operand.tmp 24)), 28, none⟩]) (.seq (.ops [⟨some 25, (Op.build 42 #[(0, (Operand.const (Value.int IntKind.i64 101))), (1, (Operand.const (Value.int IntKind.i64 2)))]), 42, none⟩,
    ⟨some 26, (Op.build 42 #[(0, (Operand.const (Value.int IntKind.i64 102)))]), 42, none⟩,
    ⟨some 27, (Op.build 42 #[(0, (Operand.const (Value.int IntKind.i64 150)))]), 42, none⟩,
    ⟨some 28, (Op.build 42 #[(0, (Operand.const (Value.int IntKind.i64 200)))]), 42, none⟩,
    ⟨some 29, (Op.build 42 #[(0, (Operand.const (Value.int IntKind.i64 90))), (1, (Operand.const (Value.int IntKind.i64 1)))]), 42, none⟩,
    ⟨some 30, (Op.buildSlice 22 5 #[(0, (Operand.tmp 25)), (1, (Operand.tmp 26)), (2, (Operand.tmp 27)), (3, (Operand.tmp 28)), (4, (Operand.tmp 29))]), 22, none⟩,
    ⟨some 31, (Op.buildSlice 23 1 #[(0, (Operand.const (Value.int IntKind.i64 7)))]), 23, none⟩,
    ⟨some 32, (Op.build 25 #[(0, (Operand.const (Value.int IntKind.i64 100))), (1, (Operand.tmp 30)), (2, (Operand.tmp 31))]), 25, none⟩,
    ⟨some 7, (Op.alloc 25), 0, none⟩,
    ⟨none, (Op.store 25 (Operand.tmp 7) (Operand.tmp 32)), 0, none⟩]) (.seq (.ops [⟨some 33, (Op.load 25 (Operand.tmp 1)), 25, none⟩,
    ⟨some 34, (Op.load 25 (Operand.tmp 7)), 25, none⟩,
    ⟨some 35, (Op.call ⟨(Callee.value (Operand.func 19)), #[(Operand.tmp 33), (Operand.tmp 34)], #[25, 25]⟩), 4, none⟩,
    ⟨some 36, (Op.move (Operand.tmp 35)), 4, none⟩,
    ⟨some 37, (Op.move (Operand.tmp 2)), 28, some (36, true)⟩,
    ⟨some 38, (Op.call ⟨(Callee.value (Operand.func 20)), #[(Operand.tmp 37)], #[28]⟩), 3, some (36, true)⟩,
    ⟨some 39, (Op.binOp BinOp.eql 3 (Operand.tmp 38) (Operand.const (Value.int IntKind.i64 0)) 3), 4, some (36, true)⟩,
    ⟨some 40, (Op.pick (Operand.tmp 36) (Operand.tmp 39) (Operand.const (Value.bool false))), 4, none⟩,
    ⟨some 41, (Op.move (Operand.tmp 40)), 4, none⟩,
    ⟨some 42, (Op.move (Operand.tmp 4)), 28, some (41, true)⟩,
    ⟨some 43, (Op.call ⟨(Callee.value (Operand.func 20)), #[(Operand.tmp 42)], #[28]⟩), 3, some (41, true)⟩,
    ⟨some 44, (Op.binOp BinOp.eql 3 (Operand.tmp 43) (Operand.const (Value.int IntKind.i64 1000)) 3), 4, some (41, true)⟩,
    ⟨some 45, (Op.pick (Operand.tmp 41) (Operand.tmp 44) (Operand.const (Value.bool false))), 4, none⟩,
    ⟨some 46, (Op.move (Operand.tmp 45)), 4, none⟩,
    ⟨some 47, (Op.move (Operand.tmp 6)), 28, some (46, true)⟩,
    ⟨some 48, (Op.call ⟨(Callee.value (Operand.func 20)), #[(Operand.tmp 47)], #[28]⟩), 3, some (46, true)⟩,
    ⟨some 49, (Op.binOp BinOp.eql 3 (Operand.tmp 48) (Operand.const (Value.int IntKind.i64 1000)) 3), 4, some (46, true)⟩,
    ⟨some 50, (Op.pick (Operand.tmp 46) (Operand.tmp 49) (Operand.const (Value.bool false))), 4, none⟩,
    ⟨some 0, (Op.assign (Operand.tmp 50)), 4, none⟩]) .ret))))))⟩
theorem is_gimmallaw10_awake (c : Cfg) (h : c.lendT = []) : isF PP c 23 c_gimmallaw10_awake := isF_of (fn := Proofs.Try.f23) (by kernel_rfl) (by kernel_rfl) rfl h (by kernel_rfl) rfl rfl (by kernel_rfl)
def c_gimmallaw10_in_L0 : SC := (.seq (.seq (.ops [⟨some 6, (Op.move (Operand.tmp 5)), 3, none⟩,
    ⟨some 7, (Op.move (Operand.tmp 0)), 23, none⟩,
    ⟨some 8, (Op.call ⟨(Callee.builtin Builtin.len), #[(Operand.tmp 7)], #[23]⟩), 3, none⟩,
    ⟨some 9, (Op.binOp BinOp.lss 3 (Operand.tmp 6) (Operand.tmp 8) 3), 4, none⟩]) (.cond (Operand.tmp 9) .skip (.exit 0))) (.seq (.block 1 (.seq (.ops [⟨some 12, (Op.move (Operand.tmp 0)), 23, none⟩,
    ⟨some 13, (Op.move (Operand.tmp 5)), 3, none⟩,
    ⟨some 14, (Op.indexAddr 23 (Operand.tmp 12) (Operand.tmp 13)), 0, none⟩,
    ⟨some 15, (Op.load 3 (Operand.tmp 14)), 3, none⟩,
    ⟨some 16, (Op.move (Operand.tmp 1)), 3, none⟩,
    ⟨some 17, (Op.binOp BinOp.eql 3 (Operand.tmp 15) (Operand.tmp 16) 3), 4, none⟩]) (.cond (Operand.tmp 17) (.seq (.ops [⟨some 4, (Op.assign (Operand.const (Value.bool true))), 4, none⟩]) .ret) .skip))) (.ops [⟨some 10, (Op.move (Operand.tmp 5)), 3, none⟩,
    ⟨some 11, (Op.binOp BinOp.add 3 (Operand.tmp 10) (Operand.const (Value.int IntKind.i64 1)) 3), 3, none⟩,
    ⟨some 5, (Op.assign (Operand.tmp 11)), 3, none⟩])))
def c_gimmallaw10_in : SF := ⟨18, [(ResultVar.tmp 4)],
  (.seq (.ops [⟨some 4, (Op.assign (Operand.const (Value.bool false))), 4, none⟩]) (.seq (.seq (.ops [⟨some 5, (Op.assign (Operand.const (Value.int IntKind.i64 0))), 3, none⟩]) (.block 0 (.loop c_gimmallaw10_in_L0))) (.seq (.ops [⟨some 4, (Op.assign (Operand.const (Value.bool false))), 4, none⟩]) .ret)))⟩
theorem is_gimmallaw10_in (c : Cfg) (h : c.lendT = []) : isF PP c 25 c_gimmallaw10_in := isF_of (fn := Proofs.Try.f25) (by kernel_rfl) (by kernel_rfl) rfl h (by kernel_rfl) rfl rfl (by kernel_rfl)
def c_gimmallaw10_given : SF := ⟨7, [(ResultVar.cell 0 25)],
  (.seq (.ops [⟨some 0, (Op.alloc 25), 0, none⟩]) (.seq (.ops [⟨some 1, (Op.build 42 #[(0, (Operand.const (Value.int IntKind.i64 101))), (1, (Operand.const (Value.int IntKind.i64 2)))]), 42, none⟩,
    ⟨some 2, (Op.build 42 #[(0, (Operand.const (Value.int IntKind.i64 200)))]), 42, none⟩,
    ⟨some 3, (Op.build 42 #[(0, (Operand.const (Value.int IntKind.i64 90))), (1, (Operand.const (Value.int IntKind.i64 1)))]), 42, none⟩,
    ⟨some 4, (Op.buildSlice 22 3 #[(0, (Operand.tmp 1)), (1, (Operand.tmp 2)), (2, (Operand.tmp 3))]), 22, none⟩,
    ⟨some 5, (Op.buildSlice 23 2 #[(0, (Operand.const (Value.int IntKind.i64 7))), (1, (Operand.const (Value.int IntKind.i64 150)))]), 23, none⟩,
    ⟨some 6, (Op.build 25 #[(0, (Operand.const (Value.int IntKind.i64 100))), (1, (Operand.tmp 4)), (2, (Operand.tmp 5))]), 25, none⟩,
    ⟨none, (Op.store 25 (Operand.tmp 0) (Operand.tmp 6)), 0, none⟩]) .ret))⟩
theorem is_gimmallaw10_given (c : Cfg) (h : c.lendT = []) : isF PP c 26 c_gimmallaw10_given := isF_of (fn := Proofs.Try.f26) (by kernel_rfl) (by kernel_rfl) rfl h (by kernel_rfl) rfl rfl (by kernel_rfl)
def c_gimmallaw0_SameInts_L0 : SC := (.seq (.seq (.ops [⟨some 11, (Op.move (Operand.tmp 5)), 3, none⟩,
    ⟨some 12, (Op.move (Operand.tmp 0)), 23, none⟩,
    ⟨some 13, (Op.call ⟨(Callee.builtin Builtin.len), #[(Operand.tmp 12)], #[23]⟩), 3, none⟩,
    ⟨some 14, (Op.binOp BinOp.lss 3 (Operand.tmp 11) (Operand.tmp 13) 3), 4, none⟩]) (.cond (Operand.tmp 14) .skip (.exit 0))) (.seq (.block 1 (.seq (.ops [⟨some 17, (Op.move (Operand.tmp 0)), 23, none⟩,
    ⟨some 18, (Op.move (Operand.tmp 5)), 3, none⟩,
    ⟨some 21, (Op.move (Operand.tmp 1)), 23, none⟩,
    ⟨some 22, (Op.move (Operand.tmp 5)), 3, none⟩,
    ⟨some 19, (Op.indexAddr 23 (Operand.tmp 17) (Operand.tmp 18)), 0, none⟩,
    ⟨some 20, (Op.load 3 (Operand.tmp 19)), 3, none⟩,
    ⟨some 23, (Op.indexAddr 23 (Operand.tmp 21) (Operand.tmp 22)), 0, none⟩,
    ⟨some 24, (Op.load 3 (Operand.tmp 23)), 3, none⟩,
    ⟨some 25, (Op.binOp BinOp.neq 3 (Operand.tmp 20) (Operand.tmp 24) 3), 4, none⟩]) (.cond (Operand.tmp 25) (.seq (.ops [⟨some 4, (Op.assign (Operand.const (Value.bool false))), 4, none⟩]) .ret) .skip))) (.ops [⟨some 15, (Op.move (Operand.tmp 5)), 3, none⟩,
    ⟨some 16, (Op.binOp BinOp.add 3 (Operand.tmp 15) (Operand.const (Value.int IntKind.i64 1)) 3), 3, none⟩,
    ⟨some 5, (Op.assign (Operand.tmp 16)), 3, none⟩])))
def c_gimmallaw0_SameInts : SF := ⟨26, [(ResultVar.tmp 4)],
  (.seq (.ops [⟨some 4, (Op.assign (Operand.const (Value.bool false))), 4, none⟩]) (.seq (.seq (.ops [⟨some 6, (Op.move (Operand.tmp 0)), 23, none⟩,
    ⟨some 7, (Op.call ⟨(Callee.builtin Builtin.len), #[(Operand.tmp 6)], #[23]⟩), 3, none⟩,
    ⟨some 8, (Op.move (Operand.tmp 1)), 23, none⟩,
    ⟨some 9, (Op.call ⟨(Callee.builtin Builtin.len), #[(Operand.tmp 8)], #[23]⟩), 3, none⟩,
    ⟨some 10, (Op.binOp BinOp.neq 3 (Operand.tmp 7) (Operand.tmp 9) 3), 4, none⟩]) (.cond (Operand.tmp 10) (.seq (.ops [⟨some 4, (Op.assign (Operand.const (Value.bool false))), 4, none⟩]) .ret) .skip)) (.seq (.seq (.ops [⟨some 5, (Op.assign (Operand.const (Value.int IntKind.i64 0))), 3, none⟩]) (.block 0 (.loop c_gimmallaw0_SameInts_L0))) (.seq (.ops [⟨some 4, (Op.assign (Operand.const (Value.bool true))), 4, none⟩]) .ret))))⟩
theorem is_gimmallaw0_SameInts (c : Cfg) (h : c.lendT = []) : isF PP c 27 c_gimmallaw0_SameInts := isF_of (fn := Proofs.Try.f27) (by kernel_rfl) (by kernel_rfl) rfl h (by kernel_rfl) rfl rfl (by kernel_rfl)
def c_view_May : SF := ⟨32, [(ResultVar.tmp 2)],
  (.seq (.ops [⟨some 1, (Op.box 25 (Operand.tmp 0)), 0, none⟩,
    ⟨some 2, (Op.assign (Operand.const (Value.bool false))), 4, none⟩]) (.seq (.seq (.ops [⟨some 4, (Op.fieldAddr 25 (Operand.tmp 1) 0), 0, none⟩,
    ⟨some 5, (Op.load 3 (Operand.tmp 4)), 3, none⟩,
    ⟨some 6, (Op.fieldAddr 25 (Operand.tmp 1) 1), 0, none⟩,
    ⟨some 7, (Op.load 22 (Operand.tmp 6)), 22, none⟩,
    ⟨some 8, (Op.call ⟨(Callee.value (Operand.func 70)), #[(Operand.tmp 5), (Operand.tmp 7)], #[3, 22]⟩), 4, none⟩,
    ⟨some 9, (Op.unOp UnOp.not 4 (Operand.tmp 8)), 4, none⟩,
    ⟨some 10, (Op.move (Operand.tmp 9)), 4, none⟩,
    ⟨some 11, (Op.fieldAddr 25 (Operand.tmp 1) 2), 0, some (10, false)⟩,
    ⟨some 12, (Op.load 23 (Operand.tmp 11)), 23, some (10, false)⟩,
    ⟨some 13, (Op.call ⟨(Callee.value (Operand.func 71)), #[(Operand.tmp 12)], #[23]⟩), 4, some (10, false)⟩,
    ⟨some 14, (Op.unOp UnOp.not 4 (Operand.tmp 13)), 4, some (10, false)⟩,
    ⟨some 15, (Op.pick (Operand.tmp 10) (Operand.const (Value.bool true)) (Operand.tmp 14)), 4, none⟩,
    ⟨some 16, (Op.move (Operand.tmp 15)), 4, none⟩,
    ⟨some 17, (Op.fieldAddr 25 (Operand.tmp 1) 1), 0, some (16, false)⟩,
    ⟨some 18, (Op.load 22 (Operand.tmp 17)), 22, some (16, false)⟩,
    ⟨some 19, (Op.call ⟨(Callee.builtin Builtin.len), #[(Operand.tmp 18)], #[22]⟩), 3, some (16, false)⟩,
    ⟨some 20, (Op.fieldAddr 25 (Operand.tmp 1) 2), 0, some (16, false)⟩,
    ⟨some 21, (Op.load 23 (Operand.tmp 20)), 23, some (16, false)⟩,
    ⟨some 22, (Op.call ⟨(Callee.builtin Builtin.len), #[(Operand.tmp 21)], #[23]⟩), 3, some (16, false)⟩,
    ⟨some 23, (Op.binOp BinOp.add 3 (Operand.tmp 19) (Operand.tmp 22) 3), 3, some (16, false)⟩,
    ⟨some 24, (Op.binOp BinOp.gtr 3 (Operand.tmp 23) (Operand.const (Value.int IntKind.i64 16)) 3), 4, some (16, false)⟩,
    ⟨some 25, (Op.pick (Operand.tmp 16) (Operand.const (Value.bool true)) (Operand.tmp 24)), 4, none⟩]) (.cond (Operand.tmp 25) (.seq (.ops [⟨some 2, (Op.assign (Operand.const (Value.bool false))), 4, none⟩]) .ret) .skip)) (.seq (.ops [⟨some 26, (Op.makeFunc (Fn.func 72) #[] #[(Operand.tmp 1)]), 69, none⟩,
    ⟨some 3, (Op.assign (Operand.tmp 26)), 69, none⟩]) (.seq (.ops [⟨some 27, (Op.fieldAddr 25 (Operand.tmp 1) 2), 0, none⟩,
    ⟨some 28, (Op.load 23 (Operand.tmp 27)), 23, none⟩,
    ⟨some 29, (Op.move (Operand.tmp 3)), 69, none⟩,
    ⟨some 30, (Op.call ⟨(Callee.value (Operand.func 73)), #[(Operand.tmp 28), (Operand.tmp 29)], #[23, 69]⟩), 4, none⟩,
    ⟨some 31, (Op.unOp UnOp.not 4 (Operand.tmp 30)), 4, none⟩,
    ⟨some 2, (Op.assign (Operand.tmp 31)), 4, none⟩]) .ret))))⟩
theorem is_view_May (c : Cfg) (h : c.lendT = []) : isF PP c 45 c_view_May := isF_of (fn := Proofs.Try.f45) (by kernel_rfl) (by kernel_rfl) rfl h (by kernel_rfl) rfl rfl (by kernel_rfl)
def c_ring_Place : SF := ⟨9, [(ResultVar.tmp 2)],
  (.seq (.ops [⟨some 2, (Op.assign (Operand.const (Value.bool false))), 4, none⟩]) (.seq (.ops [⟨some 3, (Op.move (Operand.tmp 0)), 3, none⟩,
    ⟨some 4, (Op.binOp BinOp.geq 3 (Operand.tmp 3) (Operand.const (Value.int IntKind.i64 0)) 3), 4, none⟩,
    ⟨some 5, (Op.move (Operand.tmp 4)), 4, none⟩,
    ⟨some 6, (Op.move (Operand.tmp 0)), 3, some (5, true)⟩,
    ⟨some 7, (Op.binOp BinOp.lss 3 (Operand.tmp 6) (Operand.const (Value.int IntKind.i64 256)) 3), 4, some (5, true)⟩,
    ⟨some 8, (Op.pick (Operand.tmp 5) (Operand.tmp 7) (Operand.const (Value.bool false))), 4, none⟩,
    ⟨some 2, (Op.assign (Operand.tmp 8)), 4, none⟩]) .ret))⟩
theorem is_ring_Place (c : Cfg) (h : c.lendT = []) : isF PP c 46 c_ring_Place := isF_of (fn := Proofs.Try.f46) (by kernel_rfl) (by kernel_rfl) rfl h (by kernel_rfl) rfl rfl (by kernel_rfl)
def c_ring_Places_L0 : SC := (.seq (.ops [⟨some 8, (Op.binOp BinOp.lss 3 (Operand.tmp 7) (Operand.tmp 6) 3), 0, none⟩]) (.seq (.cond (Operand.tmp 8) .skip (.exit 0)) (.seq (.block 1 (.seq (.ops [⟨some 9, (Op.indexAddr 23 (Operand.tmp 5) (Operand.tmp 7)), 0, none⟩,
    ⟨some 10, (Op.load 3 (Operand.tmp 9)), 3, none⟩,
    ⟨some 4, (Op.assign (Operand.tmp 10)), 3, none⟩]) (.seq (.ops [⟨some 11, (Op.move (Operand.tmp 4)), 3, none⟩,
    ⟨some 12, (Op.call ⟨(Callee.value (Operand.func 46)), #[(Operand.tmp 11)], #[3]⟩), 4, none⟩,
    ⟨some 13, (Op.unOp UnOp.not 4 (Operand.tmp 12)), 4, none⟩]) (.cond (Operand.tmp 13) (.seq (.ops [⟨some 2, (Op.assign (Operand.const (Value.bool false))), 4, none⟩]) .ret) .skip)))) (.ops [⟨some 14, (Op.binOp BinOp.add 3 (Operand.tmp 7) (Operand.const (Value.int IntKind.i64 1)) 3), 3, none⟩,
    ⟨some 7, (Op.move (Operand.tmp 14)), 3, none⟩]))))
def c_ring_Places : SF := ⟨15, [(ResultVar.tmp 2)],
  (.seq (.ops [⟨some 2, (Op.assign (Operand.const (Value.bool false))), 4, none⟩]) (.seq (.seq (.ops [⟨some 5, (Op.move (Operand.tmp 0)), 23, none⟩,
    ⟨some 6, (Op.call ⟨(Callee.builtin Builtin.len), #[(Operand.tmp 5)], #[23]⟩), 3, none⟩,
    ⟨some 7, (Op.move (Operand.const (Value.int IntKind.i64 0))), 3, none⟩]) (.block 0 (.loop c_ring_Places_L0))) (.seq (.ops [⟨some 2, (Op.assign (Operand.const (Value.bool true))), 4, none⟩]) .ret)))⟩
theorem is_ring_Places (c : Cfg) (h : c.lendT = []) : isF PP c 47 c_ring_Places := isF_of (fn := Proofs.Try.f47) (by kernel_rfl) (by kernel_rfl) rfl h (by kernel_rfl) rfl rfl (by kernel_rfl)
def c_view_Copy : SF := ⟨12, [(ResultVar.cell 2 25)],
  (.seq (.ops [⟨some 1, (Op.box 25 (Operand.tmp 0)), 0, none⟩,
    ⟨some 2, (Op.alloc 25), 0, none⟩]) (.seq (.ops [⟨some 3, (Op.fieldAddr 25 (Operand.tmp 1) 1), 0, none⟩,
    ⟨some 4, (Op.load 22 (Operand.tmp 3)), 22, none⟩,
    ⟨some 5, (Op.call ⟨(Callee.value (Operand.func 74)), #[(Operand.tmp 4)], #[22]⟩), 22, none⟩,
    ⟨some 6, (Op.fieldAddr 25 (Operand.tmp 1) 2), 0, none⟩,
    ⟨some 7, (Op.load 23 (Operand.tmp 6)), 23, none⟩,
    ⟨some 8, (Op.call ⟨(Callee.value (Operand.func 75)), #[(Operand.tmp 7)], #[23]⟩), 23, none⟩,
    ⟨some 9, (Op.fieldAddr 25 (Operand.tmp 1) 1), 0, none⟩,
    ⟨none, (Op.store 22 (Operand.tmp 9) (Operand.tmp 5)), 0, none⟩,
    ⟨some 10, (Op.fieldAddr 25 (Operand.tmp 1) 2), 0, none⟩,
    ⟨none, (Op.store 23 (Operand.tmp 10) (Operand.tmp 8)), 0, none⟩]) (.seq (.ops [⟨some 11, (Op.load 25 (Operand.tmp 1)), 25, none⟩,
    ⟨none, (Op.store 25 (Operand.tmp 2) (Operand.tmp 11)), 0, none⟩]) .ret)))⟩
theorem is_view_Copy (c : Cfg) (h : c.lendT = []) : isF PP c 48 c_view_Copy := isF_of (fn := Proofs.Try.f48) (by kernel_rfl) (by kernel_rfl) rfl h (by kernel_rfl) rfl rfl (by kernel_rfl)
def c_hello_heard : SF := ⟨48, [],
  (.seq (.ops [⟨some 5, (Op.move (Operand.tmp 0)), 79, none⟩,
    ⟨some 6, (Op.move (Operand.tmp 1)), 3, none⟩,
    ⟨some 7, (Op.call ⟨(Callee.value (Operand.func 50)), #[(Operand.tmp 5), (Operand.tmp 6)], #[79, 3]⟩), 4, none⟩,
    ⟨some 8, (Op.move (Operand.tmp 7)), 4, none⟩,
    ⟨some 9, (Op.move (Operand.tmp 0)), 79, some (8, false)⟩,
    ⟨some 10, (Op.move (Operand.tmp 1)), 3, some (8, false)⟩,
    ⟨some 11, (Op.call ⟨(Callee.value (Operand.func 51)), #[(Operand.tmp 9), (Operand.tmp 10)], #[79, 3]⟩), 4, some (8, false)⟩,
    ⟨some 12, (Op.pick (Operand.tmp 8) (Operand.const (Value.bool true)) (Operand.tmp 11)), 4, none⟩,
    ⟨some 4, (Op.assign (Operand.tmp 12)), 4, none⟩]) (.seq (.seq (.ops [⟨some 13, (Op.move (Operand.tmp 4)), 4, none⟩,
    ⟨some 14, (Op.unOp UnOp.not 4 (Operand.tmp 13)), 4, none⟩,
    ⟨some 15, (Op.move (Operand.tmp 14)), 4, none⟩,
    ⟨some 16, (Op.move (Operand.tmp 0)), 79, some (15, true)⟩,
    ⟨some 17, (Op.call ⟨(Callee.value (Operand.func 76)), #[(Operand.tmp 16)], #[79]⟩), 4, some (15, true)⟩,
    ⟨some 18, (Op.unOp UnOp.not 4 (Operand.tmp 17)), 4, some (15, true)⟩,
    ⟨some 19, (Op.pick (Operand.tmp 15) (Operand.tmp 18) (Operand.const (Value.bool false))), 4, none⟩]) (.cond (Operand.tmp 19) .ret .skip)) (.seq (.ops [⟨some 21, (Op.move (Operand.tmp 0)), 79, none⟩,
    ⟨some 22, (Op.move (Operand.tmp 0)), 79, none⟩,
    ⟨some 23, (Op.nilCheck (Operand.tmp 22)), 0, none⟩,
    ⟨some 24, (Op.fieldAddr 25 (Operand.tmp 23) 2), 0, none⟩,
    ⟨some 25, (Op.load 23 (Operand.tmp 24)), 23, none⟩,
    ⟨some 26, (Op.move (Operand.tmp 1)), 3, none⟩,
    ⟨some 27, (Op.call ⟨(Callee.value (Operand.func 77)), #[(Operand.tmp 25), (Operand.tmp 26)], #[23, 3]⟩), 100, none⟩,
    ⟨some 20, (Op.move (Operand.tmp 27)), 100, none⟩,
    ⟨some 28, (Op.extract (Operand.tmp 20) 0), 23, none⟩,
    ⟨some 29, (Op.extract (Operand.tmp 20) 1), 28, none⟩,
    ⟨some 30, (Op.nilCheck (Operand.tmp 21)), 0, none⟩,
    ⟨some 31, (Op.fieldAddr 25 (Operand.tmp 30) 2), 0, none⟩,
    ⟨none, (Op.store 23 (Operand.tmp 31) (Operand.tmp 28)), 0, none⟩]) (.ops [⟨some 33, (Op.move (Operand.tmp 0)), 79, none⟩,
    ⟨some 34, (Op.move (Operand.tmp 0)), 79, none⟩,
    ⟨some 38, (Op.move (Operand.tmp 0)), 79, none⟩,
    ⟨some 42, (Op.move (Operand.tmp 1)), 3, none⟩,
    ⟨some 35, (Op.nilCheck (Operand.tmp 34)), 0, none⟩,
    ⟨some 36, (Op.fieldAddr 25 (Operand.tmp 35) 0), 0, none⟩,
    ⟨some 37, (Op.load 3 (Operand.tmp 36)), 3, none⟩,
    ⟨some 39, (Op.nilCheck (Operand.tmp 38)), 0, none⟩,
    ⟨some 40, (Op.fieldAddr 25 (Operand.tmp 39) 1), 0, none⟩,
    ⟨some 41, (Op.load 22 (Operand.tmp 40)), 22, none⟩,
    ⟨some 43, (Op.call ⟨(Callee.value (Operand.func 78)), #[(Operand.tmp 37), (Operand.tmp 41), (Operand.tmp 42)], #[3, 22, 3]⟩), 102, none⟩,
    ⟨some 32, (Op.move (Operand.tmp 43)), 102, none⟩,
    ⟨some 44, (Op.extract (Operand.tmp 32) 0), 22, none⟩,
    ⟨some 45, (Op.extract (Operand.tmp 32) 1), 28, none⟩,
    ⟨some 46, (Op.nilCheck (Operand.tmp 33)), 0, none⟩,
    ⟨some 47, (Op.fieldAddr 25 (Operand.tmp 46) 1), 0, none⟩,
    ⟨none, (Op.store 22 (Operand.tmp 47) (Operand.tmp 44)), 0, none⟩]))))⟩
theorem is_hello_heard (c : Cfg) (h : c.lendT = []) : isF PP c 49 c_hello_heard := isF_of (fn := Proofs.Try.f49) (by kernel_rfl) (by kernel_rfl) rfl h (by kernel_rfl) rfl rfl (by kernel_rfl)
def c_view_Peer : SF := ⟨21, [(ResultVar.tmp 4)],
  (.seq (.ops [⟨some 4, (Op.assign (Operand.const (Value.bool false))), 4, none⟩]) (.seq (.ops [⟨some 8, (Op.move (Operand.tmp 0)), 79, none⟩,
    ⟨some 12, (Op.move (Operand.tmp 0)), 79, none⟩,
    ⟨some 16, (Op.move (Operand.tmp 1)), 3, none⟩,
    ⟨some 9, (Op.nilCheck (Operand.tmp 8)), 0, none⟩,
    ⟨some 10, (Op.fieldAddr 25 (Operand.tmp 9) 0), 0, none⟩,
    ⟨some 11, (Op.load 3 (Operand.tmp 10)), 3, none⟩,
    ⟨some 13, (Op.nilCheck (Operand.tmp 12)), 0, none⟩,
    ⟨some 14, (Op.fieldAddr 25 (Operand.tmp 13) 1), 0, none⟩,
    ⟨some 15, (Op.load 22 (Operand.tmp 14)), 22, none⟩,
    ⟨some 17, (Op.call ⟨(Callee.value (Operand.func 79)), #[(Operand.tmp 11), (Operand.tmp 15), (Operand.tmp 16)], #[3, 22, 3]⟩), 104, none⟩,
    ⟨some 7, (Op.move (Operand.tmp 17)), 104, none⟩,
    ⟨some 18, (Op.extract (Operand.tmp 7) 0), 3, none⟩,
    ⟨some 19, (Op.extract (Operand.tmp 7) 1), 4, none⟩,
    ⟨some 5, (Op.assign (Operand.tmp 18)), 3, none⟩,
    ⟨some 6, (Op.assign (Operand.tmp 19)), 4, none⟩]) (.seq (.ops [⟨some 20, (Op.move (Operand.tmp 6)), 4, none⟩,
    ⟨some 4, (Op.assign (Operand.tmp 20)), 4, none⟩]) .ret)))⟩
theorem is_view_Peer (c : Cfg) (h : c.lendT = []) : isF PP c 50 c_view_Peer := isF_of (fn := Proofs.Try.f50) (by kernel_rfl) (by kernel_rfl) rfl h (by kernel_rfl) rfl rfl (by kernel_rfl)
def c_view_Passive : SF := ⟨11, [(ResultVar.tmp 4)],
  (.seq (.ops [⟨some 4, (Op.assign (Operand.const (Value.bool false))), 4, none⟩]) (.seq (.ops [⟨some 5, (Op.move (Operand.tmp 0)), 79, none⟩,
    ⟨some 6, (Op.nilCheck (Operand.tmp 5)), 0, none⟩,
    ⟨some 7, (Op.fieldAddr 25 (Operand.tmp 6) 2), 0, none⟩,
    ⟨some 8, (Op.load 23 (Operand.tmp 7)), 23, none⟩,
    ⟨some 9, (Op.move (Operand.tmp 1)), 3, none⟩,
    ⟨some 10, (Op.call ⟨(Callee.value (Operand.func 80)), #[(Operand.tmp 8), (Operand.tmp 9)], #[23, 3]⟩), 4, none⟩,
    ⟨some 4, (Op.assign (Operand.tmp 10)), 4, none⟩]) .ret))⟩
theorem is_view_Passive (c : Cfg) (h : c.lendT = []) : isF PP c 51 c_view_Passive := isF_of (fn := Proofs.Try.f51) (by kernel_rfl) (by kernel_rfl) rfl h (by kernel_rfl) rfl rfl (by kernel_rfl)
def c_gimmallaw0_SamePeers_L0 : SC := (.seq (.seq (.ops [⟨some 11, (Op.move (Operand.tmp 5)), 3, none⟩,
    ⟨some 12, (Op.move (Operand.tmp 0)), 22, none⟩,
    ⟨some 13, (Op.call ⟨(Callee.builtin Builtin.len), #[(Operand.tmp 12)], #[22]⟩), 3, none⟩,
    ⟨some 14, (Op.binOp BinOp.lss 3 (Operand.tmp 11) (Operand.tmp 13) 3), 4, none⟩]) (.cond (Operand.tmp 14) .skip (.exit 0))) (.seq (.block 1 (.seq (.ops [⟨some 17, (Op.move (Operand.tmp 0)), 22, none⟩,
    ⟨some 18, (Op.move (Operand.tmp 5)), 3, none⟩,
    ⟨some 21, (Op.move (Operand.tmp 1)), 22, none⟩,
    ⟨some 22, (Op.move (Operand.tmp 5)), 3, none⟩,
    ⟨some 19, (Op.indexAddr 22 (Operand.tmp 17) (Operand.tmp 18)), 0, none⟩,
    ⟨some 20, (Op.load 42 (Operand.tmp 19)), 42, none⟩,
    ⟨some 23, (Op.indexAddr 22 (Operand.tmp 21) (Operand.tmp 22)), 0, none⟩,
    ⟨some 24, (Op.load 42 (Operand.tmp 23)), 42, none⟩,
    ⟨some 25, (Op.binOp BinOp.neq 42 (Operand.tmp 20) (Operand.tmp 24) 42), 4, none⟩]) (.cond (Operand.tmp 25) (.seq (.ops [⟨some 4, (Op.assign (Operand.const (Value.bool false))), 4, none⟩]) .ret) .skip))) (.ops [⟨some 15, (Op.move (Operand.tmp 5)), 3, none⟩,
    ⟨some 16, (Op.binOp BinOp.add 3 (Operand.tmp 15) (Operand.const (Value.int IntKind.i64 1)) 3), 3, none⟩,
    ⟨some 5, (Op.assign (Operand.tmp 16)), 3, none⟩])))
def c_gimmallaw0_SamePeers : SF := ⟨26, [(ResultVar.tmp 4)],
  (.seq (.ops [⟨some 4, (Op.assign (Operand.const (Value.bool false))), 4, none⟩]) (.seq (.seq (.ops [⟨some 6, (Op.move (Operand.tmp 0)), 22, none⟩,
    ⟨some 7, (Op.call ⟨(Callee.builtin Builtin.len), #[(Operand.tmp 6)], #[22]⟩), 3, none⟩,
    ⟨some 8, (Op.move (Operand.tmp 1)), 22, none⟩,
    ⟨some 9, (Op.call ⟨(Callee.builtin Builtin.len), #[(Operand.tmp 8)], #[22]⟩), 3, none⟩,
    ⟨some 10, (Op.binOp BinOp.neq 3 (Operand.tmp 7) (Operand.tmp 9) 3), 4, none⟩]) (.cond (Operand.tmp 10) (.seq (.ops [⟨some 4, (Op.assign (Operand.const (Value.bool false))), 4, none⟩]) .ret) .skip)) (.seq (.seq (.ops [⟨some 5, (Op.assign (Operand.const (Value.int IntKind.i64 0))), 3, none⟩]) (.block 0 (.loop c_gimmallaw0_SamePeers_L0))) (.seq (.ops [⟨some 4, (Op.assign (Operand.const (Value.bool true))), 4, none⟩]) .ret))))⟩
theorem is_gimmallaw0_SamePeers (c : Cfg) (h : c.lendT = []) : isF PP c 56 c_gimmallaw0_SamePeers := isF_of (fn := Proofs.Try.f56) (by kernel_rfl) (by kernel_rfl) rfl h (by kernel_rfl) rfl rfl (by kernel_rfl)
end Go.AM
/- AM: this seat's functions in short. -/
namespace Go.AM
set_option linter.unusedSimpArgs false
set_option linter.unusedVariables false
def c_peers_May_L0 : SC := (.seq (.ops [⟨some 19, (Op.binOp BinOp.lss 3 (Operand.tmp 18) (Operand.tmp 17) 3), 0, none⟩]) (.seq (.cond (Operand.tmp 19) .skip (.exit 0)) (.seq (.block 1 (.seq (.ops [⟨some 20, (Op.indexAddr 22 (Operand.tmp 16) (Operand.tmp 18)), 0, none⟩,
    ⟨some 21, (Op.load 42 (Operand.tmp 20)), 42, none⟩,
    ⟨some 7, (Op.alloc 42), 0, none⟩,
    ⟨none, (Op.store 42 (Operand.tmp 7) (Operand.tmp 21)), 0, none⟩]) (.seq (.seq (.ops [⟨some 22, (Op.fieldAddr 42 (Operand.tmp 7) 0), 0, none⟩,
    ⟨some 23, (Op.load 3 (Operand.tmp 22)), 3, none⟩,
    ⟨some 24, (Op.call ⟨(Callee.value (Operand.func 46)), #[(Operand.tmp 23)], #[3]⟩), 4, none⟩,
    ⟨some 25, (Op.unOp UnOp.not 4 (Operand.tmp 24)), 4, none⟩,
    ⟨some 26, (Op.move (Operand.tmp 25)), 4, none⟩,
    ⟨some 27, (Op.fieldAddr 42 (Operand.tmp 7) 1), 0, some (26, false)⟩,
    ⟨some 28, (Op.load 3 (Operand.tmp 27)), 3, some (26, false)⟩,
    ⟨some 29, (Op.binOp BinOp.lss 3 (Operand.tmp 28) (Operand.const (Value.int IntKind.i64 0)) 3), 4, some (26, false)⟩,
    ⟨some 30, (Op.pick (Operand.tmp 26) (Operand.const (Value.bool true)) (Operand.tmp 29)), 4, none⟩,
    ⟨some 31, (Op.move (Operand.tmp 30)), 4, none⟩,
    ⟨some 32, (Op.fieldAddr 42 (Operand.tmp 7) 1), 0, some (31, false)⟩,
    ⟨some 33, (Op.load 3 (Operand.tmp 32)), 3, some (31, false)⟩,
    ⟨some 34, (Op.binOp BinOp.geq 3 (Operand.tmp 33) (Operand.const (Value.int IntKind.i64 3)) 3), 4, some (31, false)⟩,
    ⟨some 35, (Op.pick (Operand.tmp 31) (Operand.const (Value.bool true)) (Operand.tmp 34)), 4, none⟩,
    ⟨some 36, (Op.move (Operand.tmp 35)), 4, none⟩,
    ⟨some 37, (Op.move (Operand.tmp 0)), 3, some (36, false)⟩,
    ⟨some 38, (Op.fieldAddr 42 (Operand.tmp 7) 0), 0, some (36, false)⟩,
    ⟨some 39, (Op.load 3 (Operand.tmp 38)), 3, some (36, false)⟩,
    ⟨some 40, (Op.call ⟨(Callee.value (Operand.func 94)), #[(Operand.tmp 37), (Operand.tmp 39)], #[3, 3]⟩), 3, some (36, false)⟩,
    ⟨some 41, (Op.move (Operand.tmp 5)), 3, some (36, false)⟩,
    ⟨some 42, (Op.binOp BinOp.leq 3 (Operand.tmp 40) (Operand.tmp 41) 3), 4, some (36, false)⟩,
    ⟨some 43, (Op.pick (Operand.tmp 36) (Operand.const (Value.bool true)) (Operand.tmp 42)), 4, none⟩]) (.cond (Operand.tmp 43) (.seq (.ops [⟨some 4, (Op.assign (Operand.const (Value.bool false))), 4, none⟩]) .ret) .skip)) (.ops [⟨some 44, (Op.move (Operand.tmp 0)), 3, none⟩,
    ⟨some 45, (Op.fieldAddr 42 (Operand.tmp 7) 0), 0, none⟩,
    ⟨some 46, (Op.load 3 (Operand.tmp 45)), 3, none⟩,
    ⟨some 47, (Op.call ⟨(Callee.value (Operand.func 94)), #[(Operand.tmp 44), (Operand.tmp 46)], #[3, 3]⟩), 3, none⟩,
    ⟨some 5, (Op.assign (Operand.tmp 47)), 3, none⟩])))) (.ops [⟨some 48, (Op.binOp BinOp.add 3 (Operand.tmp 18) (Operand.const (Value.int IntKind.i64 1)) 3), 3, none⟩,
    ⟨some 18, (Op.move (Operand.tmp 48)), 3, none⟩]))))
def c_peers_May : SF := ⟨49, [(ResultVar.tmp 4)],
  (.seq (.ops [⟨some 4, (Op.assign (Operand.const (Value.bool false))), 4, none⟩]) (.seq (.seq (.ops [⟨some 8, (Op.move (Operand.tmp 0)), 3, none⟩,
    ⟨some 9, (Op.call ⟨(Callee.value (Operand.func 46)), #[(Operand.tmp 8)], #[3]⟩), 4, none⟩,
    ⟨some 10, (Op.unOp UnOp.not 4 (Operand.tmp 9)), 4, none⟩,
    ⟨some 11, (Op.move (Operand.tmp 10)), 4, none⟩,
    ⟨some 12, (Op.move (Operand.tmp 1)), 22, some (11, false)⟩,
    ⟨some 13, (Op.call ⟨(Callee.builtin Builtin.len), #[(Operand.tmp 12)], #[22]⟩), 3, some (11, false)⟩,
    ⟨some 14, (Op.binOp BinOp.gtr 3 (Operand.tmp 13) (Operand.const (Value.int IntKind.i64 16)) 3), 4, some (11, false)⟩,
    ⟨some 15, (Op.pick (Operand.tmp 11) (Operand.const (Value.bool true)) (Operand.tmp 14)), 4, none⟩]) (.cond (Operand.tmp 15) (.seq (.ops [⟨some 4, (Op.assign (Operand.const (Value.bool false))), 4, none⟩]) .ret) .skip)) (.seq (.ops [⟨some 5, (Op.assign (Operand.const (Value.int IntKind.i64 0))), 3, none⟩]) (.seq (.seq (.ops [⟨some 16, (Op.move (Operand.tmp 1)), 22, none⟩,
    ⟨some 17, (Op.call ⟨(Callee.builtin Builtin.len), #[(Operand.tmp 16)], #[22]⟩), 3, none⟩,
    ⟨some 18, (Op.move (Operand.const (Value.int IntKind.i64 0))), 3, none⟩]) (.block 0 (.loop c_peers_May_L0))) (.seq (.ops [⟨some 4, (Op.assign (Operand.const (Value.bool true))), 4, none⟩]) .ret)))))⟩
theorem is_peers_May (c : Cfg) (h : c.lendT = []) : isF PP c 70 c_peers_May := isF_of (fn := Proofs.Try.f70) (by kernel_rfl) (by kernel_rfl) rfl h (by kernel_rfl) rfl rfl (by kernel_rfl)
def c_passive_May_L0 : SC := (.seq (.ops [⟨some 8, (Op.binOp BinOp.lss 3 (Operand.tmp 7) (Operand.tmp 6) 3), 0, none⟩]) (.seq (.cond (Operand.tmp 8) .skip (.exit 0)) (.seq (.block 1 (.seq (.ops [⟨some 9, (Op.move (Operand.tmp 7)), 3, none⟩,
    ⟨some 10, (Op.indexAddr 23 (Operand.tmp 5) (Operand.tmp 7)), 0, none⟩,
    ⟨some 11, (Op.load 3 (Operand.tmp 10)), 3, none⟩,
    ⟨some 3, (Op.assign (Operand.tmp 9)), 3, none⟩,
    ⟨some 4, (Op.assign (Operand.tmp 11)), 3, none⟩]) (.seq (.ops [⟨some 12, (Op.move (Operand.tmp 4)), 3, none⟩,
    ⟨some 13, (Op.call ⟨(Callee.value (Operand.func 46)), #[(Operand.tmp 12)], #[3]⟩), 4, none⟩,
    ⟨some 14, (Op.unOp UnOp.not 4 (Operand.tmp 13)), 4, none⟩,
    ⟨some 15, (Op.move (Operand.tmp 14)), 4, none⟩,
    ⟨some 16, (Op.move (Operand.tmp 3)), 3, some (15, false)⟩,
    ⟨some 17, (Op.binOp BinOp.gtr 3 (Operand.tmp 16) (Operand.const (Value.int IntKind.i64 0)) 3), 4, some (15, false)⟩,
    ⟨some 18, (Op.move (Operand.tmp 17)), 4, some (15, false)⟩,
    ⟨some 19, (Op.move (Operand.tmp 0)), 23, some (18, true)⟩,
    ⟨some 20, (Op.move (Operand.tmp 3)), 3, some (18, true)⟩,
    ⟨some 21, (Op.binOp BinOp.sub 3 (Operand.tmp 20) (Operand.const (Value.int IntKind.i64 1)) 3), 3, some (18, true)⟩,
    ⟨some 22, (Op.indexAddr 23 (Operand.tmp 19) (Operand.tmp 21)), 0, some (18, true)⟩,
    ⟨some 23, (Op.load 3 (Operand.tmp 22)), 3, some (18, true)⟩,
    ⟨some 24, (Op.move (Operand.tmp 4)), 3, some (18, true)⟩,
    ⟨some 25, (Op.binOp BinOp.geq 3 (Operand.tmp 23) (Operand.tmp 24) 3), 4, some (18, true)⟩,
    ⟨some 26, (Op.pick (Operand.tmp 18) (Operand.tmp 25) (Operand.const (Value.bool false))), 4, some (15, false)⟩,
    ⟨some 27, (Op.pick (Operand.tmp 15) (Operand.const (Value.bool true)) (Operand.tmp 26)), 4, none⟩]) (.cond (Operand.tmp 27) (.seq (.ops [⟨some 2, (Op.assign (Operand.const (Value.bool false))), 4, none⟩]) .ret) .skip)))) (.ops [⟨some 28, (Op.binOp BinOp.add 3 (Operand.tmp 7) (Operand.const (Value.int IntKind.i64 1)) 3), 3, none⟩,
    ⟨some 7, (Op.move (Operand.tmp 28)), 3, none⟩]))))
def c_passive_May : SF := ⟨32, [(ResultVar.tmp 2)],
  (.seq (.ops [⟨some 2, (Op.assign (Operand.const (Value.bool false))), 4, none⟩]) (.seq (.seq (.ops [⟨some 5, (Op.move (Operand.tmp 0)), 23, none⟩,
    ⟨some 6, (Op.call ⟨(Callee.builtin Builtin.len), #[(Operand.tmp 5)], #[23]⟩), 3, none⟩,
    ⟨some 7, (Op.move (Operand.const (Value.int IntKind.i64 0))), 3, none⟩]) (.block 0 (.loop c_passive_May_L0))) (.seq (.ops [⟨some 29, (Op.move (Operand.tmp 0)), 23, none⟩,
    ⟨some 30, (Op.call ⟨(Callee.builtin Builtin.len), #[(Operand.tmp 29)], #[23]⟩), 3, none⟩,
    ⟨some 31, (Op.binOp BinOp.leq 3 (Operand.tmp 30) (Operand.const (Value.int IntKind.i64 16)) 3), 4, none⟩,
    ⟨some 2, (Op.assign (Operand.tmp 31)), 4, none⟩]) .ret)))⟩
theorem is_passive_May (c : Cfg) (h : c.lendT = []) : isF PP c 71 c_passive_May := isF_of (fn := Proofs.Try.f71) (by kernel_rfl) (by kernel_rfl) rfl h (by kernel_rfl) rfl rfl (by kernel_rfl)
def c_view_May_1 : SF := ⟨12, [(ResultVar.tmp 3)],
  (.seq (.ops [⟨some 3, (Op.assign (Operand.const (Value.bool false))), 4, none⟩]) (.seq (.ops [⟨some 4, (Op.move (Operand.tmp 0)), 3, none⟩,
    ⟨some 5, (Op.fieldAddr 25 (Operand.tmp 1) 0), 0, none⟩,
    ⟨some 6, (Op.load 3 (Operand.tmp 5)), 3, none⟩,
    ⟨some 7, (Op.binOp BinOp.eql 3 (Operand.tmp 4) (Operand.tmp 6) 3), 4, none⟩,
    ⟨some 8, (Op.move (Operand.tmp 7)), 4, none⟩,
    ⟨some 9, (Op.move (Operand.tmp 0)), 3, some (8, false)⟩,
    ⟨some 10, (Op.call ⟨(Callee.value (Operand.func 50)), #[(Operand.tmp 1), (Operand.tmp 9)], #[79, 3]⟩), 4, some (8, false)⟩,
    ⟨some 11, (Op.pick (Operand.tmp 8) (Operand.const (Value.bool true)) (Operand.tmp 10)), 4, none⟩,
    ⟨some 3, (Op.assign (Operand.tmp 11)), 4, none⟩]) .ret))⟩
theorem is_view_May_1 (c : Cfg) (h : c.lendT = []) : isF PP c 72 c_view_May_1 := isF_of (fn := Proofs.Try.f72) (by kernel_rfl) (by kernel_rfl) rfl h (by kernel_rfl) rfl rfl (by kernel_rfl)
def c_slices_ContainsFunc_int_int : SF := ⟨9, [(ResultVar.tmp 4)],
  (.seq (.ops [⟨some 4, (Op.assign (Operand.const (Value.bool false))), 4, none⟩]) (.seq (.ops [⟨some 5, (Op.move (Operand.tmp 0)), 23, none⟩,
    ⟨some 6, (Op.move (Operand.tmp 1)), 69, none⟩,
    ⟨some 7, (Op.call ⟨(Callee.value (Operand.func 95)), #[(Operand.tmp 5), (Operand.tmp 6)], #[23, 69]⟩), 3, none⟩,
    ⟨some 8, (Op.binOp BinOp.geq 3 (Operand.tmp 7) (Operand.const (Value.int IntKind.i64 0)) 3), 4, none⟩,
    ⟨some 4, (Op.assign (Operand.tmp 8)), 4, none⟩]) .ret))⟩
theorem is_slices_ContainsFunc_int_int (c : Cfg) (h : c.lendT = []) : isF PP c 73 c_slices_ContainsFunc_int_int := isF_of (fn := Proofs.Try.f73) (by kernel_rfl) (by kernel_rfl) rfl h (by kernel_rfl) rfl rfl (by kernel_rfl)
def c_slices_Clone_api_Peer_api_Peer : SF := ⟨8, [(ResultVar.tmp 2)],
  (.seq (.ops [⟨some 2, (Op.assign (Operand.const (Value.slice none 0 0))), 22, none⟩]) (.seq (.seq (.ops [⟨some 3, (Op.move (Operand.tmp 0)), 22, none⟩,
    ⟨some 4, (Op.binOp BinOp.eql 22 (Operand.tmp 3) (Operand.const (Value.slice none 0 0)) 22), 4, none⟩]) (.cond (Operand.tmp 4) (.seq (.ops [⟨some 2, (Op.assign (Operand.const (Value.slice none 0 0))), 22, none⟩]) .ret) .skip)) (.seq (.ops [⟨some 5, (Op.buildSlice 22 0 #[]), 22, none⟩,
    ⟨some 6, (Op.move (Operand.tmp 0)), 22, none⟩,
    ⟨some 7, (Op.call ⟨(Callee.builtin Builtin.append), #[(Operand.tmp 5), (Operand.tmp 6)], #[22, 22]⟩), 22, none⟩,
    ⟨some 2, (Op.assign (Operand.tmp 7)), 22, none⟩]) .ret)))⟩
theorem is_slices_Clone_api_Peer_api_Peer (c : Cfg) (h : c.lendT = []) : isF PP c 74 c_slices_Clone_api_Peer_api_Peer := isF_of (fn := Proofs.Try.f74) (by kernel_rfl) (by kernel_rfl) rfl h (by kernel_rfl) rfl rfl (by kernel_rfl)
def c_slices_Clone_int_int : SF := ⟨8, [(ResultVar.tmp 2)],
  (.seq (.ops [⟨some 2, (Op.assign (Operand.const (Value.slice none 0 0))), 23, none⟩]) (.seq (.seq (.ops [⟨some 3, (Op.move (Operand.tmp 0)), 23, none⟩,
    ⟨some 4, (Op.binOp BinOp.eql 23 (Operand.tmp 3) (Operand.const (Value.slice none 0 0)) 23), 4, none⟩]) (.cond (Operand.tmp 4) (.seq (.ops [⟨some 2, (Op.assign (Operand.const (Value.slice none 0 0))), 23, none⟩]) .ret) .skip)) (.seq (.ops [⟨some 5, (Op.buildSlice 23 0 #[]), 23, none⟩,
    ⟨some 6, (Op.move (Operand.tmp 0)), 23, none⟩,
    ⟨some 7, (Op.call ⟨(Callee.builtin Builtin.append), #[(Operand.tmp 5), (Operand.tmp 6)], #[23, 23]⟩), 23, none⟩,
    ⟨some 2, (Op.assign (Operand.tmp 7)), 23, none⟩]) .ret)))⟩
theorem is_slices_Clone_int_int (c : Cfg) (h : c.lendT = []) : isF PP c 75 c_slices_Clone_int_int := isF_of (fn := Proofs.Try.f75) (by kernel_rfl) (by kernel_rfl) rfl h (by kernel_rfl) rfl rfl (by kernel_rfl)
def c_hello_room : SF := ⟨15, [(ResultVar.tmp 2)],
  (.seq (.ops [⟨some 2, (Op.assign (Operand.const (Value.bool false))), 4, none⟩]) (.seq (.ops [⟨some 3, (Op.move (Operand.tmp 0)), 79, none⟩,
    ⟨some 8, (Op.move (Operand.tmp 0)), 79, none⟩,
    ⟨some 4, (Op.nilCheck (Operand.tmp 3)), 0, none⟩,
    ⟨some 5, (Op.fieldAddr 25 (Operand.tmp 4) 1), 0, none⟩,
    ⟨some 6, (Op.load 22 (Operand.tmp 5)), 22, none⟩,
    ⟨some 7, (Op.call ⟨(Callee.builtin Builtin.len), #[(Operand.tmp 6)], #[22]⟩), 3, none⟩,
    ⟨some 9, (Op.nilCheck (Operand.tmp 8)), 0, none⟩,
    ⟨some 10, (Op.fieldAddr 25 (Operand.tmp 9) 2), 0, none⟩,
    ⟨some 11, (Op.load 23 (Operand.tmp 10)), 23, none⟩,
    ⟨some 12, (Op.call ⟨(Callee.builtin Builtin.len), #[(Operand.tmp 11)], #[23]⟩), 3, none⟩,
    ⟨some 13, (Op.binOp BinOp.add 3 (Operand.tmp 7) (Operand.tmp 12) 3), 3, none⟩,
    ⟨some 14, (Op.binOp BinOp.lss 3 (Operand.tmp 13) (Operand.const (Value.int IntKind.i64 16)) 3), 4, none⟩,
    ⟨some 2, (Op.assign (Operand.tmp 14)), 4, none⟩]) .ret))⟩
theorem is_hello_room (c : Cfg) (h : c.lendT = []) : isF PP c 76 c_hello_room := isF_of (fn := Proofs.Try.f76) (by kernel_rfl) (by kernel_rfl) rfl h (by kernel_rfl) rfl rfl (by kernel_rfl)
def c_passive_Without : SF := ⟨20, [(ResultVar.tmp 4), (ResultVar.tmp 5)],
  (.seq (.ops [⟨some 3, (Op.box 3 (Operand.tmp 1)), 0, none⟩,
    ⟨some 4, (Op.assign (Operand.const (Value.slice none 0 0))), 23, none⟩,
    ⟨some 5, (Op.assign (Operand.const (Value.int IntKind.i64 0))), 28, none⟩]) (.seq (.seq (.ops [⟨some 7, (Op.move (Operand.tmp 0)), 23, none⟩,
    ⟨some 8, (Op.call ⟨(Callee.value (Operand.func 71)), #[(Operand.tmp 7)], #[23]⟩), 4, none⟩,
    ⟨some 9, (Op.unOp UnOp.not 4 (Operand.tmp 8)), 4, none⟩,
    ⟨some 10, (Op.move (Operand.tmp 9)), 4, none⟩,
    ⟨some 11, (Op.load 3 (Operand.tmp 3)), 3, some (10, false)⟩,
    ⟨some 12, (Op.call ⟨(Callee.value (Operand.func 46)), #[(Operand.tmp 11)], #[3]⟩), 4, some (10, false)⟩,
    ⟨some 13, (Op.unOp UnOp.not 4 (Operand.tmp 12)), 4, some (10, false)⟩,
    ⟨some 14, (Op.pick (Operand.tmp 10) (Operand.const (Value.bool true)) (Operand.tmp 13)), 4, none⟩]) (.cond (Operand.tmp 14) (.seq (.ops [⟨some 4, (Op.assign (Operand.const (Value.slice none 0 0))), 23, none⟩,
    ⟨some 5, (Op.assign (Operand.const (Value.int IntKind.i64 800))), 28, none⟩]) .ret) .skip)) (.seq (.ops [⟨some 15, (Op.makeFunc (Fn.func 96) #[] #[(Operand.tmp 3)]), 69, none⟩,
    ⟨some 6, (Op.assign (Operand.tmp 15)), 69, none⟩]) (.seq (.ops [⟨some 16, (Op.move (Operand.tmp 0)), 23, none⟩,
    ⟨some 17, (Op.call ⟨(Callee.value (Operand.func 75)), #[(Operand.tmp 16)], #[23]⟩), 23, none⟩,
    ⟨some 18, (Op.move (Operand.tmp 6)), 69, none⟩,
    ⟨some 19, (Op.call ⟨(Callee.value (Operand.func 97)), #[(Operand.tmp 17), (Operand.tmp 18)], #[23, 69]⟩), 23, none⟩,
    ⟨some 4, (Op.assign (Operand.tmp 19)), 23, none⟩,
    ⟨some 5, (Op.assign (Operand.const (Value.int IntKind.i64 0))), 28, none⟩]) .ret))))⟩
theorem is_passive_Without (c : Cfg) (h : c.lendT = [17]) : isF PP c 77 c_passive_Without := isF_of (fn := Proofs.Try.f77) (by kernel_rfl) (by kernel_rfl) rfl h (by kernel_rfl) rfl rfl (by kernel_rfl)
def c_peers_Heard : SF := ⟨51, [(ResultVar.tmp 6), (ResultVar.tmp 7)],
  (.seq (.ops [⟨some 6, (Op.assign (Operand.const (Value.slice none 0 0))), 22, none⟩,
    ⟨some 7, (Op.assign (Operand.const (Value.int IntKind.i64 0))), 28, none⟩]) (.seq (.seq (.ops [⟨some 11, (Op.move (Operand.tmp 0)), 3, none⟩,
    ⟨some 12, (Op.move (Operand.tmp 1)), 22, none⟩,
    ⟨some 13, (Op.call ⟨(Callee.value (Operand.func 70)), #[(Operand.tmp 11), (Operand.tmp 12)], #[3, 22]⟩), 4, none⟩,
    ⟨some 14, (Op.unOp UnOp.not 4 (Operand.tmp 13)), 4, none⟩,
    ⟨some 15, (Op.move (Operand.tmp 14)), 4, none⟩,
    ⟨some 16, (Op.move (Operand.tmp 2)), 3, some (15, false)⟩,
    ⟨some 17, (Op.call ⟨(Callee.value (Operand.func 46)), #[(Operand.tmp 16)], #[3]⟩), 4, some (15, false)⟩,
    ⟨some 18, (Op.unOp UnOp.not 4 (Operand.tmp 17)), 4, some (15, false)⟩,
    ⟨some 19, (Op.pick (Operand.tmp 15) (Operand.const (Value.bool true)) (Operand.tmp 18)), 4, none⟩,
    ⟨some 20, (Op.move (Operand.tmp 19)), 4, none⟩,
    ⟨some 21, (Op.move (Operand.tmp 2)), 3, some (20, false)⟩,
    ⟨some 22, (Op.move (Operand.tmp 0)), 3, some (20, false)⟩,
    ⟨some 23, (Op.binOp BinOp.eql 3 (Operand.tmp 21) (Operand.tmp 22) 3), 4, some (20, false)⟩,
    ⟨some 24, (Op.pick (Operand.tmp 20) (Operand.const (Value.bool true)) (Operand.tmp 23)), 4, none⟩]) (.cond (Operand.tmp 24) (.seq (.ops [⟨some 6, (Op.assign (Operand.const (Value.slice none 0 0))), 22, none⟩,
    ⟨some 7, (Op.assign (Operand.const (Value.int IntKind.i64 700))), 28, none⟩]) .ret) .skip)) (.seq (.ops [⟨some 25, (Op.move (Operand.tmp 1)), 22, none⟩,
    ⟨some 26, (Op.call ⟨(Callee.value (Operand.func 74)), #[(Operand.tmp 25)], #[22]⟩), 22, none⟩,
    ⟨some 8, (Op.assign (Operand.tmp 26)), 22, none⟩]) (.seq (.ops [⟨some 28, (Op.move (Operand.tmp 0)), 3, none⟩,
    ⟨some 29, (Op.move (Operand.tmp 8)), 22, none⟩,
    ⟨some 30, (Op.move (Operand.tmp 2)), 3, none⟩,
    ⟨some 31, (Op.call ⟨(Callee.value (Operand.func 79)), #[(Operand.tmp 28), (Operand.tmp 29), (Operand.tmp 30)], #[3, 22, 3]⟩), 104, none⟩,
    ⟨some 27, (Op.move (Operand.tmp 31)), 104, none⟩,
    ⟨some 32, (Op.extract (Operand.tmp 27) 0), 3, none⟩,
    ⟨some 33, (Op.extract (Operand.tmp 27) 1), 4, none⟩,
    ⟨some 9, (Op.assign (Operand.tmp 32)), 3, none⟩,
    ⟨some 10, (Op.assign (Operand.tmp 33)), 4, none⟩]) (.seq (.block 0 (.seq (.ops [⟨some 41, (Op.move (Operand.tmp 10)), 4, none⟩,
    ⟨some 40, (Op.assign (Operand.tmp 41)), 4, none⟩]) (.cond (Operand.tmp 40) (.ops [⟨some 42, (Op.move (Operand.tmp 8)), 22, none⟩,
    ⟨some 43, (Op.move (Operand.tmp 9)), 3, none⟩,
    ⟨some 44, (Op.indexAddr 22 (Operand.tmp 42) (Operand.tmp 43)), 0, none⟩,
    ⟨some 45, (Op.fieldAddr 42 (Operand.tmp 44) 1), 0, none⟩,
    ⟨none, (Op.store 3 (Operand.tmp 45) (Operand.const (Value.int IntKind.i64 0))), 0, none⟩]) (.seq (.ops [⟨some 47, (Op.move (Operand.tmp 8)), 22, none⟩,
    ⟨some 48, (Op.call ⟨(Callee.builtin Builtin.len), #[(Operand.tmp 47)], #[22]⟩), 3, none⟩,
    ⟨some 49, (Op.binOp BinOp.eql 3 (Operand.tmp 48) (Operand.const (Value.int IntKind.i64 16)) 3), 4, none⟩,
    ⟨some 46, (Op.assign (Operand.tmp 49)), 4, none⟩]) (.cond (Operand.tmp 46) (.seq (.ops [⟨some 6, (Op.assign (Operand.const (Value.slice none 0 0))), 22, none⟩,
    ⟨some 7, (Op.assign (Operand.const (Value.int IntKind.i64 701))), 28, none⟩]) .ret) (.ops [⟨some 34, (Op.move (Operand.tmp 8)), 22, none⟩,
    ⟨some 35, (Op.move (Operand.tmp 9)), 3, none⟩,
    ⟨some 36, (Op.move (Operand.tmp 2)), 3, none⟩,
    ⟨some 37, (Op.build 42 #[(0, (Operand.tmp 36))]), 42, none⟩,
    ⟨some 38, (Op.buildSlice 22 1 #[(0, (Operand.tmp 37))]), 22, none⟩,
    ⟨some 39, (Op.call ⟨(Callee.value (Operand.func 98)), #[(Operand.tmp 34), (Operand.tmp 35), (Operand.tmp 38)], #[22, 3, 22]⟩), 22, none⟩,
    ⟨some 8, (Op.assign (Operand.tmp 39)), 22, none⟩])))))) (.seq (.ops [⟨some 50, (Op.move (Operand.tmp 8)), 22, none⟩,
    ⟨some 6, (Op.assign (Operand.tmp 50)), 22, none⟩,
    ⟨some 7, (Op.assign (Operand.const (Value.int IntKind.i64 0))), 28, none⟩]) .ret))))))⟩
theorem is_peers_Heard (c : Cfg) (h : c.lendT = [34]) : isF PP c 78 c_peers_Heard := isF_of (fn := Proofs.Try.f78) (by kernel_rfl) (by kernel_rfl) rfl h (by kernel_rfl) rfl rfl (by kernel_rfl)
def c_peers_Find : SF := ⟨18, [(ResultVar.tmp 6), (ResultVar.tmp 7)],
  (.seq (.ops [⟨some 6, (Op.assign (Operand.const (Value.int IntKind.i64 0))), 3, none⟩,
    ⟨some 7, (Op.assign (Operand.const (Value.bool false))), 4, none⟩]) (.seq (.ops [⟨some 9, (Op.move (Operand.tmp 0)), 3, none⟩,
    ⟨some 10, (Op.build 121 #[(0, (Operand.tmp 9))]), 121, none⟩,
    ⟨some 11, (Op.makeFunc (Fn.func 99) #[(Operand.tmp 10)] #[]), 119, none⟩,
    ⟨some 8, (Op.assign (Operand.tmp 11)), 119, none⟩]) (.seq (.ops [⟨some 12, (Op.move (Operand.tmp 1)), 22, none⟩,
    ⟨some 13, (Op.move (Operand.tmp 2)), 3, none⟩,
    ⟨some 14, (Op.move (Operand.tmp 8)), 119, none⟩,
    ⟨some 15, (Op.call ⟨(Callee.value (Operand.func 100)), #[(Operand.tmp 12), (Operand.tmp 13), (Operand.tmp 14)], #[22, 3, 119]⟩), 104, none⟩,
    ⟨some 16, (Op.extract (Operand.tmp 15) 0), 3, none⟩,
    ⟨some 17, (Op.extract (Operand.tmp 15) 1), 4, none⟩,
    ⟨some 6, (Op.assign (Operand.tmp 16)), 3, none⟩,
    ⟨some 7, (Op.assign (Operand.tmp 17)), 4, none⟩]) .ret)))⟩
theorem is_peers_Find (c : Cfg) (h : c.lendT = []) : isF PP c 79 c_peers_Find := isF_of (fn := Proofs.Try.f79) (by kernel_rfl) (by kernel_rfl) rfl h (by kernel_rfl) rfl rfl (by kernel_rfl)
def c_slices_Contains_int_int : SF := ⟨9, [(ResultVar.tmp 4)],
  (.seq (.ops [⟨some 4, (Op.assign (Operand.const (Value.bool false))), 4, none⟩]) (.seq (.ops [⟨some 5, (Op.move (Operand.tmp 0)), 23, none⟩,
    ⟨some 6, (Op.move (Operand.tmp 1)), 3, none⟩,
    ⟨some 7, (Op.call ⟨(Callee.value (Operand.func 101)), #[(Operand.tmp 5), (Operand.tmp 6)], #[23, 3]⟩), 3, none⟩,
    ⟨some 8, (Op.binOp BinOp.geq 3 (Operand.tmp 7) (Operand.const (Value.int IntKind.i64 0)) 3), 4, none⟩,
    ⟨some 4, (Op.assign (Operand.tmp 8)), 4, none⟩]) .ret))⟩
theorem is_slices_Contains_int_int (c : Cfg) (h : c.lendT = []) : isF PP c 80 c_slices_Contains_int_int := isF_of (fn := Proofs.Try.f80) (by kernel_rfl) (by kernel_rfl) rfl h (by kernel_rfl) rfl rfl (by kernel_rfl)
def c_ring_Far : SF := ⟨10, [(ResultVar.tmp 4)],
  (.seq (.ops [⟨some 4, (Op.assign (Operand.const (Value.int IntKind.i64 0))), 3, none⟩]) (.seq (.ops [⟨some 5, (Op.move (Operand.tmp 1)), 3, none⟩,
    ⟨some 6, (Op.move (Operand.tmp 0)), 3, none⟩,
    ⟨some 7, (Op.binOp BinOp.sub 3 (Operand.tmp 5) (Operand.tmp 6) 3), 3, none⟩,
    ⟨some 8, (Op.binOp BinOp.add 3 (Operand.tmp 7) (Operand.const (Value.int IntKind.i64 256)) 3), 3, none⟩,
    ⟨some 9, (Op.binOp BinOp.rem 3 (Operand.tmp 8) (Operand.const (Value.int IntKind.i64 256)) 3), 3, none⟩,
    ⟨some 4, (Op.assign (Operand.tmp 9)), 3, none⟩]) .ret))⟩
theorem is_ring_Far (c : Cfg) (h : c.lendT = []) : isF PP c 94 c_ring_Far := isF_of (fn := Proofs.Try.f94) (by kernel_rfl) (by kernel_rfl) rfl h (by kernel_rfl) rfl rfl (by kernel_rfl)
def c_slices_IndexFunc_int_int_L0 : SC := (.seq (.ops [⟨some 9, (Op.binOp BinOp.lss 3 (Operand.tmp 8) (Operand.tmp 7) 3), 0, none⟩]) (.seq (.cond (Operand.tmp 9) .skip (.exit 0)) (.seq (.block 1 (.seq (.ops [⟨some 10, (Op.move (Operand.tmp 8)), 3, none⟩,
    ⟨some 5, (Op.assign (Operand.tmp 10)), 3, none⟩]) (.seq (.ops [⟨some 11, (Op.move (Operand.tmp 1)), 69, none⟩,
    ⟨some 12, (Op.move (Operand.tmp 0)), 23, none⟩,
    ⟨some 13, (Op.move (Operand.tmp 5)), 3, none⟩,
    ⟨some 14, (Op.indexAddr 23 (Operand.tmp 12) (Operand.tmp 13)), 0, none⟩,
    ⟨some 15, (Op.load 3 (Operand.tmp 14)), 3, none⟩,
    ⟨some 16, (Op.call ⟨(Callee.value (Operand.tmp 11)), #[(Operand.tmp 15)], #[3]⟩), 4, none⟩]) (.cond (Operand.tmp 16) (.seq (.ops [⟨some 17, (Op.move (Operand.tmp 5)), 3, none⟩,
    ⟨some 4, (Op.assign (Operand.tmp 17)), 3, none⟩]) .ret) .skip)))) (.ops [⟨some 18, (Op.binOp BinOp.add 3 (Operand.tmp 8) (Operand.const (Value.int IntKind.i64 1)) 3), 3, none⟩,
    ⟨some 8, (Op.move (Operand.tmp 18)), 3, none⟩]))))
def c_slices_IndexFunc_int_int : SF := ⟨19, [(ResultVar.tmp 4)],
  (.seq (.ops [⟨some 4, (Op.assign (Operand.const (Value.int IntKind.i64 0))), 3, none⟩]) (.seq (.seq (.ops [⟨some 6, (Op.move (Operand.tmp 0)), 23, none⟩,
    ⟨some 7, (Op.call ⟨(Callee.builtin Builtin.len), #[(Operand.tmp 6)], #[23]⟩), 3, none⟩,
    ⟨some 8, (Op.move (Operand.const (Value.int IntKind.i64 0))), 3, none⟩]) (.block 0 (.loop c_slices_IndexFunc_int_int_L0))) (.seq (.ops [⟨some 4, (Op.assign (Operand.const (Value.int IntKind.i64 (-1)))), 3, none⟩]) .ret)))⟩
theorem is_slices_IndexFunc_int_int (c : Cfg) (h : c.lendT = []) : isF PP c 95 c_slices_IndexFunc_int_int := isF_of (fn := Proofs.Try.f95) (by kernel_rfl) (by kernel_rfl) rfl h (by kernel_rfl) rfl rfl (by kernel_rfl)
def c_passive_Without_1 : SF := ⟨7, [(ResultVar.tmp 3)],
  (.seq (.ops [⟨some 3, (Op.assign (Operand.const (Value.bool false))), 4, none⟩]) (.seq (.ops [⟨some 4, (Op.move (Operand.tmp 0)), 3, none⟩,
    ⟨some 5, (Op.load 3 (Operand.tmp 1)), 3, none⟩,
    ⟨some 6, (Op.binOp BinOp.eql 3 (Operand.tmp 4) (Operand.tmp 5) 3), 4, none⟩,
    ⟨some 3, (Op.assign (Operand.tmp 6)), 4, none⟩]) .ret))⟩
theorem is_passive_Without_1 (c : Cfg) (h : c.lendT = []) : isF PP c 96 c_passive_Without_1 := isF_of (fn := Proofs.Try.f96) (by kernel_rfl) (by kernel_rfl) rfl h (by kernel_rfl) rfl rfl (by kernel_rfl)
def c_slices_DeleteFunc_int_int_L0 : SC := (.seq (.seq (.ops [⟨some 16, (Op.move (Operand.tmp 6)), 3, none⟩,
    ⟨some 17, (Op.move (Operand.tmp 0)), 23, none⟩,
    ⟨some 18, (Op.call ⟨(Callee.builtin Builtin.len), #[(Operand.tmp 17)], #[23]⟩), 3, none⟩,
    ⟨some 19, (Op.binOp BinOp.lss 3 (Operand.tmp 16) (Operand.tmp 18) 3), 4, none⟩]) (.cond (Operand.tmp 19) .skip (.exit 0))) (.seq (.block 1 (.seq (.ops [⟨some 22, (Op.move (Operand.tmp 0)), 23, none⟩,
    ⟨some 23, (Op.move (Operand.tmp 6)), 3, none⟩,
    ⟨some 24, (Op.indexAddr 23 (Operand.tmp 22) (Operand.tmp 23)), 0, none⟩,
    ⟨some 25, (Op.load 3 (Operand.tmp 24)), 3, none⟩,
    ⟨some 7, (Op.assign (Operand.tmp 25)), 3, none⟩]) (.seq (.ops [⟨some 26, (Op.move (Operand.tmp 1)), 69, none⟩,
    ⟨some 27, (Op.move (Operand.tmp 7)), 3, none⟩,
    ⟨some 28, (Op.call ⟨(Callee.value (Operand.tmp 26)), #[(Operand.tmp 27)], #[3]⟩), 4, none⟩,
    ⟨some 29, (Op.unOp UnOp.not 4 (Operand.tmp 28)), 4, none⟩]) (.cond (Operand.tmp 29) (.seq (.ops [⟨some 30, (Op.move (Operand.tmp 0)), 23, none⟩,
    ⟨some 31, (Op.move (Operand.tmp 5)), 3, none⟩,
    ⟨some 32, (Op.move (Operand.tmp 7)), 3, none⟩,
    ⟨some 33, (Op.indexAddr 23 (Operand.tmp 30) (Operand.tmp 31)), 0, none⟩,
    ⟨none, (Op.store 3 (Operand.tmp 33) (Operand.tmp 32)), 0, none⟩]) (.ops [⟨some 34, (Op.move (Operand.tmp 5)), 3, none⟩,
    ⟨some 35, (Op.binOp BinOp.add 3 (Operand.tmp 34) (Operand.const (Value.int IntKind.i64 1)) 3), 3, none⟩,
    ⟨some 5, (Op.assign (Operand.tmp 35)), 3, none⟩])) .skip)))) (.ops [⟨some 20, (Op.move (Operand.tmp 6)), 3, none⟩,
    ⟨some 21, (Op.binOp BinOp.add 3 (Operand.tmp 20) (Operand.const (Value.int IntKind.i64 1)) 3), 3, none⟩,
    ⟨some 6, (Op.assign (Operand.tmp 21)), 3, none⟩])))
def c_slices_DeleteFunc_int_int : SF := ⟨42, [(ResultVar.tmp 4)],
  (.seq (.ops [⟨some 4, (Op.assign (Operand.const (Value.slice none 0 0))), 23, none⟩]) (.seq (.ops [⟨some 8, (Op.move (Operand.tmp 0)), 23, none⟩,
    ⟨some 9, (Op.move (Operand.tmp 1)), 69, none⟩,
    ⟨some 10, (Op.call ⟨(Callee.value (Operand.func 95)), #[(Operand.tmp 8), (Operand.tmp 9)], #[23, 69]⟩), 3, none⟩,
    ⟨some 5, (Op.assign (Operand.tmp 10)), 3, none⟩]) (.seq (.seq (.ops [⟨some 11, (Op.move (Operand.tmp 5)), 3, none⟩,
    ⟨some 12, (Op.binOp BinOp.eql 3 (Operand.tmp 11) (Operand.const (Value.int IntKind.i64 (-1))) 3), 4, none⟩]) (.cond (Operand.tmp 12) (.seq (.ops [⟨some 13, (Op.move (Operand.tmp 0)), 23, none⟩,
    ⟨some 4, (Op.assign (Operand.tmp 13)), 23, none⟩]) .ret) .skip)) (.seq (.seq (.ops [⟨some 14, (Op.move (Operand.tmp 5)), 3, none⟩,
    ⟨some 15, (Op.binOp BinOp.add 3 (Operand.tmp 14) (Operand.const (Value.int IntKind.i64 1)) 3), 3, none⟩,
    ⟨some 6, (Op.assign (Operand.tmp 15)), 3, none⟩]) (.block 0 (.loop c_slices_DeleteFunc_int_int_L0))) (.seq (.ops [⟨some 36, (Op.move (Operand.tmp 0)), 23, none⟩,
    ⟨some 37, (Op.move (Operand.tmp 5)), 3, none⟩,
    ⟨some 38, (Op.slice 23 (Operand.tmp 36) (some (Operand.tmp 37)) none none), 23, none⟩,
    ⟨none, (Op.call ⟨(Callee.builtin Builtin.clear), #[(Operand.tmp 38)], #[23]⟩), 0, none⟩]) (.seq (.ops [⟨some 39, (Op.move (Operand.tmp 0)), 23, none⟩,
    ⟨some 40, (Op.move (Operand.tmp 5)), 3, none⟩,
    ⟨some 41, (Op.slice 23 (Operand.tmp 39) none (some (Operand.tmp 40)) none), 23, none⟩,
    ⟨some 4, (Op.assign (Operand.tmp 41)), 23, none⟩]) .ret))))))⟩
theorem is_slices_DeleteFunc_int_int (c : Cfg) (h : c.lendT = []) : isF PP c 97 c_slices_DeleteFunc_int_int := isF_of (fn := Proofs.Try.f97) (by kernel_rfl) (by kernel_rfl) rfl h (by kernel_rfl) rfl rfl (by kernel_rfl)
def c_slices_Insert_api_Peer_api_Peer : SF := ⟨95, [(ResultVar.tmp 6)],
  (.seq (.ops [⟨some 6, (Op.assign (Operand.const (Value.slice none 0 0))), 22, none⟩]) (.seq (.ops [⟨some 10, (Op.move (Operand.tmp 0)), 22, none⟩,
    ⟨some 11, (Op.move (Operand.tmp 1)), 3, none⟩,
    ⟨some 12, (Op.slice 22 (Operand.tmp 10) (some (Operand.tmp 11)) none none), 22, none⟩]) (.seq (.ops [⟨some 13, (Op.move (Operand.tmp 2)), 22, none⟩,
    ⟨some 14, (Op.call ⟨(Callee.builtin Builtin.len), #[(Operand.tmp 13)], #[22]⟩), 3, none⟩,
    ⟨some 7, (Op.assign (Operand.tmp 14)), 3, none⟩]) (.seq (.seq (.ops [⟨some 15, (Op.move (Operand.tmp 7)), 3, none⟩,
    ⟨some 16, (Op.binOp BinOp.eql 3 (Operand.tmp 15) (Operand.const (Value.int IntKind.i64 0)) 3), 4, none⟩]) (.cond (Operand.tmp 16) (.seq (.ops [⟨some 17, (Op.move (Operand.tmp 0)), 22, none⟩,
    ⟨some 6, (Op.assign (Operand.tmp 17)), 22, none⟩]) .ret) .skip)) (.seq (.ops [⟨some 18, (Op.move (Operand.tmp 0)), 22, none⟩,
    ⟨some 19, (Op.call ⟨(Callee.builtin Builtin.len), #[(Operand.tmp 18)], #[22]⟩), 3, none⟩,
    ⟨some 8, (Op.assign (Operand.tmp 19)), 3, none⟩]) (.seq (.seq (.ops [⟨some 20, (Op.move (Operand.tmp 1)), 3, none⟩,
    ⟨some 21, (Op.move (Operand.tmp 8)), 3, none⟩,
    ⟨some 22, (Op.binOp BinOp.eql 3 (Operand.tmp 20) (Operand.tmp 21) 3), 4, none⟩]) (.cond (Operand.tmp 22) (.seq (.ops [⟨some 23, (Op.move (Operand.tmp 0)), 22, none⟩,
    ⟨some 24, (Op.move (Operand.tmp 2)), 22, none⟩,
    ⟨some 25, (Op.call ⟨(Callee.builtin Builtin.append), #[(Operand.tmp 23), (Operand.tmp 24)], #[22, 22]⟩), 22, none⟩,
    ⟨some 6, (Op.assign (Operand.tmp 25)), 22, none⟩]) .ret) .skip)) (.seq (.seq (.ops [⟨some 26, (Op.move (Operand.tmp 8)), 3, none⟩,
    ⟨some 27, (Op.move (Operand.tmp 7)), 3, none⟩,
    ⟨some 28, (Op.binOp BinOp.add 3 (Operand.tmp 26) (Operand.tmp 27) 3), 3, none⟩,
    ⟨some 29, (Op.move (Operand.tmp 0)), 22, none⟩,
    ⟨some 30, (Op.call ⟨(Callee.builtin Builtin.cap), #[(Operand.tmp 29)], #[22]⟩), 3, none⟩,
    ⟨some 31, (Op.binOp BinOp.gtr 3 (Operand.tmp 28) (Operand.tmp 30) 3), 4, none⟩]) (.cond (Operand.tmp 31) (.seq (.ops [⟨some 32, (Op.move (Operand.tmp 0)), 22, none⟩,
    ⟨some 33, (Op.move (Operand.tmp 1)), 3, none⟩,
    ⟨some 34, (Op.slice 22 (Operand.tmp 32) none (some (Operand.tmp 33)) none), 22, none⟩,
    ⟨some 35, (Op.move (Operand.tmp 8)), 3, none⟩,
    ⟨some 36, (Op.move (Operand.tmp 7)), 3, none⟩,
    ⟨some 37, (Op.binOp BinOp.add 3 (Operand.tmp 35) (Operand.tmp 36) 3), 3, none⟩,
    ⟨some 38, (Op.move (Operand.tmp 1)), 3, none⟩,
    ⟨some 39, (Op.binOp BinOp.sub 3 (Operand.tmp 37) (Operand.tmp 38) 3), 3, none⟩,
    ⟨some 40, (Op.call ⟨(Callee.builtin Builtin.append), #[(Operand.tmp 34), (Operand.tmp 39)], #[22, 3]⟩), 22, none⟩,
    ⟨some 9, (Op.assign (Operand.tmp 40)), 22, none⟩]) (.seq (.ops [⟨some 41, (Op.move (Operand.tmp 9)), 22, none⟩,
    ⟨some 42, (Op.move (Operand.tmp 1)), 3, none⟩,
    ⟨some 43, (Op.slice 22 (Operand.tmp 41) (some (Operand.tmp 42)) none none), 22, none⟩,
    ⟨some 44, (Op.move (Operand.tmp 2)), 22, none⟩,
    ⟨some 45, (Op.call ⟨(Callee.builtin Builtin.copy), #[(Operand.tmp 43), (Operand.tmp 44)], #[22, 22]⟩), 3, none⟩]) (.seq (.ops [⟨some 46, (Op.move (Operand.tmp 9)), 22, none⟩,
    ⟨some 47, (Op.move (Operand.tmp 1)), 3, none⟩,
    ⟨some 48, (Op.move (Operand.tmp 7)), 3, none⟩,
    ⟨some 51, (Op.move (Operand.tmp 0)), 22, none⟩,
    ⟨some 52, (Op.move (Operand.tmp 1)), 3, none⟩,
    ⟨some 49, (Op.binOp BinOp.add 3 (Operand.tmp 47) (Operand.tmp 48) 3), 3, none⟩,
    ⟨some 50, (Op.slice 22 (Operand.tmp 46) (some (Operand.tmp 49)) none none), 22, none⟩,
    ⟨some 53, (Op.slice 22 (Operand.tmp 51) (some (Operand.tmp 52)) none none), 22, none⟩,
    ⟨some 54, (Op.call ⟨(Callee.builtin Builtin.copy), #[(Operand.tmp 50), (Operand.tmp 53)], #[22, 22]⟩), 3, none⟩]) (.seq (.ops [⟨some 55, (Op.move (Operand.tmp 9)), 22, none⟩,
    ⟨some 6, (Op.assign (Operand.tmp 55)), 22, none⟩]) .ret)))) .skip)) (.seq (.ops [⟨some 56, (Op.move (Operand.tmp 0)), 22, none⟩,
    ⟨some 57, (Op.move (Operand.tmp 8)), 3, none⟩,
    ⟨some 58, (Op.move (Operand.tmp 7)), 3, none⟩,
    ⟨some 59, (Op.binOp BinOp.add 3 (Operand.tmp 57) (Operand.tmp 58) 3), 3, none⟩,
    ⟨some 60, (Op.slice 22 (Operand.tmp 56) none (some (Operand.tmp 59)) none), 22, none⟩,
    ⟨some 0, (Op.assign (Operand.tmp 60)), 22, none⟩]) (.seq (.seq (.ops [⟨some 61, (Op.move (Operand.tmp 2)), 22, none⟩,
    ⟨some 62, (Op.move (Operand.tmp 0)), 22, none⟩,
    ⟨some 63, (Op.move (Operand.tmp 1)), 3, none⟩,
    ⟨some 64, (Op.move (Operand.tmp 7)), 3, none⟩,
    ⟨some 65, (Op.binOp BinOp.add 3 (Operand.tmp 63) (Operand.tmp 64) 3), 3, none⟩,
    ⟨some 66, (Op.slice 22 (Operand.tmp 62) (some (Operand.tmp 65)) none none), 22, none⟩,
    ⟨some 67, (Op.call ⟨(Callee.value (Operand.func 111)), #[(Operand.tmp 61), (Operand.tmp 66)], #[22, 22]⟩), 4, none⟩,
    ⟨some 68, (Op.unOp UnOp.not 4 (Operand.tmp 67)), 4, none⟩]) (.cond (Operand.tmp 68) (.seq (.ops [⟨some 69, (Op.move (Operand.tmp 0)), 22, none⟩,
    ⟨some 70, (Op.move (Operand.tmp 1)), 3, none⟩,
    ⟨some 71, (Op.move (Operand.tmp 7)), 3, none⟩,
    ⟨some 74, (Op.move (Operand.tmp 0)), 22, none⟩,
    ⟨some 75, (Op.move (Operand.tmp 1)), 3, none⟩,
    ⟨some 72, (Op.binOp BinOp.add 3 (Operand.tmp 70) (Operand.tmp 71) 3), 3, none⟩,
    ⟨some 73, (Op.slice 22 (Operand.tmp 69) (some (Operand.tmp 72)) none none), 22, none⟩,
    ⟨some 76, (Op.slice 22 (Operand.tmp 74) (some (Operand.tmp 75)) none none), 22, none⟩,
    ⟨some 77, (Op.call ⟨(Callee.builtin Builtin.copy), #[(Operand.tmp 73), (Operand.tmp 76)], #[22, 22]⟩), 3, none⟩]) (.seq (.ops [⟨some 78, (Op.move (Operand.tmp 0)), 22, none⟩,
    ⟨some 79, (Op.move (Operand.tmp 1)), 3, none⟩,
    ⟨some 80, (Op.slice 22 (Operand.tmp 78) (some (Operand.tmp 79)) none none), 22, none⟩,
    ⟨some 81, (Op.move (Operand.tmp 2)), 22, none⟩,
    ⟨some 82, (Op.call ⟨(Callee.builtin Builtin.copy), #[(Operand.tmp 80), (Operand.tmp 81)], #[22, 22]⟩), 3, none⟩]) (.seq (.ops [⟨some 83, (Op.move (Operand.tmp 0)), 22, none⟩,
    ⟨some 6, (Op.assign (Operand.tmp 83)), 22, none⟩]) .ret))) .skip)) (.seq (.ops [⟨some 84, (Op.move (Operand.tmp 0)), 22, none⟩,
    ⟨some 85, (Op.move (Operand.tmp 8)), 3, none⟩,
    ⟨some 86, (Op.slice 22 (Operand.tmp 84) (some (Operand.tmp 85)) none none), 22, none⟩,
    ⟨some 87, (Op.move (Operand.tmp 2)), 22, none⟩,
    ⟨some 88, (Op.call ⟨(Callee.builtin Builtin.copy), #[(Operand.tmp 86), (Operand.tmp 87)], #[22, 22]⟩), 3, none⟩]) (.seq (.ops [⟨some 89, (Op.move (Operand.tmp 0)), 22, none⟩,
    ⟨some 90, (Op.move (Operand.tmp 1)), 3, none⟩,
    ⟨some 91, (Op.slice 22 (Operand.tmp 89) (some (Operand.tmp 90)) none none), 22, none⟩,
    ⟨some 92, (Op.move (Operand.tmp 7)), 3, none⟩,
    ⟨some 93, (Op.call ⟨(Callee.value (Operand.func 112)), #[(Operand.tmp 91), (Operand.tmp 92)], #[22, 3]⟩), 0, none⟩]) (.seq (.ops [⟨some 94, (Op.move (Operand.tmp 0)), 22, none⟩,
    ⟨some 6, (Op.assign (Operand.tmp 94)), 22, none⟩]) .ret))))))))))))⟩
theorem is_slices_Insert_api_Peer_api_Peer (c : Cfg) (h : c.lendT = [66]) : isF PP c 98 c_slices_Insert_api_Peer_api_Peer := isF_of (fn := Proofs.Try.f98) (by kernel_rfl) (by kernel_rfl) rfl h (by kernel_rfl) rfl rfl (by kernel_rfl)
def c_peers_order_find : SF := ⟨17, [(ResultVar.tmp 6)],
  (.seq (.ops [⟨some 3, (Op.box 121 (Operand.tmp 0)), 0, none⟩,
    ⟨some 4, (Op.box 42 (Operand.tmp 1)), 0, none⟩,
    ⟨some 6, (Op.assign (Operand.const (Value.int IntKind.i64 0))), 3, none⟩]) (.seq (.ops [⟨some 14, (Op.move (Operand.tmp 2)), 3, none⟩,
    ⟨some 7, (Op.fieldAddr 121 (Operand.tmp 3) 0), 0, none⟩,
    ⟨some 8, (Op.load 3 (Operand.tmp 7)), 3, none⟩,
    ⟨some 9, (Op.fieldAddr 42 (Operand.tmp 4) 0), 0, none⟩,
    ⟨some 10, (Op.load 3 (Operand.tmp 9)), 3, none⟩,
    ⟨some 11, (Op.call ⟨(Callee.value (Operand.func 94)), #[(Operand.tmp 8), (Operand.tmp 10)], #[3, 3]⟩), 3, none⟩,
    ⟨some 12, (Op.fieldAddr 121 (Operand.tmp 3) 0), 0, none⟩,
    ⟨some 13, (Op.load 3 (Operand.tmp 12)), 3, none⟩,
    ⟨some 15, (Op.call ⟨(Callee.value (Operand.func 94)), #[(Operand.tmp 13), (Operand.tmp 14)], #[3, 3]⟩), 3, none⟩,
    ⟨some 16, (Op.call ⟨(Callee.value (Operand.func 113)), #[(Operand.tmp 11), (Operand.tmp 15)], #[3, 3]⟩), 3, none⟩,
    ⟨some 6, (Op.assign (Operand.tmp 16)), 3, none⟩]) .ret))⟩
theorem is_peers_order_find (c : Cfg) (h : c.lendT = []) : isF PP c 99 c_peers_order_find := isF_of (fn := Proofs.Try.f99) (by kernel_rfl) (by kernel_rfl) rfl h (by kernel_rfl) rfl rfl (by kernel_rfl)
def c_slices_BinarySearchFunc_api_Peer_api_Peer_int_L0 : SC := (.seq (.seq (.ops [⟨some 15, (Op.move (Operand.tmp 9)), 3, none⟩,
    ⟨some 16, (Op.move (Operand.tmp 10)), 3, none⟩,
    ⟨some 17, (Op.binOp BinOp.lss 3 (Operand.tmp 15) (Operand.tmp 16) 3), 4, none⟩]) (.cond (Operand.tmp 17) .skip (.exit 0))) (.block 1 (.seq (.ops [⟨some 18, (Op.move (Operand.tmp 9)), 3, none⟩,
    ⟨some 19, (Op.move (Operand.tmp 10)), 3, none⟩,
    ⟨some 20, (Op.binOp BinOp.add 3 (Operand.tmp 18) (Operand.tmp 19) 3), 3, none⟩,
    ⟨some 21, (Op.convert 3 44 (Operand.tmp 20)), 44, none⟩,
    ⟨some 22, (Op.binOp BinOp.shr 44 (Operand.tmp 21) (Operand.const (Value.int IntKind.u64 1)) 44), 44, none⟩,
    ⟨some 23, (Op.convert 44 3 (Operand.tmp 22)), 3, none⟩,
    ⟨some 11, (Op.assign (Operand.tmp 23)), 3, none⟩]) (.seq (.ops [⟨some 24, (Op.move (Operand.tmp 2)), 119, none⟩,
    ⟨some 25, (Op.move (Operand.tmp 0)), 22, none⟩,
    ⟨some 26, (Op.move (Operand.tmp 11)), 3, none⟩,
    ⟨some 27, (Op.indexAddr 22 (Operand.tmp 25) (Operand.tmp 26)), 0, none⟩,
    ⟨some 28, (Op.load 42 (Operand.tmp 27)), 42, none⟩,
    ⟨some 29, (Op.move (Operand.tmp 1)), 3, none⟩,
    ⟨some 30, (Op.call ⟨(Callee.value (Operand.tmp 24)), #[(Operand.tmp 28), (Operand.tmp 29)], #[42, 3]⟩), 3, none⟩,
    ⟨some 31, (Op.binOp BinOp.lss 3 (Operand.tmp 30) (Operand.const (Value.int IntKind.i64 0)) 3), 4, none⟩]) (.cond (Operand.tmp 31) (.ops [⟨some 32, (Op.move (Operand.tmp 11)), 3, none⟩,
    ⟨some 33, (Op.binOp BinOp.add 3 (Operand.tmp 32) (Operand.const (Value.int IntKind.i64 1)) 3), 3, none⟩,
    ⟨some 9, (Op.assign (Operand.tmp 33)), 3, none⟩]) (.ops [⟨some 34, (Op.move (Operand.tmp 11)), 3, none⟩,
    ⟨some 10, (Op.assign (Operand.tmp 34)), 3, none⟩]))))))
def c_slices_BinarySearchFunc_api_Peer_api_Peer_int : SF := ⟨49, [(ResultVar.tmp 6), (ResultVar.tmp 7)],
  (.seq (.ops [⟨some 6, (Op.assign (Operand.const (Value.int IntKind.i64 0))), 3, none⟩,
    ⟨some 7, (Op.assign (Operand.const (Value.bool false))), 4, none⟩]) (.seq (.ops [⟨some 12, (Op.move (Operand.tmp 0)), 22, none⟩,
    ⟨some 13, (Op.call ⟨(Callee.builtin Builtin.len), #[(Operand.tmp 12)], #[22]⟩), 3, none⟩,
    ⟨some 8, (Op.assign (Operand.tmp 13)), 3, none⟩]) (.seq (.ops [⟨some 14, (Op.move (Operand.tmp 8)), 3, none⟩,
    ⟨some 9, (Op.assign (Operand.const (Value.int IntKind.i64 0))), 3, none⟩,
    ⟨some 10, (Op.assign (Operand.tmp 14)), 3, none⟩]) (.seq (.block 0 (.loop c_slices_BinarySearchFunc_api_Peer_api_Peer_int_L0)) (.seq (.ops [⟨some 35, (Op.move (Operand.tmp 9)), 3, none⟩,
    ⟨some 36, (Op.move (Operand.tmp 9)), 3, none⟩,
    ⟨some 37, (Op.move (Operand.tmp 8)), 3, none⟩,
    ⟨some 38, (Op.binOp BinOp.lss 3 (Operand.tmp 36) (Operand.tmp 37) 3), 4, none⟩,
    ⟨some 39, (Op.move (Operand.tmp 38)), 4, none⟩,
    ⟨some 40, (Op.move (Operand.tmp 2)), 119, some (39, true)⟩,
    ⟨some 41, (Op.move (Operand.tmp 0)), 22, some (39, true)⟩,
    ⟨some 42, (Op.move (Operand.tmp 9)), 3, some (39, true)⟩,
    ⟨some 43, (Op.indexAddr 22 (Operand.tmp 41) (Operand.tmp 42)), 0, some (39, true)⟩,
    ⟨some 44, (Op.load 42 (Operand.tmp 43)), 42, some (39, true)⟩,
    ⟨some 45, (Op.move (Operand.tmp 1)), 3, some (39, true)⟩,
    ⟨some 46, (Op.call ⟨(Callee.value (Operand.tmp 40)), #[(Operand.tmp 44), (Operand.tmp 45)], #[42, 3]⟩), 3, some (39, true)⟩,
    ⟨some 47, (Op.binOp BinOp.eql 3 (Operand.tmp 46) (Operand.const (Value.int IntKind.i64 0)) 3), 4, some (39, true)⟩,
    ⟨some 48, (Op.pick (Operand.tmp 39) (Operand.tmp 47) (Operand.const (Value.bool false))), 4, none⟩,
    ⟨some 6, (Op.assign (Operand.tmp 35)), 3, none⟩,
    ⟨some 7, (Op.assign (Operand.tmp 48)), 4, none⟩]) .ret)))))⟩
theorem is_slices_BinarySearchFunc_api_Peer_api_Peer_int (c : Cfg) (h : c.lendT = []) : isF PP c 100 c_slices_BinarySearchFunc_api_Peer_api_Peer_int := isF_of (fn := Proofs.Try.f100) (by kernel_rfl) (by kernel_rfl) rfl h (by kernel_rfl) rfl rfl (by kernel_rfl)
def c_slices_Index_int_int_L0 : SC := (.seq (.ops [⟨some 9, (Op.binOp BinOp.lss 3 (Operand.tmp 8) (Operand.tmp 7) 3), 0, none⟩]) (.seq (.cond (Operand.tmp 9) .skip (.exit 0)) (.seq (.block 1 (.seq (.ops [⟨some 10, (Op.move (Operand.tmp 8)), 3, none⟩,
    ⟨some 5, (Op.assign (Operand.tmp 10)), 3, none⟩]) (.seq (.ops [⟨some 11, (Op.move (Operand.tmp 1)), 3, none⟩,
    ⟨some 12, (Op.move (Operand.tmp 0)), 23, none⟩,
    ⟨some 13, (Op.move (Operand.tmp 5)), 3, none⟩,
    ⟨some 14, (Op.indexAddr 23 (Operand.tmp 12) (Operand.tmp 13)), 0, none⟩,
    ⟨some 15, (Op.load 3 (Operand.tmp 14)), 3, none⟩,
    ⟨some 16, (Op.binOp BinOp.eql 3 (Operand.tmp 11) (Operand.tmp 15) 3), 4, none⟩]) (.cond (Operand.tmp 16) (.seq (.ops [⟨some 17, (Op.move (Operand.tmp 5)), 3, none⟩,
    ⟨some 4, (Op.assign (Operand.tmp 17)), 3, none⟩]) .ret) .skip)))) (.ops [⟨some 18, (Op.binOp BinOp.add 3 (Operand.tmp 8) (Operand.const (Value.int IntKind.i64 1)) 3), 3, none⟩,
    ⟨some 8, (Op.move (Operand.tmp 18)), 3, none⟩]))))
def c_slices_Index_int_int : SF := ⟨19, [(ResultVar.tmp 4)],
  (.seq (.ops [⟨some 4, (Op.assign (Operand.const (Value.int IntKind.i64 0))), 3, none⟩]) (.seq (.seq (.ops [⟨some 6, (Op.move (Operand.tmp 0)), 23, none⟩,
    ⟨some 7, (Op.call ⟨(Callee.builtin Builtin.len), #[(Operand.tmp 6)], #[23]⟩), 3, none⟩,
    ⟨some 8, (Op.move (Operand.const (Value.int IntKind.i64 0))), 3, none⟩]) (.block 0 (.loop c_slices_Index_int_int_L0))) (.seq (.ops [⟨some 4, (Op.assign (Operand.const (Value.int IntKind.i64 (-1)))), 3, none⟩]) .ret)))⟩
theorem is_slices_Index_int_int (c : Cfg) (h : c.lendT = []) : isF PP c 101 c_slices_Index_int_int := isF_of (fn := Proofs.Try.f101) (by kernel_rfl) (by kernel_rfl) rfl h (by kernel_rfl) rfl rfl (by kernel_rfl)
def c_cmp_Compare_int : SF := ⟨20, [(ResultVar.tmp 4)],
  (.seq (.ops [⟨some 4, (Op.assign (Operand.const (Value.int IntKind.i64 0))), 3, none⟩]) (.seq (.ops [⟨some 7, (Op.move (Operand.tmp 0)), 3, none⟩,
    ⟨some 8, (Op.call ⟨(Callee.value (Operand.func 121)), #[(Operand.tmp 7)], #[3]⟩), 4, none⟩,
    ⟨some 5, (Op.assign (Operand.tmp 8)), 4, none⟩]) (.seq (.ops [⟨some 9, (Op.move (Operand.tmp 1)), 3, none⟩,
    ⟨some 10, (Op.call ⟨(Callee.value (Operand.func 121)), #[(Operand.tmp 9)], #[3]⟩), 4, none⟩,
    ⟨some 6, (Op.assign (Operand.tmp 10)), 4, none⟩]) (.seq (.seq (.ops [⟨some 11, (Op.move (Operand.tmp 5)), 4, none⟩]) (.cond (Operand.tmp 11) (.seq (.seq (.ops [⟨some 12, (Op.move (Operand.tmp 6)), 4, none⟩]) (.cond (Operand.tmp 12) (.seq (.ops [⟨some 4, (Op.assign (Operand.const (Value.int IntKind.i64 0))), 3, none⟩]) .ret) .skip)) (.seq (.ops [⟨some 4, (Op.assign (Operand.const (Value.int IntKind.i64 (-1)))), 3, none⟩]) .ret)) .skip)) (.seq (.seq (.ops [⟨some 13, (Op.move (Operand.tmp 6)), 4, none⟩]) (.cond (Operand.tmp 13) (.seq (.ops [⟨some 4, (Op.assign (Operand.const (Value.int IntKind.i64 1))), 3, none⟩]) .ret) .skip)) (.seq (.seq (.ops [⟨some 14, (Op.move (Operand.tmp 0)), 3, none⟩,
    ⟨some 15, (Op.move (Operand.tmp 1)), 3, none⟩,
    ⟨some 16, (Op.binOp BinOp.lss 3 (Operand.tmp 14) (Operand.tmp 15) 3), 4, none⟩]) (.cond (Operand.tmp 16) (.seq (.ops [⟨some 4, (Op.assign (Operand.const (Value.int IntKind.i64 (-1)))), 3, none⟩]) .ret) .skip)) (.seq (.seq (.ops [⟨some 17, (Op.move (Operand.tmp 0)), 3, none⟩,
    ⟨some 18, (Op.move (Operand.tmp 1)), 3, none⟩,
    ⟨some 19, (Op.binOp BinOp.gtr 3 (Operand.tmp 17) (Operand.tmp 18) 3), 4, none⟩]) (.cond (Operand.tmp 19) (.seq (.ops [⟨some 4, (Op.assign (Operand.const (Value.int IntKind.i64 1))), 3, none⟩]) .ret) .skip)) (.seq (.ops [⟨some 4, (Op.assign (Operand.const (Value.int IntKind.i64 0))), 3, none⟩]) .ret))))))))⟩
theorem is_cmp_Compare_int (c : Cfg) (h : c.lendT = []) : isF PP c 113 c_cmp_Compare_int := isF_of (fn := Proofs.Try.f113) (by kernel_rfl) (by kernel_rfl) rfl h (by kernel_rfl) rfl rfl (by kernel_rfl)
def c_cmp_isNaN_int : SF := ⟨6, [(ResultVar.tmp 2)],
  (.seq (.ops [⟨some 2, (Op.assign (Operand.const (Value.bool false))), 4, none⟩]) (.seq (.ops [⟨some 3, (Op.move (Operand.tmp 0)), 3, none⟩,
    ⟨some 4, (Op.move (Operand.tmp 0)), 3, none⟩,
    ⟨some 5, (Op.binOp BinOp.neq 3 (Operand.tmp 3) (Operand.tmp 4) 3), 4, none⟩,
    ⟨some 2, (Op.assign (Operand.tmp 5)), 4, none⟩]) .ret))⟩
theorem is_cmp_isNaN_int (c : Cfg) (h : c.lendT = []) : isF PP c 121 c_cmp_isNaN_int := isF_of (fn := Proofs.Try.f121) (by kernel_rfl) (by kernel_rfl) rfl h (by kernel_rfl) rfl rfl (by kernel_rfl)
end Go.AM
/- AM: this seat's functions in short. -/
namespace Go.AM
set_option linter.unusedSimpArgs false
set_option linter.unusedVariables false
end Go.AM
/- AM: this seat's functions in short, all of them. -/
/- AM: contracts: places, peers. -/
namespace Go.AM
set_option linter.unusedSimpArgs false
set_option linter.unusedVariables false
set_option maxRecDepth 8000
set_option maxHeartbeats 0
theorem ring_Far (a b : Int) : Den PP 94 [.int .i64 a, .int .i64 b] [] (.int .i64 (far a b)) [] := by
  refine den_of [] [] is_ring_Far ?_
  simp -implicitDefEqProofs [c_ring_Far, far]

theorem ring_Place (a : Int) : Den PP 46 [.int .i64 a] [] (.bool (place a)) [] := by
  refine den_of [] [] is_ring_Place ?_
  simp -implicitDefEqProofs [c_ring_Place]
  refine gOps_dec (fun h => ?_) (fun h => ?_) <;> simp -implicitDefEqProofs [h, place]

theorem peers_May_loop (base : Int) (ps : List Peer) (hl : ps.length ≤ cap) (Q : Ex → St → Prop) (r : Bool) (hQ1 : ∀ fr, r = true → Q .normal ⟨fr, []⟩) (hQ2 : ∀ fr bs, r = false → fr 4 = .bool false → Q .ret ⟨fr, bs⟩) :
    ∀ (rest : List Peer) (i : Nat) (fr : Nat → D) (last : Int), ps.drop i = rest → i ≤ ps.length → fr 0 = .int .i64 base → fr 5 = .int .i64 last → fr 16 = .sl (ps.map Peer.row) ps.length → fr 17 = .int .i64 ps.length → fr 18 = .int .i64 i →
      peersOk base last rest = r → sLoop (cf 0 [] []) 0 c_peers_May_L0 (blockQ 0 Q) (rest.length + 1) ⟨fr, []⟩ := by
  intro rest
  induction rest with
  | nil =>
    intro i fr last e hi h0 h5 h16 h17 h18 hm
    refine sLoop_body c_peers_May_L0.eq_1 ?_
    have hi' := drop_nil e hi
    simp -implicitDefEqProofs [h0, h5, h16, h17, h18, hi']
    exact hQ1 _ hm.symm
  | cons p rest ih =>
    intro i fr last e hi h0 h5 h16 h17 h18 hm
    refine sLoop_body c_peers_May_L0.eq_1 ?_
    obtain ⟨hlt, hget, hd, hlen⟩ := drop_cons e
    have hlt' : (i : Int) < ps.length := by omega
    simp -implicitDefEqProofs [h0, h5, h16, h17, h18, hlt', hget, Peer.row]
    refine callThen_of (ring_Place p.id) ?_
    simp -implicitDefEqProofs [h0, h5, h16, h17, h18]
    simp only [peersOk] at hm
    refine gOps_split (fun h1 => ?_) (fun h1 => ?_)
    all_goals simp -implicitDefEqProofs [h1, h0, h5, h16, h17, h18]
    rotate_left
    · exact hQ2 _ _ (by rw [← hm, h1]; rfl) (by rfl)
    refine gOps_ndec (fun h2 => ?_) (fun h2 => ?_)
    all_goals simp -implicitDefEqProofs [h2, h0, h5, h16, h17, h18]
    · exact hQ2 _ _ (by rw [← hm]; simp; intros; omega) (by rfl)
    refine gOps_ndec (fun h3 => ?_) (fun h3 => ?_)
    all_goals simp -implicitDefEqProofs [h3, h0, h5, h16, h17, h18]
    · exact hQ2 _ _ (by rw [← hm]; simp; intros; omega) (by rfl)
    refine callThen_of (ring_Far base p.id) ?_
    simp -implicitDefEqProofs [h0, h5, h16, h17, h18]
    refine condC_dec (fun h4 => ?_) (fun h4 => ?_)
    all_goals simp -implicitDefEqProofs [h4, h0, h5, h16, h17, h18]
    · exact hQ2 _ _ (by rw [← hm]; simp; intros; omega) (by rfl)
    refine callThen_of (ring_Far base p.id) ?_
    simp -implicitDefEqProofs [h0, h5, h16, h17, h18, wrap_next (show i ≤ 140737488355328 by unfold cap at hl; omega)]
    exact ih (i + 1) _ (far base p.id) hd (by omega) (by simp [h0, h5, h16, h17, h18]) (by simp) (by simp [h0, h5, h16, h17, h18]) (by simp [h0, h5, h16, h17, h18]) (by simp) (by rw [← hm, h1, decide_eq_true (show 0 ≤ p.missed by omega), decide_eq_true (show p.missed < 3 by omega), decide_eq_true (show last < far base p.id by omega)]; rfl)

theorem peers_May (base : Int) (ps : List Peer) (hl : ps.length ≤ cap) : Den PP 70 [.int .i64 base, .sl (ps.map Peer.row) ps.length] [] (.bool (peersMay base ps)) [] := by
  refine den_of [] [] is_peers_May ?_
  simp -implicitDefEqProofs [c_peers_May]
  refine callThen_of (ring_Place base) ?_
  simp -implicitDefEqProofs
  cases hp : place base
  · simp -implicitDefEqProofs [peersMay, hp]
  simp -implicitDefEqProofs
  refine condC_dec (fun h16 => ?_) (fun h16 => ?_)
  · simp -implicitDefEqProofs [peersMay, hp, h16]
    omega
  simp -implicitDefEqProofs
  refine anyLoop_of (ps.length + 1) ?_
  have hm : peersMay base ps = peersOk base 0 ps := by simp [peersMay, hp]; intro _; omega
  rw [hm]
  refine peers_May_loop base ps hl _ (peersOk base 0 ps) (fun fr h => ?_) (fun fr bs h h4 => ?_) ps 0 _ 0 rfl (Nat.zero_le _) rfl rfl rfl rfl rfl rfl
  all_goals simp -implicitDefEqProofs [h]
  simp -implicitDefEqProofs [h4]
end Go.AM
/- AM: contracts: small parts. -/
namespace Go.AM
set_option linter.unusedSimpArgs false
set_option linter.unusedVariables false
set_option maxRecDepth 8000
set_option maxHeartbeats 0
theorem law_Num (a : Int) : Den PP 20 [.int .i64 a] [] (.int .i64 a) [] := by
  refine den_of [] [] is_gimmallaw0_Num ?_
  simp -implicitDefEqProofs [c_gimmallaw0_Num]

theorem cmp_isNaN (a : Int) : Den PP 121 [.int .i64 a] [] (.bool false) [] := by
  refine den_of [] [] is_cmp_isNaN_int ?_
  simp -implicitDefEqProofs [c_cmp_isNaN_int]

theorem cmp_Compare (a b : Int) : Den PP 113 [.int .i64 a, .int .i64 b] [] (.int .i64 (cmpI a b)) [] := by
  refine den_of [] [] is_cmp_Compare_int ?_
  simp -implicitDefEqProofs [c_cmp_Compare_int]
  refine callThen_of (cmp_isNaN a) ?_
  simp -implicitDefEqProofs
  refine callThen_of (cmp_isNaN b) ?_
  simp -implicitDefEqProofs
  refine condC_dec (fun h => ?_) (fun h => ?_) <;> simp -implicitDefEqProofs [h, cmpI]
  refine condC_dec (fun h2 => ?_) (fun h2 => ?_) <;> simp -implicitDefEqProofs [h2]

theorem peers_order_find (base : Int) (p : Peer) (id : Int) : Den PP 99 [.agg [.int .i64 base], .agg p.row, .int .i64 id] [] (.int .i64 (cmpI (far base p.id) (far base id))) [] := by
  refine den_of [] [] is_peers_order_find ?_
  simp -implicitDefEqProofs [c_peers_order_find, Peer.row]
  refine callThen_of (ring_Far base p.id) ?_
  simp -implicitDefEqProofs
  refine callThen_of (ring_Far base id) ?_
  simp -implicitDefEqProofs
  refine callThen_of (cmp_Compare _ _) ?_
  simp -implicitDefEqProofs
end Go.AM
/- AM: contracts: loops over places. -/
namespace Go.AM
set_option linter.unusedSimpArgs false
set_option linter.unusedVariables false
set_option maxRecDepth 8000
set_option maxHeartbeats 0
theorem ring_Places (xs : List Int) (hl : xs.length ≤ cap) : Den PP 47 [intsD xs] [] (.bool (xs.all place)) [] := by
  refine den_of [] [] is_ring_Places ?_
  simp -implicitDefEqProofs [c_ring_Places, intsD]
  refine anyLoop_of (xs.length + 1) ?_
  have key : ∀ (Q : Ex → St → Prop) (r : Bool) (hQ1 : ∀ fr, r = true → Q .normal ⟨fr, []⟩) (hQ2 : ∀ fr bs, r = false → fr 2 = .bool false → Q .ret ⟨fr, bs⟩) (rest : List Int) (i : Nat) (fr : Nat → D), xs.drop i = rest → i ≤ xs.length →
      fr 0 = intsD xs → fr 5 = intsD xs → fr 6 = .int .i64 xs.length → fr 7 = .int .i64 i → rest.all place = r → sLoop (cf 0 [] []) 0 c_ring_Places_L0 (blockQ 0 Q) (rest.length + 1) ⟨fr, []⟩ := by
    intro Q r hQ1 hQ2 rest
    induction rest with
    | nil =>
      intro i fr e hi h0 h5 h6 h7 hm
      refine sLoop_body c_ring_Places_L0.eq_1 ?_
      have hi' := drop_nil e hi
      simp -implicitDefEqProofs [h0, h5, h6, h7, hi']
      exact hQ1 _ hm.symm
    | cons x rest ih =>
      intro i fr e hi h0 h5 h6 h7 hm
      refine sLoop_body c_ring_Places_L0.eq_1 ?_
      obtain ⟨hlt, hget, hd, hlen⟩ := drop_cons e
      have hlt' : (i : Int) < xs.length := by omega
      simp -implicitDefEqProofs [h0, h5, h6, h7, hlt', hget, intsD, irow]
      refine callThen_of (ring_Place x) ?_
      simp -implicitDefEqProofs
      refine condC_not (fun h1 => ?_) (fun h1 => ?_)
      all_goals simp -implicitDefEqProofs [h1, h0, h5, h6, h7, wrap_next (show i ≤ 140737488355328 by unfold cap at hl; omega)]
      · exact ih (i + 1) _ hd (by omega) (by simp [h0, h5, h6, h7, intsD]) (by simp [h0, h5, h6, h7, intsD]) (by simp [h0, h5, h6, h7]) (by simp) (by rw [← hm]; simp [h1])
      · exact hQ2 _ _ (by rw [← hm]; simp [h1]) (by rfl)
  refine key _ (xs.all place) (fun fr h => ?_) (fun fr bs h h2 => ?_) xs 0 _ rfl (Nat.zero_le _) rfl rfl rfl rfl rfl
  · simp -implicitDefEqProofs [h]
  · simp -implicitDefEqProofs [h, h2]

theorem passive_May (xs : List Int) (hl : xs.length ≤ cap) : Den PP 71 [intsD xs] [] (.bool (passiveMay xs)) [] := by
  refine den_of [] [] is_passive_May ?_
  simp -implicitDefEqProofs [c_passive_May, intsD]
  refine anyLoop_of (xs.length + 1) ?_
  have key : ∀ (Q : Ex → St → Prop) (r : Bool) (hQ1 : ∀ fr, r = true → fr 0 = .sl (xs.map irow) xs.length → Q .normal ⟨fr, []⟩) (hQ2 : ∀ fr bs, r = false → fr 2 = .bool false → Q .ret ⟨fr, bs⟩) (rest : List Int) (i : Nat) (fr : Nat → D), xs.drop i = rest → i ≤ xs.length →
      fr 0 = .sl (xs.map irow) xs.length → fr 5 = .sl (xs.map irow) xs.length → fr 6 = .int .i64 xs.length → fr 7 = .int .i64 i → ups (if i = 0 then none else xs[i - 1]?) rest = r → sLoop (cf 0 [] []) 0 c_passive_May_L0 (blockQ 0 Q) (rest.length + 1) ⟨fr, []⟩ := by
    intro Q r hQ1 hQ2 rest
    induction rest with
    | nil =>
      intro i fr e hi h0 h5 h6 h7 hm
      refine sLoop_body c_passive_May_L0.eq_1 ?_
      have hi' := drop_nil e hi
      simp -implicitDefEqProofs [h0, h5, h6, h7, hi']
      exact hQ1 _ hm.symm (by simp [h0, h5, h6, h7])
    | cons x rest ih =>
      intro i fr e hi h0 h5 h6 h7 hm
      refine sLoop_body c_passive_May_L0.eq_1 ?_
      obtain ⟨hlt, hget, hd, hlen⟩ := drop_cons e
      have hlt' : (i : Int) < xs.length := by omega
      have hw := wrap_next (show i ≤ 140737488355328 by unfold cap at hl; omega)
      have hprev : (if i + 1 = 0 then none else xs[i + 1 - 1]?) = some x := by simp [hget]
      simp only [ups] at hm
      simp -implicitDefEqProofs [h0, h5, h6, h7, hlt', hget, irow]
      refine callThen_of (ring_Place x) ?_
      simp -implicitDefEqProofs [h0, h5, h6, h7]
      refine gOps_split (fun h1 => ?_) (fun h1 => ?_)
      rotate_left
      · simp -implicitDefEqProofs [h1, h0, h5, h6, h7]
        exact hQ2 _ _ (by rw [← hm]; simp [h1]) (by rfl)
      simp -implicitDefEqProofs [h1, h0, h5, h6, h7]
      by_cases hi0 : i = 0
      · simp -implicitDefEqProofs [hi0, h0, h5, h6, h7]
        simp -implicitDefEqProofs [hi0] at hw
        simp -implicitDefEqProofs [hw]
        refine ih 1 _ (by rw [← hd, hi0]) (by omega) (by simp [h0, h5, h6, h7]) (by simp [h0, h5, h6, h7]) (by simp [h0, h5, h6, h7]) (by simp) ?_
        rw [hi0] at hprev hm
        rw [← hm]
        simp [h1] at hprev ⊢
        rw [hprev]
      · have hpos : 0 < i := by omega
        have hwp : IntKind.wrap .i64 ((i : Int) - 1) = ((i - 1 : Nat) : Int) := by unfold cap at hl; rw [wrap_in (by omega) (by omega)]; omega
        have hlt2 : ((i - 1 : Nat) : Int) < xs.length := by omega
        obtain ⟨y, hy⟩ : ∃ y, xs[i - 1]? = some y := ⟨xs[i - 1], by simp⟩
        rw [if_neg hi0, hy] at hm
        simp -implicitDefEqProofs [hpos, h0, h5, h6, h7, hwp, hlt2, hy, irow]
        refine condC_dec (fun h2 => ?_) (fun h2 => ?_)
        all_goals simp -implicitDefEqProofs [h2, h0, h5, h6, h7, hw]
        · exact hQ2 _ _ (by rw [← hm]; simp; intros; omega) (by rfl)
        · refine ih (i + 1) _ hd (by omega) (by simp [h0, h5, h6, h7]) (by simp [h0, h5, h6, h7]) (by simp [h0, h5, h6, h7]) (by simp) ?_
          rw [hprev, ← hm, h1]
          simp [show y < x by omega]
  refine key _ (ups none xs) (fun fr h h0 => ?_) (fun fr bs h h2 => ?_) xs 0 _ rfl (Nat.zero_le _) rfl rfl rfl rfl rfl
  · simp -implicitDefEqProofs [h, h0, passiveMay]
    omega
  · simp -implicitDefEqProofs [h, h2, passiveMay]

def TellsI (f : Nat) (caps : List D) (p : Int → Bool) (xs : List Int) : Prop := (∀ bs, caps.map (D.freeze bs) = caps) ∧ (∀ fr fp, mapRL fr fp caps = caps) ∧ ∀ x ∈ xs, Den PP f (.int .i64 x :: caps) [] (.bool (p x)) []
theorem slices_IndexFunc_int (xs : List Int) (hl : xs.length ≤ cap) (f : Nat) (caps : List D) (p : Int → Bool) (hp : TellsI f caps p xs) : Den PP 95 [intsD xs, .fn f [] caps] [] (.int .i64 (fIdx p 0 xs)) [] := by
  refine den_of [] [] is_slices_IndexFunc_int_int ?_
  simp -implicitDefEqProofs [c_slices_IndexFunc_int_int, intsD]
  refine anyLoop_of (xs.length + 1) ?_
  have key : ∀ (Q : Ex → St → Prop) (r : Int) (hQ1 : ∀ fr, r = -1 → Q .normal ⟨fr, []⟩) (hQ2 : ∀ fr bs, fr 4 = .int .i64 r → Q .ret ⟨fr, bs⟩) (rest : List Int) (i : Nat) (fr : Nat → D), xs.drop i = rest → i ≤ xs.length →
      fr 0 = .sl (xs.map irow) xs.length → fr 1 = .fn f [] caps → fr 7 = .int .i64 xs.length → fr 8 = .int .i64 i → fIdx p i rest = r → sLoop (cf 0 [] []) 0 c_slices_IndexFunc_int_int_L0 (blockQ 0 Q) (rest.length + 1) ⟨fr, []⟩ := by
    intro Q r hQ1 hQ2 rest
    induction rest with
    | nil =>
      intro i fr e hi h0 h1 h7 h8 hm
      refine sLoop_body c_slices_IndexFunc_int_int_L0.eq_1 ?_
      have hi' := drop_nil e hi
      simp -implicitDefEqProofs [h0, h1, h7, h8, hi']
      exact hQ1 _ hm.symm
    | cons x rest ih =>
      intro i fr e hi h0 h1 h7 h8 hm
      refine sLoop_body c_slices_IndexFunc_int_int_L0.eq_1 ?_
      obtain ⟨hlt, hget, hd, hlen⟩ := drop_cons e
      have hlt' : (i : Int) < xs.length := by omega
      have hw := wrap_next (show i ≤ 140737488355328 by unfold cap at hl; omega)
      simp -implicitDefEqProofs [h0, h1, h7, h8, hlt', hget, irow, hp.1]
      refine callThen_of (hp.2.2 x (List.mem_of_getElem? hget)) ?_
      simp only [fIdx] at hm
      simp -implicitDefEqProofs
      refine condC_split (fun h2 => ?_) (fun h2 => ?_)
      all_goals simp -implicitDefEqProofs [h2, h0, h1, h7, h8, hw]
      · exact hQ2 _ _ (by rw [← hm, h2]; simp)
      · exact ih (i + 1) _ hd (by omega) (by simp [h0, h1, h7, h8]) (by simp [h0, h1, h7, h8, hp.2.1]) (by simp [h0, h1, h7, h8]) (by simp) (by rw [← hm, h2]; simp)
  refine key _ (fIdx p 0 xs) (fun fr h => ?_) (fun fr bs h => ?_) xs 0 _ rfl (Nat.zero_le _) rfl rfl rfl rfl rfl
  · simp -implicitDefEqProofs [h]
  · simp -implicitDefEqProofs [h]

theorem slices_ContainsFunc_int (xs : List Int) (hl : xs.length ≤ cap) (f : Nat) (caps : List D) (p : Int → Bool) (hp : TellsI f caps p xs) : Den PP 73 [intsD xs, .fn f [] caps] [] (.bool (xs.any p)) [] := by
  refine den_of [] [] is_slices_ContainsFunc_int_int ?_
  simp -implicitDefEqProofs [c_slices_ContainsFunc_int_int, intsD, hp.2.1]
  refine callThen_of (slices_IndexFunc_int xs hl f caps p hp) ?_
  have := fIdx_any p xs 0
  simp -implicitDefEqProofs [← this]

theorem bsearch_Peer (base : Int) (ps : List Peer) (id : Int) (hl : ps.length ≤ cap) (at_ : Nat) (hat : at_ ≤ ps.length)
    (hlo : ∀ i p, i < at_ → ps[i]? = some p → far base p.id < far base id) (hhi : ∀ i p, at_ ≤ i → ps[i]? = some p → far base id ≤ far base p.id) :
    Den PP 100 [peersD ps, .int .i64 id, .fn 99 [.agg [.int .i64 base]] []] [] (.tup [.int .i64 at_, .bool (isFar base id ps[at_]?)]) [] := by
  refine den_of [] [] is_slices_BinarySearchFunc_api_Peer_api_Peer_int ?_
  simp -implicitDefEqProofs [c_slices_BinarySearchFunc_api_Peer_api_Peer_int, peersD]
  refine anyLoop_of (ps.length + 1) ?_
  have key : ∀ (Q : Ex → St → Prop) (hQ1 : ∀ fr, fr 0 = .sl (ps.map Peer.row) ps.length → fr 1 = .int .i64 id → fr 2 = .fn 99 [.agg [.int .i64 base]] [] → fr 8 = .int .i64 ps.length → fr 9 = .int .i64 at_ → Q .normal ⟨fr, []⟩) (d lo hi : Nat) (fr : Nat → D), hi - lo ≤ d → lo ≤ at_ → at_ ≤ hi → hi ≤ ps.length →
      fr 0 = .sl (ps.map Peer.row) ps.length → fr 1 = .int .i64 id → fr 2 = .fn 99 [.agg [.int .i64 base]] [] → fr 8 = .int .i64 ps.length → fr 9 = .int .i64 lo → fr 10 = .int .i64 hi → sLoop (cf 0 [] []) 0 c_slices_BinarySearchFunc_api_Peer_api_Peer_int_L0 (blockQ 0 Q) (d + 1) ⟨fr, []⟩ := by
    intro Q hQ1 d
    induction d with
    | zero =>
      intro lo hi fr hd h3 h4 h5 h0 h1 h2 h8 h9 h10
      refine sLoop_body c_slices_BinarySearchFunc_api_Peer_api_Peer_int_L0.eq_1 ?_
      have e1 : lo = at_ := by omega
      have e2 : hi = at_ := by omega
      simp -implicitDefEqProofs [h0, h1, h2, h8, h9, h10, e1, e2]
      exact hQ1 _ (by simp [h0, h1, h2, h8, h9, h10]) (by simp [h0, h1, h2, h8, h9, h10]) (by simp [h0, h1, h2, h8, h9, h10]) (by simp [h0, h1, h2, h8, h9, h10]) (by simp [h0, h1, h2, h8, h9, h10, e1])
    | succ d ih =>
      intro lo hi fr hd h3 h4 h5 h0 h1 h2 h8 h9 h10
      refine sLoop_body c_slices_BinarySearchFunc_api_Peer_api_Peer_int_L0.eq_1 ?_
      by_cases hlt : lo < hi
      · have hlt' : (lo : Int) < hi := by omega
        have hm := mid_eq (lo := lo) (hi := hi) (by omega) (by omega)
        have hml : (lo + hi) / 2 < ps.length := by omega
        have hml' : (((lo + hi) / 2 : Nat) : Int) < ps.length := by omega
        have hw := wrap_next (n := (lo + hi) / 2) (by unfold cap at hl; omega)
        have hb1 : lo ≤ (lo + hi) / 2 := by omega
        have hb2 : (lo + hi) / 2 < hi := by omega
        generalize (lo + hi) / 2 = mid at *
        simp -implicitDefEqProofs [h0, h1, h2, h8, h9, h10, hlt', hlt, hm, hml, hml', Peer.row]
        refine callThen_of (peers_order_find base ps[mid] id) ?_
        simp -implicitDefEqProofs [cmpI_neg]
        refine condC_dec (fun hc => ?_) (fun hc => ?_)
        all_goals simp -implicitDefEqProofs [h0, h1, h2, h8, h9, h10, hc, hw]
        · have : mid < at_ := by
            apply Classical.byContradiction
            intro hx
            have := hhi mid ps[mid] (by omega) (by simp)
            omega
          refine ih (mid + 1) hi _ (by omega) (by omega) (by omega) (by omega) (by simp [h0, h1, h2, h8, h9, h10]) (by simp [h0, h1, h2, h8, h9, h10]) (by simp [h0, h1, h2, h8, h9, h10]) (by simp [h0, h1, h2, h8, h9, h10]) (by simp) (by simp [h0, h1, h2, h8, h9, h10])
        · have : at_ ≤ mid := by
            apply Classical.byContradiction
            intro hx
            have := hlo mid ps[mid] (by omega) (by simp)
            omega
          refine ih lo mid _ (by omega) (by omega) (by omega) (by omega) (by simp [h0, h1, h2, h8, h9, h10]) (by simp [h0, h1, h2, h8, h9, h10]) (by simp [h0, h1, h2, h8, h9, h10]) (by simp [h0, h1, h2, h8, h9, h10]) (by simp [h0, h1, h2, h8, h9, h10]) (by simp)
      · have e1 : lo = at_ := by omega
        have e2 : hi = at_ := by omega
        simp -implicitDefEqProofs [h0, h1, h2, h8, h9, h10, e1, e2]
        exact hQ1 _ (by simp [h0, h1, h2, h8, h9, h10]) (by simp [h0, h1, h2, h8, h9, h10]) (by simp [h0, h1, h2, h8, h9, h10]) (by simp [h0, h1, h2, h8, h9, h10]) (by simp [h0, h1, h2, h8, h9, h10, e1])
  refine key _ (fun fr h0 h1 h2 h8 h9 => ?_) ps.length 0 ps.length _ (by omega) (by omega) hat (Nat.le_refl _) rfl rfl rfl rfl rfl rfl
  simp -implicitDefEqProofs [h0, h1, h2, h8, h9]
  refine gOps_dec (fun hc => ?_) (fun hc => ?_)
  · simp -implicitDefEqProofs [h0, h1, h2, h8, h9, hc, Peer.row]
    refine callThen_of (peers_order_find base ps[at_] id) ?_
    simp -implicitDefEqProofs [cmpI_beq, cmpI_zero, hc, isFar]
  · have hp : ps[at_]? = none := by rw [List.getElem?_eq_none]; omega
    simp -implicitDefEqProofs [h0, h1, h2, h8, h9, hc, hp, isFar]

theorem peers_Find (base : Int) (ps : List Peer) (id : Int) (hl : ps.length ≤ cap) (hr : Rowed base ps) :
    Den PP 79 [.int .i64 base, peersD ps, .int .i64 id] [] (.tup [.int .i64 (findAt base ps id), .bool (peerIs base ps id)]) [] := by
  refine den_of [] [] is_peers_Find ?_
  simp -implicitDefEqProofs [c_peers_Find, peersD]
  refine callThen_of (bsearch_Peer base ps id hl (findAt base ps id) (findAt_le _ _ _) findAt_lo (findAt_hi hr)) ?_
  simp -implicitDefEqProofs [peerIs]

theorem view_Peer (v : View) (id : Int) (hl : v.peers.length ≤ cap) (hr : Rowed v.id v.peers) : Den PP 50 [.mem v.cells, .int .i64 id] [] (.bool (peerIs v.id v.peers id)) [] := by
  refine den_of [] [] is_view_Peer ?_
  simp -implicitDefEqProofs [c_view_Peer, View.cells, peersD]
  refine callThen_of (peers_Find v.id v.peers id hl hr) ?_
  simp -implicitDefEqProofs

theorem view_May_1 (v : View) (id : Int) (hl : v.peers.length ≤ cap) (hr : Rowed v.id v.peers) : Den PP 72 [.int .i64 id, .mem v.cells] [] (.bool (oddIn v id)) [] := by
  refine den_of [] [] is_view_May_1 ?_
  simp -implicitDefEqProofs [c_view_May_1, View.cells, peersD]
  refine gOps_not (fun h => ?_) (fun h => ?_) <;> simp -implicitDefEqProofs [h, oddIn]
  refine callThen_of (view_Peer v id hl hr) ?_
  simp -implicitDefEqProofs

theorem view_May (v : View) (hs : v.small) : Den PP 45 [viewD v] [] (.bool (viewMay v)) [] := by
  refine den_of [] [] is_view_May ?_
  simp -implicitDefEqProofs [c_view_May, viewD, View.cells, peersD, intsD]
  refine callThen_of (peers_May v.id v.peers (cap_of hs.1)) ?_
  simp -implicitDefEqProofs
  refine gOps_split (fun h1 => ?_) (fun h1 => ?_)
  rotate_left
  · simp -implicitDefEqProofs [h1, viewMay]
  simp -implicitDefEqProofs [h1]
  refine callThen_of (passive_May v.passive hs.2) ?_
  simp -implicitDefEqProofs
  refine gOps_split (fun h2 => ?_) (fun h2 => ?_)
  rotate_left
  · simp -implicitDefEqProofs [h2, h1, viewMay]
  have hw : IntKind.wrap .i64 ((v.peers.length : Int) + v.passive.length) = v.peers.length + v.passive.length := by
    obtain ⟨a, b⟩ := hs
    unfold cap16 at a
    unfold cap at b
    exact wrap_in (by omega) (by omega)
  simp -implicitDefEqProofs [h2, hw]
  refine condC_dec (fun h3 => ?_) (fun h3 => ?_)
  · simp -implicitDefEqProofs [h3, viewMay]
    intros
    omega
  simp -implicitDefEqProofs [h3]
  refine callThen_of (slices_ContainsFunc_int v.passive hs.2 _ _ (oddIn v) ⟨fun bs => rfl, fun fr fp => rfl, fun x _ => view_May_1 v x (cap_of hs.1) (peersMay_rowed h1)⟩) ?_
  simp -implicitDefEqProofs [viewMay, h1, h2]
  intros
  omega
end Go.AM
/- AM: contracts: a view's ends. -/
namespace Go.AM
set_option linter.unusedSimpArgs false
set_option linter.unusedVariables false
set_option maxRecDepth 8000
set_option maxHeartbeats 0
end Go.AM
/- AM: what the library's functions over slices step through: slices of own blocks, rows written over others. -/
namespace Go.AM
set_option linter.unusedSimpArgs false
set_option linter.unusedVariables false

section
variable {c : Cfg} {K : St → Prop} {st : St} {dst : Option Nat} {p : Prop} [Decidable p]
theorem overK_if {d : D} {a b : Option St} (hp : p) (h : overK dst d a K) : overK dst d (if p then a else b) K := by rw [if_pos hp]; exact h
theorem appK2_else {a b : Option (D × St)} (hp : ¬ p) (h : appK2 dst b K) : appK2 dst (if p then a else b) K := by rw [if_neg hp]; exact h
theorem overK_else {d : D} {a b : Option St} (hp : ¬ p) (h : overK dst d b K) : overK dst d (if p then a else b) K := by rw [if_neg hp]; exact h
theorem optK_if {a b : Option St} (hp : p) (h : optK a K) : optK (if p then a else b) K := by rw [if_pos hp]; exact h
theorem outK_if {a b : Option Out} (hp : p) (h : outK st dst a K) : outK st dst (if p then a else b) K := by rw [if_pos hp]; exact h
theorem appK_if {e : Nat} {base : D} {a b : Option (List (List D))} (hp : p) (h : appK c dst e base a st K) : appK c dst e base (if p then a else b) st K := by rw [if_pos hp]; exact h
/-- A part of a slice in an own block. -/
theorem outK_slice {T : Tab} {t b off len e : Nat} {lo hi : Option D} {k : Blk} (l h : Nat) (hT : (T t).d = .slice e) (hb : st.bs[b]? = some k) (hlo : boundD 0 lo = some (l : Int)) (hhi : boundD len hi = some (h : Int))
    (h1 : l ≤ h) (h2 : off + h ≤ k.rows.length) (h3 : k.esz = (T e).size) (hne : l = 0 ∨ off + l < k.rows.length) (hK : K (st.put dst (.ref b (off + l) (h - l)))) : outK st dst (sliceD T st.bs t (.ref b off len) lo hi none) K := by
  have : sliceD T st.bs t (.ref b off len) lo hi none = some { d := .ref b (off + l) (h - l) } := by
    unfold sliceD
    rw [hT]
    simp only [hlo, hhi, hb]
    rw [if_pos (by refine ⟨by omega, by omega, by omega, h3⟩)]
    by_cases hl : l = 0
    · subst hl
      simp
    · rw [if_neg (by omega), if_pos (by simp; omega)]
      have : ((h : Int) - l).toNat = h - l := by omega
      simp [this]
  rw [this]
  refine ⟨by simp, ?_⟩
  rw [out_quiet]
  exact hK
/-- A part of a slice whose cells stay. -/
theorem outK_sliceS {T : Tab} {bs : List Blk} {t len e : Nat} {rows : List (List D)} {lo hi : Option D} (l h : Nat) (hT : (T t).d = .slice e) (hlo : boundD 0 lo = some (l : Int)) (hhi : boundD len hi = some (h : Int))
    (h1 : l ≤ h) (h2 : h ≤ rows.length) (h3 : ∀ r ∈ rows, r.length = (T e).size) (hK : K (st.put dst (.sl (rows.drop l) (h - l)))) : outK st dst (sliceD T bs t (.sl rows len) lo hi none) K := by
  have : sliceD T bs t (.sl rows len) lo hi none = some { d := .sl (rows.drop l) (h - l) } := by
    unfold sliceD
    rw [hT]
    simp only [hlo, hhi]
    rw [if_pos (by omega), if_pos h3]
    have : ((h : Int) - l).toNat = h - l := by omega
    simp [this]
  rw [this]
  refine ⟨by simp, ?_⟩
  rw [out_quiet]
  exact hK
/-- The empty part at the end of a block. -/
theorem outK_sliceE {T : Tab} {t b off len e : Nat} {lo hi : Option D} {k : Blk} (l : Nat) (hT : (T t).d = .slice e) (hb : st.bs[b]? = some k) (hlo : boundD 0 lo = some (l : Int)) (hhi : boundD len hi = some (l : Int))
    (h2 : off + l = k.rows.length) (h3 : k.esz = (T e).size) (hl : l ≠ 0) (hK : K (st.put dst (.sl [] 0))) : outK st dst (sliceD T st.bs t (.ref b off len) lo hi none) K := by
  have : sliceD T st.bs t (.ref b off len) lo hi none = some { d := .sl [] 0 } := by
    unfold sliceD
    rw [hT]
    simp only [hlo, hhi, hb]
    rw [if_pos (by refine ⟨by omega, by omega, by omega, h3⟩), if_neg (by omega), if_neg (by simp; omega)]
  rw [this]
  refine ⟨by simp, ?_⟩
  rw [out_quiet]
  exact hK
end

theorem outRows_of {esz j o l : Nat} {k' : Blk} {bs' : List Blk} {R : List (List D)} (hj : bs'[j]? = some k') (hm : k'.kind = .mut) (he : k'.esz = esz) (hl : o + l ≤ k'.rows.length) (hR : R = (k'.rows.drop o).take l) (h0 : j = 0 ∨ 0 < l) : outRows esz (.ref j o l) bs' R :=
  ⟨j, o, l, k', rfl, hj, hm, he, hl, hR, h0⟩

/-- It names no own block. -/
def D.still : D → Bool
  | .int _ _ => true
  | .bool _ => true
  | .nil => true
  | .zs _ => true
  | .sl _ _ => true
  | .mem _ => true
  | .undef => true
  | _ => false
def StillR (rows : List (List D)) : Prop := ∀ r ∈ rows, ∀ d ∈ r, d.still = true
theorem still_rids {d : D} (h : d.still = true) : d.rids = [] := by cases d <;> first | rfl | cases h
theorem still_mapR {d : D} (h : d.still = true) (fr fp : Nat → Nat → Nat → D) : d.mapR fr fp = d := by cases d <;> first | rfl | cases h
theorem still_ridsL : ∀ {r : List D}, (∀ d ∈ r, d.still = true) → ridsL r = [] := by
  intro r
  induction r with
  | nil => intro _; rfl
  | cons d ds ih =>
    intro h
    simp only [ridsL, still_rids (h d (by simp)), ih fun d hd => h d (by simp [hd])]
    rfl
theorem StillR.mapR {rows : List (List D)} (h : StillR rows) (fr fp : Nat → Nat → Nat → D) : rows.map (fun r => r.map (D.mapR fr fp)) = rows := by
  rw [List.map_congr_left (g := id), List.map_id]
  intro r hr
  rw [List.map_congr_left (g := id), List.map_id]
  · rfl
  · intro d hd
    exact still_mapR (h r hr d hd) fr fp
/-- A given block of whatever capacity: the rows that are known, and rows of nothing. -/
theorem gives_of {G : Con} {f esz : Nat} {rows : List (List D)} {rest : List D} {R : List (List D)} (hf : ∀ r ∈ rows, r.length = esz) (hst : StillR rows)
    (h : ∀ fl : List (List D), rows.length ≤ fl.length → (∀ r ∈ fl, r.length = esz) → StillR fl → fl.take rows.length = rows → (∀ i, i < rows.length → fl[i]? = rows[i]?) →
      ∃ r bs', G f (.ref 0 0 rows.length :: rest) [⟨fl, esz, .mut⟩] r bs' ∧ outRows esz r bs' R) : GivesC G f rows esz rest R := by
  intro cp hcp
  refine h _ (by simp) ?_ ?_ (by simp) ?_
  · intro r hr
    rcases List.mem_append.1 hr with h | h
    · exact hf r h
    · rw [(List.mem_replicate.1 h).2]; simp
  · intro r hr d hd
    rcases List.mem_append.1 hr with h | h
    · exact hst r h d hd
    · rw [(List.mem_replicate.1 h).2] at hd
      rw [(List.mem_replicate.1 hd).2]
      rfl
  · intro i hi
    rw [List.getElem?_append_left hi]
theorem StillR.append {a b : List (List D)} (h1 : StillR a) (h2 : StillR b) : StillR (a ++ b) := by
  intro r hr
  rcases List.mem_append.1 hr with h | h
  · exact h1 r h
  · exact h2 r h
theorem StillR.take {a : List (List D)} (h1 : StillR a) (n : Nat) : StillR (a.take n) := fun r hr => h1 r (List.mem_of_mem_take hr)
theorem StillR.drop {a : List (List D)} (h1 : StillR a) (n : Nat) : StillR (a.drop n) := fun r hr => h1 r (List.mem_of_mem_drop hr)
theorem StillR.ovr {a b : List (List D)} (h1 : StillR a) (h2 : StillR b) (p : Nat) : StillR (ovr a p b) := ((h1.take _).append h2).append (h1.drop _)
theorem StillR.set {a : List (List D)} {r : List D} (h1 : StillR a) (h2 : ∀ d ∈ r, d.still = true) (i : Nat) : StillR (a.set i r) := by
  intro x hx
  rcases List.mem_or_eq_of_mem_set hx with h | h
  · exact h1 x h
  · rw [h]; exact h2
theorem StillR.map {α : Type} (f : α → List D) (l : List α) (h : ∀ a ∈ l, ∀ d ∈ f a, d.still = true) : StillR (l.map f) := by
  intro r hr
  obtain ⟨a, ha, rfl⟩ := List.mem_map.1 hr
  exact h a ha
def insL {α : Type} (xs : List α) (i : Nat) (x : α) : List α := xs.take i ++ x :: xs.drop i
theorem insL_map {α β : Type} (f : α → β) (xs : List α) (i : Nat) (x : α) : (insL xs i x).map f = insL (xs.map f) i (f x) := by simp [insL, List.map_take, List.map_drop]
theorem insL_get {α : Type} {xs : List α} {i : Nat} {x : α} (hi : i ≤ xs.length) (j : Nat) : (insL xs i x)[j]? = if j < i then xs[j]? else if j = i then some x else xs[j - 1]? := by
  unfold insL
  have hl : (xs.take i).length = i := by simp; omega
  by_cases h1 : j < i
  · rw [if_pos h1, List.getElem?_append_left (by omega), List.getElem?_take_of_lt h1]
  · rw [if_neg h1, List.getElem?_append_right (by omega), hl]
    by_cases h2 : j = i
    · subst h2; simp
    · rw [if_neg h2]
      obtain ⟨m, hm⟩ : ∃ m, j - i = m + 1 := ⟨j - i - 1, by omega⟩
      rw [hm, List.getElem?_cons_succ, List.getElem?_drop]
      congr 1
      omega
@[simp] theorem insL_length {α : Type} (xs : List α) (i : Nat) (x : α) : (insL xs i x).length = xs.length + 1 := by simp [insL]; omega
@[simp] theorem fits_rep {esz m : Nat} {z : List D} : Fits esz (List.replicate m z) = (m = 0 ∨ (z.length = esz ∧ z.all D.isCell = true)) := by
  apply propext
  constructor
  · intro h
    by_cases hm : m = 0
    · exact .inl hm
    · exact .inr (h z (by simp [hm]))
  · rintro (rfl | h) r hr
    · simp at hr
    · rw [(List.mem_replicate.1 hr).2]; exact h
theorem StillR.sweep {rows : List (List D)} (h : StillR rows) (S : Nat → Bool) : rows.map (fun r => r.map (D.sweep S)) = rows := h.mapR _ _
theorem lent_still {bs : List Blk} (h : ∀ k ∈ bs, StillR k.rows) : lentRids bs = [] ∧ ∀ fr fp, bs.map (Blk.mapR fr fp) = bs := by
  constructor
  · unfold lentRids
    rw [List.flatMap_eq_nil_iff]
    intro k hk
    rw [List.flatMap_eq_nil_iff]
    intro r hr
    exact still_ridsL fun d hd => h k hk r hr d hd
  · intro fr fp
    rw [List.map_congr_left (g := id), List.map_id]
    intro k hk
    show { k with rows := _ } = k
    have := (h k hk).mapR fr fp
    rw [this]
theorem leave_lent {n0 b o l : Nat} {st : St} (hb : b < n0) (h : ∀ k ∈ st.bs.take n0, StillR k.rows) : leave n0 st (.ref b o l) = some (.ref b o l, st.bs.take n0) := by
  obtain ⟨h1, h2⟩ := lent_still h
  unfold leave
  simp only [D.rids, h1, List.append_nil]
  have : [b].filter (fun b => decide (n0 ≤ b)) = [] := by simp; omega
  rw [this]
  simp [expRef, hb, h2]
theorem leave_new {n0 b o l : Nat} {st : St} {k : Blk} (hb : n0 ≤ b) (hk : st.bs[b]? = some k) (hbox : k.kind.isBox = false) (h : ∀ k ∈ st.bs.take n0, StillR k.rows) : leave n0 st (.ref b o l) = some (.ref n0 o l, st.bs.take n0 ++ [k]) := by
  obtain ⟨h1, h2⟩ := lent_still h
  unfold leave
  simp only [D.rids, h1, List.append_nil]
  have : [b].filter (fun b => decide (n0 ≤ b)) = [b] := by simp; omega
  rw [this]
  have hnb : ¬ b < n0 := by omega
  have hnk : k.kind ≠ .box ∧ k.kind ≠ .ibox := by
    constructor <;> (intro h; rw [h] at hbox; cases hbox)
  simp [expRef, hnb, h2, hk]
  cases hkk : k.kind <;> simp [hkk] at hnk ⊢
section
variable {rows fl : List (List D)} {v : List D} {at_ n : Nat}
theorem ins_get (hn : rows.length = n) (hat : at_ ≤ n) (hfl : n ≤ fl.length) (htake : fl.take n = rows) (i : Nat) : (insL rows at_ v)[i]? = if i < at_ then fl[i]? else if i = at_ then some v else if i ≤ n then fl[i - 1]? else none := by
  rw [insL_get (by omega)]
  have hr : ∀ j, rows[j]? = if j < n then fl[j]? else none := by
    intro j
    rw [← htake, List.getElem?_take]
  rw [hr, hr]
  by_cases h1 : i < at_
  · rw [if_pos h1, if_pos h1, if_pos (by omega)]
  · rw [if_neg h1, if_neg h1]
    by_cases h2 : i = at_
    · rw [if_pos h2, if_pos h2]
    · rw [if_neg h2, if_neg h2]
      by_cases h3 : i ≤ n
      · rw [if_pos h3, if_pos (by omega)]
      · rw [if_neg h3, if_neg (by omega)]
theorem ins_rows1 (hn : rows.length = n) (hfl : n + 1 ≤ fl.length) (htake : fl.take n = rows) : insL rows n v = ((ovr fl n [v]).drop 0).take (n + 1) := by
  apply List.ext_getElem?
  intro i
  rw [ins_get hn (Nat.le_refl _) (by omega) htake, List.drop_zero, List.getElem?_take, ovr_get (by simpa using hfl)]
  simp only [List.length_singleton]
  by_cases h1 : i < n
  · rw [if_pos h1, if_pos (by omega), if_pos h1]
  · rw [if_neg h1]
    by_cases h2 : i = n
    · subst h2; simp
    · rw [if_neg h2, if_neg (by omega), if_neg (by omega)]
theorem ins_rows2 (hn : rows.length = n) (htake : fl.take n = rows) : insL rows n v = ((fl.take n ++ [v]).drop 0).take (n + 1) := by
  rw [htake, List.drop_zero, List.take_of_length_le (by simp; omega)]
  simp [insL, ← hn]
theorem ins_rowsC (hn : rows.length = n) (hat : at_ < n) (hfl : n + 1 ≤ fl.length) (htake : fl.take n = rows) :
    insL rows at_ v = ((ovr (ovr fl (at_ + 1) ((fl.drop at_).take (n - at_))) at_ [v]).drop 0).take (n + 1) := by
  have hl : ((fl.drop at_).take (n - at_)).length = n - at_ := by simp; omega
  have hl2 := ovr_length (rows := fl) (p := at_ + 1) (ys := (fl.drop at_).take (n - at_)) (by omega)
  apply List.ext_getElem?
  intro i
  rw [ins_get hn (by omega) (by omega) htake, List.drop_zero, List.getElem?_take, ovr_get (by simp; omega), ovr_get (by omega)]
  simp only [List.length_singleton, hl]
  by_cases h1 : i < at_
  · rw [if_pos h1, if_pos (by omega), if_pos h1, if_pos (by omega)]
  · rw [if_neg h1]
    by_cases h2 : i = at_
    · subst h2; simp; omega
    · rw [if_neg h2]
      by_cases h3 : i ≤ n
      · rw [if_pos h3, if_pos (by omega), if_neg h1, if_neg (by omega), if_neg (by omega), if_pos (by omega), List.getElem?_take_of_lt (by omega), List.getElem?_drop]
        congr 1
        omega
      · rw [if_neg h3, if_neg (by omega)]
theorem ins_rowsB {z : List D} (hn : rows.length = n) (hat : at_ < n) (hfl : fl.length = n) (htake : fl.take n = rows) :
    insL rows at_ v = ((ovr (ovr (fl.take at_ ++ List.replicate (n + 1 - at_) z) at_ [v]) (at_ + 1) ((fl.drop at_).take (n - at_))).drop 0).take (n + 1) := by
  have hl : ((fl.drop at_).take (n - at_)).length = n - at_ := by simp; omega
  have hl0 : (fl.take at_ ++ List.replicate (n + 1 - at_) z).length = n + 1 := by simp; omega
  have hl2 := ovr_length (rows := fl.take at_ ++ List.replicate (n + 1 - at_) z) (p := at_) (ys := [v]) (by rw [hl0]; simp; omega)
  apply List.ext_getElem?
  intro i
  rw [ins_get hn (by omega) (by omega) htake, List.drop_zero, List.getElem?_take, ovr_get (by rw [hl2, hl0]; omega), ovr_get (by rw [hl0]; simp; omega)]
  simp only [List.length_singleton, hl]
  by_cases h1 : i < at_
  · rw [if_pos h1, if_pos (by omega), if_pos (by omega), if_pos h1, List.getElem?_append_left (by simp; omega), List.getElem?_take_of_lt h1]
  · rw [if_neg h1]
    by_cases h2 : i = at_
    · subst h2; simp; omega
    · rw [if_neg h2]
      by_cases h3 : i ≤ n
      · rw [if_pos h3, if_pos (by omega), if_neg (by omega), if_pos (by omega), List.getElem?_take_of_lt (by omega), List.getElem?_drop]
        congr 1
        omega
      · rw [if_neg h3, if_neg (by omega)]
end
/-- A slice, with the rows of its length alone. -/
def D.cut : D → D
  | .sl rows len => .sl (rows.take len) len
  | d => d
theorem RepI.cutLen {w : World} {M : Foot} {v : Value} {rows : List (List D)} {len : Nat} (h : RepI w M v (.sl rows len)) : RepI w M v (.sl (rows.take len) len) := by
  cases h with
  | sl a _ cap _ esz g off vals h1 h2 hr ha hc hv =>
    refine .sl a len cap _ esz g off vals (by simp; omega) (by simp; omega) (fun r hx => hr r (List.mem_of_mem_take hx)) (fun hne => ha (by rintro rfl; exact hne (by simp))) (fun i j hi hj => hc i j (by simp at hi; omega) hj) ?_
    intro i j r d hi hj
    rw [List.getElem?_take] at hi
    split at hi
    · exact hv i j r d hi hj
    · cases hi
theorem Rep.cut {w : World} {M : Foot} {ρ : Nat → Loc} {v : Value} {d : D} (h : Rep w M ρ v d) : Rep w M ρ v d.cut := by
  cases d <;> try exact h
  exact .imm _ _ h.sl_inv.cutLen
theorem den_cut {P : Program} {f : Nat} {args : List D} {bs : List Blk} {r : D} {bs' : List Blk} (h : Den P f (args.map D.cut) bs r bs') : Den P f args bs r bs' := by
  refine ⟨h.1, fun w M0 ρ vals hM hS hs ha => h.2 w M0 ρ vals hM hS (by simpa using hs) ?_⟩
  intro i v d hv hd
  rw [List.getElem?_map] at hd
  cases hc : args[i]? with
  | none => simp [hc] at hd
  | some d0 => simp [hc] at hd; subst hd; exact (ha i v d0 hv hc).cut
attribute [simp] D.cut
@[simp] theorem take_map_app {α β : Type} (f : α → β) (l : List α) (r : List β) : (l.map f ++ r).take l.length = l.map f := List.take_left' (by simp)
/-- nil is an empty array of one's own. -/
theorem den_virt {P : Program} {f : Nat} {args : List D} (esz : Nat) (h : Den P f args [] .nil []) : Den P f args [] (.ref 0 0 0) [⟨[], esz, .mut⟩] := by
  refine ⟨h.1, fun w M0 ρ vals hM hS hs ha => (h.2 w M0 ρ vals hM hS hs ha).mono ?_⟩
  rintro e w' ⟨v, ρ', rfl, hr, hS', hlen, hlent, hp, har⟩
  obtain ⟨a, rfl⟩ := hr.nil_inv
  have hMM : Mof M0 (updL ρ' 0 .virt) [⟨[], esz, .mut⟩] = Mof M0 ρ' [] := by
    rw [Mof_nil]
    funext g o
    apply propext
    constructor
    · rintro (h | ⟨i, b', base, n, rl, ez, hi, hat, _⟩)
      · exact h
      · cases i with
        | zero => rw [updL_same] at hat; cases hat
        | succ i => simp at hi
    · exact .inl
  have hno : ∀ i, ρ' i = .absent := fun i => hS'.out i (Nat.zero_le _)
  have hat : ∀ i g base n rl ez, updL ρ' 0 .virt i ≠ .at_ g base n rl ez := by
    intro i g base n rl ez h
    by_cases hi : i = 0
    · subst hi; rw [updL_same] at h; cases h
    · rw [updL_ne _ _ hi, hno] at h; cases h
  refine ⟨_, updL ρ' 0 .virt, rfl, .refV 0 a (updL_same _ _ _), ⟨fun i b g base n rl ez _ h => absurd h (hat _ _ _ _ _ _), ?_, ?_, fun i j g _ _ _ _ _ _ _ _ h => absurd h (hat _ _ _ _ _ _), fun i g _ _ _ _ h => absurd h (hat _ _ _ _ _ _)⟩, by simp, fun i hi => absurd hi (by simp), by rw [hMM]; exact hp, ⟨har.size, har.os, har.tape, har.output, har.keep, fun i g base n rl ez _ h => absurd h (hat _ _ _ _ _ _)⟩⟩
  · intro i b hi hv
    cases i with
    | zero => simp at hi; subst hi; exact ⟨rfl, rfl⟩
    | succ i => simp at hi
  · intro i hi
    rw [updL_ne _ _ (by simp at hi; omega)]
    exact hno i
/-- A loop that counts to n. -/
theorem count_rule {c : Cfg} {k id : Nat} {x y : SC} {Q : Ex → St → Prop} {st : St} (n : Nat) (P : Nat → St → Prop) (N R : St → Prop) (hx : x = y)
    (h0 : P 0 st) (hlast : ∀ st, P n st → sCode c y st (roundQ (fun _ => False) id N R)) (hstep : ∀ i st, i < n → P i st → sCode c y st (roundQ (onK (P (i + 1)) k) id N R))
    (hN : ∀ st, N st → Q .normal st) (hR : ∀ st, R st → Q .ret st) : anyLoop c k x (blockQ id Q) st := by
  refine loop_rule n (fun m st => m ≤ n ∧ P (n - m) st) N R hx ⟨Nat.le_refl _, by simpa using h0⟩ (fun st h => hlast st (by simpa using h.2)) (fun m st h => ?_) hN hR
  have := hstep (n - (m + 1)) st (by omega) h.2
  rw [show n - (m + 1) + 1 = n - m by omega] at this
  refine sCode_mono _ _ _ _ ?_ this
  intro ex st' h'
  cases ex with
  | normal => exact ⟨by omega, h'⟩
  | exit i => exact h'
  | ret => exact h'
theorem count_keep {c : Cfg} {k id : Nat} {x y : SC} {Q : Ex → St → Prop} {st : St} (n : Nat) (P : Nat → St → Prop) (N R : St → Prop) (hx : x = y)
    (h0 : P 0 st) (hlast : ∀ st, P n st → sCode c y st (roundQ (fun _ => False) id N R)) (hstep : ∀ i st, i < n → P i st → sCode c y st (roundQ (onKeep (P (i + 1)) k) id N R))
    (hN : ∀ st, N st → Q .normal st) (hR : ∀ st, R st → Q .ret st) : anyLoop c k x (blockQ id Q) st := by
  refine loop_keep n (fun m st => m ≤ n ∧ P (n - m) st) N R hx ⟨Nat.le_refl _, by simpa using h0⟩ (fun st h => hlast st (by simpa using h.2)) (fun m st h => ?_) hN hR
  have := hstep (n - (m + 1)) st (by omega) h.2
  rw [show n - (m + 1) + 1 = n - m by omega] at this
  refine sCode_mono _ _ _ _ ?_ this
  intro ex st' h'
  cases ex with
  | normal =>
    obtain ⟨ext, h1, h2⟩ := h'
    exact ⟨ext, h1, by omega, h2⟩
  | exit i => exact h'
  | ret => exact h'
@[simp] theorem wrap_zero : IntKind.wrap .i64 0 = 0 := wrap_in (by omega) (by omega)
theorem splice_map {α : Type} (f : α → D) (W : List α) (k : Nat) (b : α) (hk : k < W.length) : List.take k (List.map f W) ++ f b :: List.drop (k + 1) (List.map f W) = List.map f (W.set k b) := by
  rw [List.map_set, List.set_eq_take_append_cons_drop, if_pos (by simpa using hk)]
end Go.AM
/- AM: contracts: the library's functions over slices. -/
namespace Go.AM
set_option linter.unusedSimpArgs false
set_option linter.unusedVariables false
set_option maxRecDepth 8000
set_option maxHeartbeats 0
theorem clone_int (rows : List (List D)) (hf : Fits 1 rows) (hl : rows.length * 8 ≤ 140737488355328) : Den PP 75 [.sl rows rows.length] [] (.ref 0 0 rows.length) [⟨rows, 1, .mut⟩] := by
  cases hr : rows with
  | nil =>
    refine den_zs (pre := []) (post := []) ?_ ?_
    · refine den_of [] [] is_slices_Clone_int_int ?_
      simp -implicitDefEqProofs [c_slices_Clone_int_int]
    · refine den_of [] [] is_slices_Clone_int_int ?_
      simp -implicitDefEqProofs [c_slices_Clone_int_int, Fits]
  | cons r rs =>
    rw [hr] at hf hl
    have h63 : (r :: rs).length ≤ 9223372036854775807 := by omega
    have hlen : 0 < (r :: rs).length := by simp
    generalize hn : (r :: rs).length = n at *
    generalize r :: rs = rows at *
    refine den_of [] [] is_slices_Clone_int_int ?_
    simp -implicitDefEqProofs [c_slices_Clone_int_int, hlen, List.take_of_length_le (Nat.le_of_eq hn), hf, hn, hl, h63]
theorem clone_Peer (rows : List (List D)) (hf : Fits 2 rows) (hl : rows.length * 16 ≤ 140737488355328) : Den PP 74 [.sl rows rows.length] [] (.ref 0 0 rows.length) [⟨rows, 2, .mut⟩] := by
  cases hr : rows with
  | nil =>
    refine den_zs (pre := []) (post := []) ?_ ?_
    · refine den_of [] [] is_slices_Clone_api_Peer_api_Peer ?_
      simp -implicitDefEqProofs [c_slices_Clone_api_Peer_api_Peer]
    · refine den_of [] [] is_slices_Clone_api_Peer_api_Peer ?_
      simp -implicitDefEqProofs [c_slices_Clone_api_Peer_api_Peer, Fits]
  | cons r rs =>
    rw [hr] at hf hl
    have h63 : (r :: rs).length ≤ 9223372036854775807 := by omega
    have hlen : 0 < (r :: rs).length := by simp
    generalize hn : (r :: rs).length = n at *
    generalize r :: rs = rows at *
    refine den_of [] [] is_slices_Clone_api_Peer_api_Peer ?_
    simp -implicitDefEqProofs [c_slices_Clone_api_Peer_api_Peer, hlen, List.take_of_length_le (Nat.le_of_eq hn), hf, hn, hl, h63]
theorem insert_Peer (rows : List (List D)) (v : List D) (at_ : Nat) (hf : Fits 2 rows) (hst : StillR rows) (hv : Fits 2 [v]) (hvs : ∀ d ∈ v, d.still = true) (hat : at_ ≤ rows.length) (hl : rows.length ≤ 1000000) :
    GivesC (DenF PP [0]) 98 rows 2 [.int .i64 at_, .sl [v] 1] (insL rows at_ v) := by
  refine gives_of (fun r hr => (hf r hr).1) hst fun fl hfl hrow hfs htake hget => ?_
  have hv1 : v.length = 2 := (hv v (by simp)).1
  obtain ⟨c0, cs0, hvv⟩ : ∃ c0 cs0, v = c0 :: cs0 := by
    cases v with
    | nil => simp at hv1
    | cons a b => exact ⟨a, b, rfl⟩
  have hvS : StillR [v] := by intro r hr; rw [List.mem_singleton.1 hr]; exact hvs
  generalize hn : rows.length = n at *
  have w1 : IntKind.wrap .i64 ((n : Int) + 1) = n + 1 := wrap_in (by omega) (by omega)
  have w2 : IntKind.wrap .i64 ((at_ : Int) + 1) = at_ + 1 := wrap_in (by omega) (by omega)
  have w3 : IntKind.wrap .i64 ((n : Int) + 1 - at_) = ((n + 1 - at_ : Nat) : Int) := by rw [wrap_in (by omega) (by omega)]; omega
  by_cases h1 : at_ = n
  · subst h1
    by_cases h2 : at_ + 1 ≤ fl.length
    · refine ⟨.ref 0 0 (at_ + 1), [⟨ovr fl at_ [v], 2, .mut⟩], ?_, ?_⟩
      · refine denF_of [] [66] [] [111] (by simp) ovls111 is_slices_Insert_api_Peer_api_Peer ?_
        simp -implicitDefEqProofs [-leave, c_slices_Insert_api_Peer_api_Peer]
        refine outK_slice (at_) (at_) (by simp; rfl) rfl (by first | rfl | omega | (simp [boundD]; done) | (simp [boundD]; omega) | (simp; done) | (simp; omega) | (simp [*]; done) | (simp [*]; omega)) (by first | rfl | omega | (simp [boundD]; done) | (simp [boundD]; omega) | (simp; done) | (simp; omega) | (simp [*]; done) | (simp [*]; omega)) (by omega) (by first | rfl | omega | (simp [boundD]; done) | (simp [boundD]; omega) | (simp; done) | (simp; omega) | (simp [*]; done) | (simp [*]; omega)) rfl (by first | rfl | omega | (simp [boundD]; done) | (simp [boundD]; omega) | (simp; done) | (simp; omega) | (simp [*]; done) | (simp [*]; omega)) ?_
        simp -implicitDefEqProofs [-leave, hv]
        repeat' (first | (refine appK2_if (by omega) ?_) | (refine appK2_else (by omega) ?_))
        simp -implicitDefEqProofs [-leave, hv, h2]
        rw [leave_lent (by omega) (by simpa using ((hfs.take _).append hvS).append (hfs.drop _))]
        simp [ovr]
      · exact outRows_of rfl rfl rfl (by rw [ovr_length (by simpa using h2)]; omega) (ins_rows1 hn h2 htake) (.inl rfl)
    · have h3 : fl.length = at_ := by omega
      refine ⟨.ref 1 0 (at_ + 1), [⟨fl, 2, .mut⟩, ⟨fl.take at_ ++ [v], 2, .mut⟩], ?_, ?_⟩
      · refine denF_of [] [66] [] [111] (by simp) ovls111 is_slices_Insert_api_Peer_api_Peer ?_
        simp -implicitDefEqProofs [-leave, c_slices_Insert_api_Peer_api_Peer]
        by_cases h0 : at_ = 0
        · refine outK_slice (at_) (at_) (by simp; rfl) rfl (by first | rfl | omega | (simp [boundD]; done) | (simp [boundD]; omega) | (simp; done) | (simp; omega) | (simp [*]; done) | (simp [*]; omega)) (by first | rfl | omega | (simp [boundD]; done) | (simp [boundD]; omega) | (simp; done) | (simp; omega) | (simp [*]; done) | (simp [*]; omega)) (by omega) (by first | rfl | omega | (simp [boundD]; done) | (simp [boundD]; omega) | (simp; done) | (simp; omega) | (simp [*]; done) | (simp [*]; omega)) rfl (by first | rfl | omega | (simp [boundD]; done) | (simp [boundD]; omega) | (simp; done) | (simp; omega) | (simp [*]; done) | (simp [*]; omega)) ?_
          simp -implicitDefEqProofs [-leave, hv, h3]
          repeat' (first | (refine appK2_if (by omega) ?_) | (refine appK2_else (by omega) ?_))
          simp -implicitDefEqProofs [-leave, hv, h3]
          rw [leave_new (by omega) rfl rfl (by simpa using hfs)]
          rfl
        · refine outK_sliceE (at_) (by simp; rfl) rfl (by first | rfl | omega | (simp [boundD]; done) | (simp [boundD]; omega) | (simp; done) | (simp; omega) | (simp [*]; done) | (simp [*]; omega)) (by first | rfl | omega | (simp [boundD]; done) | (simp [boundD]; omega) | (simp; done) | (simp; omega) | (simp [*]; done) | (simp [*]; omega)) (by first | rfl | omega | (simp [boundD]; done) | (simp [boundD]; omega) | (simp; done) | (simp; omega) | (simp [*]; done) | (simp [*]; omega)) rfl (by omega) ?_
          simp -implicitDefEqProofs [-leave, hv, h3]
          repeat' (first | (refine appK2_if (by omega) ?_) | (refine appK2_else (by omega) ?_))
          simp -implicitDefEqProofs [-leave, hv, h3]
          rw [leave_new (by omega) rfl rfl (by simpa using hfs)]
          rfl
      · exact outRows_of rfl rfl rfl (by simp; omega) (ins_rows2 hn htake) (.inr (by omega))
  · have hlt : at_ < n := by omega
    have hT1 : ∀ X : List (List D), List.take (n - at_) (List.take (n + 1 - at_) X) = List.take (n - at_) X := by
      intro X
      rw [List.take_take]
      congr 1
      omega
    have hfit : Fits 2 (List.take (n - at_) (List.drop at_ fl)) := by
      intro r hr
      rw [← List.drop_take, htake] at hr
      exact hf r (List.mem_of_mem_drop hr)
    have hrr : ∀ m, ∀ r ∈ List.take m (List.drop at_ fl), r.length = 2 := fun m r hr => hrow r (List.mem_of_mem_drop (List.mem_of_mem_take hr))
    have hT3 : ∀ X : List (List D), List.take (n - at_) (List.take (n - at_) X) = List.take (n - at_) X := by intro X; rw [List.take_take]; congr 1; omega
    have hT2 : List.take (n + 1 - at_) [v] = [v] := List.take_of_length_le (by simp; omega)
    have hap : ∀ (fl' : List (List D)) (bs : List Blk) (o l : Nat), apartD (⟨fl', 2, .mut⟩ :: bs) [.sl [v] 1, .ref 0 o l] = true := by
      intro _ _ _ _
      rw [hvv]
      rfl
    have hyl : (List.take (n - at_) (List.drop at_ fl)).length = n - at_ := by simp; omega
    have hne : ¬ (at_ : Int) = n := by omega
    by_cases h2 : n + 1 ≤ fl.length
    · have h2' : ¬ ((fl.length : Int) < (n : Int) + 1) := by omega
      refine ⟨.ref 0 0 (n + 1), [⟨ovr (ovr fl (at_ + 1) ((fl.drop at_).take (n - at_))) at_ [v], 2, .mut⟩], ?_, ?_⟩
      · refine denF_of [] [66] [] [111] (by simp) ovls111 is_slices_Insert_api_Peer_api_Peer ?_
        simp -implicitDefEqProofs [-leave, c_slices_Insert_api_Peer_api_Peer]
        refine outK_slice (at_) (n) (by simp; rfl) rfl (by first | rfl | omega | (simp [boundD]; done) | (simp [boundD]; omega) | (simp; done) | (simp; omega) | (simp [*]; done) | (simp [*]; omega)) (by first | rfl | omega | (simp [boundD]; done) | (simp [boundD]; omega) | (simp; done) | (simp; omega) | (simp [*]; done) | (simp [*]; omega)) (by omega) (by first | rfl | omega | (simp [boundD]; done) | (simp [boundD]; omega) | (simp; done) | (simp; omega) | (simp [*]; done) | (simp [*]; omega)) rfl (by first | rfl | omega | (simp [boundD]; done) | (simp [boundD]; omega) | (simp; done) | (simp; omega) | (simp [*]; done) | (simp [*]; omega)) ?_
        simp -implicitDefEqProofs [-leave, hv, h1, hne, w1, w2, h2']
        refine outK_slice (0) (n + 1) (by simp; rfl) rfl (by first | rfl | omega | (simp [boundD]; done) | (simp [boundD]; omega) | (simp; done) | (simp; omega) | (simp [*]; done) | (simp [*]; omega)) (by first | rfl | omega | (simp [boundD]; done) | (simp [boundD]; omega) | (simp; done) | (simp; omega) | (simp [*]; done) | (simp [*]; omega)) (by omega) (by first | rfl | omega | (simp [boundD]; done) | (simp [boundD]; omega) | (simp; done) | (simp; omega) | (simp [*]; done) | (simp [*]; omega)) rfl (by first | rfl | omega | (simp [boundD]; done) | (simp [boundD]; omega) | (simp; done) | (simp; omega) | (simp [*]; done) | (simp [*]; omega)) ?_
        simp -implicitDefEqProofs [-leave, hv, h1, hne, w1, w2, h2']
        refine outK_slice (at_ + 1) (n + 1) (by simp; rfl) rfl (by first | rfl | omega | (simp [boundD]; done) | (simp [boundD]; omega) | (simp; done) | (simp; omega) | (simp [*]; done) | (simp [*]; omega)) (by first | rfl | omega | (simp [boundD]; done) | (simp [boundD]; omega) | (simp; done) | (simp; omega) | (simp [*]; done) | (simp [*]; omega)) (by omega) (by first | rfl | omega | (simp [boundD]; done) | (simp [boundD]; omega) | (simp; done) | (simp; omega) | (simp [*]; done) | (simp [*]; omega)) rfl (by first | rfl | omega | (simp [boundD]; done) | (simp [boundD]; omega) | (simp; done) | (simp; omega) | (simp [*]; done) | (simp [*]; omega)) ?_
        simp -implicitDefEqProofs [-leave, hv, h1, hne, w1, w2, h2', hap]
        refine outK_slice (at_ + 1) (n + 1) (by simp; rfl) rfl (by first | rfl | omega | (simp [boundD]; done) | (simp [boundD]; omega) | (simp; done) | (simp; omega) | (simp [*]; done) | (simp [*]; omega)) (by first | rfl | omega | (simp [boundD]; done) | (simp [boundD]; omega) | (simp; done) | (simp; omega) | (simp [*]; done) | (simp [*]; omega)) (by omega) (by first | rfl | omega | (simp [boundD]; done) | (simp [boundD]; omega) | (simp; done) | (simp; omega) | (simp [*]; done) | (simp [*]; omega)) rfl (by first | rfl | omega | (simp [boundD]; done) | (simp [boundD]; omega) | (simp; done) | (simp; omega) | (simp [*]; done) | (simp [*]; omega)) ?_
        simp -implicitDefEqProofs [-leave, hv, h1, hne, w1, w2, h2']
        refine outK_slice (at_) (n + 1) (by simp; rfl) rfl (by first | rfl | omega | (simp [boundD]; done) | (simp [boundD]; omega) | (simp; done) | (simp; omega) | (simp [*]; done) | (simp [*]; omega)) (by first | rfl | omega | (simp [boundD]; done) | (simp [boundD]; omega) | (simp; done) | (simp; omega) | (simp [*]; done) | (simp [*]; omega)) (by omega) (by first | rfl | omega | (simp [boundD]; done) | (simp [boundD]; omega) | (simp; done) | (simp; omega) | (simp [*]; done) | (simp [*]; omega)) rfl (by first | rfl | omega | (simp [boundD]; done) | (simp [boundD]; omega) | (simp; done) | (simp; omega) | (simp [*]; done) | (simp [*]; omega)) ?_
        simp -implicitDefEqProofs [-leave, hv, h1, hne, w1, w2, h2', hT1, hfit]
        refine ⟨hrr _, ?_⟩
        try refine overK_if (by first | omega | (simp; done) | (simp; omega)) ?_
        have hB1 := ovr_length (rows := fl) (p := at_ + 1) (ys := List.take (n - at_) (List.drop at_ fl)) (by omega)
        have hBS := hfs.ovr ((hfs.drop at_).take (n - at_)) (at_ + 1)
        generalize hB : ovr fl (at_ + 1) (List.take (n - at_) (List.drop at_ fl)) = B at *
        simp -implicitDefEqProofs [-leave, hv, h1, hne, w1, w2, h2']
        refine outK_slice (at_) (n + 1) (by simp; rfl) rfl (by first | rfl | omega | (simp [boundD]; done) | (simp [boundD]; omega) | (simp; done) | (simp; omega) | (simp [*]; done) | (simp [*]; omega)) (by first | rfl | omega | (simp [boundD]; done) | (simp [boundD]; omega) | (simp; done) | (simp; omega) | (simp [*]; done) | (simp [*]; omega)) (by omega) (by first | rfl | omega | (simp [boundD]; done) | (simp [boundD]; omega) | (simp; done) | (simp; omega) | (simp [*]; done) | (simp [*]; omega)) rfl (by first | rfl | omega | (simp [boundD]; done) | (simp [boundD]; omega) | (simp; done) | (simp; omega) | (simp [*]; done) | (simp [*]; omega)) ?_
        simp -implicitDefEqProofs [-leave, hv, h1, hne, w1, w2, h2', hv1, hT2]
        try refine overK_if (by first | omega | (simp; done) | (simp; omega)) ?_
        simp -implicitDefEqProofs [-leave, hv, h1, hne, w1, w2, h2']
        rw [leave_lent (by omega) (by simpa using hBS.ovr hvS at_)]
        rfl
      · exact outRows_of rfl rfl rfl (by show 0 + (n + 1) ≤ (ovr (ovr fl (at_ + 1) _) at_ [v]).length; rw [ovr_length (by rw [ovr_length (by omega)]; simp; omega), ovr_length (by omega)]; omega) (ins_rowsC hn hlt h2 htake) (.inl rfl)
    · have h3 : fl.length = n := by omega
      have h3' : (n : Int) < (n : Int) + 1 := by omega
      refine ⟨.ref 1 0 (n + 1), [⟨fl, 2, .mut⟩, ⟨ovr (ovr (fl.take at_ ++ List.replicate (n + 1 - at_) (TT 42).zero) at_ [v]) (at_ + 1) ((fl.drop at_).take (n - at_)), 2, .mut⟩], ?_, ?_⟩
      · refine denF_of [] [66] [] [111] (by simp) ovls111 is_slices_Insert_api_Peer_api_Peer ?_
        simp -implicitDefEqProofs [-leave, c_slices_Insert_api_Peer_api_Peer]
        refine outK_slice (at_) (n) (by simp; rfl) rfl (by first | rfl | omega | (simp [boundD]; done) | (simp [boundD]; omega) | (simp; done) | (simp; omega) | (simp [*]; done) | (simp [*]; omega)) (by first | rfl | omega | (simp [boundD]; done) | (simp [boundD]; omega) | (simp; done) | (simp; omega) | (simp [*]; done) | (simp [*]; omega)) (by omega) (by first | rfl | omega | (simp [boundD]; done) | (simp [boundD]; omega) | (simp; done) | (simp; omega) | (simp [*]; done) | (simp [*]; omega)) rfl (by first | rfl | omega | (simp [boundD]; done) | (simp [boundD]; omega) | (simp; done) | (simp; omega) | (simp [*]; done) | (simp [*]; omega)) ?_
        simp -implicitDefEqProofs [-leave, hv, h1, hne, w1, w2, h3, h3']
        refine outK_slice (0) (at_) (by simp; rfl) rfl (by first | rfl | omega | (simp [boundD]; done) | (simp [boundD]; omega) | (simp; done) | (simp; omega) | (simp [*]; done) | (simp [*]; omega)) (by first | rfl | omega | (simp [boundD]; done) | (simp [boundD]; omega) | (simp; done) | (simp; omega) | (simp [*]; done) | (simp [*]; omega)) (by omega) (by first | rfl | omega | (simp [boundD]; done) | (simp [boundD]; omega) | (simp; done) | (simp; omega) | (simp [*]; done) | (simp [*]; omega)) rfl (by first | rfl | omega | (simp [boundD]; done) | (simp [boundD]; omega) | (simp; done) | (simp; omega) | (simp [*]; done) | (simp [*]; omega)) ?_
        simp -implicitDefEqProofs [-leave, hv, h1, hne, w1, w2, w3, h3, h3']
        refine appK_if (by omega) ?_
        have e1 : at_ + (n + 1 - at_) = n + 1 := by omega
        simp -implicitDefEqProofs [-leave, hv, h1, hne, w1, w2, w3, h3, h3', e1]
        repeat' (first | (refine appK2_if (by omega) ?_) | (refine appK2_else (by omega) ?_))
        simp -implicitDefEqProofs [-leave, hv, h1, hne, w1, w2, w3, h3, h3', e1]
        have hA1 : (List.take at_ fl ++ List.replicate (n + 1 - at_) [D.int IntKind.i64 0, D.int IntKind.i64 0]).length = n + 1 := by simp; omega
        generalize hA : List.take at_ fl ++ List.replicate (n + 1 - at_) [D.int IntKind.i64 0, D.int IntKind.i64 0] = A at *
        refine outK_slice (at_) (n + 1) (by simp; rfl) rfl (by first | rfl | omega | (simp [boundD]; done) | (simp [boundD]; omega) | (simp; done) | (simp; omega) | (simp [*]; done) | (simp [*]; omega)) (by first | rfl | omega | (simp [boundD]; done) | (simp [boundD]; omega) | (simp; done) | (simp; omega) | (simp [*]; done) | (simp [*]; omega)) (by omega) (by first | rfl | omega | (simp [boundD]; done) | (simp [boundD]; omega) | (simp; done) | (simp; omega) | (simp [*]; done) | (simp [*]; omega)) rfl (by first | rfl | omega | (simp [boundD]; done) | (simp [boundD]; omega) | (simp; done) | (simp; omega) | (simp [*]; done) | (simp [*]; omega)) ?_
        simp -implicitDefEqProofs [-leave, hv, h1, hne, w1, w2, h3, hv1, hT2]
        try refine overK_if (by first | omega | (simp; done) | (simp; omega)) ?_
        have hB1 := ovr_length (rows := A) (p := at_) (ys := [v]) (by simp; omega)
        generalize hB : ovr A at_ [v] = B at *
        simp -implicitDefEqProofs [-leave, hv, h1, hne, w1, w2, h3]
        refine outK_slice (at_ + 1) (n + 1) (by simp; rfl) rfl (by first | rfl | omega | (simp [boundD]; done) | (simp [boundD]; omega) | (simp; done) | (simp; omega) | (simp [*]; done) | (simp [*]; omega)) (by first | rfl | omega | (simp [boundD]; done) | (simp [boundD]; omega) | (simp; done) | (simp; omega) | (simp [*]; done) | (simp [*]; omega)) (by omega) (by first | rfl | omega | (simp [boundD]; done) | (simp [boundD]; omega) | (simp; done) | (simp; omega) | (simp [*]; done) | (simp [*]; omega)) rfl (by first | rfl | omega | (simp [boundD]; done) | (simp [boundD]; omega) | (simp; done) | (simp; omega) | (simp [*]; done) | (simp [*]; omega)) ?_
        simp -implicitDefEqProofs [-leave, hv, h1, hne, w1, w2, h3]
        refine outK_slice (at_) (n) (by simp; rfl) rfl (by first | rfl | omega | (simp [boundD]; done) | (simp [boundD]; omega) | (simp; done) | (simp; omega) | (simp [*]; done) | (simp [*]; omega)) (by first | rfl | omega | (simp [boundD]; done) | (simp [boundD]; omega) | (simp; done) | (simp; omega) | (simp [*]; done) | (simp [*]; omega)) (by omega) (by first | rfl | omega | (simp [boundD]; done) | (simp [boundD]; omega) | (simp; done) | (simp; omega) | (simp [*]; done) | (simp [*]; omega)) rfl (by first | rfl | omega | (simp [boundD]; done) | (simp [boundD]; omega) | (simp; done) | (simp; omega) | (simp [*]; done) | (simp [*]; omega)) ?_
        simp -implicitDefEqProofs [-leave, hv, h1, hne, w1, w2, h3, hfit, hT3]
        refine ⟨hrr _, ?_⟩
        try refine overK_if (by first | omega | (simp; done) | (simp; omega)) ?_
        try simp -implicitDefEqProofs [-leave, hv, h1, hne, w1, w2, h3]
        rw [leave_new (by omega) rfl rfl (by simpa using hfs)]
        simp [hA, hB]
      · exact outRows_of rfl rfl rfl (by
          have hA1 : (List.take at_ fl ++ List.replicate (n + 1 - at_) (TT 42).zero).length = n + 1 := by simp; omega
          show 0 + (n + 1) ≤ (ovr (ovr _ at_ [v]) (at_ + 1) _).length
          rw [ovr_length (by rw [ovr_length (by rw [hA1]; simp; omega), hA1]; omega), ovr_length (by rw [hA1]; simp; omega), hA1]; omega) (ins_rowsB hn hlt h3 htake) (.inr (by omega))
end Go.AM
/- AM: contracts: a view's ends, a key's owner. -/
namespace Go.AM
set_option linter.unusedSimpArgs false
set_option linter.unusedVariables false
set_option maxRecDepth 8000
set_option maxHeartbeats 0
end Go.AM
/- AM: contracts: a key's owner. -/
namespace Go.AM
set_option linter.unusedSimpArgs false
set_option linter.unusedVariables false
set_option maxRecDepth 8000
set_option maxHeartbeats 0
end Go.AM
/- AM: contracts: the document's answers about views. -/
namespace Go.AM
set_option linter.unusedSimpArgs false
set_option linter.unusedVariables false
set_option maxRecDepth 8000
set_option maxHeartbeats 0
theorem law_SameInts (xs ys : List Int) (hl : xs.length ≤ cap) : Den PP 27 [intsD xs, intsD ys] [] (.bool (decide (xs = ys))) [] := by
  refine den_of [] [] is_gimmallaw0_SameInts ?_
  simp -implicitDefEqProofs [c_gimmallaw0_SameInts, intsD]
  refine condC_split (fun h => ?_) (fun h => ?_)
  · simp -implicitDefEqProofs
    intro he
    subst he
    simp at h
  have hlen : xs.length = ys.length := by simp at h; omega
  simp -implicitDefEqProofs
  refine anyLoop_of (xs.length + 1) ?_
  have key : ∀ (Q : Ex → St → Prop) (r : Bool) (hQ1 : ∀ fr, r = true → Q .normal ⟨fr, []⟩) (hQ2 : ∀ fr bs, r = false → fr 4 = .bool false → Q .ret ⟨fr, bs⟩) (rest : List Int) (i : Nat) (fr : Nat → D), xs.drop i = rest → i ≤ xs.length →
      fr 0 = .sl (xs.map irow) xs.length → fr 1 = .sl (ys.map irow) ys.length → fr 5 = .int .i64 i → decide (rest = ys.drop i) = r → sLoop (cf 0 [] []) 0 c_gimmallaw0_SameInts_L0 (blockQ 0 Q) (rest.length + 1) ⟨fr, []⟩ := by
    intro Q r hQ1 hQ2 rest
    induction rest with
    | nil =>
      intro i fr e hi h0 h1 h5 hm
      refine sLoop_body c_gimmallaw0_SameInts_L0.eq_1 ?_
      have hi' := drop_nil e hi
      simp -implicitDefEqProofs [h0, h1, h5, hi']
      exact hQ1 _ (by rw [← hm, hi', hlen]; simp)
    | cons x rest ih =>
      intro i fr e hi h0 h1 h5 hm
      refine sLoop_body c_gimmallaw0_SameInts_L0.eq_1 ?_
      obtain ⟨hlt, hget, hd, hl2⟩ := drop_cons e
      have hlt' : (i : Int) < xs.length := by omega
      have hlt2 : (i : Int) < ys.length := by omega
      have hw := wrap_next (n := i) (by unfold cap at hl; omega)
      obtain ⟨y, hy⟩ : ∃ y, ys[i]? = some y := ⟨ys[i], by simp⟩
      have hyd : ys.drop i = y :: ys.drop (i + 1) := by
        rw [List.drop_eq_getElem_cons (by omega)]
        have : ys[i] = y := by
          have := (List.getElem?_eq_some_iff.1 hy).2
          exact this
        rw [this]
      simp -implicitDefEqProofs [h0, h1, h5, hlt', hlt2, hget, hy, irow]
      refine condC_split (fun h2 => ?_) (fun h2 => ?_)
      all_goals simp -implicitDefEqProofs [h2, h0, h1, h5, hw]
      · refine hQ2 _ _ ?_ (by rfl)
        rw [← hm, hyd]
        simp at h2
        simp [h2]
      · refine ih (i + 1) _ hd (by omega) (by simp [h0, h1, h5]) (by simp [h0, h1, h5]) (by simp) ?_
        rw [← hm, hyd]
        simp at h2
        simp [h2]
  refine key _ (decide (xs = ys)) (fun fr h => ?_) (fun fr bs h h2 => ?_) xs 0 _ rfl (Nat.zero_le _) rfl rfl rfl rfl
  · simp -implicitDefEqProofs [h]
  · simp -implicitDefEqProofs [h, h2]

end Go.AM
/- AM: contracts: the document's peers. -/
namespace Go.AM
set_option linter.unusedSimpArgs false
set_option linter.unusedVariables false
set_option maxRecDepth 8000
set_option maxHeartbeats 0
end Go.AM
/- AM: contracts: the document's answers about views. -/
namespace Go.AM
set_option linter.unusedSimpArgs false
set_option linter.unusedVariables false
set_option maxRecDepth 8000
set_option maxHeartbeats 0
theorem law_SamePeers (xs ys : List Peer) (hl : xs.length ≤ cap) : Den PP 56 [peersD xs, peersD ys] [] (.bool (decide (xs = ys))) [] := by
  refine den_of [] [] is_gimmallaw0_SamePeers ?_
  simp -implicitDefEqProofs [c_gimmallaw0_SamePeers, peersD]
  refine condC_split (fun h => ?_) (fun h => ?_)
  · simp -implicitDefEqProofs
    grind
  have hlen : xs.length = ys.length := by simp at h; omega
  simp -implicitDefEqProofs
  refine list_rule xs (fun i rest => fun ⟨fr, bs⟩ => bs = [] ∧ fr 0 = .sl (xs.map Peer.row) xs.length ∧ fr 1 = .sl (ys.map Peer.row) ys.length ∧ fr 5 = .int .i64 i ∧ (rest = ys.drop i ↔ xs = ys))
    (fun ⟨fr, bs⟩ => bs = [] ∧ xs = ys) (fun ⟨fr, bs⟩ => fr 4 = .bool false ∧ ¬ xs = ys) c_gimmallaw0_SamePeers_L0.eq_1 ?_ ?_ ?_ ?_ ?_
  · exact ⟨rfl, rfl, rfl, rfl, by simp⟩
  · rintro i ⟨fr, bs⟩ hi ⟨rfl, h0, h1, h5, he⟩
    simp -implicitDefEqProofs [*]
    grind
  · rintro i a rest ⟨fr, bs⟩ hlt hget hg hd hd2 ⟨rfl, h0, h1, h5, he⟩
    have hlt' : (i : Int) < xs.length := by omega
    have hlt2 : i < ys.length := by omega
    have hlt3 : (i : Int) < ys.length := by omega
    have hw := wrap_next (n := i) (by unfold cap at hl; omega)
    rw [List.drop_eq_getElem_cons hlt2] at he
    generalize hy : ys[i] = b at he
    simp -implicitDefEqProofs [h0, h1, h5, hlt, hlt', hlt2, hlt3, hget, hg, hy, Peer.row, EQS]
    repeat' (first | (with_reducible refine gOps_dec (fun _ => ?_) (fun _ => ?_) <;> simp -implicitDefEqProofs [*, EQS]) | (with_reducible refine gOps_ndec (fun _ => ?_) (fun _ => ?_) <;> simp -implicitDefEqProofs [*, EQS]) | (with_reducible refine gOps_and (fun hq => ?_) (fun hq => ?_) <;> (try simp at hq) <;> simp -implicitDefEqProofs [*, EQS]) | (with_reducible refine gOps_or (fun hq => ?_) (fun hq => ?_) <;> (try simp at hq) <;> simp -implicitDefEqProofs [*, EQS]) | (with_reducible refine gOps_not (fun hq => ?_) (fun hq => ?_) <;> (try simp at hq) <;> simp -implicitDefEqProofs [*, EQS]) | (with_reducible refine gOps_split (fun hq => ?_) (fun hq => ?_) <;> (try simp at hq) <;> simp -implicitDefEqProofs [*, EQS]) | (with_reducible refine condC_dec (fun _ => ?_) (fun _ => ?_) <;> simp -implicitDefEqProofs [*, EQS]) | (with_reducible refine condC_ndec (fun _ => ?_) (fun _ => ?_) <;> simp -implicitDefEqProofs [*, EQS]) | (with_reducible refine condC_and (fun hq => ?_) (fun hq => ?_) <;> (try simp at hq) <;> simp -implicitDefEqProofs [*, EQS]) | (with_reducible refine condC_or (fun hq => ?_) (fun hq => ?_) <;> (try simp at hq) <;> simp -implicitDefEqProofs [*, EQS]) | (with_reducible refine condC_not (fun hq => ?_) (fun hq => ?_) <;> (try simp at hq) <;> simp -implicitDefEqProofs [*, EQS]) | (with_reducible refine condC_split (fun hq => ?_) (fun hq => ?_) <;> (try simp at hq) <;> simp -implicitDefEqProofs [*, EQS]) | (refine appK2_if (by omega) ?_; simp -implicitDefEqProofs [*, EQS]) | (refine pureV_if (by omega) ?_; simp -implicitDefEqProofs [*, EQS]))
    all_goals (obtain ⟨a1, a2⟩ := a; obtain ⟨b1, b2⟩ := b; grind)
  · rintro ⟨fr, bs⟩ ⟨rfl, h6⟩
    simp -implicitDefEqProofs [*]
  · rintro ⟨fr, bs⟩ h
    simp -implicitDefEqProofs [h.1, h.2]
theorem law_SameView (v w : View) (hs : v.small) : Den PP 19 [viewD v, viewD w] [] (.bool (decide (v = w))) [] := by
  have h1 := law_SamePeers v.peers w.peers (cap_of hs.1)
  have h2 := law_SameInts v.passive w.passive hs.2
  simp [peersD, intsD] at h1 h2
  refine den_of [] [] is_gimmallaw0_SameView ?_
  simp -implicitDefEqProofs [c_gimmallaw0_SameView, viewD, View.cells, peersD, intsD]
  repeat' (first | (refine callThen_of (by first | exact h1 | exact h2) ?_; simp -implicitDefEqProofs [*, peersD]) | (with_reducible refine gOps_dec (fun _ => ?_) (fun _ => ?_) <;> simp -implicitDefEqProofs [*, peersD]) | (with_reducible refine gOps_ndec (fun _ => ?_) (fun _ => ?_) <;> simp -implicitDefEqProofs [*, peersD]) | (with_reducible refine gOps_and (fun hq => ?_) (fun hq => ?_) <;> (try simp at hq) <;> simp -implicitDefEqProofs [*, peersD]) | (with_reducible refine gOps_or (fun hq => ?_) (fun hq => ?_) <;> (try simp at hq) <;> simp -implicitDefEqProofs [*, peersD]) | (with_reducible refine gOps_not (fun hq => ?_) (fun hq => ?_) <;> (try simp at hq) <;> simp -implicitDefEqProofs [*, peersD]) | (with_reducible refine gOps_split (fun hq => ?_) (fun hq => ?_) <;> (try simp at hq) <;> simp -implicitDefEqProofs [*, peersD]) | (with_reducible refine condC_dec (fun _ => ?_) (fun _ => ?_) <;> simp -implicitDefEqProofs [*, peersD]) | (with_reducible refine condC_ndec (fun _ => ?_) (fun _ => ?_) <;> simp -implicitDefEqProofs [*, peersD]) | (with_reducible refine condC_and (fun hq => ?_) (fun hq => ?_) <;> (try simp at hq) <;> simp -implicitDefEqProofs [*, peersD]) | (with_reducible refine condC_or (fun hq => ?_) (fun hq => ?_) <;> (try simp at hq) <;> simp -implicitDefEqProofs [*, peersD]) | (with_reducible refine condC_not (fun hq => ?_) (fun hq => ?_) <;> (try simp at hq) <;> simp -implicitDefEqProofs [*, peersD]) | (with_reducible refine condC_split (fun hq => ?_) (fun hq => ?_) <;> (try simp at hq) <;> simp -implicitDefEqProofs [*, peersD]) | (refine appK2_if (by omega) ?_; simp -implicitDefEqProofs [*, peersD]) | (refine pureV_if (by omega) ?_; simp -implicitDefEqProofs [*, peersD]))
  all_goals (obtain ⟨a, b, c⟩ := v; obtain ⟨a', b', c'⟩ := w; grind)
end Go.AM
/- Plain law: places put in their row, taken out. -/
namespace Go.AM
set_option linter.unusedSimpArgs false
set_option linter.unusedVariables false

theorem rising_ext : ∀ {xs ys : List Int}, xs.Pairwise (· < ·) → ys.Pairwise (· < ·) → (∀ a, a ∈ xs ↔ a ∈ ys) → xs = ys := by
  intro xs
  induction xs with
  | nil =>
    intro ys _ _ h
    cases ys with
    | nil => rfl
    | cons y ys => exact absurd ((h y).2 (by simp)) (by simp)
  | cons x xs ih =>
    intro ys hx hy h
    cases ys with
    | nil => exact absurd ((h x).1 (by simp)) (by simp)
    | cons y ys =>
      rw [List.pairwise_cons] at hx hy
      have hxy : x = y := by
        have h1 := (h x).1 (by simp)
        have h2 := (h y).2 (by simp)
        rcases List.mem_cons.1 h1 with h1 | h1
        · exact h1
        · rcases List.mem_cons.1 h2 with h2 | h2
          · exact h2.symm
          · have := hy.1 _ h1
            have := hx.1 _ h2
            omega
      subst hxy
      congr 1
      refine ih hx.2 hy.2 fun a => ?_
      have := h a
      simp only [List.mem_cons] at this
      constructor
      · intro ha
        rcases this.1 (.inr ha) with h' | h'
        · subst h'; exact absurd (hx.1 _ ha) (by omega)
        · exact h'
      · intro ha
        rcases this.2 (.inr ha) with h' | h'
        · subst h'; exact absurd (hy.1 _ ha) (by omega)
        · exact h'
theorem incr_iff : ∀ xs : List Int, incr xs = true ↔ xs.Pairwise (· < ·) := by
  intro xs
  induction xs with
  | nil => simp [incr]
  | cons x xs ih =>
    cases xs with
    | nil => simp [incr]
    | cons y ys =>
      simp only [incr, Bool.and_eq_true, decide_eq_true_eq, ih, List.pairwise_cons, List.mem_cons]
      constructor
      · rintro ⟨h1, h2, h3⟩
        refine ⟨?_, h2, h3⟩
        rintro a (rfl | ha)
        · exact h1
        · have := h2 a ha
          omega
      · rintro ⟨h1, h2, h3⟩
        exact ⟨h1 y (.inl rfl), h2, h3⟩
theorem passiveMay_iff (xs : List Int) : passiveMay xs = true ↔ xs.Pairwise (· < ·) ∧ (∀ x ∈ xs, place x = true) ∧ xs.length ≤ 16 := by
  rw [← passiveMay_eq]
  simp only [refPassiveMay, Bool.and_eq_true, incr_iff, decide_eq_true_eq, List.all_eq_true]
  constructor
  · rintro ⟨⟨h1, h2⟩, h3⟩; exact ⟨h1, h2, h3⟩
  · rintro ⟨h1, h2, h3⟩; exact ⟨⟨h1, h2⟩, h3⟩

def posI (xs : List Int) (id : Int) : Nat := (xs.takeWhile fun x => decide (x < id)).length
def insU (id : Int) : List Int → List Int
  | [] => [id]
  | x :: xs => if x < id then x :: insU id xs else id :: x :: xs
theorem insL_insU (id : Int) : ∀ xs : List Int, insL xs (posI xs id) id = insU id xs := by
  intro xs
  induction xs with
  | nil => rfl
  | cons x xs ih =>
    unfold insU
    by_cases h : x < id
    · rw [if_pos h, ← ih]
      simp [posI, insL, List.takeWhile_cons, h]
    · rw [if_neg h]
      simp [posI, insL, List.takeWhile_cons, h]
theorem mem_insU {id a : Int} : ∀ {xs : List Int}, a ∈ insU id xs ↔ a = id ∨ a ∈ xs := by
  intro xs
  induction xs with
  | nil => simp [insU]
  | cons x xs ih =>
    unfold insU
    split
    · simp only [List.mem_cons, ih]
      constructor
      · rintro (h | h | h)
        · exact .inr (.inl h)
        · exact .inl h
        · exact .inr (.inr h)
      · rintro (h | h | h)
        · exact .inr (.inl h)
        · exact .inl h
        · exact .inr (.inr h)
    · simp
theorem insU_length (id : Int) (xs : List Int) : (insU id xs).length = xs.length + 1 := by rw [← insL_insU, insL_length]
theorem rising_insU {id : Int} : ∀ {xs : List Int}, xs.Pairwise (· < ·) → id ∉ xs → (insU id xs).Pairwise (· < ·) := by
  intro xs
  induction xs with
  | nil => intro _ _; simp [insU]
  | cons x xs ih =>
    intro h hn
    rw [List.pairwise_cons] at h
    simp only [List.mem_cons, not_or] at hn
    unfold insU
    split
    · rename_i hlt
      rw [List.pairwise_cons]
      refine ⟨fun a ha => ?_, ih h.2 hn.2⟩
      rcases mem_insU.1 ha with rfl | ha
      · exact hlt
      · exact h.1 a ha
    · rename_i hge
      rw [List.pairwise_cons, List.pairwise_cons]
      refine ⟨?_, h⟩
      intro a ha
      rcases List.mem_cons.1 ha with rfl | ha
      · omega
      · have := h.1 a ha
        omega
def withoutP (xs : List Int) (id : Int) : List Int × Int := if passiveMay xs && place id then (xs.filter (fun y => !decide (y = id)), 0) else ([], 800)
theorem passiveMay_filter {xs : List Int} {p : Int → Bool} (h : passiveMay xs = true) : passiveMay (xs.filter p) = true := by
  obtain ⟨h1, h2, h3⟩ := (passiveMay_iff xs).1 h
  refine (passiveMay_iff _).2 ⟨h1.filter _, fun x hx => h2 x (List.mem_filter.1 hx).1, Nat.le_trans (List.length_filter_le _ _) h3⟩
theorem filter_out {xs : List Int} {id : Int} (h : id ∉ xs) : xs.filter (fun y => !decide (y = id)) = xs := by
  rw [List.filter_eq_self]
  intro a ha
  simp
  rintro rfl
  exact h ha
theorem filter_one {xs : List Int} {id : Int} (h : xs.Pairwise (· < ·)) (hm : id ∈ xs) : xs.length = (xs.filter (fun y => !decide (y = id))).length + 1 := by
  have : xs = insU id (xs.filter (fun y => !decide (y = id))) := by
    refine rising_ext h (rising_insU (h.filter _) (by simp)) fun a => ?_
    rw [mem_insU, List.mem_filter]
    simp
    constructor
    · intro ha
      by_cases h' : a = id
      · exact .inl h'
      · exact .inr ⟨ha, h'⟩
    · rintro (rfl | ⟨ha, _⟩)
      · exact hm
      · exact ha
  have h2 := congrArg List.length this
  rw [insU_length] at h2
  exact h2
theorem fIdx_spec0 (p : Int → Bool) : ∀ (xs : List Int) (i : Nat), (fIdx p i xs = -1 ∧ xs.filter (fun x => !p x) = xs) ∨ ∃ f, fIdx p i xs = ((i + f : Nat) : Int) ∧ f < xs.length ∧ (xs.take (f + 1)).filter (fun x => !p x) = xs.take f := by
  intro xs
  induction xs with
  | nil => intro i; exact .inl ⟨rfl, rfl⟩
  | cons x xs ih =>
    intro i
    simp only [fIdx]
    by_cases h : p x = true
    · right
      exact ⟨0, by simp [h], by simp, by simp [h]⟩
    · have h' : p x = false := by simpa using h
      rw [if_neg h]
      rcases ih (i + 1) with ⟨h1, h2⟩ | ⟨f, h1, h2, h3⟩
      · left
        refine ⟨h1, ?_⟩
        rw [List.filter_cons]
        simp [h', h2]
      · right
        refine ⟨f + 1, by rw [h1]; congr 1; omega, by simpa using h2, ?_⟩
        rw [List.take_succ_cons, List.filter_cons, h3]
        simp [h']
theorem fIdx_spec (p : Int → Bool) (xs : List Int) : (fIdx p 0 xs = -1 ∧ xs.filter (fun x => !p x) = xs) ∨ ∃ f : Nat, fIdx p 0 xs = (f : Int) ∧ f < xs.length ∧ (xs.take (f + 1)).filter (fun x => !p x) = xs.take f := by
  rcases fIdx_spec0 p xs 0 with h | ⟨f, h⟩
  · exact .inl h
  · exact .inr ⟨f, by simpa using h⟩
end Go.AM
/- AM: contracts: binary search, places put and taken out. -/
namespace Go.AM
set_option linter.unusedSimpArgs false
set_option linter.unusedVariables false
set_option maxRecDepth 8000
set_option maxHeartbeats 0
theorem deleteFunc_int (xs : List Int) (g : Nat) (caps : List D) (p : Int → Bool) (hp : TellsI g caps p xs) (hl : xs.length ≤ 1000000) :
    GivesC (DenF PP [0]) 97 (xs.map irow) 1 [.fn g [] caps] ((xs.filter fun x => !p x).map irow) := by
  refine gives_of (fun r hr => by obtain ⟨a, _, rfl⟩ := List.mem_map.1 hr; rfl) (StillR.map _ _ fun a _ d hd => by rw [List.mem_singleton.1 hd]; rfl) fun fl hfl hrow hfs htake hget => ?_
  have hi0 := slices_IndexFunc_int xs (by unfold cap; omega) g caps p hp
  have hi1 : Den PP 95 [.sl fl xs.length, .fn g [] caps] [] (.int .i64 (fIdx p 0 xs)) [] := den_cut (by
    simp only [List.map_cons, List.map_nil, D.cut]
    rw [List.length_map] at htake
    rw [htake]
    exact hi0)
  simp only [List.length_map] at *
  rcases fIdx_spec p xs with ⟨he, hf⟩ | ⟨f, he, hf, hff⟩
  · rw [he] at hi1
    refine ⟨.ref 0 0 xs.length, [⟨fl, 1, .mut⟩], ?_, ?_⟩
    · refine denF_of [] [] [] [] (by simp) (fun _ h => absurd h List.not_mem_nil) is_slices_DeleteFunc_int_int ?_
      simp -implicitDefEqProofs [-leave, c_slices_DeleteFunc_int_int, hp.2.1]
      refine callThen_of hi1 ?_
      simp -implicitDefEqProofs [-leave, hp.2.1]
      rw [leave_lent (by omega) (by simpa using hfs)]
      rfl
    · rw [hf]
      exact outRows_of rfl rfl rfl (by simpa using hfl) (by simpa using htake.symm) (.inl rfl)
  · rw [he] at hi1
    have hfl' : f < fl.length := by omega
    have hw := wrap_next (n := f) (by omega)
    have hne : ¬ (f : Int) = -1 := by omega
    have hm1 := List.length_filter_le (fun x => !p x) xs
    obtain ⟨m, hm⟩ : ∃ m, (xs.filter fun x => !p x).length = m := ⟨_, rfl⟩
    rw [hm] at hm1
    have hcells : ∀ k, k < xs.length → fl[k]? = (xs[k]?).map irow := by
      intro k hk
      rw [hget k hk, List.getElem?_map]
    refine ⟨.ref 0 0 m, [⟨(xs.filter fun x => !p x).map irow ++ List.replicate (xs.length - m) [.int .i64 0] ++ fl.drop xs.length, 1, .mut⟩], ?_, ?_⟩
    · refine denF_of [] [] [] [] (by simp) (fun _ h => absurd h List.not_mem_nil) is_slices_DeleteFunc_int_int ?_
      simp -implicitDefEqProofs [-leave, c_slices_DeleteFunc_int_int, hp.2.1]
      refine callThen_of hi1 ?_
      simp -implicitDefEqProofs [-leave, hp.2.1, hne, hw]
      refine loop_rule (xs.length - (f + 1)) (fun q ⟨fr, bs⟩ => ∃ (i j : Nat) (cur : List (List D)), bs = [⟨cur, 1, .mut⟩, ⟨[], 1, .mut⟩] ∧ xs.length - j ≤ q ∧ j ≤ xs.length ∧ i < j ∧ cur.length = fl.length ∧ StillR cur ∧
          (∀ r ∈ cur, r.length = 1) ∧ cur.take i = ((xs.take j).filter fun x => !p x).map irow ∧ cur.drop j = fl.drop j ∧ fr 0 = .ref 0 0 xs.length ∧ fr 1 = .fn g [] caps ∧ fr 5 = .int .i64 i ∧ fr 6 = .int .i64 j)
        (fun ⟨fr, bs⟩ => ∃ cur : List (List D), bs = [⟨cur, 1, .mut⟩, ⟨[], 1, .mut⟩] ∧ m < xs.length ∧ cur.length = fl.length ∧ StillR cur ∧ cur.take m = (xs.filter fun x => !p x).map irow ∧ cur.drop xs.length = fl.drop xs.length ∧ fr 0 = .ref 0 0 xs.length ∧ fr 5 = .int .i64 m)
        (fun _ => False) c_slices_DeleteFunc_int_int_L0.eq_1 ?_ ?_ ?_ ?_ ?_
      · refine ⟨f, f + 1, fl, rfl, by omega, by omega, by omega, rfl, hfs, hrow, ?_, rfl, rfl, rfl, rfl, rfl⟩
        rw [hff, List.map_take, ← htake, List.take_take]
        congr 1
        omega
      · rintro ⟨fr, bs⟩ ⟨i, j, cur, rfl, hq, hj, hij, hcl, hcs, hcr, hct, hcd, h0, h1, h5, h6⟩
        have hje : j = xs.length := by omega
        subst hje
        rw [List.take_length] at hct
        have him : i = m := by
          have := congrArg List.length hct
          simp at this
          omega
        subst him
        simp -implicitDefEqProofs [-leave, h0, h1, h5, h6]
        exact ⟨hij, hcl, hcs, hct, hcd⟩
      · rintro q ⟨fr, bs⟩ ⟨i, j, cur, rfl, hq, hj, hij, hcl, hcs, hcr, hct, hcd, h0, h1, h5, h6⟩
        by_cases hjx : j = xs.length
        · subst hjx
          rw [List.take_length] at hct
          have him : i = m := by
            have := congrArg List.length hct
            simp at this
            omega
          subst him
          simp -implicitDefEqProofs [-leave, h0, h1, h5, h6]
          exact ⟨hij, hcl, hcs, hct, hcd⟩
        · have hjl : j < xs.length := by omega
          have hjl' : (j : Int) < xs.length := by omega
          obtain ⟨x, hx⟩ : ∃ x, xs[j] = x := ⟨_, rfl⟩
          have hx' : xs[j]? = some x := by simp [hjl, hx]
          have hcj : cur[j]? = some [.int .i64 x] := by
            have h7 : (cur.drop j)[0]? = (fl.drop j)[0]? := by rw [hcd]
            rw [List.getElem?_drop, List.getElem?_drop, Nat.add_zero, hcells j hjl, hx'] at h7
            exact h7
          have hwj := wrap_next (n := j) (by omega)
          have hwi := wrap_next (n := i) (by omega)
          have hil' : (i : Int) < xs.length := by omega
          obtain ⟨r0, hr0⟩ : ∃ r0, cur[i]? = some r0 := ⟨cur[i]'(by omega), by simp⟩
          have hr0l : r0.length = 1 := hcr r0 (List.mem_of_getElem? hr0)
          obtain ⟨d0, rfl⟩ := List.length_eq_one_iff.1 hr0l
          have hsw := hcs.sweep
          have hicl : i < cur.length := by omega
          have htk : xs.take (j + 1) = xs.take j ++ [x] := by rw [List.take_add_one, hx']; rfl
          simp -implicitDefEqProofs [-leave, h0, h1, h5, h6, hjl', hcj, hp.1, hp.2.1]
          refine callThen_of (hp.2.2 x (List.mem_of_getElem? hx')) ?_
          simp -implicitDefEqProofs [-leave]
          refine condC_not (fun hpx => ?_) (fun hpx => ?_)
          all_goals simp -implicitDefEqProofs [-leave, h0, h1, h5, h6, hwi, hwj, hil', hr0, hp.1, hp.2.1, hsw]
          · refine ⟨i, j + 1, ?_⟩
            simp
            refine ⟨by omega, by omega, by omega, hcl, hcs, hcr, ?_, ?_⟩
            · rw [htk, List.filter_append, hct]
              simp [hpx]
            · rw [← List.drop_drop, ← List.drop_drop, hcd]
          · refine ⟨i + 1, j + 1, ?_⟩
            simp
            refine ⟨by omega, by omega, by omega, hcl, hcs.set (by simp [D.still]) i, ?_, ?_, ?_⟩
            · intro r hr
              rcases List.mem_or_eq_of_mem_set hr with h | h
              · exact hcr r h
              · rw [h]; rfl
            · rw [htk, List.filter_append, List.map_append, ← hct, List.take_add_one]
              simp [hpx, irow, List.take_set, hicl]
              rw [List.set_eq_of_length_le (by simp; omega)]
            · rw [List.drop_set_of_lt (by omega), ← List.drop_drop, ← List.drop_drop, hcd]
      · rintro ⟨fr, bs⟩ ⟨cur, rfl, hlt, hcl, hcs, hct, hcd, h0, h5⟩
        simp -implicitDefEqProofs [-leave, h0, h5]
        refine outK_slice (m) (xs.length) (by simp; rfl) rfl (by first | rfl | omega | (simp [boundD]; done) | (simp [boundD]; omega) | (simp; done) | (simp; omega)) (by first | rfl | omega | (simp [boundD]; done) | (simp [boundD]; omega) | (simp; done) | (simp; omega)) (by omega) (by first | rfl | omega | (simp [boundD]; done) | (simp [boundD]; omega) | (simp; done) | (simp; omega)) rfl (by first | rfl | omega | (simp [boundD]; done) | (simp [boundD]; omega) | (simp; done) | (simp; omega)) ?_
        simp -implicitDefEqProofs [-leave, h0, h5]
        try refine overK_if (by first | omega | (simp; done) | (simp; omega)) ?_
        try simp -implicitDefEqProofs [-leave, h0, h5]
        have hov := ovr_length (rows := cur) (p := m) (ys := List.replicate (xs.length - m) [D.int IntKind.i64 0]) (by simp; omega)
        refine outK_slice (0) (m) (by simp; rfl) rfl (by first | rfl | omega | (simp [boundD]; done) | (simp [boundD]; omega) | (simp; done) | (simp; omega)) (by first | rfl | omega | (simp [boundD]; done) | (simp [boundD]; omega) | (simp; done) | (simp; omega)) (by omega) (by first | rfl | omega | (simp [boundD]; done) | (simp [boundD]; omega) | (simp; done) | (simp; omega)) rfl (by first | rfl | omega | (simp [boundD]; done) | (simp [boundD]; omega) | (simp; done) | (simp; omega)) ?_
        simp -implicitDefEqProofs [-leave, h0, h5]
        rw [leave_lent (by omega) (by simpa using hcs.ovr (b := List.replicate (xs.length - m) [D.int IntKind.i64 0]) (fun r hr d hd => by rw [(List.mem_replicate.1 hr).2] at hd; rw [List.mem_singleton.1 hd]; rfl) m)]
        simp only [List.take_succ_cons, List.take_zero, ovr, List.length_replicate, hct, show m + (xs.length - m) = xs.length by omega, hcd, List.append_assoc]
      · rintro ⟨fr, bs⟩ h
        exact h.elim
    · refine outRows_of rfl rfl rfl ?_ ?_ (.inl rfl)
      · simp; omega
      · rw [List.drop_zero, List.append_assoc, List.take_left' (by simpa using hm)]
theorem passive_Without_1 (id a : Int) : Den PP 96 [.int .i64 a, .mem [.int .i64 id]] [] (.bool (decide (a = id))) [] := by
  refine den_of [] [] is_passive_Without_1 ?_
  simp -implicitDefEqProofs [c_passive_Without_1]
theorem passive_Without (xs : List Int) (id : Int) (hl : xs.length ≤ cap) : Den PP 77 [intsD xs, .int .i64 id] [] (.tup [.ref 0 0 (withoutP xs id).1.length, .int .i64 (withoutP xs id).2]) [⟨(withoutP xs id).1.map irow, 1, .mut⟩] := by
  have c1 := passive_May xs hl
  have c2 := fun h : xs.length ≤ 16 => clone_int (xs.map irow) (by simp) (by simp; omega)
  have c3 := fun h : xs.length ≤ 16 => deleteFunc_int xs 96 [.mem [.int .i64 id]] (fun a => decide (a = id)) ⟨fun _ => rfl, fun _ _ => rfl, fun a _ => passive_Without_1 id a⟩ (by omega)
  simp only [intsD, List.length_map] at c1 c2
  refine den_ofG [17] [17] [17] [] (fun _ h => absurd h List.not_mem_nil) is_passive_Without ?_
  simp -implicitDefEqProofs [c_passive_Without, intsD]
  refine callThen_of c1 ?_
  simp -implicitDefEqProofs
  refine gOps_split (fun h1 => ?_) (fun h1 => ?_)
  rotate_left
  · simp -implicitDefEqProofs [h1, withoutP]
  obtain ⟨hr, hp, h16⟩ := (passiveMay_iff xs).1 h1
  simp -implicitDefEqProofs [h1]
  refine callThen_of (ring_Place id) ?_
  simp -implicitDefEqProofs
  refine condC_not (fun h2 => ?_) (fun h2 => ?_)
  rotate_left
  · simp -implicitDefEqProofs [h1, h2, withoutP]
  simp -implicitDefEqProofs [h1, h2]
  refine callThen_of (c2 h16) ?_
  simp -implicitDefEqProofs
  refine giveThen_of rfl (by simp) (by simp) (by simp) (c3 h16) ?_
  simp -implicitDefEqProofs [downTo, h1, h2, withoutP]
end Go.AM
/- AM: contracts: the document's answers about views, more. -/
namespace Go.AM
set_option linter.unusedSimpArgs false
set_option linter.unusedVariables false
set_option maxRecDepth 8000
set_option maxHeartbeats 0
end Go.AM
/- AM: contracts: items, stores, nodes. -/
namespace Go.AM
set_option linter.unusedSimpArgs false
set_option linter.unusedVariables false
set_option maxRecDepth 8000
set_option maxHeartbeats 0
end Go.AM
/- AM: contracts: nodes, sharing. -/
namespace Go.AM
set_option linter.unusedSimpArgs false
set_option linter.unusedVariables false
set_option maxRecDepth 8000
set_option maxHeartbeats 0
end Go.AM
/- AM: contracts: what the statements' own helpers do with items, messages, nodes. -/
namespace Go.AM
set_option linter.unusedSimpArgs false
set_option linter.unusedVariables false
set_option maxRecDepth 8000
set_option maxHeartbeats 0
end Go.AM
/- AM: contracts: what the statements' helpers do with slices. -/
namespace Go.AM
set_option linter.unusedSimpArgs false
set_option linter.unusedVariables false
set_option maxRecDepth 8000
set_option maxHeartbeats 0
end Go.AM
/- Plain law: where a search by a comparison ends; stores by it. -/
namespace Go.AM
set_option linter.unusedSimpArgs false
set_option linter.unusedVariables false

end Go.AM
/- Plain law: stores: put twice, in another row. -/
namespace Go.AM
set_option linter.unusedSimpArgs false
set_option linter.unusedVariables false

end Go.AM
namespace Go.AM
end Go.AM
/- Plain law: peers: one is heard, all age. -/
namespace Go.AM
set_option linter.unusedSimpArgs false
set_option linter.unusedVariables false

def PeerOk (base last : Int) (p : Peer) : Prop := place p.id = true ∧ 0 ≤ p.missed ∧ p.missed < 3 ∧ last < far base p.id
theorem peersOk_iff {base : Int} : ∀ (ps : List Peer) (last : Int), peersOk base last ps = true ↔ (∀ p ∈ ps, PeerOk base last p) ∧ ps.Pairwise (fun p q => far base p.id < far base q.id) := by
  intro ps
  induction ps with
  | nil => intro last; simp [peersOk]
  | cons p ps ih =>
    intro last
    simp only [peersOk, Bool.and_eq_true, decide_eq_true_eq, ih, List.mem_cons, List.pairwise_cons, PeerOk]
    constructor
    · rintro ⟨⟨⟨⟨h1, h2⟩, h3⟩, h4⟩, h5, h6⟩
      refine ⟨?_, fun q hq => (h5 q hq).2.2.2, h6⟩
      rintro q (rfl | hq)
      · exact ⟨h1, h2, h3, h4⟩
      · obtain ⟨a, b, c, d⟩ := h5 q hq
        exact ⟨a, b, c, by omega⟩
    · rintro ⟨h1, h2, h3⟩
      obtain ⟨a, b, c, d⟩ := h1 p (.inl rfl)
      refine ⟨⟨⟨⟨a, b⟩, c⟩, d⟩, fun q hq => ?_, h3⟩
      obtain ⟨a', b', c', d'⟩ := h1 q (.inr hq)
      exact ⟨a', b', c', h2 q hq⟩
theorem peersMay_iff {base : Int} {ps : List Peer} : peersMay base ps = true ↔ place base = true ∧ ps.length ≤ 16 ∧ (∀ p ∈ ps, PeerOk base 0 p) ∧ ps.Pairwise (fun p q => far base p.id < far base q.id) := by
  simp only [peersMay, Bool.and_eq_true, decide_eq_true_eq, peersOk_iff]
  constructor
  · rintro ⟨⟨a, b⟩, c⟩; exact ⟨a, b, c⟩
  · rintro ⟨a, b, c⟩; exact ⟨⟨a, b⟩, c⟩

theorem hearG_true (base id : Int) : ∀ ps : List Peer, hearG base id true ps = ps.filter fun p => !decide (p.id = id) := by
  intro ps
  induction ps with
  | nil => rfl
  | cons p ps ih =>
    simp only [hearG, Bool.true_or, ih]
    by_cases h : p.id = id <;> simp [h]
theorem hearG_far (base id : Int) (p : Peer) (ps : List Peer) (h : far base id ≤ far base p.id) : hearG base id false (p :: ps) = ⟨id, 0⟩ :: (p :: ps).filter fun p => !decide (p.id = id) := by
  simp only [hearG, h, decide_true, Bool.or_true, hearG_true]
  by_cases h2 : p.id = id <;> simp [h2]
theorem hearG_near (base id : Int) (p : Peer) (ps : List Peer) (h : ¬ far base id ≤ far base p.id) : hearG base id false (p :: ps) = p :: hearG base id false ps := by
  have : p.id ≠ id := by intro e; rw [e] at h; omega
  simp [hearG, h, this]
theorem hearG_filter (base id : Int) : ∀ ps : List Peer, (hearG base id false ps).filter (fun p => !decide (p.id = id)) = ps.filter fun p => !decide (p.id = id) := by
  intro ps
  induction ps with
  | nil => simp [hearG]
  | cons p ps ih =>
    by_cases h : far base id ≤ far base p.id
    · rw [hearG_far _ _ _ _ h]
      simp
    · rw [hearG_near _ _ _ _ h]
      have : p.id ≠ id := by intro e; rw [e] at h; omega
      simp [this, ih]
theorem hearG_zero (base id : Int) : ∀ (ps : List Peer) (q : Peer), q ∈ hearG base id false ps → q.id = id → q = ⟨id, 0⟩ := by
  intro ps
  induction ps with
  | nil => intro q hq _; simpa [hearG] using hq
  | cons p ps ih =>
    intro q hq e
    by_cases h : far base id ≤ far base p.id
    · rw [hearG_far _ _ _ _ h] at hq
      rcases List.mem_cons.1 hq with h1 | h1
      · exact h1
      · have := (List.mem_filter.1 h1).2
        simp [e] at this
    · rw [hearG_near _ _ _ _ h] at hq
      rcases List.mem_cons.1 hq with h1 | h1
      · subst h1
        rw [e] at h
        omega
      · exact ih q h1 e
theorem hearG_in (base id : Int) : ∀ (ps : List Peer) (q : Peer), q ∈ hearG base id false ps → q = ⟨id, 0⟩ ∨ q ∈ ps := by
  intro ps
  induction ps with
  | nil => intro q hq; exact .inl (by simpa [hearG] using hq)
  | cons p ps ih =>
    intro q hq
    by_cases h : far base id ≤ far base p.id
    · rw [hearG_far _ _ _ _ h] at hq
      rcases List.mem_cons.1 hq with h1 | h1
      · exact .inl h1
      · exact .inr (List.mem_filter.1 h1).1
    · rw [hearG_near _ _ _ _ h] at hq
      rcases List.mem_cons.1 hq with h1 | h1
      · exact .inr (by simp [h1])
      · rcases ih q h1 with h2 | h2
        · exact .inl h2
        · exact .inr (List.mem_cons_of_mem _ h2)
theorem hearG_length (base id : Int) : ∀ ps : List Peer, (hearG base id false ps).length = (ps.filter fun p => !decide (p.id = id)).length + 1 := by
  intro ps
  induction ps with
  | nil => rfl
  | cons p ps ih =>
    by_cases h : far base id ≤ far base p.id
    · rw [hearG_far _ _ _ _ h]
      simp
    · rw [hearG_near _ _ _ _ h]
      have : p.id ≠ id := by intro e; rw [e] at h; omega
      simp [this, ih]
theorem hearG_has (base id : Int) (ps : List Peer) : ∃ q ∈ hearG base id false ps, q.id = id := by
  have h := (hearG_mem base id ps false id).2 (.inr ⟨rfl, rfl⟩)
  simpa using h
theorem hearG_pair {base id : Int} (hb : place base = true) (hid : place id = true) : ∀ ps : List Peer, (∀ p ∈ ps, place p.id = true) → ps.Pairwise (fun p q => far base p.id < far base q.id) → (hearG base id false ps).Pairwise (fun p q => far base p.id < far base q.id) := by
  intro ps
  induction ps with
  | nil => intro _ _; simp [hearG]
  | cons p ps ih =>
    intro hp hr
    by_cases h : far base id ≤ far base p.id
    · rw [hearG_far _ _ _ _ h, List.pairwise_cons]
      refine ⟨fun q hq => ?_, hr.filter _⟩
      obtain ⟨h1, h2⟩ := List.mem_filter.1 hq
      have h3 : far base p.id ≤ far base q.id := by
        rcases List.mem_cons.1 h1 with h4 | h4
        · subst h4; omega
        · have := (List.pairwise_cons.1 hr).1 q h4
          omega
      have h5 : far base q.id ≠ far base id := by
        intro e
        have := (far_inj hb (hp q h1) hid).1 e
        simp [this] at h2
      show far base id < far base q.id
      omega
    · rw [hearG_near _ _ _ _ h, List.pairwise_cons]
      refine ⟨fun q hq => ?_, ih (fun q hq => hp q (List.mem_cons_of_mem _ hq)) (List.pairwise_cons.1 hr).2⟩
      rcases hearG_in base id ps q hq with h1 | h1
      · subst h1
        show far base p.id < far base id
        omega
      · exact (List.pairwise_cons.1 hr).1 q h1
theorem findAt_cons (base : Int) (p : Peer) (ps : List Peer) (id : Int) : findAt base (p :: ps) id = if far base p.id < far base id then findAt base ps id + 1 else 0 := by
  unfold findAt
  rw [List.takeWhile_cons]
  by_cases h : far base p.id < far base id <;> simp [h]
theorem peerIs_cons (base : Int) (p : Peer) (ps : List Peer) (id : Int) : peerIs base (p :: ps) id = if far base p.id < far base id then peerIs base ps id else decide (far base p.id = far base id) := by
  unfold peerIs
  rw [findAt_cons]
  by_cases h : far base p.id < far base id <;> simp [h, isFar]
theorem hearG_at {base id : Int} (hb : place base = true) (hid : place id = true) : ∀ ps : List Peer, (∀ p ∈ ps, place p.id = true) → ps.Pairwise (fun p q => far base p.id < far base q.id) →
    (peerIs base ps id = true → findAt base ps id < ps.length ∧ (∃ m, ps[findAt base ps id]? = some ⟨id, m⟩) ∧ hearG base id false ps = ps.set (findAt base ps id) ⟨id, 0⟩) ∧ (peerIs base ps id = false → hearG base id false ps = insL ps (findAt base ps id) ⟨id, 0⟩) := by
  intro ps
  induction ps with
  | nil => intro _ _; exact ⟨fun h => by simp [peerIs, findAt, isFar] at h, fun _ => rfl⟩
  | cons p ps ih =>
    intro hp hr
    have hr' := (List.pairwise_cons.1 hr).2
    obtain ⟨i1, i2⟩ := ih (fun q hq => hp q (List.mem_cons_of_mem _ hq)) hr'
    rw [peerIs_cons, findAt_cons]
    have hno : ∀ q ∈ ps, far base id ≤ far base p.id → q.id ≠ id := by
      intro q hq h e
      have := (List.pairwise_cons.1 hr).1 q hq
      rw [e] at this
      omega
    by_cases h : far base p.id < far base id
    · rw [if_pos h, if_pos h, hearG_near _ _ _ _ (by omega)]
      refine ⟨fun h1 => ?_, fun h1 => ?_⟩
      · obtain ⟨a, b, c⟩ := i1 h1
        exact ⟨by simp; omega, by simpa using b, by simp [c]⟩
      · rw [i2 h1]
        simp [insL]
    · rw [if_neg h, if_neg h, hearG_far _ _ _ _ (by omega)]
      have hf : ps.filter (fun p => !decide (p.id = id)) = ps := by
        rw [List.filter_eq_self]
        intro q hq
        have := hno q hq (by omega)
        simp [this]
      refine ⟨fun h1 => ?_, fun h1 => ?_⟩
      · have e : p.id = id := (far_inj hb (hp p (by simp)) hid).1 (by simpa using h1)
        obtain ⟨pi, pm⟩ := p
        simp only at e
        subst e
        refine ⟨by simp, ⟨pm, rfl⟩, ?_⟩
        simp [hf]
      · have e : p.id ≠ id := by
          intro e
          rw [e] at h1
          simp at h1
        simp [e, hf, insL]
end Go.AM
/- AM: contracts: peers: one is heard, all age. -/
namespace Go.AM
set_option linter.unusedSimpArgs false
set_option linter.unusedVariables false
set_option maxRecDepth 8000
set_option maxHeartbeats 0
theorem peer_still (p : Peer) : ∀ d ∈ p.row, d.still = true := by
  intro d hd
  simp [Peer.row] at hd
  rcases hd with rfl | rfl <;> rfl
theorem peers_Heard (base : Int) (ps : List Peer) (id : Int) (hl : ps.length ≤ cap16) : Den PP 78 [.int .i64 base, peersD ps, .int .i64 id] [] (.tup [.ref 0 0 (refHeard base ps id).1.length, .int .i64 (refHeard base ps id).2]) [⟨(refHeard base ps id).1.map Peer.row, 2, .mut⟩] := by
  have c1 := peers_May base ps (cap_of hl)
  have c0 := ring_Place id
  have c2 := fun h : ps.length ≤ 16 => clone_Peer (ps.map Peer.row) (by intro r hr; obtain ⟨a, _, rfl⟩ := List.mem_map.1 hr; exact ⟨rfl, rfl⟩) (by simp; omega)
  have c3 := fun h => peers_Find base ps id (cap_of hl) h
  obtain ⟨r, hr⟩ : ∃ r, refHeard base ps id = r := ⟨_, rfl⟩
  have hr' := hr
  unfold refHeard at hr'
  rw [peersMay_eq] at hr'
  rw [hr]
  clear hr
  simp only [peersD, List.length_map] at c1 c2 c3
  refine den_ofG [26, 34] [34] [34] [] (fun _ h => absurd h List.not_mem_nil) is_peers_Heard ?_
  simp -implicitDefEqProofs [c_peers_Heard, peersD]
  refine callThen_of c1 ?_
  simp -implicitDefEqProofs
  cases h1 : peersMay base ps with
  | false =>
    rw [h1] at hr'
    simp at hr'
    subst hr'
    simp -implicitDefEqProofs
  | true =>
  cases h2 : place id with
  | false =>
    rw [h2] at hr' c0
    simp at hr'
    subst hr'
    simp -implicitDefEqProofs
    repeat' (first | (refine callThen_of (by first | exact c0) ?_; simp -implicitDefEqProofs [*]) | (with_reducible refine gOps_dec (fun _ => ?_) (fun _ => ?_) <;> simp -implicitDefEqProofs [*]) | (with_reducible refine gOps_ndec (fun _ => ?_) (fun _ => ?_) <;> simp -implicitDefEqProofs [*]) | (with_reducible refine gOps_and (fun hq => ?_) (fun hq => ?_) <;> (try simp at hq) <;> simp -implicitDefEqProofs [*]) | (with_reducible refine gOps_or (fun hq => ?_) (fun hq => ?_) <;> (try simp at hq) <;> simp -implicitDefEqProofs [*]) | (with_reducible refine gOps_not (fun hq => ?_) (fun hq => ?_) <;> (try simp at hq) <;> simp -implicitDefEqProofs [*]) | (with_reducible refine gOps_split (fun hq => ?_) (fun hq => ?_) <;> (try simp at hq) <;> simp -implicitDefEqProofs [*]) | (with_reducible refine condC_dec (fun _ => ?_) (fun _ => ?_) <;> simp -implicitDefEqProofs [*]) | (with_reducible refine condC_ndec (fun _ => ?_) (fun _ => ?_) <;> simp -implicitDefEqProofs [*]) | (with_reducible refine condC_and (fun hq => ?_) (fun hq => ?_) <;> (try simp at hq) <;> simp -implicitDefEqProofs [*]) | (with_reducible refine condC_or (fun hq => ?_) (fun hq => ?_) <;> (try simp at hq) <;> simp -implicitDefEqProofs [*]) | (with_reducible refine condC_not (fun hq => ?_) (fun hq => ?_) <;> (try simp at hq) <;> simp -implicitDefEqProofs [*]) | (with_reducible refine condC_split (fun hq => ?_) (fun hq => ?_) <;> (try simp at hq) <;> simp -implicitDefEqProofs [*]) | (refine appK2_if (by omega) ?_; simp -implicitDefEqProofs [*]) | (refine pureV_if (by omega) ?_; simp -implicitDefEqProofs [*]))
  | true =>
  rw [h1, h2] at hr'
  rw [h2] at c0
  by_cases h3 : id = base
  · simp [h3] at hr'
    subst hr'
    simp -implicitDefEqProofs
    repeat' (first | (refine callThen_of (by first | exact c0) ?_; simp -implicitDefEqProofs [*, h3]) | (with_reducible refine gOps_dec (fun _ => ?_) (fun _ => ?_) <;> simp -implicitDefEqProofs [*, h3]) | (with_reducible refine gOps_ndec (fun _ => ?_) (fun _ => ?_) <;> simp -implicitDefEqProofs [*, h3]) | (with_reducible refine gOps_and (fun hq => ?_) (fun hq => ?_) <;> (try simp at hq) <;> simp -implicitDefEqProofs [*, h3]) | (with_reducible refine gOps_or (fun hq => ?_) (fun hq => ?_) <;> (try simp at hq) <;> simp -implicitDefEqProofs [*, h3]) | (with_reducible refine gOps_not (fun hq => ?_) (fun hq => ?_) <;> (try simp at hq) <;> simp -implicitDefEqProofs [*, h3]) | (with_reducible refine gOps_split (fun hq => ?_) (fun hq => ?_) <;> (try simp at hq) <;> simp -implicitDefEqProofs [*, h3]) | (with_reducible refine condC_dec (fun _ => ?_) (fun _ => ?_) <;> simp -implicitDefEqProofs [*, h3]) | (with_reducible refine condC_ndec (fun _ => ?_) (fun _ => ?_) <;> simp -implicitDefEqProofs [*, h3]) | (with_reducible refine condC_and (fun hq => ?_) (fun hq => ?_) <;> (try simp at hq) <;> simp -implicitDefEqProofs [*, h3]) | (with_reducible refine condC_or (fun hq => ?_) (fun hq => ?_) <;> (try simp at hq) <;> simp -implicitDefEqProofs [*, h3]) | (with_reducible refine condC_not (fun hq => ?_) (fun hq => ?_) <;> (try simp at hq) <;> simp -implicitDefEqProofs [*, h3]) | (with_reducible refine condC_split (fun hq => ?_) (fun hq => ?_) <;> (try simp at hq) <;> simp -implicitDefEqProofs [*, h3]) | (refine appK2_if (by omega) ?_; simp -implicitDefEqProofs [*, h3]) | (refine pureV_if (by omega) ?_; simp -implicitDefEqProofs [*, h3]))
  obtain ⟨hb, h16, hp, hd⟩ := peersMay_iff.1 h1
  obtain ⟨ha1, ha2⟩ := hearG_at hb h2 ps (fun p hp' => (hp p hp').1) hd
  have hlen := hearG_length base id ps
  have hple := findAt_le base ps id
  have c4 := c3 (peersMay_rowed h1)
  clear c3
  generalize peerIs base ps id = A at *
  generalize findAt base ps id = p at *
  have h3' : (id == base) = false := by simpa using h3
  simp only [h3', Bool.not_false, Bool.and_self, if_true] at hr'
  simp -implicitDefEqProofs
  refine callThen_of c0 ?_
  simp -implicitDefEqProofs [h3]
  refine callThen_of (c2 h16) ?_
  simp -implicitDefEqProofs [downTo]
  refine callThen_of c4 ?_
  simp -implicitDefEqProofs [downTo]
  cases A with
  | true =>
    obtain ⟨hlt, ⟨m, hy⟩, hput⟩ := ha1 rfl
    have hr2 : r = (ps.set p ⟨id, 0⟩, 0) := by
      rw [← hr', hput]
      simp [h16]
    subst hr2
    have hlt' : (p : Int) < ps.length := by omega
    have hy2 : ps[p] = ⟨id, m⟩ := by simpa [hlt] using hy
    clear hr' hput ha1 ha2 hlen c4 hp hd
    simp -implicitDefEqProofs [hlt, hlt', hy2, Peer.row]
  | false =>
    have hput := ha2 rfl
    rw [hput] at hr' hlen
    simp only [insL_length] at hr' hlen
    by_cases h5 : ps.length = 16
    · have hr2 : r = ([], 701) := by
        rw [← hr']
        simp [h5]
      subst hr2
      clear hr' hput ha1 ha2 hlen c4 hp hd
      simp -implicitDefEqProofs [h5]
    · have hr2 : r = (insL ps p ⟨id, 0⟩, 0) := by
        rw [← hr', if_pos (by omega)]
      subst hr2
      clear hr' hput ha1 ha2 hlen c4 hp hd
      have h5' : ¬ (ps.length : Int) = 16 := by omega
      simp -implicitDefEqProofs [h5']
      refine giveThen_of rfl (by simp) (by simp) (by simp) (insert_Peer (ps.map Peer.row) (Peer.row ⟨id, 0⟩) p (by simp [Peer.row]) (StillR.map _ _ fun a _ => peer_still a) (by intro r hr; rw [List.mem_singleton.1 hr]; exact ⟨rfl, rfl⟩) (peer_still _) (by simpa using hple) (by simp; omega)) ?_
      rw [← insL_map]
      simp -implicitDefEqProofs [downTo]
end Go.AM
/- AM: contracts: binary search by a comparison. -/
namespace Go.AM
set_option linter.unusedSimpArgs false
set_option linter.unusedVariables false
set_option maxRecDepth 8000
set_option maxHeartbeats 0
end Go.AM
/- AM: contracts: the document's best, its put; what a node takes. -/
namespace Go.AM
set_option linter.unusedSimpArgs false
set_option linter.unusedVariables false
set_option maxRecDepth 8000
set_option maxHeartbeats 0
end Go.AM
/- AM: contracts: the best of two, a store's item, its put. -/
namespace Go.AM
set_option linter.unusedSimpArgs false
set_option linter.unusedVariables false
set_option maxRecDepth 8000
set_option maxHeartbeats 0
end Go.AM
/- AM: contracts: a store's put. -/
namespace Go.AM
set_option linter.unusedSimpArgs false
set_option linter.unusedVariables false
set_option maxRecDepth 8000
set_option maxHeartbeats 0
end Go.AM
/- AM: contracts: what chapter 9's statements build on. -/
namespace Go.AM
set_option linter.unusedSimpArgs false
set_option linter.unusedVariables false
set_option maxRecDepth 8000
set_option maxHeartbeats 0
end Go.AM
/- AM: contracts: the document's nodes and sharing; chapter 18's helpers. -/
namespace Go.AM
set_option linter.unusedSimpArgs false
set_option linter.unusedVariables false
set_option maxRecDepth 8000
set_option maxHeartbeats 0
end Go.AM
/- AM: what is handed in, told. -/
namespace Go.AM
set_option linter.unusedSimpArgs false
set_option linter.unusedVariables false
set_option maxRecDepth 8000
theorem tell_int {n : Nat} {cs : List D} (h : Tell TT (n + 1) 3 cs) : ∃ x, cs = [.int .i64 x] ∧ in64 x := by
  simp [Tell] at h
  obtain ⟨x, rfl, hx⟩ := h
  exact ⟨x, rfl, wf64 hx⟩
theorem tell_bool {n : Nat} {cs : List D} (h : Tell TT (n + 1) 4 cs) : ∃ x, cs = [.bool x] := by
  simpa [Tell] using h
theorem tell_ints {n : Nat} {cs : List D} (h : Tell TT (n + 2) 23 cs) : ∃ xs : List Int, cs = [intsD xs] ∧ xs.length * 8 ≤ 140737488351232 ∧ ∀ x ∈ xs, in64 x := by
  unfold Tell at h
  simp at h
  obtain ⟨rows, rfl, hl, hr⟩ := h
  obtain ⟨xs, rfl, hx⟩ := rows_of (f := irow) (Q := in64) rows fun r h => by
    obtain ⟨x, rfl, hx⟩ := tell_int (hr r h)
    exact ⟨x, rfl, hx⟩
  exact ⟨xs, by simp [intsD], by simpa using hl, hx⟩
theorem tell_Peer {n : Nat} {cs : List D} (h : Tell TT (n + 2) 42 cs) : ∃ p : Peer, cs = p.row ∧ in64 p.id ∧ in64 p.missed := by
  unfold Tell at h
  simp [Tell.TellFs] at h
  obtain ⟨a, b, rfl, h1, h2⟩ := h
  obtain ⟨x, rfl, hx⟩ := tell_int h1
  obtain ⟨y, rfl, hy⟩ := tell_int h2
  exact ⟨⟨x, y⟩, rfl, hx, hy⟩
theorem tell_peers {n : Nat} {cs : List D} (h : Tell TT (n + 3) 22 cs) : ∃ ps : List Peer, cs = [peersD ps] ∧ ps.length * 16 ≤ 140737488351232 ∧ ∀ p ∈ ps, in64 p.id ∧ in64 p.missed := by
  unfold Tell at h
  simp at h
  obtain ⟨rows, rfl, hl, hr⟩ := h
  obtain ⟨xs, rfl, hx⟩ := rows_of (f := Peer.row) (Q := fun p => in64 p.id ∧ in64 p.missed) rows fun r h => tell_Peer (hr r h)
  exact ⟨xs, by simp [peersD], by simpa using hl, hx⟩
def View.tame (v : View) : Prop := v.peers.length * 16 ≤ 140737488351232 ∧ v.passive.length * 8 ≤ 140737488351232 ∧ in64 v.id ∧ (∀ p ∈ v.peers, in64 p.id ∧ in64 p.missed) ∧ ∀ x ∈ v.passive, in64 x
theorem View.tame.small {v : View} (h : v.tame) : v.small := by
  obtain ⟨h1, h2, _⟩ := h
  unfold View.small cap16 cap
  omega
theorem tell_View {n : Nat} {cs : List D} (h : Tell TT (n + 4) 25 cs) : ∃ v : View, cs = v.cells ∧ v.tame := by
  unfold Tell at h
  simp [Tell.TellFs] at h
  obtain ⟨a, r, rfl, h1, b, c, rfl, h2, h3⟩ := h
  obtain ⟨x, rfl, hx⟩ := tell_int h1
  obtain ⟨ps, rfl, hp, hp2⟩ := tell_peers h2
  obtain ⟨xs, rfl, hq, hq2⟩ := tell_ints h3
  exact ⟨⟨x, ps, xs⟩, rfl, hp, hq, hx, hp2, hq2⟩
theorem tell_Version {n : Nat} {cs : List D} (h : Tell TT (n + 2) 65 cs) : ∃ c w : Int, cs = [.int .i64 c, .int .i64 w] ∧ in64 c ∧ in64 w := by
  unfold Tell at h
  simp [Tell.TellFs] at h
  obtain ⟨a, b, rfl, h1, h2⟩ := h
  obtain ⟨x, rfl, hx⟩ := tell_int h1
  obtain ⟨y, rfl, hy⟩ := tell_int h2
  exact ⟨x, y, rfl, hx, hy⟩
def Item.tame (i : Item) : Prop := in64 i.key ∧ in64 i.count ∧ in64 i.writer ∧ in64 i.value
theorem tell_Item {n : Nat} {cs : List D} (h : Tell TT (n + 3) 67 cs) : ∃ i : Item, cs = i.row ∧ i.tame := by
  unfold Tell at h
  simp [Tell.TellFs] at h
  obtain ⟨a, r1, rfl, h1, b, r2, rfl, h2, c, d, rfl, h3, h4⟩ := h
  obtain ⟨x, rfl, hx⟩ := tell_int h1
  obtain ⟨y, z, rfl, hy, hz⟩ := tell_Version h2
  obtain ⟨u, rfl, hu⟩ := tell_int h3
  obtain ⟨g, rfl⟩ := tell_bool h4
  exact ⟨⟨x, y, z, u, g⟩, rfl, hx, hy, hz, hu⟩
theorem tell_items {n : Nat} {cs : List D} (h : Tell TT (n + 4) 49 cs) : ∃ is : List Item, cs = [itemsD is] ∧ is.length * 40 ≤ 140737488351232 ∧ ∀ i ∈ is, i.tame := by
  unfold Tell at h
  simp at h
  obtain ⟨rows, rfl, hl, hr⟩ := h
  obtain ⟨xs, rfl, hx⟩ := rows_of (f := Item.row) (Q := Item.tame) rows fun r h => tell_Item (hr r h)
  exact ⟨xs, by simp [itemsD], by simpa using hl, hx⟩
theorem tell_Told {n : Nat} {cs : List D} (h : Tell TT (n + 2) 92 cs) : ∃ t : Told, cs = t.row ∧ in64 t.key ∧ in64 t.value := by
  unfold Tell at h
  simp [Tell.TellFs] at h
  obtain ⟨a, r1, rfl, h1, b, c, rfl, h2, h3⟩ := h
  obtain ⟨x, rfl, hx⟩ := tell_int h1
  obtain ⟨g, rfl⟩ := tell_bool h2
  obtain ⟨u, rfl, hu⟩ := tell_int h3
  exact ⟨⟨x, g, u⟩, rfl, hx, hu⟩
theorem tell_tolds {n : Nat} {cs : List D} (h : Tell TT (n + 3) 50 cs) : ∃ ts : List Told, cs = [toldsD ts] ∧ ts.length * 24 ≤ 140737488351232 ∧ ∀ t ∈ ts, in64 t.key ∧ in64 t.value := by
  unfold Tell at h
  simp at h
  obtain ⟨rows, rfl, hl, hr⟩ := h
  obtain ⟨xs, rfl, hx⟩ := rows_of (f := Told.row) (Q := fun t => in64 t.key ∧ in64 t.value) rows fun r h => tell_Told (hr r h)
  exact ⟨xs, by simp [toldsD], by simpa using hl, hx⟩
def Node.tame (x : Node) : Prop := x.view.tame ∧ x.items.length * 40 ≤ 140737488351232 ∧ (∀ i ∈ x.items, i.tame) ∧ x.log.length * 24 ≤ 140737488351232 ∧ ∀ t ∈ x.log, in64 t.key ∧ in64 t.value
theorem Node.tame.small {x : Node} (h : x.tame) : x.small := ⟨h.1.small, h.2.1, h.2.2.2.1⟩
theorem tell_Node {n : Nat} {cs : List D} (h : Tell TT (n + 5) 52 cs) : ∃ x : Node, cs = x.cells ∧ x.tame := by
  unfold Tell at h
  simp [Tell.TellFs] at h
  obtain ⟨a, r1, rfl, h1, b, r2, rfl, h2, c, d, rfl, h3, h4⟩ := h
  obtain ⟨u, rfl⟩ := tell_bool h1
  obtain ⟨v, rfl, hv⟩ := tell_View h2
  obtain ⟨is, rfl, h5, h6⟩ := tell_items h3
  obtain ⟨ts, rfl, h7, h8⟩ := tell_tolds h4
  exact ⟨⟨u, v, is, ts⟩, rfl, hv, h5, h6, h7, h8⟩
theorem arg_Node {n : Nat} {d : D} (h : TellArg TT (n + 5) 52 d) : ∃ x : Node, d = nodeD x ∧ x.tame := by
  simp [TellArg] at h
  obtain ⟨cs, rfl, h⟩ := h
  obtain ⟨v, rfl, hv⟩ := tell_Node h
  exact ⟨v, rfl, hv⟩
theorem arg_Item {n : Nat} {d : D} (h : TellArg TT (n + 3) 67 d) : ∃ x : Item, d = .agg x.row ∧ x.tame := by
  simp [TellArg] at h
  obtain ⟨cs, rfl, h⟩ := h
  obtain ⟨v, rfl, hv⟩ := tell_Item h
  exact ⟨v, rfl, hv⟩
theorem arg_items {n : Nat} {d : D} (h : TellArg TT (n + 4) 49 d) : ∃ x : List Item, d = itemsD x ∧ x.length * 40 ≤ 140737488351232 ∧ ∀ i ∈ x, i.tame := by
  simp [TellArg] at h
  obtain ⟨xs, hx, h2⟩ := tell_items h
  simp at hx
  exact ⟨xs, hx, h2⟩
theorem arg_ints {n : Nat} {d : D} (h : TellArg TT (n + 2) 23 d) : ∃ x : List Int, d = intsD x ∧ x.length * 8 ≤ 140737488351232 ∧ ∀ i ∈ x, in64 i := by
  simp [TellArg] at h
  obtain ⟨xs, hx, h2⟩ := tell_ints h
  simp at hx
  exact ⟨xs, hx, h2⟩
theorem arg_peers {n : Nat} {d : D} (h : TellArg TT (n + 3) 22 d) : ∃ x : List Peer, d = peersD x ∧ x.length * 16 ≤ 140737488351232 ∧ ∀ p ∈ x, in64 p.id ∧ in64 p.missed := by
  simp [TellArg] at h
  obtain ⟨xs, hx, h2⟩ := tell_peers h
  simp at hx
  exact ⟨xs, hx, h2⟩
theorem arg_bool {n : Nat} {d : D} (h : TellArg TT (n + 1) 4 d) : ∃ x, d = .bool x ∧ True := by
  simp [TellArg] at h
  obtain ⟨x, hx⟩ := tell_bool h
  simp at hx
  exact ⟨x, hx, trivial⟩
theorem arg_int {n : Nat} {d : D} (h : TellArg TT (n + 1) 3 d) : ∃ x, d = .int .i64 x ∧ in64 x := by
  simp [TellArg] at h
  obtain ⟨x, hx, h2⟩ := tell_int h
  simp at hx
  exact ⟨x, hx, h2⟩
theorem arg_View {n : Nat} {d : D} (h : TellArg TT (n + 4) 25 d) : ∃ v : View, d = viewD v ∧ v.tame := by
  simp [TellArg] at h
  obtain ⟨cs, rfl, h⟩ := h
  obtain ⟨v, rfl, hv⟩ := tell_View h
  exact ⟨v, rfl, hv⟩
end Go.AM
/- AM: contracts: a node is copied, takes an item. -/
namespace Go.AM
set_option linter.unusedSimpArgs false
set_option linter.unusedVariables false
set_option maxRecDepth 8000
set_option maxHeartbeats 0
theorem fit_of {α : Type} {f : α → List D} {n : Nat} (h : ∀ a, (f a).length = n ∧ (f a).all D.isCell = true) (xs : List α) : Fits n (xs.map f) := by
  intro r hr
  obtain ⟨a, _, rfl⟩ := List.mem_map.1 hr
  exact h a
theorem view_Copy (v : View) (hs : v.small) : Den PP 48 [viewD v] [] (.agg [.int .i64 v.id, .ref 0 0 v.peers.length, .ref 1 0 v.passive.length]) [⟨v.peers.map Peer.row, 2, .mut⟩, ⟨v.passive.map irow, 1, .mut⟩] := by
  obtain ⟨h1, h2⟩ := hs
  unfold cap16 at h1
  unfold cap at h2
  have c1 := clone_Peer (v.peers.map Peer.row) (fit_of (f := Peer.row) (n := 2) (fun _ => ⟨rfl, rfl⟩) _) (by simp; omega)
  have c2 := clone_int (v.passive.map irow) (fit_of (f := irow) (n := 1) (fun _ => ⟨rfl, rfl⟩) _) (by simp; omega)
  simp only [List.length_map] at c1 c2
  refine den_of [5, 8] [] is_view_Copy ?_
  simp -implicitDefEqProofs [c_view_Copy, viewD, View.cells, peersD, intsD]
  refine callThen_of c1 ?_
  simp -implicitDefEqProofs [downTo]
  refine callThen_of c2 ?_
  simp -implicitDefEqProofs [downTo]
end Go.AM
/- Plain law: peers heard in a row stand in the row of distances. -/
namespace Go.AM
set_option linter.unusedSimpArgs false
set_option linter.unusedVariables false

end Go.AM
/- Plain law: greetings. -/
namespace Go.AM
set_option linter.unusedSimpArgs false
set_option linter.unusedVariables false

def knowsV (v : View) (x : Int) : Bool := (v.peers.map Peer.id).contains x || v.passive.contains x
def roomV (v : View) (x : Int) : Bool := knowsV v x || decide (v.peers.length + v.passive.length < 16)
def knownV (v : View) (x : Int) : View := if roomV v x then ⟨v.id, hearG v.id x false v.peers, v.passive.filter fun y => !decide (y = x)⟩ else v
def tellV (v : View) (x : Int) : View := if !decide (x = v.id) && !knowsV v x then knownV v x else v
def helloV (v : View) (a : Int) (ids : List Int) : View := ids.foldl tellV (knownV v a)
def helloOk (v : View) (a : Int) (ids : List Int) : Bool := viewMay v && (place a && (!decide (a = v.id) && (decide (ids.length ≤ 16) && ids.all place)))

theorem viewMay_of {v : View} (h1 : peersMay v.id v.peers = true) (h2 : passiveMay v.passive = true) (h3 : v.peers.length + v.passive.length ≤ 16) (h4 : ∀ x ∈ v.passive, x ≠ v.id ∧ x ∉ v.peers.map Peer.id) : viewMay v = true := by
  simp only [viewMay, Bool.and_eq_true, decide_eq_true_eq, Bool.not_eq_true']
  refine ⟨⟨⟨h1, h2⟩, h3⟩, ?_⟩
  rw [List.any_eq_false]
  intro x hx
  simp only [oddIn, Bool.or_eq_true, not_or]
  rw [peerIs_mem h1 (passiveMay_places h2 x hx)]
  have := h4 x hx
  simpa using this
theorem knowsV_iff (v : View) (x : Int) : knowsV v x = true ↔ (∃ q ∈ v.peers, q.id = x) ∨ x ∈ v.passive := by
  simp [knowsV]
theorem hearG_mem_iff {b x : Int} {ps : List Peer} (q : Peer) : q ∈ hearG b x false ps ↔ q = ⟨x, 0⟩ ∨ (q ∈ ps ∧ q.id ≠ x) := by
  have hf := hearG_filter b x ps
  constructor
  · intro h
    by_cases he : q.id = x
    · exact .inl (hearG_zero b x ps q h he)
    · rcases hearG_in b x ps q h with h' | h'
      · exact .inl h'
      · exact .inr ⟨h', he⟩
  · rintro (rfl | ⟨h, he⟩)
    · obtain ⟨q, hq, hi⟩ := hearG_has b x ps
      rw [← hearG_zero b x ps q hq hi]
      exact hq
    · have : q ∈ (hearG b x false ps).filter fun p => !decide (p.id = x) := by rw [hf]; simp [h, he]
      exact (List.mem_filter.1 this).1
theorem knownV_id (v : View) (x : Int) : (knownV v x).id = v.id := by
  unfold knownV; split <;> rfl
theorem knownV_no {v : View} {x : Int} (h : roomV v x = false) : knownV v x = v := by
  unfold knownV; rw [if_neg (by simp [h])]
theorem knownV_peers {v : View} {x : Int} (h : roomV v x = true) (q : Peer) : q ∈ (knownV v x).peers ↔ q = ⟨x, 0⟩ ∨ (q ∈ v.peers ∧ q.id ≠ x) := by
  unfold knownV; rw [if_pos h]; exact hearG_mem_iff q
theorem knownV_passive {v : View} {x : Int} (h : roomV v x = true) (y : Int) : y ∈ (knownV v x).passive ↔ y ∈ v.passive ∧ y ≠ x := by
  unfold knownV; rw [if_pos h]; simp
theorem tellV_id (v : View) (x : Int) : (tellV v x).id = v.id := by
  unfold tellV; split
  · exact knownV_id v x
  · rfl

def sizeV (v : View) : Nat := v.peers.length + v.passive.length
theorem filter_len_peers {b : Int} {ps : List Peer} (h : peersMay b ps = true) {x : Int} : (ps.filter fun p => !decide (p.id = x)).length + (if (∃ q ∈ ps, q.id = x) then 1 else 0) = ps.length := by
  obtain ⟨hb, _, h1, h2⟩ := peersMay_iff.1 h
  clear h h1
  induction ps with
  | nil => simp
  | cons p ps ih =>
    have hp := (List.pairwise_cons.1 h2).1
    have ih := ih (by first | assumption | (rename_i hlen; simp at hlen; omega)) (List.pairwise_cons.1 h2).2
    by_cases he : p.id = x
    · have hno : ¬ ∃ q ∈ ps, q.id = x := by
        rintro ⟨q, hq, hqx⟩
        have := hp q hq
        rw [he, hqx] at this
        omega
      rw [if_neg hno] at ih
      rw [if_pos ⟨p, by simp, he⟩]
      simp [he]
      simpa using ih
    · have : (∃ q ∈ p :: ps, q.id = x) ↔ ∃ q ∈ ps, q.id = x := by simp [he]
      simp only [this]
      simp [he]
      omega
theorem passive_len {xs : List Int} (h : passiveMay xs = true) (x : Int) : (xs.filter fun y => !decide (y = x)).length + (if x ∈ xs then 1 else 0) = xs.length := by
  by_cases hx : x ∈ xs
  · rw [if_pos hx, ← filter_one ((passiveMay_iff xs).1 h).1 hx]
  · rw [if_neg hx, filter_out hx]; rfl
theorem knownV_size {v : View} {x : Int} (hv : viewMay v = true) (h : roomV v x = true) : sizeV (knownV v x) = if knowsV v x then sizeV v else sizeV v + 1 := by
  obtain ⟨h1, h2, h3, h4⟩ := viewMay_parts hv
  have e1 := filter_len_peers h1 (x := x)
  have e2 := passive_len h2 x
  have e3 := hearG_length v.id x v.peers
  have hk := knowsV_iff v x
  unfold sizeV knownV
  rw [if_pos h]
  simp only
  by_cases hp : ∃ q ∈ v.peers, q.id = x
  · have hnx : x ∉ v.passive := by
      intro hx
      obtain ⟨q, hq, hqx⟩ := hp
      exact (h4 x hx).2 (List.mem_map.2 ⟨q, hq, hqx⟩)
    rw [if_pos hp] at e1
    rw [if_neg hnx] at e2
    rw [if_pos (hk.2 (.inl hp))]
    omega
  · rw [if_neg hp] at e1
    by_cases hx : x ∈ v.passive
    · rw [if_pos hx] at e2
      rw [if_pos (hk.2 (.inr hx))]
      omega
    · rw [if_neg hx] at e2
      have : ¬ knowsV v x = true := by rw [hk]; simp [hp, hx]
      rw [if_neg this]
      omega
theorem knownV_may {v : View} {x : Int} (hv : viewMay v = true) (hx : place x = true) (hn : x ≠ v.id) : viewMay (knownV v x) = true ∧ (roomV v x = true → refHeard v.id v.peers x = (hearG v.id x false v.peers, 0)) := by
  cases hr : roomV v x with
  | false => rw [knownV_no hr]; exact ⟨hv, by simp⟩
  | true =>
    have hsz := knownV_size hv hr
    obtain ⟨h1, h2, h3, h4⟩ := viewMay_parts hv
    obtain ⟨hb, _, hok, hpw⟩ := peersMay_iff.1 h1
    have hle : sizeV (knownV v x) ≤ 16 := by
      rw [hsz]
      unfold roomV at hr
      split
      · exact h3
      · rename_i hk
        simp [hk] at hr
        unfold sizeV
        omega
    have hpm : peersMay v.id (hearG v.id x false v.peers) = true := by
      rw [peersMay_iff]
      refine ⟨hb, ?_, ?_, hearG_pair hb hx v.peers (fun p hp => (hok p hp).1) hpw⟩
      · have : (knownV v x).peers = hearG v.id x false v.peers := by unfold knownV; rw [if_pos hr]
        unfold sizeV at hle
        rw [this] at hle
        omega
      · intro p hp
        rcases hearG_mem_iff (b := v.id) p |>.1 hp with rfl | ⟨hp, _⟩
        · refine ⟨hx, by simp, by simp, ?_⟩
          have := far_range hb hx
          have := mt (far_zero hb hx).1 hn
          simp only
          omega
        · exact hok p hp
    have hpeers : (knownV v x).peers = hearG v.id x false v.peers := by unfold knownV; rw [if_pos hr]
    refine ⟨viewMay_of ?_ ?_ hle ?_, fun _ => ?_⟩
    · rw [hpeers, knownV_id]; exact hpm
    · unfold knownV; rw [if_pos hr]; exact passiveMay_filter h2
    · intro y hy
      rw [knownV_passive hr] at hy
      have := h4 y hy.1
      refine ⟨by rw [knownV_id]; exact this.1, ?_⟩
      intro hm
      obtain ⟨q, hq, hqy⟩ := List.mem_map.1 hm
      rw [knownV_peers hr] at hq
      rcases hq with rfl | ⟨hq, _⟩
      · exact hy.2 hqy.symm
      · exact this.2 (List.mem_map.2 ⟨q, hq, hqy⟩)
    · have hl : (hearG v.id x false v.peers).length ≤ 16 := (peersMay_iff.1 hpm).2.1
      unfold refHeard
      rw [peersMay_eq, h1, hx]
      simp [hn, hl]
theorem tellV_may {v : View} {x : Int} (hv : viewMay v = true) (hx : place x = true) : viewMay (tellV v x) = true := by
  unfold tellV
  split
  · rename_i h
    simp only [Bool.and_eq_true, Bool.not_eq_true', decide_eq_false_iff_not] at h
    exact (knownV_may hv hx h.1).1
  · exact hv
theorem tells_may : ∀ (ids : List Int) (v : View), viewMay v = true → (∀ x ∈ ids, place x = true) → viewMay (ids.foldl tellV v) = true ∧ (ids.foldl tellV v).id = v.id := by
  intro ids
  induction ids with
  | nil => intro v hv _; exact ⟨hv, rfl⟩
  | cons x ids ih =>
    intro v hv hp
    obtain ⟨a, b⟩ := ih (tellV v x) (tellV_may hv (hp x (by simp))) (fun y hy => hp y (by simp [hy]))
    exact ⟨a, by rw [List.foldl_cons, b, tellV_id]⟩
theorem helloOk_parts {v : View} {a : Int} {ids : List Int} (h : helloOk v a ids = true) : viewMay v = true ∧ place a = true ∧ a ≠ v.id ∧ ids.length ≤ 16 ∧ ∀ x ∈ ids, place x = true := by
  simp only [helloOk, Bool.and_eq_true, Bool.not_eq_true', decide_eq_false_iff_not, decide_eq_true_eq, List.all_eq_true] at h
  exact ⟨h.1, h.2.1, h.2.2.1, h.2.2.2.1, h.2.2.2.2⟩
theorem helloV_may {v : View} {a : Int} {ids : List Int} (h : helloOk v a ids = true) : viewMay (helloV v a ids) = true ∧ (helloV v a ids).id = v.id := by
  obtain ⟨h1, h2, h3, h4, h5⟩ := helloOk_parts h
  obtain ⟨a, b⟩ := tells_may ids _ (knownV_may h1 h2 h3).1 h5
  exact ⟨a, by unfold helloV; rw [b, knownV_id]⟩

theorem tellV_mem {v : View} {x : Int} (q : Peer) : q ∈ (tellV v x).peers ↔ q ∈ v.peers ∨ (q = ⟨x, 0⟩ ∧ x ≠ v.id ∧ knowsV v x = false ∧ sizeV v < 16) := by
  unfold tellV
  cases hk : knowsV v x with
  | true => simp
  | false =>
    by_cases hx : x = v.id
    · simp [hx]
    · simp only [hx, decide_false, Bool.not_false, Bool.and_self, if_true]
      cases hr : roomV v x with
      | false =>
        rw [knownV_no hr]
        have : ¬ sizeV v < 16 := by unfold roomV at hr; simp [hk] at hr; unfold sizeV; omega
        simp [this]
      | true =>
        rw [knownV_peers hr]
        have h2 : sizeV v < 16 := by unfold roomV at hr; simp [hk] at hr; unfold sizeV; omega
        have h3 : ∀ p ∈ v.peers, p.id ≠ x := by
          intro p hp he
          have := (knowsV_iff v x).2 (.inl ⟨p, hp, he⟩)
          rw [hk] at this; cases this
        constructor
        · rintro (rfl | ⟨h, _⟩)
          · exact .inr ⟨rfl, hx, by simp, h2⟩
          · exact .inl h
        · rintro (h | ⟨rfl, _⟩)
          · exact .inr ⟨h, h3 q h⟩
          · exact .inl rfl
theorem tellV_passive {v : View} {x : Int} : (tellV v x).passive = v.passive := by
  unfold tellV
  split
  · rename_i h
    simp only [Bool.and_eq_true, Bool.not_eq_true'] at h
    unfold knownV
    split
    · have : x ∉ v.passive := by
        intro hx
        have := (knowsV_iff v x).2 (.inr hx)
        rw [h.2] at this; cases this
      simp only
      rw [filter_out this]
    · rfl
  · rfl
theorem tellV_knows {v : View} {x y : Int} (h : knowsV v y = true) : knowsV (tellV v x) y = true := by
  rw [knowsV_iff] at h ⊢
  rw [tellV_passive]
  rcases h with ⟨q, hq, he⟩ | h
  · exact .inl ⟨q, (tellV_mem q).2 (.inl hq), he⟩
  · exact .inr h
theorem tellV_size {v : View} {x : Int} (hv : viewMay v = true) : sizeV v ≤ sizeV (tellV v x) ∧ sizeV (tellV v x) ≤ sizeV v + 1 := by
  unfold tellV
  split
  · cases hr : roomV v x with
    | false => rw [knownV_no hr]; omega
    | true => rw [knownV_size hv hr]; split <;> omega
  · omega
theorem tells_mem : ∀ (ids : List Int) (v : View), viewMay v = true → (∀ x ∈ ids, place x = true) →
    (∀ q, q ∈ v.peers → q ∈ (ids.foldl tellV v).peers) ∧ (ids.foldl tellV v).passive = v.passive ∧ sizeV v ≤ sizeV (ids.foldl tellV v) ∧ sizeV (ids.foldl tellV v) ≤ sizeV v + ids.length ∧
    (∀ q, q ∈ (ids.foldl tellV v).peers → q ∈ v.peers ∨ (q.missed = 0 ∧ q.id ∈ ids ∧ q.id ≠ v.id ∧ knowsV v q.id = false)) ∧
    (∀ x ∈ ids, x = v.id ∨ knowsV (ids.foldl tellV v) x = true ∨ 16 ≤ sizeV (ids.foldl tellV v)) := by
  intro ids
  induction ids with
  | nil => intro v _ _; exact ⟨fun q h => h, rfl, Nat.le_refl _, by simp, fun q h => .inl h, by simp⟩
  | cons x ids ih =>
    intro v hv hp
    have hm := tellV_may hv (hp x (by simp))
    obtain ⟨a1, a2, a3, a4, a5, a6⟩ := ih (tellV v x) hm (fun y hy => hp y (by simp [hy]))
    obtain ⟨s1, s2⟩ := tellV_size (x := x) hv
    rw [List.foldl_cons]
    refine ⟨fun q hq => a1 q ((tellV_mem q).2 (.inl hq)), by rw [a2, tellV_passive], by omega, by simp only [List.length_cons]; omega, fun q hq => ?_, fun y hy => ?_⟩
    · rcases a5 q hq with h | ⟨h1, h2, h3, h4⟩
      · rcases (tellV_mem q).1 h with h | ⟨rfl, h1, h2, _⟩
        · exact .inl h
        · exact .inr ⟨rfl, by simp, h1, h2⟩
      · refine .inr ⟨h1, by simp [h2], by rw [tellV_id] at h3; exact h3, ?_⟩
        cases hk : knowsV v q.id with
        | false => rfl
        | true => rw [tellV_knows hk] at h4; cases h4
    · rcases List.mem_cons.1 hy with rfl | hy
      · by_cases hid : y = v.id
        · exact .inl hid
        · right
          have step : knowsV (tellV v y) y = true ∨ 16 ≤ sizeV (tellV v y) := by
            cases hk : knowsV v y with
            | true => exact .inl (tellV_knows hk)
            | false =>
              by_cases hs : sizeV v < 16
              · exact .inl ((knowsV_iff _ _).2 (.inl ⟨⟨y, 0⟩, (tellV_mem _).2 (.inr ⟨rfl, hid, hk, hs⟩), rfl⟩))
              · exact .inr (by omega)
          rcases step with h | h
          · left
            rw [knowsV_iff] at h ⊢
            rw [a2]
            rcases h with ⟨q, hq, he⟩ | h
            · exact .inl ⟨q, a1 q hq, he⟩
            · exact .inr h
          · right; omega
      · have := a6 y hy
        rw [tellV_id] at this
        exact this
end Go.AM
/- AM: contracts: one is heard, of a view that is lent. -/
namespace Go.AM
set_option linter.unusedSimpArgs false
set_option linter.unusedVariables false
set_option maxRecDepth 8000
set_option maxHeartbeats 0
theorem slices_Index_int (xs : List Int) (y : Int) (hl : xs.length ≤ cap) : Den PP 101 [intsD xs, .int .i64 y] [] (.int .i64 (fIdx (fun x => decide (y = x)) 0 xs)) [] := by
  unfold cap at hl
  refine den_of [] [] is_slices_Index_int_int ?_
  simp -implicitDefEqProofs [c_slices_Index_int_int, intsD]
  refine anyLoop_of (xs.length + 1) ?_
  have key : ∀ (Q : Ex → St → Prop) (r : Int) (hQ1 : ∀ fr, r = -1 → Q .normal ⟨fr, []⟩) (hQ2 : ∀ fr bs, fr 4 = .int .i64 r → Q .ret ⟨fr, bs⟩) (rest : List Int) (i : Nat) (fr : Nat → D), xs.drop i = rest → i ≤ xs.length →
      fr 0 = .sl (xs.map irow) xs.length → fr 1 = .int .i64 y → fr 7 = .int .i64 xs.length → fr 8 = .int .i64 i → fIdx (fun x => decide (y = x)) i rest = r → sLoop (cf 0 [] []) 0 c_slices_Index_int_int_L0 (blockQ 0 Q) (rest.length + 1) ⟨fr, []⟩ := by
    intro Q r hQ1 hQ2 rest
    induction rest with
    | nil =>
      intro i fr e hi h0 h1 h7 h8 hm
      refine sLoop_body c_slices_Index_int_int_L0.eq_1 ?_
      have hi' := drop_nil e hi
      simp -implicitDefEqProofs [h0, h1, h7, h8, hi']
      exact hQ1 _ hm.symm
    | cons x rest ih =>
      intro i fr e hi h0 h1 h7 h8 hm
      refine sLoop_body c_slices_Index_int_int_L0.eq_1 ?_
      obtain ⟨hlt, hget, hd, hlen⟩ := drop_cons e
      have hlt' : (i : Int) < xs.length := by omega
      have hw := wrap_next (show i ≤ 140737488355328 by omega)
      simp only [fIdx] at hm
      simp -implicitDefEqProofs [h0, h1, h7, h8, hlt', hget, irow]
      refine condC_dec (fun h2 => ?_) (fun h2 => ?_)
      all_goals simp -implicitDefEqProofs [h2, h0, h1, h7, h8, hw]
      · exact hQ2 _ _ (by rw [← hm]; simp [h2])
      · exact ih (i + 1) _ hd (by omega) (by simp [h0]) (by simp [h1]) (by simp [h7]) (by simp) (by rw [← hm]; simp [h2])
  refine key _ (fIdx (fun x => decide (y = x)) 0 xs) (fun fr h => ?_) (fun fr bs h => ?_) xs 0 _ rfl (Nat.zero_le _) rfl rfl rfl rfl rfl
  · simp -implicitDefEqProofs [h]
  · simp -implicitDefEqProofs [h]
theorem slices_Contains_int (xs : List Int) (y : Int) (hl : xs.length ≤ cap) : Den PP 80 [intsD xs, .int .i64 y] [] (.bool (xs.contains y)) [] := by
  have c1 := slices_Index_int xs y hl
  have e := fIdx_any (fun x => decide (y = x)) xs 0
  have e2 : xs.contains y = xs.any fun x => decide (y = x) := by
    rw [Bool.eq_iff_iff]
    simp
  rw [e2]
  simp only [intsD] at c1 ⊢
  refine den_of [] [] is_slices_Contains_int_int ?_
  simp -implicitDefEqProofs [c_slices_Contains_int_int]
  refine callThen_of c1 ?_
  simp -implicitDefEqProofs [← e]
theorem view_Passive (v : View) (id : Int) (hl : v.passive.length ≤ cap) : Den PP 51 [.mem v.cells, .int .i64 id] [] (.bool (v.passive.contains id)) [] := by
  have c1 := slices_Contains_int v.passive id hl
  simp only [intsD, View.cells, peersD] at c1 ⊢
  generalize v.passive.contains id = B at *
  refine den_of [] [] is_view_Passive ?_
  simp -implicitDefEqProofs [c_view_Passive]
  repeat' (first | (refine callThen_of (by first | exact c1) ?_; simp -implicitDefEqProofs [*]) | (with_reducible refine gOps_dec (fun _ => ?_) (fun _ => ?_) <;> simp -implicitDefEqProofs [*]) | (with_reducible refine gOps_ndec (fun _ => ?_) (fun _ => ?_) <;> simp -implicitDefEqProofs [*]) | (with_reducible refine gOps_and (fun hq => ?_) (fun hq => ?_) <;> (try simp at hq) <;> simp -implicitDefEqProofs [*]) | (with_reducible refine gOps_or (fun hq => ?_) (fun hq => ?_) <;> (try simp at hq) <;> simp -implicitDefEqProofs [*]) | (with_reducible refine gOps_not (fun hq => ?_) (fun hq => ?_) <;> (try simp at hq) <;> simp -implicitDefEqProofs [*]) | (with_reducible refine gOps_split (fun hq => ?_) (fun hq => ?_) <;> (try simp at hq) <;> simp -implicitDefEqProofs [*]) | (with_reducible refine condC_dec (fun _ => ?_) (fun _ => ?_) <;> simp -implicitDefEqProofs [*]) | (with_reducible refine condC_ndec (fun _ => ?_) (fun _ => ?_) <;> simp -implicitDefEqProofs [*]) | (with_reducible refine condC_and (fun hq => ?_) (fun hq => ?_) <;> (try simp at hq) <;> simp -implicitDefEqProofs [*]) | (with_reducible refine condC_or (fun hq => ?_) (fun hq => ?_) <;> (try simp at hq) <;> simp -implicitDefEqProofs [*]) | (with_reducible refine condC_not (fun hq => ?_) (fun hq => ?_) <;> (try simp at hq) <;> simp -implicitDefEqProofs [*]) | (with_reducible refine condC_split (fun hq => ?_) (fun hq => ?_) <;> (try simp at hq) <;> simp -implicitDefEqProofs [*]) | (refine appK2_if (by omega) ?_; simp -implicitDefEqProofs [*]) | (refine pureV_if (by omega) ?_; simp -implicitDefEqProofs [*]))
theorem hello_room (v : View) (h1 : v.peers.length ≤ 16) (h2 : v.passive.length ≤ 16) : Den PP 76 [.mem v.cells] [] (.bool (decide (v.peers.length + v.passive.length < 16))) [] := by
  have w : IntKind.wrap .i64 ((v.peers.length : Int) + v.passive.length) = v.peers.length + v.passive.length := wrap_in (by omega) (by omega)
  have e : decide (v.peers.length + v.passive.length < 16) = decide ((v.peers.length : Int) + v.passive.length < 16) := by
    rw [decide_eq_decide]; omega
  rw [e]
  simp only [View.cells, peersD, intsD]
  refine den_of [] [] is_hello_room ?_
  simp -implicitDefEqProofs [c_hello_room, w]
def viewBox (v : View) (p q : Nat) : Blk := ⟨[[.int .i64 v.id, .ref p 0 v.peers.length, .ref q 0 v.passive.length]], 3, .box⟩
def psB (v : View) : Blk := ⟨v.peers.map Peer.row, 2, .mut⟩
def xsB (v : View) : Blk := ⟨v.passive.map irow, 1, .mut⟩
theorem hello_heard (v : View) (id : Int) (hv : viewMay v = true) (hp : place id = true) (hn : id ≠ v.id) : Den PP 49 [.ptr 0 0 0, .int .i64 id] [viewBox v 1 2, psB v, xsB v] (.tup [])
    (if roomV v id then [viewBox (knownV v id) 3 4, ⟨v.peers.map Peer.row, 2, .app⟩, ⟨v.passive.map irow, 1, .app⟩, psB (knownV v id), xsB (knownV v id)] else [viewBox v 1 2, psB v, xsB v]) := by
  obtain ⟨p1, p2, p3, p4⟩ := viewMay_parts hv
  have c1 := view_Peer v id (by unfold cap; omega) (peersMay_rowed p1)
  rw [peerIs_mem p1 hp] at c1
  have c2 := view_Passive v id (by unfold cap; omega)
  have c3 := hello_room v (by omega) (by omega)
  have c4 := passive_Without v.passive id (by unfold cap; omega)
  rw [show withoutP v.passive id = (v.passive.filter fun y => !decide (y = id), 0) by simp [withoutP, p2, hp]] at c4
  have c5 := peers_Heard v.id v.peers id (by unfold cap16; omega)
  have hk := (knownV_may hv hp hn).2
  have hkv : roomV v id = true → knownV v id = ⟨v.id, hearG v.id id false v.peers, v.passive.filter fun y => !decide (y = id)⟩ := by intro h; unfold knownV; rw [if_pos h]
  unfold viewBox psB xsB
  cases hr : roomV v id with
  | false =>
    clear hk hkv c4 c5
    simp only [Bool.false_eq_true, if_false]
    simp only [roomV, knowsV] at hr
    generalize (v.peers.map Peer.id).contains id = A at *
    generalize v.passive.contains id = B at *
    generalize decide (v.peers.length + v.passive.length < 16) = R at *
    simp only [View.cells, peersD, intsD] at c1 c2 c3
    clear p1 p2 p3 p4 hv hp hn
    simp only [Bool.or_eq_false_iff] at hr
    obtain ⟨⟨rfl, rfl⟩, rfl⟩ := hr
    refine den_of [27, 43] [] is_hello_heard ?_
    simp -implicitDefEqProofs [c_hello_heard]
    repeat' (first | (refine callThen_of (by first | exact c1 | exact c2 | exact c3) ?_; simp -implicitDefEqProofs [*, downTo]) | (with_reducible refine gOps_dec (fun _ => ?_) (fun _ => ?_) <;> simp -implicitDefEqProofs [*, downTo]) | (with_reducible refine gOps_ndec (fun _ => ?_) (fun _ => ?_) <;> simp -implicitDefEqProofs [*, downTo]) | (with_reducible refine gOps_and (fun hq => ?_) (fun hq => ?_) <;> (try simp at hq) <;> simp -implicitDefEqProofs [*, downTo]) | (with_reducible refine gOps_or (fun hq => ?_) (fun hq => ?_) <;> (try simp at hq) <;> simp -implicitDefEqProofs [*, downTo]) | (with_reducible refine gOps_not (fun hq => ?_) (fun hq => ?_) <;> (try simp at hq) <;> simp -implicitDefEqProofs [*, downTo]) | (with_reducible refine gOps_split (fun hq => ?_) (fun hq => ?_) <;> (try simp at hq) <;> simp -implicitDefEqProofs [*, downTo]) | (with_reducible refine condC_dec (fun _ => ?_) (fun _ => ?_) <;> simp -implicitDefEqProofs [*, downTo]) | (with_reducible refine condC_ndec (fun _ => ?_) (fun _ => ?_) <;> simp -implicitDefEqProofs [*, downTo]) | (with_reducible refine condC_and (fun hq => ?_) (fun hq => ?_) <;> (try simp at hq) <;> simp -implicitDefEqProofs [*, downTo]) | (with_reducible refine condC_or (fun hq => ?_) (fun hq => ?_) <;> (try simp at hq) <;> simp -implicitDefEqProofs [*, downTo]) | (with_reducible refine condC_not (fun hq => ?_) (fun hq => ?_) <;> (try simp at hq) <;> simp -implicitDefEqProofs [*, downTo]) | (with_reducible refine condC_split (fun hq => ?_) (fun hq => ?_) <;> (try simp at hq) <;> simp -implicitDefEqProofs [*, downTo]) | (refine appK2_if (by omega) ?_; simp -implicitDefEqProofs [*, downTo]) | (refine pureV_if (by omega) ?_; simp -implicitDefEqProofs [*, downTo]))
  | true =>
    simp only [if_true]
    rw [hkv hr]
    rw [hk hr] at c5
    clear hk hkv
    simp only [roomV, knowsV] at hr
    generalize hearG v.id id false v.peers = ps at *
    generalize (v.passive.filter fun y => !decide (y = id)) = xs at *
    generalize (v.peers.map Peer.id).contains id = A at *
    generalize v.passive.contains id = B at *
    generalize decide (v.peers.length + v.passive.length < 16) = R at *
    simp only [View.cells, peersD, intsD] at c1 c2 c3 c4 c5
    clear p1 p2 p3 p4 hv hp hn
    refine den_of [27, 43] [] is_hello_heard ?_
    cases A <;> cases B <;> cases R
    all_goals try (simp at hr; done)
    all_goals
      clear hr
      simp -implicitDefEqProofs [c_hello_heard]
      repeat' (first | (refine callThen_of (by first | exact c1 | exact c2 | exact c3 | exact c4 | exact c5) ?_; simp -implicitDefEqProofs [*, downTo]) | (with_reducible refine gOps_dec (fun _ => ?_) (fun _ => ?_) <;> simp -implicitDefEqProofs [*, downTo]) | (with_reducible refine gOps_ndec (fun _ => ?_) (fun _ => ?_) <;> simp -implicitDefEqProofs [*, downTo]) | (with_reducible refine gOps_and (fun hq => ?_) (fun hq => ?_) <;> (try simp at hq) <;> simp -implicitDefEqProofs [*, downTo]) | (with_reducible refine gOps_or (fun hq => ?_) (fun hq => ?_) <;> (try simp at hq) <;> simp -implicitDefEqProofs [*, downTo]) | (with_reducible refine gOps_not (fun hq => ?_) (fun hq => ?_) <;> (try simp at hq) <;> simp -implicitDefEqProofs [*, downTo]) | (with_reducible refine gOps_split (fun hq => ?_) (fun hq => ?_) <;> (try simp at hq) <;> simp -implicitDefEqProofs [*, downTo]) | (with_reducible refine condC_dec (fun _ => ?_) (fun _ => ?_) <;> simp -implicitDefEqProofs [*, downTo]) | (with_reducible refine condC_ndec (fun _ => ?_) (fun _ => ?_) <;> simp -implicitDefEqProofs [*, downTo]) | (with_reducible refine condC_and (fun hq => ?_) (fun hq => ?_) <;> (try simp at hq) <;> simp -implicitDefEqProofs [*, downTo]) | (with_reducible refine condC_or (fun hq => ?_) (fun hq => ?_) <;> (try simp at hq) <;> simp -implicitDefEqProofs [*, downTo]) | (with_reducible refine condC_not (fun hq => ?_) (fun hq => ?_) <;> (try simp at hq) <;> simp -implicitDefEqProofs [*, downTo]) | (with_reducible refine condC_split (fun hq => ?_) (fun hq => ?_) <;> (try simp at hq) <;> simp -implicitDefEqProofs [*, downTo]) | (refine appK2_if (by omega) ?_; simp -implicitDefEqProofs [*, downTo]) | (refine pureV_if (by omega) ?_; simp -implicitDefEqProofs [*, downTo]))
end Go.AM
