/- What the proof of this claim stands on, part 10. -/
import Derived.Test.YtailjedmlkdcmaaProg
import Derived.KernelRfl
import Derived.Test.YtailjedmlkdcmaaAmZ9
/- AM: this seat's types. -/
namespace Go.AM
set_option linter.unusedSimpArgs false
set_option linter.unusedVariables false
def tab : List (Nat × TyI) := [
  (3, ⟨.int .i64, 1, 8, [.int .i64 0]⟩),
  (4, ⟨.bool, 1, 1, [.bool false]⟩),
  (22, ⟨.slice 102, 1, 24, [.nil]⟩),
  (23, ⟨.slice 3, 1, 24, [.nil]⟩),
  (25, ⟨.struct [(0, 3), (1, 22), (2, 23)], 3, 56, [.int .i64 0, .nil, .nil]⟩),
  (26, ⟨.slice 33, 1, 24, [.nil]⟩),
  (27, ⟨.slice 66, 1, 24, [.nil]⟩),
  (29, ⟨.struct [(0, 4), (1, 25), (4, 26), (5, 27)], 6, 112, [.bool false, .int .i64 0, .nil, .nil, .nil, .nil]⟩),
  (31, ⟨.struct [(0, 3), (1, 3)], 2, 16, [.int .i64 0, .int .i64 0]⟩),
  (33, ⟨.struct [(0, 3), (1, 31), (3, 3), (4, 4)], 5, 40, [.int .i64 0, .int .i64 0, .int .i64 0, .int .i64 0, .bool false]⟩),
  (35, ⟨.struct [(0, 3), (1, 3), (2, 3), (3, 23), (4, 3), (5, 33), (10, 4)], 11, 104, [.int .i64 0, .int .i64 0, .int .i64 0, .nil, .int .i64 0, .int .i64 0, .int .i64 0, .int .i64 0, .int .i64 0, .bool false, .bool false]⟩),
  (38, ⟨.slice 35, 1, 24, [.nil]⟩),
  (39, ⟨.int .i64, 1, 8, [.int .i64 0]⟩),
  (66, ⟨.struct [(0, 3), (1, 4), (2, 3)], 3, 24, [.int .i64 0, .bool false, .int .i64 0]⟩),
  (77, ⟨.int .u64, 1, 8, [.int .u64 0]⟩),
  (88, ⟨.fn, 1, 8, [.undef]⟩),
  (93, ⟨.ptr, 1, 8, [.undef]⟩),
  (94, ⟨.ptr, 1, 8, [.undef]⟩),
  (102, ⟨.struct [(0, 3), (1, 3)], 2, 16, [.int .i64 0, .int .i64 0]⟩),
  (117, ⟨.ptr, 1, 8, [.undef]⟩),
  (120, ⟨.fn, 1, 8, [.undef]⟩),
  (126, ⟨.fn, 1, 8, [.undef]⟩),
  (132, ⟨.fn, 1, 8, [.undef]⟩),
  (140, ⟨.ptr, 1, 8, [.undef]⟩),
  (147, ⟨.fn, 1, 8, [.undef]⟩),
  (149, ⟨.struct [(0, 3)], 1, 8, [.int .i64 0]⟩)]
def TT : Tab := fun t => match tab.find? (fun p => p.1 == t) with
  | some p => p.2
  | none => ⟨.other, 0, 0, []⟩
@[simp] theorem TT3 : TT 3 = ⟨.int .i64, 1, 8, [.int .i64 0]⟩ := by kernel_rfl
@[simp] theorem TT4 : TT 4 = ⟨.bool, 1, 1, [.bool false]⟩ := by kernel_rfl
@[simp] theorem TT22 : TT 22 = ⟨.slice 102, 1, 24, [.nil]⟩ := by kernel_rfl
@[simp] theorem TT23 : TT 23 = ⟨.slice 3, 1, 24, [.nil]⟩ := by kernel_rfl
@[simp] theorem TT25 : TT 25 = ⟨.struct [(0, 3), (1, 22), (2, 23)], 3, 56, [.int .i64 0, .nil, .nil]⟩ := by kernel_rfl
@[simp] theorem TT26 : TT 26 = ⟨.slice 33, 1, 24, [.nil]⟩ := by kernel_rfl
@[simp] theorem TT27 : TT 27 = ⟨.slice 66, 1, 24, [.nil]⟩ := by kernel_rfl
@[simp] theorem TT29 : TT 29 = ⟨.struct [(0, 4), (1, 25), (4, 26), (5, 27)], 6, 112, [.bool false, .int .i64 0, .nil, .nil, .nil, .nil]⟩ := by kernel_rfl
@[simp] theorem TT31 : TT 31 = ⟨.struct [(0, 3), (1, 3)], 2, 16, [.int .i64 0, .int .i64 0]⟩ := by kernel_rfl
@[simp] theorem TT33 : TT 33 = ⟨.struct [(0, 3), (1, 31), (3, 3), (4, 4)], 5, 40, [.int .i64 0, .int .i64 0, .int .i64 0, .int .i64 0, .bool false]⟩ := by kernel_rfl
@[simp] theorem TT35 : TT 35 = ⟨.struct [(0, 3), (1, 3), (2, 3), (3, 23), (4, 3), (5, 33), (10, 4)], 11, 104, [.int .i64 0, .int .i64 0, .int .i64 0, .nil, .int .i64 0, .int .i64 0, .int .i64 0, .int .i64 0, .int .i64 0, .bool false, .bool false]⟩ := by kernel_rfl
@[simp] theorem TT38 : TT 38 = ⟨.slice 35, 1, 24, [.nil]⟩ := by kernel_rfl
@[simp] theorem TT39 : TT 39 = ⟨.int .i64, 1, 8, [.int .i64 0]⟩ := by kernel_rfl
@[simp] theorem TT66 : TT 66 = ⟨.struct [(0, 3), (1, 4), (2, 3)], 3, 24, [.int .i64 0, .bool false, .int .i64 0]⟩ := by kernel_rfl
@[simp] theorem TT77 : TT 77 = ⟨.int .u64, 1, 8, [.int .u64 0]⟩ := by kernel_rfl
@[simp] theorem TT88 : TT 88 = ⟨.fn, 1, 8, [.undef]⟩ := by kernel_rfl
@[simp] theorem TT93 : TT 93 = ⟨.ptr, 1, 8, [.undef]⟩ := by kernel_rfl
@[simp] theorem TT94 : TT 94 = ⟨.ptr, 1, 8, [.undef]⟩ := by kernel_rfl
@[simp] theorem TT102 : TT 102 = ⟨.struct [(0, 3), (1, 3)], 2, 16, [.int .i64 0, .int .i64 0]⟩ := by kernel_rfl
@[simp] theorem TT117 : TT 117 = ⟨.ptr, 1, 8, [.undef]⟩ := by kernel_rfl
@[simp] theorem TT120 : TT 120 = ⟨.fn, 1, 8, [.undef]⟩ := by kernel_rfl
@[simp] theorem TT126 : TT 126 = ⟨.fn, 1, 8, [.undef]⟩ := by kernel_rfl
@[simp] theorem TT132 : TT 132 = ⟨.fn, 1, 8, [.undef]⟩ := by kernel_rfl
@[simp] theorem TT140 : TT 140 = ⟨.ptr, 1, 8, [.undef]⟩ := by kernel_rfl
@[simp] theorem TT147 : TT 147 = ⟨.fn, 1, 8, [.undef]⟩ := by kernel_rfl
@[simp] theorem TT149 : TT 149 = ⟨.struct [(0, 3)], 1, 8, [.int .i64 0]⟩ := by kernel_rfl
@[simp] theorem TT0 : TT 0 = ⟨.other, 0, 0, []⟩ := by kernel_rfl
@[simp] theorem TT20 : TT 20 = ⟨.other, 0, 0, []⟩ := by kernel_rfl
@[simp] theorem TT40 : TT 40 = ⟨.other, 0, 0, []⟩ := by kernel_rfl
@[simp] theorem TT42 : TT 42 = ⟨.other, 0, 0, []⟩ := by kernel_rfl
@[simp] theorem TT44 : TT 44 = ⟨.other, 0, 0, []⟩ := by kernel_rfl
@[simp] theorem TT46 : TT 46 = ⟨.other, 0, 0, []⟩ := by kernel_rfl
@[simp] theorem TT48 : TT 48 = ⟨.other, 0, 0, []⟩ := by kernel_rfl
@[simp] theorem TT50 : TT 50 = ⟨.other, 0, 0, []⟩ := by kernel_rfl
@[simp] theorem TT63 : TT 63 = ⟨.other, 0, 0, []⟩ := by kernel_rfl
@[simp] theorem TT71 : TT 71 = ⟨.other, 0, 0, []⟩ := by kernel_rfl
@[simp] theorem TT83 : TT 83 = ⟨.other, 0, 0, []⟩ := by kernel_rfl
@[simp] theorem TT89 : TT 89 = ⟨.other, 0, 0, []⟩ := by kernel_rfl
@[simp] theorem TT109 : TT 109 = ⟨.other, 0, 0, []⟩ := by kernel_rfl
@[simp] theorem TT111 : TT 111 = ⟨.other, 0, 0, []⟩ := by kernel_rfl
@[simp] theorem TT113 : TT 113 = ⟨.other, 0, 0, []⟩ := by kernel_rfl
@[simp] theorem TT118 : TT 118 = ⟨.other, 0, 0, []⟩ := by kernel_rfl
@[simp] theorem TT128 : TT 128 = ⟨.other, 0, 0, []⟩ := by kernel_rfl
@[simp] theorem TT145 : TT 145 = ⟨.other, 0, 0, []⟩ := by kernel_rfl
noncomputable abbrev PP : Program := Proofs.Try.prog
theorem ty3 : TyOk PP 3 ⟨.int .i64, 1, 8, [.int .i64 0]⟩ := ⟨⟨Proofs.Try.t3, _, by kernel_rfl, rfl, rfl, rfl, by kernel_rfl, by kernel_rfl, by kernel_rfl⟩, ⟨_, (by kernel_rfl : PP.underlying 3 = some (TypeDesc.int IntKind.i64)), by simp [descOk]⟩⟩
theorem ty4 : TyOk PP 4 ⟨.bool, 1, 1, [.bool false]⟩ := ⟨⟨Proofs.Try.t4, _, by kernel_rfl, rfl, rfl, rfl, by kernel_rfl, by kernel_rfl, by kernel_rfl⟩, ⟨_, (by kernel_rfl : PP.underlying 4 = some TypeDesc.bool), by simp [descOk]⟩⟩
theorem ty22 : TyOk PP 22 ⟨.slice 102, 1, 24, [.nil]⟩ := ⟨⟨Proofs.Try.t22, _, by kernel_rfl, rfl, rfl, rfl, by kernel_rfl, by kernel_rfl, by kernel_rfl⟩, ⟨_, (by kernel_rfl : PP.underlying 22 = some (TypeDesc.slice 102)), by simp [descOk]⟩⟩
theorem ty23 : TyOk PP 23 ⟨.slice 3, 1, 24, [.nil]⟩ := ⟨⟨Proofs.Try.t23, _, by kernel_rfl, rfl, rfl, rfl, by kernel_rfl, by kernel_rfl, by kernel_rfl⟩, ⟨_, (by kernel_rfl : PP.underlying 23 = some (TypeDesc.slice 3)), by simp [descOk]⟩⟩
theorem ty25 : TyOk PP 25 ⟨.struct [(0, 3), (1, 22), (2, 23)], 3, 56, [.int .i64 0, .nil, .nil]⟩ := ⟨⟨Proofs.Try.t25, _, by kernel_rfl, rfl, rfl, rfl, by kernel_rfl, by kernel_rfl, by kernel_rfl⟩, ⟨_, (by kernel_rfl : PP.underlying 25 = some (TypeDesc.struct #[{ name := "Id", type := 3, offset := 0, embedded := false, tag := "", pkgPath := "", byteOffset := 0 }, { name := "Peers", type := 22, offset := 1, embedded := false, tag := "", pkgPath := "", byteOffset := 8 }, { name := "Passive", type := 23, offset := 2, embedded := false, tag := "", pkgPath := "", byteOffset := 32 }])), by simp [descOk]⟩⟩
theorem ty26 : TyOk PP 26 ⟨.slice 33, 1, 24, [.nil]⟩ := ⟨⟨Proofs.Try.t26, _, by kernel_rfl, rfl, rfl, rfl, by kernel_rfl, by kernel_rfl, by kernel_rfl⟩, ⟨_, (by kernel_rfl : PP.underlying 26 = some (TypeDesc.slice 33)), by simp [descOk]⟩⟩
theorem ty27 : TyOk PP 27 ⟨.slice 66, 1, 24, [.nil]⟩ := ⟨⟨Proofs.Try.t27, _, by kernel_rfl, rfl, rfl, rfl, by kernel_rfl, by kernel_rfl, by kernel_rfl⟩, ⟨_, (by kernel_rfl : PP.underlying 27 = some (TypeDesc.slice 66)), by simp [descOk]⟩⟩
theorem ty29 : TyOk PP 29 ⟨.struct [(0, 4), (1, 25), (4, 26), (5, 27)], 6, 112, [.bool false, .int .i64 0, .nil, .nil, .nil, .nil]⟩ := ⟨⟨Proofs.Try.t29, _, by kernel_rfl, rfl, rfl, rfl, by kernel_rfl, by kernel_rfl, by kernel_rfl⟩, ⟨_, (by kernel_rfl : PP.underlying 29 = some (TypeDesc.struct #[{ name := "Up", type := 4, offset := 0, embedded := false, tag := "", pkgPath := "", byteOffset := 0 }, { name := "View", type := 25, offset := 1, embedded := false, tag := "", pkgPath := "", byteOffset := 8 }, { name := "Items", type := 26, offset := 4, embedded := false, tag := "", pkgPath := "", byteOffset := 64 }, { name := "Log", type := 27, offset := 5, embedded := false, tag := "", pkgPath := "", byteOffset := 88 }])), by simp [descOk]⟩⟩
theorem ty31 : TyOk PP 31 ⟨.struct [(0, 3), (1, 3)], 2, 16, [.int .i64 0, .int .i64 0]⟩ := ⟨⟨Proofs.Try.t31, _, by kernel_rfl, rfl, rfl, rfl, by kernel_rfl, by kernel_rfl, by kernel_rfl⟩, ⟨_, (by kernel_rfl : PP.underlying 31 = some (TypeDesc.struct #[{ name := "Count", type := 3, offset := 0, embedded := false, tag := "", pkgPath := "", byteOffset := 0 }, { name := "Writer", type := 3, offset := 1, embedded := false, tag := "", pkgPath := "", byteOffset := 8 }])), by simp [descOk]⟩⟩
theorem ty33 : TyOk PP 33 ⟨.struct [(0, 3), (1, 31), (3, 3), (4, 4)], 5, 40, [.int .i64 0, .int .i64 0, .int .i64 0, .int .i64 0, .bool false]⟩ := ⟨⟨Proofs.Try.t33, _, by kernel_rfl, rfl, rfl, rfl, by kernel_rfl, by kernel_rfl, by kernel_rfl⟩, ⟨_, (by kernel_rfl : PP.underlying 33 = some (TypeDesc.struct #[{ name := "Key", type := 3, offset := 0, embedded := false, tag := "", pkgPath := "", byteOffset := 0 }, { name := "Version", type := 31, offset := 1, embedded := false, tag := "", pkgPath := "", byteOffset := 8 }, { name := "Value", type := 3, offset := 3, embedded := false, tag := "", pkgPath := "", byteOffset := 24 }, { name := "Gone", type := 4, offset := 4, embedded := false, tag := "", pkgPath := "", byteOffset := 32 }])), by simp [descOk]⟩⟩
theorem ty35 : TyOk PP 35 ⟨.struct [(0, 3), (1, 3), (2, 3), (3, 23), (4, 3), (5, 33), (10, 4)], 11, 104, [.int .i64 0, .int .i64 0, .int .i64 0, .nil, .int .i64 0, .int .i64 0, .int .i64 0, .int .i64 0, .int .i64 0, .bool false, .bool false]⟩ := ⟨⟨Proofs.Try.t35, _, by kernel_rfl, rfl, rfl, rfl, by kernel_rfl, by kernel_rfl, by kernel_rfl⟩, ⟨_, (by kernel_rfl : PP.underlying 35 = some (TypeDesc.struct #[{ name := "Kind", type := 3, offset := 0, embedded := false, tag := "", pkgPath := "", byteOffset := 0 }, { name := "From", type := 3, offset := 1, embedded := false, tag := "", pkgPath := "", byteOffset := 8 }, { name := "To", type := 3, offset := 2, embedded := false, tag := "", pkgPath := "", byteOffset := 16 }, { name := "Ids", type := 23, offset := 3, embedded := false, tag := "", pkgPath := "", byteOffset := 24 }, { name := "Key", type := 3, offset := 4, embedded := false, tag := "", pkgPath := "", byteOffset := 48 }, { name := "Item", type := 33, offset := 5, embedded := false, tag := "", pkgPath := "", byteOffset := 56 }, { name := "Has", type := 4, offset := 10, embedded := false, tag := "", pkgPath := "", byteOffset := 96 }])), by simp [descOk]⟩⟩
theorem ty38 : TyOk PP 38 ⟨.slice 35, 1, 24, [.nil]⟩ := ⟨⟨Proofs.Try.t38, _, by kernel_rfl, rfl, rfl, rfl, by kernel_rfl, by kernel_rfl, by kernel_rfl⟩, ⟨_, (by kernel_rfl : PP.underlying 38 = some (TypeDesc.slice 35)), by simp [descOk]⟩⟩
theorem ty39 : TyOk PP 39 ⟨.int .i64, 1, 8, [.int .i64 0]⟩ := ⟨⟨Proofs.Try.t39, _, by kernel_rfl, rfl, rfl, rfl, by kernel_rfl, by kernel_rfl, by kernel_rfl⟩, ⟨_, (by kernel_rfl : PP.underlying 39 = some (TypeDesc.int IntKind.i64)), by simp [descOk]⟩⟩
theorem ty66 : TyOk PP 66 ⟨.struct [(0, 3), (1, 4), (2, 3)], 3, 24, [.int .i64 0, .bool false, .int .i64 0]⟩ := ⟨⟨Proofs.Try.t66, _, by kernel_rfl, rfl, rfl, rfl, by kernel_rfl, by kernel_rfl, by kernel_rfl⟩, ⟨_, (by kernel_rfl : PP.underlying 66 = some (TypeDesc.struct #[{ name := "Key", type := 3, offset := 0, embedded := false, tag := "", pkgPath := "", byteOffset := 0 }, { name := "Has", type := 4, offset := 1, embedded := false, tag := "", pkgPath := "", byteOffset := 8 }, { name := "Value", type := 3, offset := 2, embedded := false, tag := "", pkgPath := "", byteOffset := 16 }])), by simp [descOk]⟩⟩
theorem ty77 : TyOk PP 77 ⟨.int .u64, 1, 8, [.int .u64 0]⟩ := ⟨⟨Proofs.Try.t77, _, by kernel_rfl, rfl, rfl, rfl, by kernel_rfl, by kernel_rfl, by kernel_rfl⟩, ⟨_, (by kernel_rfl : PP.underlying 77 = some (TypeDesc.int IntKind.u64)), by simp [descOk]⟩⟩
theorem ty88 : TyOk PP 88 ⟨.fn, 1, 8, [.undef]⟩ := ⟨⟨Proofs.Try.t88, _, by kernel_rfl, rfl, rfl, rfl, by kernel_rfl, by kernel_rfl, by kernel_rfl⟩, ⟨_, (by kernel_rfl : PP.underlying 88 = some (TypeDesc.func #[3] #[4] false)), by simp [descOk]⟩⟩
theorem ty93 : TyOk PP 93 ⟨.ptr, 1, 8, [.undef]⟩ := ⟨⟨Proofs.Try.t93, _, by kernel_rfl, rfl, rfl, rfl, by kernel_rfl, by kernel_rfl, by kernel_rfl⟩, ⟨_, (by kernel_rfl : PP.underlying 93 = some (TypeDesc.pointer 29)), by simp [descOk]⟩⟩
theorem ty94 : TyOk PP 94 ⟨.ptr, 1, 8, [.undef]⟩ := ⟨⟨Proofs.Try.t94, _, by kernel_rfl, rfl, rfl, rfl, by kernel_rfl, by kernel_rfl, by kernel_rfl⟩, ⟨_, (by kernel_rfl : PP.underlying 94 = some (TypeDesc.pointer 35)), by simp [descOk]⟩⟩
theorem ty102 : TyOk PP 102 ⟨.struct [(0, 3), (1, 3)], 2, 16, [.int .i64 0, .int .i64 0]⟩ := ⟨⟨Proofs.Try.t102, _, by kernel_rfl, rfl, rfl, rfl, by kernel_rfl, by kernel_rfl, by kernel_rfl⟩, ⟨_, (by kernel_rfl : PP.underlying 102 = some (TypeDesc.struct #[{ name := "Id", type := 3, offset := 0, embedded := false, tag := "", pkgPath := "", byteOffset := 0 }, { name := "Missed", type := 3, offset := 1, embedded := false, tag := "", pkgPath := "", byteOffset := 8 }])), by simp [descOk]⟩⟩
theorem ty117 : TyOk PP 117 ⟨.ptr, 1, 8, [.undef]⟩ := ⟨⟨Proofs.Try.t117, _, by kernel_rfl, rfl, rfl, rfl, by kernel_rfl, by kernel_rfl, by kernel_rfl⟩, ⟨_, (by kernel_rfl : PP.underlying 117 = some (TypeDesc.pointer 25)), by simp [descOk]⟩⟩
theorem ty120 : TyOk PP 120 ⟨.fn, 1, 8, [.undef]⟩ := ⟨⟨Proofs.Try.t120, _, by kernel_rfl, rfl, rfl, rfl, by kernel_rfl, by kernel_rfl, by kernel_rfl⟩, ⟨_, (by kernel_rfl : PP.underlying 120 = some (TypeDesc.func #[33, 3] #[3] false)), by simp [descOk]⟩⟩
theorem ty126 : TyOk PP 126 ⟨.fn, 1, 8, [.undef]⟩ := ⟨⟨Proofs.Try.t126, _, by kernel_rfl, rfl, rfl, rfl, by kernel_rfl, by kernel_rfl, by kernel_rfl⟩, ⟨_, (by kernel_rfl : PP.underlying 126 = some (TypeDesc.func #[3, 3] #[3] false)), by simp [descOk]⟩⟩
theorem ty132 : TyOk PP 132 ⟨.fn, 1, 8, [.undef]⟩ := ⟨⟨Proofs.Try.t132, _, by kernel_rfl, rfl, rfl, rfl, by kernel_rfl, by kernel_rfl, by kernel_rfl⟩, ⟨_, (by kernel_rfl : PP.underlying 132 = some (TypeDesc.func #[66] #[4] false)), by simp [descOk]⟩⟩
theorem ty140 : TyOk PP 140 ⟨.ptr, 1, 8, [.undef]⟩ := ⟨⟨Proofs.Try.t140, _, by kernel_rfl, rfl, rfl, rfl, by kernel_rfl, by kernel_rfl, by kernel_rfl⟩, ⟨_, (by kernel_rfl : PP.underlying 140 = some (TypeDesc.pointer 33)), by simp [descOk]⟩⟩
theorem ty147 : TyOk PP 147 ⟨.fn, 1, 8, [.undef]⟩ := ⟨⟨Proofs.Try.t147, _, by kernel_rfl, rfl, rfl, rfl, by kernel_rfl, by kernel_rfl, by kernel_rfl⟩, ⟨_, (by kernel_rfl : PP.underlying 147 = some (TypeDesc.func #[102, 3] #[3] false)), by simp [descOk]⟩⟩
theorem ty149 : TyOk PP 149 ⟨.struct [(0, 3)], 1, 8, [.int .i64 0]⟩ := ⟨⟨Proofs.Try.t149, _, by kernel_rfl, rfl, rfl, rfl, by kernel_rfl, by kernel_rfl, by kernel_rfl⟩, ⟨_, (by kernel_rfl : PP.underlying 149 = some (TypeDesc.struct #[{ name := "base", type := 3, offset := 0, embedded := false, tag := "", pkgPath := "gimmal/peers", byteOffset := 0 }])), by simp [descOk]⟩⟩
theorem tyAll : ∀ p ∈ tab, TyOk PP p.1 p.2 := by
  intro p hp
  simp only [tab, List.mem_cons, List.not_mem_nil, or_false] at hp
  rcases hp with rfl | rfl | rfl | rfl | rfl | rfl | rfl | rfl | rfl | rfl | rfl | rfl | rfl | rfl | rfl | rfl | rfl | rfl | rfl | rfl | rfl | rfl | rfl | rfl | rfl | rfl
  · exact ty3
  · exact ty4
  · exact ty22
  · exact ty23
  · exact ty25
  · exact ty26
  · exact ty27
  · exact ty29
  · exact ty31
  · exact ty33
  · exact ty35
  · exact ty38
  · exact ty39
  · exact ty66
  · exact ty77
  · exact ty88
  · exact ty93
  · exact ty94
  · exact ty102
  · exact ty117
  · exact ty120
  · exact ty126
  · exact ty132
  · exact ty140
  · exact ty147
  · exact ty149
theorem TT_find {t : Nat} (h : (TT t).d.known = true) : (t, TT t) ∈ tab := by
  unfold TT at h ⊢
  split
  · rename_i p hp
    have h1 := List.find?_some hp
    have h2 := List.mem_of_find?_eq_some hp
    have : p.1 = t := by simpa using h1
    rw [← this]
    exact h2
  · rename_i hp
    rw [hp] at h
    cases h
theorem kidsAll : (tab.all fun p => p.2.d.kids.all fun k => (TT k).d.known) = true := by kernel_rfl
theorem tabOk0 : TabOk PP TT [] := by
  refine ⟨fun t h => tyAll _ (TT_find h), fun t k hk => ?_, ?_⟩
  · have h : (TT t).d.known = true := by
      generalize TT t = x at hk
      obtain ⟨d, _, _, _⟩ := x
      cases d <;> first | rfl | (simp [TD.kids] at hk)
    have := List.all_eq_true.1 kidsAll _ (TT_find h)
    exact List.all_eq_true.1 this k hk
  · intro t h
    simp at h
theorem eq31 : EqOk PP TT 31 := eqOk_of tabOk0 5 (by omega) (by kernel_rfl) (by kernel_rfl) (by kernel_rfl) (by kernel_rfl)
theorem eq33 : EqOk PP TT 33 := eqOk_of tabOk0 5 (by omega) (by kernel_rfl) (by kernel_rfl) (by kernel_rfl) (by kernel_rfl)
theorem eq66 : EqOk PP TT 66 := eqOk_of tabOk0 5 (by omega) (by kernel_rfl) (by kernel_rfl) (by kernel_rfl) (by kernel_rfl)
theorem eq102 : EqOk PP TT 102 := eqOk_of tabOk0 5 (by omega) (by kernel_rfl) (by kernel_rfl) (by kernel_rfl) (by kernel_rfl)
theorem eq149 : EqOk PP TT 149 := eqOk_of tabOk0 5 (by omega) (by kernel_rfl) (by kernel_rfl) (by kernel_rfl) (by kernel_rfl)
def EQS : List Nat := [31, 33, 66, 102, 149]
theorem tabOk : TabOk PP TT EQS := by
  refine ⟨tabOk0.ty, tabOk0.kids, ?_⟩
  intro t h
  simp only [EQS, List.mem_cons, List.not_mem_nil, or_false] at h
  rcases h with rfl | rfl | rfl | rfl | rfl
  · exact eq31
  · exact eq33
  · exact eq66
  · exact eq102
  · exact eq149
noncomputable def cfx (n0 : Nat) (own lend give full ovl : List Nat) : Cfg := ⟨TT, EQS, n0, own, lend, Den PP, full, give, DenF PP [0], ovl⟩
noncomputable abbrev cf (n0 : Nat) (own lend : List Nat) : Cfg := cfx n0 own lend [] [] []
section
variable (n0 : Nat) (own lend give full ovl : List Nat)
@[simp] theorem cf_T : (cfx n0 own lend give full ovl).T = TT := rfl
@[simp] theorem cf_eqs : (cfx n0 own lend give full ovl).eqs = EQS := rfl
@[simp] theorem cf_n0 : (cfx n0 own lend give full ovl).n0 = n0 := rfl
@[simp] theorem cf_own : (cfx n0 own lend give full ovl).own = own := rfl
@[simp] theorem cf_lendT : (cfx n0 own lend give full ovl).lendT = lend := rfl
@[simp] theorem cf_C : (cfx n0 own lend give full ovl).C = Den PP := rfl
@[simp] theorem cf_giveT : (cfx n0 own lend give full ovl).giveT = give := rfl
@[simp] theorem cf_full : (cfx n0 own lend give full ovl).full = full := rfl
@[simp] theorem cf_G : (cfx n0 own lend give full ovl).G = DenF PP [0] := rfl
@[simp] theorem cf_ovl : (cfx n0 own lend give full ovl).ovl = ovl := rfl
end
theorem den_ofG {f : Nat} {F : SF} {args : List D} {bs : List Blk} {r : D} {bs' : List Blk} (own lend give ovl : List Nat) (hO : ∀ f ∈ ovl, OvlOk PP TT f) (hF : ∀ c : Cfg, c.lendT = lend → isF PP c f F) (h : sFun (cfx bs.length own lend give [] ovl) F args bs r bs') : Den PP f args bs r bs' :=
  sFun_sound (c := cfx bs.length own lend give [] ovl) (by kernel_rfl) tabOk (fun _ _ _ _ _ h => h) (fun _ _ _ _ _ h => h) hO rfl (hF _ rfl) rfl h
theorem den_of {f : Nat} {F : SF} {args : List D} {bs : List Blk} {r : D} {bs' : List Blk} (own lend : List Nat) (hF : ∀ c : Cfg, c.lendT = lend → isF PP c f F) (h : sFun (cf bs.length own lend) F args bs r bs') : Den PP f args bs r bs' :=
  den_ofG own lend [] [] (fun _ h => absurd h List.not_mem_nil) hF h
theorem denF_of {f : Nat} {F : SF} {args : List D} {bs : List Blk} {r : D} {bs' : List Blk} (own lend give ovl : List Nat) (hb : 0 < bs.length) (hO : ∀ f ∈ ovl, OvlOk PP TT f) (hF : ∀ c : Cfg, c.lendT = lend → isF PP c f F) (h : sFun (cfx bs.length own lend give [0] ovl) F args bs r bs') : DenF PP [0] f args bs r bs' :=
  sFun_soundF (c := cfx bs.length own lend give [0] ovl) (by kernel_rfl) tabOk (fun _ _ _ _ _ h => h) (fun _ _ _ _ _ h => h) hO (by intro b hb'; simp at hb'; subst hb'; exact hb) (hF _ rfl) rfl h
theorem ovl114 : OvlOk PP TT 114 := ⟨Proofs.Try.f114, 26, 33, by kernel_rfl, by kernel_rfl, by kernel_rfl, by kernel_rfl, by kernel_rfl, by kernel_rfl, by simp, by simp⟩
theorem ovls114 : ∀ f ∈ [114], OvlOk PP TT f := fun f h => by rw [List.mem_singleton.1 h]; exact ovl114
end Go.AM
/- AM: this seat's functions in short. -/
namespace Go.AM
set_option linter.unusedSimpArgs false
set_option linter.unusedVariables false
def c_gimmallaw21_AskLog_L2 : SC := (.seq (.seq (.ops [⟨some 47, (Op.move (Operand.tmp 9)), 3, none⟩,
    ⟨some 48, (Op.fieldAddr 29 (Operand.tmp 3) 3), 0, none⟩,
    ⟨some 49, (Op.load 27 (Operand.tmp 48)), 27, none⟩,
    ⟨some 50, (Op.call ⟨(Callee.builtin Builtin.len), #[(Operand.tmp 49)], #[27]⟩), 3, none⟩,
    ⟨some 51, (Op.binOp BinOp.lss 3 (Operand.tmp 47) (Operand.tmp 50) 3), 4, none⟩]) (.cond (Operand.tmp 51) .skip (.exit 4))) (.seq (.block 5 (.seq (.ops [⟨some 60, (Op.move (Operand.tmp 9)), 3, none⟩,
    ⟨some 64, (Op.move (Operand.tmp 0)), 23, none⟩,
    ⟨some 65, (Op.move (Operand.tmp 4)), 3, none⟩,
    ⟨some 67, (Op.move (Operand.tmp 9)), 3, none⟩,
    ⟨some 68, (Op.move (Operand.tmp 4)), 3, none⟩,
    ⟨some 54, (Op.fieldAddr 29 (Operand.tmp 3) 3), 0, none⟩,
    ⟨some 55, (Op.load 27 (Operand.tmp 54)), 27, none⟩,
    ⟨some 56, (Op.fieldAddr 29 (Operand.tmp 3) 3), 0, none⟩,
    ⟨some 57, (Op.load 27 (Operand.tmp 56)), 27, none⟩,
    ⟨some 58, (Op.call ⟨(Callee.builtin Builtin.len), #[(Operand.tmp 57)], #[27]⟩), 3, none⟩,
    ⟨some 59, (Op.binOp BinOp.sub 3 (Operand.tmp 58) (Operand.const (Value.int IntKind.i64 1)) 3), 3, none⟩,
    ⟨some 61, (Op.binOp BinOp.sub 3 (Operand.tmp 59) (Operand.tmp 60) 3), 3, none⟩,
    ⟨some 62, (Op.indexAddr 27 (Operand.tmp 55) (Operand.tmp 61)), 0, none⟩,
    ⟨some 63, (Op.load 66 (Operand.tmp 62)), 66, none⟩,
    ⟨some 66, (Op.binOp BinOp.sub 3 (Operand.tmp 65) (Operand.const (Value.int IntKind.i64 1)) 3), 3, none⟩,
    ⟨some 69, (Op.binOp BinOp.rem 3 (Operand.tmp 67) (Operand.tmp 68) 3), 3, none⟩,
    ⟨some 70, (Op.binOp BinOp.sub 3 (Operand.tmp 66) (Operand.tmp 69) 3), 3, none⟩,
    ⟨some 71, (Op.indexAddr 23 (Operand.tmp 64) (Operand.tmp 70)), 0, none⟩,
    ⟨some 72, (Op.load 3 (Operand.tmp 71)), 3, none⟩,
    ⟨some 73, (Op.binOp BinOp.and 3 (Operand.tmp 72) (Operand.const (Value.int IntKind.i64 255)) 3), 3, none⟩,
    ⟨some 74, (Op.build 66 #[(0, (Operand.tmp 73))]), 66, none⟩,
    ⟨some 75, (Op.binOp BinOp.neq 66 (Operand.tmp 63) (Operand.tmp 74) 66), 4, none⟩]) (.cond (Operand.tmp 75) (.seq (.ops [⟨some 2, (Op.assign (Operand.const (Value.bool false))), 4, none⟩]) .ret) .skip))) (.ops [⟨some 52, (Op.move (Operand.tmp 9)), 3, none⟩,
    ⟨some 53, (Op.binOp BinOp.add 3 (Operand.tmp 52) (Operand.const (Value.int IntKind.i64 1)) 3), 3, none⟩,
    ⟨some 9, (Op.assign (Operand.tmp 53)), 3, none⟩])))
def c_gimmallaw21_AskLog_L1 : SC := (.seq (.seq (.ops [⟨some 20, (Op.move (Operand.tmp 6)), 3, none⟩,
    ⟨some 21, (Op.move (Operand.tmp 4)), 3, none⟩,
    ⟨some 22, (Op.binOp BinOp.lss 3 (Operand.tmp 20) (Operand.tmp 21) 3), 4, none⟩]) (.cond (Operand.tmp 22) .skip (.exit 2))) (.seq (.block 3 (.seq (.ops [⟨some 27, (Op.move (Operand.tmp 0)), 23, none⟩,
    ⟨some 28, (Op.move (Operand.tmp 6)), 3, none⟩,
    ⟨some 26, (Op.load 29 (Operand.tmp 3)), 29, none⟩,
    ⟨some 29, (Op.indexAddr 23 (Operand.tmp 27) (Operand.tmp 28)), 0, none⟩,
    ⟨some 30, (Op.load 3 (Operand.tmp 29)), 3, none⟩,
    ⟨some 31, (Op.binOp BinOp.and 3 (Operand.tmp 30) (Operand.const (Value.int IntKind.i64 255)) 3), 3, none⟩,
    ⟨some 32, (Op.build 35 #[(0, (Operand.const (Value.int IntKind.i64 3))), (1, (Operand.const (Value.int IntKind.i64 9))), (2, (Operand.const (Value.int IntKind.i64 100))), (4, (Operand.tmp 31))]), 35, none⟩,
    ⟨some 33, (Op.call ⟨(Callee.value (Operand.func 20)), #[(Operand.tmp 26), (Operand.tmp 32)], #[29, 35]⟩), 48, none⟩,
    ⟨some 25, (Op.move (Operand.tmp 33)), 48, none⟩,
    ⟨some 34, (Op.extract (Operand.tmp 25) 0), 29, none⟩,
    ⟨some 35, (Op.extract (Operand.tmp 25) 1), 39, none⟩,
    ⟨some 7, (Op.alloc 29), 0, none⟩,
    ⟨none, (Op.store 29 (Operand.tmp 7) (Operand.tmp 34)), 0, none⟩,
    ⟨some 8, (Op.assign (Operand.tmp 35)), 39, none⟩]) (.seq (.seq (.ops [⟨some 36, (Op.move (Operand.tmp 8)), 39, none⟩,
    ⟨some 37, (Op.call ⟨(Callee.value (Operand.func 24)), #[(Operand.tmp 36)], #[39]⟩), 3, none⟩,
    ⟨some 38, (Op.binOp BinOp.neq 3 (Operand.tmp 37) (Operand.const (Value.int IntKind.i64 0)) 3), 4, none⟩]) (.cond (Operand.tmp 38) (.seq (.ops [⟨some 2, (Op.assign (Operand.const (Value.bool false))), 4, none⟩]) .ret) .skip)) (.ops [⟨some 39, (Op.load 29 (Operand.tmp 7)), 29, none⟩,
    ⟨none, (Op.store 29 (Operand.tmp 3) (Operand.tmp 39)), 0, none⟩])))) (.ops [⟨some 23, (Op.move (Operand.tmp 6)), 3, none⟩,
    ⟨some 24, (Op.binOp BinOp.add 3 (Operand.tmp 23) (Operand.const (Value.int IntKind.i64 1)) 3), 3, none⟩,
    ⟨some 6, (Op.assign (Operand.tmp 24)), 3, none⟩])))
def c_gimmallaw21_AskLog_L0 : SC := (.seq (.seq (.ops [⟨some 16, (Op.move (Operand.tmp 5)), 3, none⟩,
    ⟨some 17, (Op.binOp BinOp.lss 3 (Operand.tmp 16) (Operand.const (Value.int IntKind.i64 3)) 3), 4, none⟩]) (.cond (Operand.tmp 17) .skip (.exit 0))) (.seq (.block 1 (.seq (.ops [⟨some 6, (Op.assign (Operand.const (Value.int IntKind.i64 0))), 3, none⟩]) (.block 2 (.loop c_gimmallaw21_AskLog_L1)))) (.ops [⟨some 18, (Op.move (Operand.tmp 5)), 3, none⟩,
    ⟨some 19, (Op.binOp BinOp.add 3 (Operand.tmp 18) (Operand.const (Value.int IntKind.i64 1)) 3), 3, none⟩,
    ⟨some 5, (Op.assign (Operand.tmp 19)), 3, none⟩])))
def c_gimmallaw21_AskLog : SF := ⟨76, [(ResultVar.tmp 2)],
  (.seq (.ops [⟨some 2, (Op.assign (Operand.const (Value.bool false))), 4, none⟩]) (.seq (.seq (.ops [⟨some 10, (Op.call ⟨(Callee.value (Operand.func 28)), #[], #[]⟩), 4, none⟩,
    ⟨some 11, (Op.unOp UnOp.not 4 (Operand.tmp 10)), 4, none⟩]) (.cond (Operand.tmp 11) (.seq (.ops [⟨some 2, (Op.assign (Operand.const (Value.bool false))), 4, none⟩]) .ret) .skip)) (.seq (.ops [⟨some 12, (Op.call ⟨(Callee.value (Operand.func 29)), #[], #[]⟩), 29, none⟩,
    ⟨some 3, (Op.alloc 29), 0, none⟩,
    ⟨none, (Op.store 29 (Operand.tmp 3) (Operand.tmp 12)), 0, none⟩]) (.seq (.ops [⟨some 13, (Op.move (Operand.tmp 0)), 23, none⟩,
    ⟨some 14, (Op.call ⟨(Callee.builtin Builtin.len), #[(Operand.tmp 13)], #[23]⟩), 3, none⟩,
    ⟨some 15, (Op.call ⟨(Callee.builtin Builtin.min), #[(Operand.tmp 14), (Operand.const (Value.int IntKind.i64 40))], #[3, 3]⟩), 3, none⟩,
    ⟨some 4, (Op.assign (Operand.tmp 15)), 3, none⟩]) (.seq (.seq (.ops [⟨some 5, (Op.assign (Operand.const (Value.int IntKind.i64 0))), 3, none⟩]) (.block 0 (.loop c_gimmallaw21_AskLog_L0))) (.seq (.seq (.ops [⟨some 40, (Op.fieldAddr 29 (Operand.tmp 3) 3), 0, none⟩,
    ⟨some 41, (Op.load 27 (Operand.tmp 40)), 27, none⟩,
    ⟨some 42, (Op.call ⟨(Callee.builtin Builtin.len), #[(Operand.tmp 41)], #[27]⟩), 3, none⟩,
    ⟨some 43, (Op.move (Operand.tmp 4)), 3, none⟩,
    ⟨some 44, (Op.binOp BinOp.mul 3 (Operand.const (Value.int IntKind.i64 3)) (Operand.tmp 43) 3), 3, none⟩,
    ⟨some 45, (Op.call ⟨(Callee.builtin Builtin.min), #[(Operand.tmp 44), (Operand.const (Value.int IntKind.i64 64))], #[3, 3]⟩), 3, none⟩,
    ⟨some 46, (Op.binOp BinOp.neq 3 (Operand.tmp 42) (Operand.tmp 45) 3), 4, none⟩]) (.cond (Operand.tmp 46) (.seq (.ops [⟨some 2, (Op.assign (Operand.const (Value.bool false))), 4, none⟩]) .ret) .skip)) (.seq (.seq (.ops [⟨some 9, (Op.assign (Operand.const (Value.int IntKind.i64 0))), 3, none⟩]) (.block 4 (.loop c_gimmallaw21_AskLog_L2))) (.seq (.ops [⟨some 2, (Op.assign (Operand.const (Value.bool true))), 4, none⟩]) .ret))))))))⟩
theorem is_gimmallaw21_AskLog (c : Cfg) (h : c.lendT = []) : isF PP c 6 c_gimmallaw21_AskLog := isF_of (fn := Proofs.Try.f6) (by kernel_rfl) (by kernel_rfl) rfl h (by kernel_rfl) rfl rfl (by kernel_rfl)
def c_ask_Get : SF := ⟨53, [(ResultVar.cell 4 29), (ResultVar.tmp 5), (ResultVar.tmp 6)],
  (.seq (.ops [⟨some 2, (Op.box 29 (Operand.tmp 0)), 0, none⟩,
    ⟨some 4, (Op.alloc 29), 0, none⟩,
    ⟨some 5, (Op.assign (Operand.const (Value.slice none 0 0))), 38, none⟩,
    ⟨some 6, (Op.assign (Operand.const (Value.int IntKind.i64 0))), 39, none⟩]) (.seq (.seq (.ops [⟨some 12, (Op.load 29 (Operand.tmp 2)), 29, none⟩,
    ⟨some 13, (Op.call ⟨(Callee.value (Operand.func 46)), #[(Operand.tmp 12)], #[29]⟩), 4, none⟩,
    ⟨some 14, (Op.unOp UnOp.not 4 (Operand.tmp 13)), 4, none⟩,
    ⟨some 15, (Op.move (Operand.tmp 14)), 4, none⟩,
    ⟨some 16, (Op.move (Operand.tmp 1)), 3, some (15, false)⟩,
    ⟨some 17, (Op.call ⟨(Callee.value (Operand.func 47)), #[(Operand.tmp 16)], #[3]⟩), 4, some (15, false)⟩,
    ⟨some 18, (Op.unOp UnOp.not 4 (Operand.tmp 17)), 4, some (15, false)⟩,
    ⟨some 19, (Op.pick (Operand.tmp 15) (Operand.const (Value.bool true)) (Operand.tmp 18)), 4, none⟩]) (.cond (Operand.tmp 19) (.seq (.ops [⟨some 20, (Op.build 29 #[]), 29, none⟩,
    ⟨none, (Op.store 29 (Operand.tmp 4) (Operand.tmp 20)), 0, none⟩,
    ⟨some 5, (Op.assign (Operand.const (Value.slice none 0 0))), 38, none⟩,
    ⟨some 6, (Op.assign (Operand.const (Value.int IntKind.i64 2100))), 39, none⟩]) .ret) .skip)) (.seq (.ops [⟨some 21, (Op.fieldAddr 29 (Operand.tmp 2) 1), 0, none⟩,
    ⟨some 22, (Op.fieldAddr 25 (Operand.tmp 21) 0), 0, none⟩,
    ⟨some 23, (Op.load 3 (Operand.tmp 22)), 3, none⟩,
    ⟨some 7, (Op.assign (Operand.tmp 23)), 3, none⟩]) (.seq (.ops [⟨some 25, (Op.fieldAddr 29 (Operand.tmp 2) 1), 0, none⟩,
    ⟨some 26, (Op.load 25 (Operand.tmp 25)), 25, none⟩,
    ⟨some 27, (Op.move (Operand.tmp 1)), 3, none⟩,
    ⟨some 28, (Op.call ⟨(Callee.value (Operand.func 48)), #[(Operand.tmp 26), (Operand.tmp 27)], #[25, 3]⟩), 89, none⟩,
    ⟨some 24, (Op.move (Operand.tmp 28)), 89, none⟩,
    ⟨some 29, (Op.extract (Operand.tmp 24) 0), 3, none⟩,
    ⟨some 30, (Op.extract (Operand.tmp 24) 1), 39, none⟩,
    ⟨some 8, (Op.assign (Operand.tmp 29)), 3, none⟩,
    ⟨some 9, (Op.assign (Operand.tmp 30)), 39, none⟩]) (.seq (.seq (.ops [⟨some 31, (Op.move (Operand.tmp 8)), 3, none⟩,
    ⟨some 32, (Op.move (Operand.tmp 7)), 3, none⟩,
    ⟨some 33, (Op.binOp BinOp.eql 3 (Operand.tmp 31) (Operand.tmp 32) 3), 4, none⟩]) (.cond (Operand.tmp 33) (.seq (.ops [⟨some 35, (Op.fieldAddr 29 (Operand.tmp 2) 2), 0, none⟩,
    ⟨some 36, (Op.load 26 (Operand.tmp 35)), 26, none⟩,
    ⟨some 37, (Op.move (Operand.tmp 1)), 3, none⟩,
    ⟨some 38, (Op.call ⟨(Callee.value (Operand.func 49)), #[(Operand.tmp 36), (Operand.tmp 37)], #[26, 3]⟩), 63, none⟩,
    ⟨some 34, (Op.move (Operand.tmp 38)), 63, none⟩,
    ⟨some 39, (Op.extract (Operand.tmp 34) 0), 33, none⟩,
    ⟨some 40, (Op.extract (Operand.tmp 34) 1), 4, none⟩,
    ⟨some 10, (Op.alloc 33), 0, none⟩,
    ⟨none, (Op.store 33 (Operand.tmp 10) (Operand.tmp 39)), 0, none⟩,
    ⟨some 11, (Op.assign (Operand.tmp 40)), 4, none⟩]) (.seq (.ops [⟨some 41, (Op.load 29 (Operand.tmp 2)), 29, none⟩,
    ⟨some 42, (Op.move (Operand.tmp 1)), 3, none⟩,
    ⟨some 43, (Op.load 33 (Operand.tmp 10)), 33, none⟩,
    ⟨some 44, (Op.move (Operand.tmp 11)), 4, none⟩,
    ⟨some 45, (Op.call ⟨(Callee.value (Operand.func 50)), #[(Operand.tmp 41), (Operand.tmp 42), (Operand.tmp 43), (Operand.tmp 44)], #[29, 3, 33, 4]⟩), 29, none⟩,
    ⟨none, (Op.store 29 (Operand.tmp 4) (Operand.tmp 45)), 0, none⟩,
    ⟨some 5, (Op.assign (Operand.const (Value.slice none 0 0))), 38, none⟩,
    ⟨some 6, (Op.assign (Operand.const (Value.int IntKind.i64 0))), 39, none⟩]) .ret)) .skip)) (.seq (.ops [⟨some 46, (Op.load 29 (Operand.tmp 2)), 29, none⟩,
    ⟨some 47, (Op.call ⟨(Callee.value (Operand.func 51)), #[(Operand.tmp 46)], #[29]⟩), 29, none⟩,
    ⟨some 48, (Op.move (Operand.tmp 7)), 3, none⟩,
    ⟨some 49, (Op.move (Operand.tmp 8)), 3, none⟩,
    ⟨some 50, (Op.move (Operand.tmp 1)), 3, none⟩,
    ⟨some 51, (Op.build 35 #[(0, (Operand.const (Value.int IntKind.i64 2))), (1, (Operand.tmp 48)), (2, (Operand.tmp 49)), (4, (Operand.tmp 50))]), 35, none⟩,
    ⟨some 52, (Op.buildSlice 38 1 #[(0, (Operand.tmp 51))]), 38, none⟩,
    ⟨none, (Op.store 29 (Operand.tmp 4) (Operand.tmp 47)), 0, none⟩,
    ⟨some 5, (Op.assign (Operand.tmp 52)), 38, none⟩,
    ⟨some 6, (Op.assign (Operand.const (Value.int IntKind.i64 0))), 39, none⟩]) .ret))))))⟩
theorem is_ask_Get (c : Cfg) (h : c.lendT = []) : isF PP c 16 c_ask_Get := isF_of (fn := Proofs.Try.f16) (by kernel_rfl) (by kernel_rfl) rfl h (by kernel_rfl) rfl rfl (by kernel_rfl)
def c_ask_Answer : SF := ⟨29, [(ResultVar.tmp 4), (ResultVar.tmp 5)],
  (.seq (.ops [⟨some 2, (Op.box 29 (Operand.tmp 0)), 0, none⟩,
    ⟨some 3, (Op.box 35 (Operand.tmp 1)), 0, none⟩,
    ⟨some 4, (Op.assign (Operand.const (Value.slice none 0 0))), 38, none⟩,
    ⟨some 5, (Op.assign (Operand.const (Value.int IntKind.i64 0))), 39, none⟩]) (.seq (.seq (.ops [⟨some 8, (Op.call ⟨(Callee.value (Operand.func 56)), #[(Operand.tmp 2), (Operand.tmp 3), (Operand.const (Value.int IntKind.i64 2))], #[93, 94, 3]⟩), 4, none⟩,
    ⟨some 9, (Op.unOp UnOp.not 4 (Operand.tmp 8)), 4, none⟩]) (.cond (Operand.tmp 9) (.seq (.ops [⟨some 4, (Op.assign (Operand.const (Value.slice none 0 0))), 38, none⟩,
    ⟨some 5, (Op.assign (Operand.const (Value.int IntKind.i64 2100))), 39, none⟩]) .ret) .skip)) (.seq (.ops [⟨some 11, (Op.fieldAddr 29 (Operand.tmp 2) 2), 0, none⟩,
    ⟨some 12, (Op.load 26 (Operand.tmp 11)), 26, none⟩,
    ⟨some 13, (Op.fieldAddr 35 (Operand.tmp 3) 4), 0, none⟩,
    ⟨some 14, (Op.load 3 (Operand.tmp 13)), 3, none⟩,
    ⟨some 15, (Op.call ⟨(Callee.value (Operand.func 49)), #[(Operand.tmp 12), (Operand.tmp 14)], #[26, 3]⟩), 63, none⟩,
    ⟨some 10, (Op.move (Operand.tmp 15)), 63, none⟩,
    ⟨some 16, (Op.extract (Operand.tmp 10) 0), 33, none⟩,
    ⟨some 17, (Op.extract (Operand.tmp 10) 1), 4, none⟩,
    ⟨some 6, (Op.alloc 33), 0, none⟩,
    ⟨none, (Op.store 33 (Operand.tmp 6) (Operand.tmp 16)), 0, none⟩,
    ⟨some 7, (Op.assign (Operand.tmp 17)), 4, none⟩]) (.seq (.ops [⟨some 18, (Op.fieldAddr 29 (Operand.tmp 2) 1), 0, none⟩,
    ⟨some 19, (Op.fieldAddr 25 (Operand.tmp 18) 0), 0, none⟩,
    ⟨some 20, (Op.load 3 (Operand.tmp 19)), 3, none⟩,
    ⟨some 21, (Op.fieldAddr 35 (Operand.tmp 3) 1), 0, none⟩,
    ⟨some 22, (Op.load 3 (Operand.tmp 21)), 3, none⟩,
    ⟨some 23, (Op.fieldAddr 35 (Operand.tmp 3) 4), 0, none⟩,
    ⟨some 24, (Op.load 3 (Operand.tmp 23)), 3, none⟩,
    ⟨some 25, (Op.load 33 (Operand.tmp 6)), 33, none⟩,
    ⟨some 26, (Op.move (Operand.tmp 7)), 4, none⟩,
    ⟨some 27, (Op.build 35 #[(0, (Operand.const (Value.int IntKind.i64 3))), (1, (Operand.tmp 20)), (2, (Operand.tmp 22)), (4, (Operand.tmp 24)), (5, (Operand.tmp 25)), (6, (Operand.tmp 26))]), 35, none⟩,
    ⟨some 28, (Op.buildSlice 38 1 #[(0, (Operand.tmp 27))]), 38, none⟩,
    ⟨some 4, (Op.assign (Operand.tmp 28)), 38, none⟩,
    ⟨some 5, (Op.assign (Operand.const (Value.int IntKind.i64 0))), 39, none⟩]) .ret))))⟩
theorem is_ask_Answer (c : Cfg) (h : c.lendT = []) : isF PP c 18 c_ask_Answer := isF_of (fn := Proofs.Try.f18) (by kernel_rfl) (by kernel_rfl) rfl h (by kernel_rfl) rfl rfl (by kernel_rfl)
def c_ask_Told : SF := ⟨17, [(ResultVar.cell 4 29), (ResultVar.tmp 5)],
  (.seq (.ops [⟨some 2, (Op.box 29 (Operand.tmp 0)), 0, none⟩,
    ⟨some 3, (Op.box 35 (Operand.tmp 1)), 0, none⟩,
    ⟨some 4, (Op.alloc 29), 0, none⟩,
    ⟨some 5, (Op.assign (Operand.const (Value.int IntKind.i64 0))), 39, none⟩]) (.seq (.seq (.ops [⟨some 6, (Op.call ⟨(Callee.value (Operand.func 56)), #[(Operand.tmp 2), (Operand.tmp 3), (Operand.const (Value.int IntKind.i64 3))], #[93, 94, 3]⟩), 4, none⟩,
    ⟨some 7, (Op.unOp UnOp.not 4 (Operand.tmp 6)), 4, none⟩]) (.cond (Operand.tmp 7) (.seq (.ops [⟨some 8, (Op.build 29 #[]), 29, none⟩,
    ⟨none, (Op.store 29 (Operand.tmp 4) (Operand.tmp 8)), 0, none⟩,
    ⟨some 5, (Op.assign (Operand.const (Value.int IntKind.i64 2100))), 39, none⟩]) .ret) .skip)) (.seq (.ops [⟨some 9, (Op.load 29 (Operand.tmp 2)), 29, none⟩,
    ⟨some 10, (Op.fieldAddr 35 (Operand.tmp 3) 4), 0, none⟩,
    ⟨some 11, (Op.load 3 (Operand.tmp 10)), 3, none⟩,
    ⟨some 12, (Op.fieldAddr 35 (Operand.tmp 3) 5), 0, none⟩,
    ⟨some 13, (Op.load 33 (Operand.tmp 12)), 33, none⟩,
    ⟨some 14, (Op.fieldAddr 35 (Operand.tmp 3) 6), 0, none⟩,
    ⟨some 15, (Op.load 4 (Operand.tmp 14)), 4, none⟩,
    ⟨some 16, (Op.call ⟨(Callee.value (Operand.func 50)), #[(Operand.tmp 9), (Operand.tmp 11), (Operand.tmp 13), (Operand.tmp 15)], #[29, 3, 33, 4]⟩), 29, none⟩,
    ⟨none, (Op.store 29 (Operand.tmp 4) (Operand.tmp 16)), 0, none⟩,
    ⟨some 5, (Op.assign (Operand.const (Value.int IntKind.i64 0))), 39, none⟩]) .ret)))⟩
theorem is_ask_Told (c : Cfg) (h : c.lendT = []) : isF PP c 20 c_ask_Told := isF_of (fn := Proofs.Try.f20) (by kernel_rfl) (by kernel_rfl) rfl h (by kernel_rfl) rfl rfl (by kernel_rfl)
end Go.AM
/- AM: this seat's functions in short. -/
namespace Go.AM
set_option linter.unusedSimpArgs false
set_option linter.unusedVariables false
def c_gimmallaw0_Num : SF := ⟨4, [(ResultVar.tmp 2)],
  (.seq (.ops [⟨some 2, (Op.assign (Operand.const (Value.int IntKind.i64 0))), 3, none⟩]) (.seq (.ops [⟨some 3, (Op.move (Operand.tmp 0)), 39, none⟩,
    ⟨some 2, (Op.assign (Operand.tmp 3)), 3, none⟩]) .ret))⟩
theorem is_gimmallaw0_Num (c : Cfg) (h : c.lendT = []) : isF PP c 24 c_gimmallaw0_Num := isF_of (fn := Proofs.Try.f24) (by kernel_rfl) (by kernel_rfl) rfl h (by kernel_rfl) rfl rfl (by kernel_rfl)
def c_gimmallaw21_awake : SF := ⟨128, [(ResultVar.tmp 0)],
  (.seq (.ops [⟨some 0, (Op.assign (Operand.const (Value.bool false))), 4, none⟩]) (.seq (.ops [⟨some 17, (Op.call ⟨(Callee.value (Operand.func 29)), #[], #[]⟩), 29, none⟩,
    ⟨some 18, (Op.call ⟨(Callee.value (Operand.func 16)), #[(Operand.tmp 17), (Operand.const (Value.int IntKind.i64 99))], #[29, 3]⟩), 40, none⟩,
    ⟨some 16, (Op.move (Operand.tmp 18)), 40, none⟩,
    ⟨some 19, (Op.extract (Operand.tmp 16) 0), 29, none⟩,
    ⟨some 20, (Op.extract (Operand.tmp 16) 1), 38, none⟩,
    ⟨some 21, (Op.extract (Operand.tmp 16) 2), 39, none⟩,
    ⟨some 1, (Op.alloc 29), 0, none⟩,
    ⟨none, (Op.store 29 (Operand.tmp 1) (Operand.tmp 19)), 0, none⟩,
    ⟨some 2, (Op.assign (Operand.tmp 20)), 38, none⟩,
    ⟨some 3, (Op.assign (Operand.tmp 21)), 39, none⟩]) (.seq (.ops [⟨some 23, (Op.call ⟨(Callee.value (Operand.func 29)), #[], #[]⟩), 29, none⟩,
    ⟨some 24, (Op.call ⟨(Callee.value (Operand.func 16)), #[(Operand.tmp 23), (Operand.const (Value.int IntKind.i64 250))], #[29, 3]⟩), 40, none⟩,
    ⟨some 22, (Op.move (Operand.tmp 24)), 40, none⟩,
    ⟨some 25, (Op.extract (Operand.tmp 22) 0), 29, none⟩,
    ⟨some 26, (Op.extract (Operand.tmp 22) 1), 38, none⟩,
    ⟨some 27, (Op.extract (Operand.tmp 22) 2), 39, none⟩,
    ⟨some 4, (Op.alloc 29), 0, none⟩,
    ⟨none, (Op.store 29 (Operand.tmp 4) (Operand.tmp 25)), 0, none⟩,
    ⟨some 5, (Op.assign (Operand.tmp 26)), 38, none⟩,
    ⟨some 6, (Op.assign (Operand.tmp 27)), 39, none⟩]) (.seq (.ops [⟨some 29, (Op.call ⟨(Callee.value (Operand.func 29)), #[], #[]⟩), 29, none⟩,
    ⟨some 30, (Op.build 35 #[(0, (Operand.const (Value.int IntKind.i64 2))), (1, (Operand.const (Value.int IntKind.i64 9))), (2, (Operand.const (Value.int IntKind.i64 100))), (4, (Operand.const (Value.int IntKind.i64 95)))]), 35, none⟩,
    ⟨some 31, (Op.call ⟨(Callee.value (Operand.func 18)), #[(Operand.tmp 29), (Operand.tmp 30)], #[29, 35]⟩), 44, none⟩,
    ⟨some 28, (Op.move (Operand.tmp 31)), 44, none⟩,
    ⟨some 32, (Op.extract (Operand.tmp 28) 0), 38, none⟩,
    ⟨some 33, (Op.extract (Operand.tmp 28) 1), 39, none⟩,
    ⟨some 7, (Op.assign (Operand.tmp 32)), 38, none⟩,
    ⟨some 8, (Op.assign (Operand.tmp 33)), 39, none⟩]) (.seq (.ops [⟨some 35, (Op.call ⟨(Callee.value (Operand.func 29)), #[], #[]⟩), 29, none⟩,
    ⟨some 36, (Op.build 35 #[(0, (Operand.const (Value.int IntKind.i64 3))), (1, (Operand.const (Value.int IntKind.i64 9))), (2, (Operand.const (Value.int IntKind.i64 100))), (4, (Operand.const (Value.int IntKind.i64 5)))]), 35, none⟩,
    ⟨some 37, (Op.call ⟨(Callee.value (Operand.func 20)), #[(Operand.tmp 35), (Operand.tmp 36)], #[29, 35]⟩), 48, none⟩,
    ⟨some 34, (Op.move (Operand.tmp 37)), 48, none⟩,
    ⟨some 38, (Op.extract (Operand.tmp 34) 0), 29, none⟩,
    ⟨some 39, (Op.extract (Operand.tmp 34) 1), 39, none⟩,
    ⟨some 9, (Op.alloc 29), 0, none⟩,
    ⟨none, (Op.store 29 (Operand.tmp 9) (Operand.tmp 38)), 0, none⟩,
    ⟨some 10, (Op.assign (Operand.tmp 39)), 39, none⟩]) (.seq (.ops [⟨some 41, (Op.call ⟨(Callee.value (Operand.func 29)), #[], #[]⟩), 29, none⟩,
    ⟨some 42, (Op.call ⟨(Callee.value (Operand.func 16)), #[(Operand.tmp 41), (Operand.const (Value.int IntKind.i64 256))], #[29, 3]⟩), 40, none⟩,
    ⟨some 40, (Op.move (Operand.tmp 42)), 40, none⟩,
    ⟨some 43, (Op.extract (Operand.tmp 40) 0), 29, none⟩,
    ⟨some 44, (Op.extract (Operand.tmp 40) 1), 38, none⟩,
    ⟨some 45, (Op.extract (Operand.tmp 40) 2), 39, none⟩,
    ⟨some 11, (Op.alloc 29), 0, none⟩,
    ⟨none, (Op.store 29 (Operand.tmp 11) (Operand.tmp 43)), 0, none⟩,
    ⟨some 12, (Op.assign (Operand.tmp 44)), 38, none⟩,
    ⟨some 13, (Op.assign (Operand.tmp 45)), 39, none⟩]) (.seq (.ops [⟨some 47, (Op.call ⟨(Callee.value (Operand.func 29)), #[], #[]⟩), 29, none⟩,
    ⟨some 48, (Op.build 35 #[(0, (Operand.const (Value.int IntKind.i64 2))), (1, (Operand.const (Value.int IntKind.i64 9))), (2, (Operand.const (Value.int IntKind.i64 101))), (4, (Operand.const (Value.int IntKind.i64 95)))]), 35, none⟩,
    ⟨some 49, (Op.call ⟨(Callee.value (Operand.func 18)), #[(Operand.tmp 47), (Operand.tmp 48)], #[29, 35]⟩), 44, none⟩,
    ⟨some 46, (Op.move (Operand.tmp 49)), 44, none⟩,
    ⟨some 50, (Op.extract (Operand.tmp 46) 0), 38, none⟩,
    ⟨some 51, (Op.extract (Operand.tmp 46) 1), 39, none⟩,
    ⟨some 14, (Op.assign (Operand.tmp 50)), 38, none⟩,
    ⟨some 15, (Op.assign (Operand.tmp 51)), 39, none⟩]) (.seq (.seq (.ops [⟨some 52, (Op.move (Operand.tmp 7)), 38, none⟩,
    ⟨some 53, (Op.call ⟨(Callee.builtin Builtin.len), #[(Operand.tmp 52)], #[38]⟩), 3, none⟩,
    ⟨some 54, (Op.binOp BinOp.neq 3 (Operand.tmp 53) (Operand.const (Value.int IntKind.i64 1)) 3), 4, none⟩,
    ⟨some 55, (Op.move (Operand.tmp 54)), 4, none⟩,
    ⟨some 56, (Op.move (Operand.tmp 5)), 38, some (55, false)⟩,
    ⟨some 57, (Op.call ⟨(Callee.builtin Builtin.len), #[(Operand.tmp 56)], #[38]⟩), 3, some (55, false)⟩,
    ⟨some 58, (Op.binOp BinOp.neq 3 (Operand.tmp 57) (Operand.const (Value.int IntKind.i64 1)) 3), 4, some (55, false)⟩,
    ⟨some 59, (Op.pick (Operand.tmp 55) (Operand.const (Value.bool true)) (Operand.tmp 58)), 4, none⟩]) (.cond (Operand.tmp 59) (.seq (.ops [⟨some 0, (Op.assign (Operand.const (Value.bool false))), 4, none⟩]) .ret) .skip)) (.seq (.ops [⟨some 60, (Op.fieldAddr 29 (Operand.tmp 1) 3), 0, none⟩,
    ⟨some 61, (Op.load 27 (Operand.tmp 60)), 27, none⟩,
    ⟨some 62, (Op.build 66 #[(0, (Operand.const (Value.int IntKind.i64 99))), (1, (Operand.const (Value.bool true))), (2, (Operand.const (Value.int IntKind.i64 3)))]), 66, none⟩,
    ⟨some 63, (Op.buildSlice 27 1 #[(0, (Operand.tmp 62))]), 27, none⟩,
    ⟨some 64, (Op.call ⟨(Callee.value (Operand.func 36)), #[(Operand.tmp 61), (Operand.tmp 63)], #[27, 27]⟩), 4, none⟩,
    ⟨some 65, (Op.move (Operand.tmp 64)), 4, none⟩,
    ⟨some 66, (Op.move (Operand.tmp 2)), 38, some (65, true)⟩,
    ⟨some 67, (Op.call ⟨(Callee.builtin Builtin.len), #[(Operand.tmp 66)], #[38]⟩), 3, some (65, true)⟩,
    ⟨some 68, (Op.binOp BinOp.eql 3 (Operand.tmp 67) (Operand.const (Value.int IntKind.i64 0)) 3), 4, some (65, true)⟩,
    ⟨some 69, (Op.pick (Operand.tmp 65) (Operand.tmp 68) (Operand.const (Value.bool false))), 4, none⟩,
    ⟨some 70, (Op.move (Operand.tmp 69)), 4, none⟩,
    ⟨some 71, (Op.move (Operand.tmp 3)), 39, some (70, true)⟩,
    ⟨some 72, (Op.call ⟨(Callee.value (Operand.func 24)), #[(Operand.tmp 71)], #[39]⟩), 3, some (70, true)⟩,
    ⟨some 73, (Op.binOp BinOp.eql 3 (Operand.tmp 72) (Operand.const (Value.int IntKind.i64 0)) 3), 4, some (70, true)⟩,
    ⟨some 74, (Op.pick (Operand.tmp 70) (Operand.tmp 73) (Operand.const (Value.bool false))), 4, none⟩,
    ⟨some 75, (Op.move (Operand.tmp 74)), 4, none⟩,
    ⟨some 76, (Op.move (Operand.tmp 5)), 38, some (75, true)⟩,
    ⟨some 77, (Op.indexAddr 38 (Operand.tmp 76) (Operand.const (Value.int IntKind.i64 0))), 0, some (75, true)⟩,
    ⟨some 78, (Op.fieldAddr 35 (Operand.tmp 77) 2), 0, some (75, true)⟩,
    ⟨some 79, (Op.load 3 (Operand.tmp 78)), 3, some (75, true)⟩,
    ⟨some 80, (Op.binOp BinOp.eql 3 (Operand.tmp 79) (Operand.const (Value.int IntKind.i64 90)) 3), 4, some (75, true)⟩,
    ⟨some 81, (Op.pick (Operand.tmp 75) (Operand.tmp 80) (Operand.const (Value.bool false))), 4, none⟩,
    ⟨some 82, (Op.move (Operand.tmp 81)), 4, none⟩,
    ⟨some 83, (Op.move (Operand.tmp 6)), 39, some (82, true)⟩,
    ⟨some 84, (Op.call ⟨(Callee.value (Operand.func 24)), #[(Operand.tmp 83)], #[39]⟩), 3, some (82, true)⟩,
    ⟨some 85, (Op.binOp BinOp.eql 3 (Operand.tmp 84) (Operand.const (Value.int IntKind.i64 0)) 3), 4, some (82, true)⟩,
    ⟨some 86, (Op.pick (Operand.tmp 82) (Operand.tmp 85) (Operand.const (Value.bool false))), 4, none⟩,
    ⟨some 87, (Op.move (Operand.tmp 86)), 4, none⟩,
    ⟨some 88, (Op.move (Operand.tmp 7)), 38, some (87, true)⟩,
    ⟨some 89, (Op.indexAddr 38 (Operand.tmp 88) (Operand.const (Value.int IntKind.i64 0))), 0, some (87, true)⟩,
    ⟨some 90, (Op.fieldAddr 35 (Operand.tmp 89) 6), 0, some (87, true)⟩,
    ⟨some 91, (Op.load 4 (Operand.tmp 90)), 4, some (87, true)⟩,
    ⟨some 92, (Op.pick (Operand.tmp 87) (Operand.tmp 91) (Operand.const (Value.bool false))), 4, none⟩,
    ⟨some 93, (Op.move (Operand.tmp 92)), 4, none⟩,
    ⟨some 94, (Op.move (Operand.tmp 7)), 38, some (93, true)⟩,
    ⟨some 95, (Op.indexAddr 38 (Operand.tmp 94) (Operand.const (Value.int IntKind.i64 0))), 0, some (93, true)⟩,
    ⟨some 96, (Op.fieldAddr 35 (Operand.tmp 95) 5), 0, some (93, true)⟩,
    ⟨some 97, (Op.load 33 (Operand.tmp 96)), 33, some (93, true)⟩,
    ⟨some 98, (Op.call ⟨(Callee.value (Operand.func 30)), #[(Operand.const (Value.int IntKind.i64 95)), (Operand.const (Value.int IntKind.i64 1))], #[3, 3]⟩), 33, some (93, true)⟩,
    ⟨some 99, (Op.binOp BinOp.eql 33 (Operand.tmp 97) (Operand.tmp 98) 33), 4, some (93, true)⟩,
    ⟨some 100, (Op.pick (Operand.tmp 93) (Operand.tmp 99) (Operand.const (Value.bool false))), 4, none⟩,
    ⟨some 101, (Op.move (Operand.tmp 100)), 4, none⟩,
    ⟨some 102, (Op.move (Operand.tmp 8)), 39, some (101, true)⟩,
    ⟨some 103, (Op.call ⟨(Callee.value (Operand.func 24)), #[(Operand.tmp 102)], #[39]⟩), 3, some (101, true)⟩,
    ⟨some 104, (Op.binOp BinOp.eql 3 (Operand.tmp 103) (Operand.const (Value.int IntKind.i64 0)) 3), 4, some (101, true)⟩,
    ⟨some 105, (Op.pick (Operand.tmp 101) (Operand.tmp 104) (Operand.const (Value.bool false))), 4, none⟩,
    ⟨some 106, (Op.move (Operand.tmp 105)), 4, none⟩,
    ⟨some 107, (Op.fieldAddr 29 (Operand.tmp 9) 3), 0, some (106, true)⟩,
    ⟨some 108, (Op.load 27 (Operand.tmp 107)), 27, some (106, true)⟩,
    ⟨some 109, (Op.build 66 #[(0, (Operand.const (Value.int IntKind.i64 5)))]), 66, some (106, true)⟩,
    ⟨some 110, (Op.buildSlice 27 1 #[(0, (Operand.tmp 109))]), 27, some (106, true)⟩,
    ⟨some 111, (Op.call ⟨(Callee.value (Operand.func 36)), #[(Operand.tmp 108), (Operand.tmp 110)], #[27, 27]⟩), 4, some (106, true)⟩,
    ⟨some 112, (Op.pick (Operand.tmp 106) (Operand.tmp 111) (Operand.const (Value.bool false))), 4, none⟩,
    ⟨some 113, (Op.move (Operand.tmp 112)), 4, none⟩,
    ⟨some 114, (Op.move (Operand.tmp 10)), 39, some (113, true)⟩,
    ⟨some 115, (Op.call ⟨(Callee.value (Operand.func 24)), #[(Operand.tmp 114)], #[39]⟩), 3, some (113, true)⟩,
    ⟨some 116, (Op.binOp BinOp.eql 3 (Operand.tmp 115) (Operand.const (Value.int IntKind.i64 0)) 3), 4, some (113, true)⟩,
    ⟨some 117, (Op.pick (Operand.tmp 113) (Operand.tmp 116) (Operand.const (Value.bool false))), 4, none⟩,
    ⟨some 118, (Op.move (Operand.tmp 117)), 4, none⟩,
    ⟨some 119, (Op.move (Operand.tmp 13)), 39, some (118, true)⟩,
    ⟨some 120, (Op.call ⟨(Callee.value (Operand.func 24)), #[(Operand.tmp 119)], #[39]⟩), 3, some (118, true)⟩,
    ⟨some 121, (Op.binOp BinOp.eql 3 (Operand.tmp 120) (Operand.const (Value.int IntKind.i64 2100)) 3), 4, some (118, true)⟩,
    ⟨some 122, (Op.pick (Operand.tmp 118) (Operand.tmp 121) (Operand.const (Value.bool false))), 4, none⟩,
    ⟨some 123, (Op.move (Operand.tmp 122)), 4, none⟩,
    ⟨some 124, (Op.move (Operand.tmp 15)), 39, some (123, true)⟩,
    ⟨some 125, (Op.call ⟨(Callee.value (Operand.func 24)), #[(Operand.tmp 124)], #[39]⟩), 3, some (123, true)⟩,
    ⟨some 126, (Op.binOp BinOp.eql 3 (Operand.tmp 125) (Operand.const (Value.int IntKind.i64 2100)) 3), 4, some (123, true)⟩,
    ⟨some 127, (Op.pick (Operand.tmp 123) (Operand.tmp 126) (Operand.const (Value.bool false))), 4, none⟩,
    ⟨some 0, (Op.assign (Operand.tmp 127)), 4, none⟩]) .ret)))))))))⟩
theorem is_gimmallaw21_awake (c : Cfg) (h : c.lendT = []) : isF PP c 28 c_gimmallaw21_awake := isF_of (fn := Proofs.Try.f28) (by kernel_rfl) (by kernel_rfl) rfl h (by kernel_rfl) rfl rfl (by kernel_rfl)
def c_gimmallaw21_node100 : SF := ⟨12, [(ResultVar.cell 0 29)],
  (.seq (.ops [⟨some 0, (Op.alloc 29), 0, none⟩]) (.seq (.ops [⟨some 1, (Op.build 102 #[(0, (Operand.const (Value.int IntKind.i64 101))), (1, (Operand.const (Value.int IntKind.i64 2)))]), 102, none⟩,
    ⟨some 2, (Op.build 102 #[(0, (Operand.const (Value.int IntKind.i64 200)))]), 102, none⟩,
    ⟨some 3, (Op.build 102 #[(0, (Operand.const (Value.int IntKind.i64 90))), (1, (Operand.const (Value.int IntKind.i64 1)))]), 102, none⟩,
    ⟨some 4, (Op.buildSlice 22 3 #[(0, (Operand.tmp 1)), (1, (Operand.tmp 2)), (2, (Operand.tmp 3))]), 22, none⟩,
    ⟨some 5, (Op.buildSlice 23 1 #[(0, (Operand.const (Value.int IntKind.i64 7)))]), 23, none⟩,
    ⟨some 6, (Op.build 25 #[(0, (Operand.const (Value.int IntKind.i64 100))), (1, (Operand.tmp 4)), (2, (Operand.tmp 5))]), 25, none⟩,
    ⟨some 7, (Op.call ⟨(Callee.value (Operand.func 30)), #[(Operand.const (Value.int IntKind.i64 95)), (Operand.const (Value.int IntKind.i64 1))], #[3, 3]⟩), 33, none⟩,
    ⟨some 8, (Op.call ⟨(Callee.value (Operand.func 30)), #[(Operand.const (Value.int IntKind.i64 99)), (Operand.const (Value.int IntKind.i64 3))], #[3, 3]⟩), 33, none⟩,
    ⟨some 9, (Op.call ⟨(Callee.value (Operand.func 30)), #[(Operand.const (Value.int IntKind.i64 250)), (Operand.const (Value.int IntKind.i64 2))], #[3, 3]⟩), 33, none⟩,
    ⟨some 10, (Op.buildSlice 26 3 #[(0, (Operand.tmp 7)), (1, (Operand.tmp 8)), (2, (Operand.tmp 9))]), 26, none⟩,
    ⟨some 11, (Op.build 29 #[(0, (Operand.const (Value.bool true))), (1, (Operand.tmp 6)), (2, (Operand.tmp 10))]), 29, none⟩,
    ⟨none, (Op.store 29 (Operand.tmp 0) (Operand.tmp 11)), 0, none⟩]) .ret))⟩
theorem is_gimmallaw21_node100 (c : Cfg) (h : c.lendT = []) : isF PP c 29 c_gimmallaw21_node100 := isF_of (fn := Proofs.Try.f29) (by kernel_rfl) (by kernel_rfl) rfl h (by kernel_rfl) rfl rfl (by kernel_rfl)
def c_gimmallaw21_it : SF := ⟨11, [(ResultVar.cell 4 33)],
  (.seq (.ops [⟨some 4, (Op.alloc 33), 0, none⟩]) (.seq (.ops [⟨some 5, (Op.move (Operand.tmp 0)), 3, none⟩,
    ⟨some 6, (Op.move (Operand.tmp 1)), 3, none⟩,
    ⟨some 7, (Op.build 31 #[(0, (Operand.tmp 6)), (1, (Operand.const (Value.int IntKind.i64 1)))]), 31, none⟩,
    ⟨some 8, (Op.move (Operand.tmp 1)), 3, none⟩,
    ⟨some 9, (Op.binOp BinOp.and 3 (Operand.tmp 8) (Operand.const (Value.int IntKind.i64 255)) 3), 3, none⟩,
    ⟨some 10, (Op.build 33 #[(0, (Operand.tmp 5)), (1, (Operand.tmp 7)), (2, (Operand.tmp 9))]), 33, none⟩,
    ⟨none, (Op.store 33 (Operand.tmp 4) (Operand.tmp 10)), 0, none⟩]) .ret))⟩
theorem is_gimmallaw21_it (c : Cfg) (h : c.lendT = []) : isF PP c 30 c_gimmallaw21_it := isF_of (fn := Proofs.Try.f30) (by kernel_rfl) (by kernel_rfl) rfl h (by kernel_rfl) rfl rfl (by kernel_rfl)
def c_gimmallaw0_SameTolds_L0 : SC := (.seq (.seq (.ops [⟨some 11, (Op.move (Operand.tmp 5)), 3, none⟩,
    ⟨some 12, (Op.move (Operand.tmp 0)), 27, none⟩,
    ⟨some 13, (Op.call ⟨(Callee.builtin Builtin.len), #[(Operand.tmp 12)], #[27]⟩), 3, none⟩,
    ⟨some 14, (Op.binOp BinOp.lss 3 (Operand.tmp 11) (Operand.tmp 13) 3), 4, none⟩]) (.cond (Operand.tmp 14) .skip (.exit 0))) (.seq (.block 1 (.seq (.ops [⟨some 17, (Op.move (Operand.tmp 0)), 27, none⟩,
    ⟨some 18, (Op.move (Operand.tmp 5)), 3, none⟩,
    ⟨some 21, (Op.move (Operand.tmp 1)), 27, none⟩,
    ⟨some 22, (Op.move (Operand.tmp 5)), 3, none⟩,
    ⟨some 19, (Op.indexAddr 27 (Operand.tmp 17) (Operand.tmp 18)), 0, none⟩,
    ⟨some 20, (Op.load 66 (Operand.tmp 19)), 66, none⟩,
    ⟨some 23, (Op.indexAddr 27 (Operand.tmp 21) (Operand.tmp 22)), 0, none⟩,
    ⟨some 24, (Op.load 66 (Operand.tmp 23)), 66, none⟩,
    ⟨some 25, (Op.binOp BinOp.neq 66 (Operand.tmp 20) (Operand.tmp 24) 66), 4, none⟩]) (.cond (Operand.tmp 25) (.seq (.ops [⟨some 4, (Op.assign (Operand.const (Value.bool false))), 4, none⟩]) .ret) .skip))) (.ops [⟨some 15, (Op.move (Operand.tmp 5)), 3, none⟩,
    ⟨some 16, (Op.binOp BinOp.add 3 (Operand.tmp 15) (Operand.const (Value.int IntKind.i64 1)) 3), 3, none⟩,
    ⟨some 5, (Op.assign (Operand.tmp 16)), 3, none⟩])))
def c_gimmallaw0_SameTolds : SF := ⟨26, [(ResultVar.tmp 4)],
  (.seq (.ops [⟨some 4, (Op.assign (Operand.const (Value.bool false))), 4, none⟩]) (.seq (.seq (.ops [⟨some 6, (Op.move (Operand.tmp 0)), 27, none⟩,
    ⟨some 7, (Op.call ⟨(Callee.builtin Builtin.len), #[(Operand.tmp 6)], #[27]⟩), 3, none⟩,
    ⟨some 8, (Op.move (Operand.tmp 1)), 27, none⟩,
    ⟨some 9, (Op.call ⟨(Callee.builtin Builtin.len), #[(Operand.tmp 8)], #[27]⟩), 3, none⟩,
    ⟨some 10, (Op.binOp BinOp.neq 3 (Operand.tmp 7) (Operand.tmp 9) 3), 4, none⟩]) (.cond (Operand.tmp 10) (.seq (.ops [⟨some 4, (Op.assign (Operand.const (Value.bool false))), 4, none⟩]) .ret) .skip)) (.seq (.seq (.ops [⟨some 5, (Op.assign (Operand.const (Value.int IntKind.i64 0))), 3, none⟩]) (.block 0 (.loop c_gimmallaw0_SameTolds_L0))) (.seq (.ops [⟨some 4, (Op.assign (Operand.const (Value.bool true))), 4, none⟩]) .ret))))⟩
theorem is_gimmallaw0_SameTolds (c : Cfg) (h : c.lendT = []) : isF PP c 36 c_gimmallaw0_SameTolds := isF_of (fn := Proofs.Try.f36) (by kernel_rfl) (by kernel_rfl) rfl h (by kernel_rfl) rfl rfl (by kernel_rfl)
def c_node_Up : SF := ⟨9, [(ResultVar.tmp 2)],
  (.seq (.ops [⟨some 1, (Op.box 29 (Operand.tmp 0)), 0, none⟩,
    ⟨some 2, (Op.assign (Operand.const (Value.bool false))), 4, none⟩]) (.seq (.ops [⟨some 3, (Op.fieldAddr 29 (Operand.tmp 1) 0), 0, none⟩,
    ⟨some 4, (Op.load 4 (Operand.tmp 3)), 4, none⟩,
    ⟨some 5, (Op.move (Operand.tmp 4)), 4, none⟩,
    ⟨some 6, (Op.load 29 (Operand.tmp 1)), 29, some (5, true)⟩,
    ⟨some 7, (Op.call ⟨(Callee.value (Operand.func 75)), #[(Operand.tmp 6)], #[29]⟩), 4, some (5, true)⟩,
    ⟨some 8, (Op.pick (Operand.tmp 5) (Operand.tmp 7) (Operand.const (Value.bool false))), 4, none⟩,
    ⟨some 2, (Op.assign (Operand.tmp 8)), 4, none⟩]) .ret))⟩
theorem is_node_Up (c : Cfg) (h : c.lendT = []) : isF PP c 46 c_node_Up := isF_of (fn := Proofs.Try.f46) (by kernel_rfl) (by kernel_rfl) rfl h (by kernel_rfl) rfl rfl (by kernel_rfl)
def c_ring_Place : SF := ⟨9, [(ResultVar.tmp 2)],
  (.seq (.ops [⟨some 2, (Op.assign (Operand.const (Value.bool false))), 4, none⟩]) (.seq (.ops [⟨some 3, (Op.move (Operand.tmp 0)), 3, none⟩,
    ⟨some 4, (Op.binOp BinOp.geq 3 (Operand.tmp 3) (Operand.const (Value.int IntKind.i64 0)) 3), 4, none⟩,
    ⟨some 5, (Op.move (Operand.tmp 4)), 4, none⟩,
    ⟨some 6, (Op.move (Operand.tmp 0)), 3, some (5, true)⟩,
    ⟨some 7, (Op.binOp BinOp.lss 3 (Operand.tmp 6) (Operand.const (Value.int IntKind.i64 256)) 3), 4, some (5, true)⟩,
    ⟨some 8, (Op.pick (Operand.tmp 5) (Operand.tmp 7) (Operand.const (Value.bool false))), 4, none⟩,
    ⟨some 2, (Op.assign (Operand.tmp 8)), 4, none⟩]) .ret))⟩
theorem is_ring_Place (c : Cfg) (h : c.lendT = []) : isF PP c 47 c_ring_Place := isF_of (fn := Proofs.Try.f47) (by kernel_rfl) (by kernel_rfl) rfl h (by kernel_rfl) rfl rfl (by kernel_rfl)
def c_view_Owner : SF := ⟨27, [(ResultVar.tmp 4), (ResultVar.tmp 5)],
  (.seq (.ops [⟨some 2, (Op.box 25 (Operand.tmp 0)), 0, none⟩,
    ⟨some 4, (Op.assign (Operand.const (Value.int IntKind.i64 0))), 3, none⟩,
    ⟨some 5, (Op.assign (Operand.const (Value.int IntKind.i64 0))), 39, none⟩]) (.seq (.seq (.ops [⟨some 8, (Op.load 25 (Operand.tmp 2)), 25, none⟩,
    ⟨some 9, (Op.call ⟨(Callee.value (Operand.func 76)), #[(Operand.tmp 8)], #[25]⟩), 4, none⟩,
    ⟨some 10, (Op.unOp UnOp.not 4 (Operand.tmp 9)), 4, none⟩,
    ⟨some 11, (Op.move (Operand.tmp 10)), 4, none⟩,
    ⟨some 12, (Op.move (Operand.tmp 1)), 3, some (11, false)⟩,
    ⟨some 13, (Op.call ⟨(Callee.value (Operand.func 47)), #[(Operand.tmp 12)], #[3]⟩), 4, some (11, false)⟩,
    ⟨some 14, (Op.unOp UnOp.not 4 (Operand.tmp 13)), 4, some (11, false)⟩,
    ⟨some 15, (Op.pick (Operand.tmp 11) (Operand.const (Value.bool true)) (Operand.tmp 14)), 4, none⟩]) (.cond (Operand.tmp 15) (.seq (.ops [⟨some 4, (Op.assign (Operand.const (Value.int IntKind.i64 0))), 3, none⟩,
    ⟨some 5, (Op.assign (Operand.const (Value.int IntKind.i64 900))), 39, none⟩]) .ret) .skip)) (.seq (.ops [⟨some 22, (Op.move (Operand.tmp 1)), 3, none⟩,
    ⟨some 17, (Op.call ⟨(Callee.value (Operand.func 78)), #[(Operand.tmp 2)], #[117]⟩), 23, none⟩,
    ⟨some 18, (Op.fieldAddr 25 (Operand.tmp 2) 0), 0, none⟩,
    ⟨some 19, (Op.load 3 (Operand.tmp 18)), 3, none⟩,
    ⟨some 20, (Op.buildSlice 23 1 #[(0, (Operand.tmp 19))]), 23, none⟩,
    ⟨some 21, (Op.call ⟨(Callee.builtin Builtin.append), #[(Operand.tmp 17), (Operand.tmp 20)], #[23, 23]⟩), 23, none⟩,
    ⟨some 23, (Op.call ⟨(Callee.value (Operand.func 77)), #[(Operand.tmp 21), (Operand.tmp 22)], #[23, 3]⟩), 89, none⟩,
    ⟨some 16, (Op.move (Operand.tmp 23)), 89, none⟩,
    ⟨some 24, (Op.extract (Operand.tmp 16) 0), 3, none⟩,
    ⟨some 25, (Op.extract (Operand.tmp 16) 1), 39, none⟩,
    ⟨some 6, (Op.assign (Operand.tmp 24)), 3, none⟩,
    ⟨some 7, (Op.assign (Operand.tmp 25)), 39, none⟩]) (.seq (.ops [⟨some 26, (Op.move (Operand.tmp 6)), 3, none⟩,
    ⟨some 4, (Op.assign (Operand.tmp 26)), 3, none⟩,
    ⟨some 5, (Op.assign (Operand.const (Value.int IntKind.i64 0))), 39, none⟩]) .ret))))⟩
theorem is_view_Owner (c : Cfg) (h : c.lendT = []) : isF PP c 48 c_view_Owner := isF_of (fn := Proofs.Try.f48) (by kernel_rfl) (by kernel_rfl) rfl h (by kernel_rfl) rfl rfl (by kernel_rfl)
def c_store_Get : SF := ⟨25, [(ResultVar.cell 4 33), (ResultVar.tmp 5)],
  (.seq (.ops [⟨some 4, (Op.alloc 33), 0, none⟩,
    ⟨some 5, (Op.assign (Operand.const (Value.bool false))), 4, none⟩]) (.seq (.seq (.ops [⟨some 8, (Op.move (Operand.tmp 0)), 26, none⟩,
    ⟨some 9, (Op.call ⟨(Callee.value (Operand.func 79)), #[(Operand.tmp 8)], #[26]⟩), 4, none⟩,
    ⟨some 10, (Op.unOp UnOp.not 4 (Operand.tmp 9)), 4, none⟩]) (.cond (Operand.tmp 10) (.seq (.ops [⟨some 11, (Op.build 33 #[]), 33, none⟩,
    ⟨none, (Op.store 33 (Operand.tmp 4) (Operand.tmp 11)), 0, none⟩,
    ⟨some 5, (Op.assign (Operand.const (Value.bool false))), 4, none⟩]) .ret) .skip)) (.seq (.ops [⟨some 13, (Op.move (Operand.tmp 0)), 26, none⟩,
    ⟨some 14, (Op.move (Operand.tmp 1)), 3, none⟩,
    ⟨some 15, (Op.call ⟨(Callee.value (Operand.func 80)), #[(Operand.tmp 13), (Operand.tmp 14), (Operand.func 81)], #[26, 3, 120]⟩), 118, none⟩,
    ⟨some 12, (Op.move (Operand.tmp 15)), 118, none⟩,
    ⟨some 16, (Op.extract (Operand.tmp 12) 0), 3, none⟩,
    ⟨some 17, (Op.extract (Operand.tmp 12) 1), 4, none⟩,
    ⟨some 6, (Op.assign (Operand.tmp 16)), 3, none⟩,
    ⟨some 7, (Op.assign (Operand.tmp 17)), 4, none⟩]) (.seq (.seq (.ops [⟨some 18, (Op.move (Operand.tmp 7)), 4, none⟩,
    ⟨some 19, (Op.unOp UnOp.not 4 (Operand.tmp 18)), 4, none⟩]) (.cond (Operand.tmp 19) (.seq (.ops [⟨some 20, (Op.build 33 #[]), 33, none⟩,
    ⟨none, (Op.store 33 (Operand.tmp 4) (Operand.tmp 20)), 0, none⟩,
    ⟨some 5, (Op.assign (Operand.const (Value.bool false))), 4, none⟩]) .ret) .skip)) (.seq (.ops [⟨some 21, (Op.move (Operand.tmp 0)), 26, none⟩,
    ⟨some 22, (Op.move (Operand.tmp 6)), 3, none⟩,
    ⟨some 23, (Op.indexAddr 26 (Operand.tmp 21) (Operand.tmp 22)), 0, none⟩,
    ⟨some 24, (Op.load 33 (Operand.tmp 23)), 33, none⟩,
    ⟨none, (Op.store 33 (Operand.tmp 4) (Operand.tmp 24)), 0, none⟩,
    ⟨some 5, (Op.assign (Operand.const (Value.bool true))), 4, none⟩]) .ret)))))⟩
theorem is_store_Get (c : Cfg) (h : c.lendT = []) : isF PP c 49 c_store_Get := isF_of (fn := Proofs.Try.f49) (by kernel_rfl) (by kernel_rfl) rfl h (by kernel_rfl) rfl rfl (by kernel_rfl)
def c_ask_note : SF := ⟨41, [(ResultVar.cell 8 29)],
  (.seq (.ops [⟨some 4, (Op.box 29 (Operand.tmp 0)), 0, none⟩,
    ⟨some 6, (Op.box 33 (Operand.tmp 2)), 0, none⟩,
    ⟨some 8, (Op.alloc 29), 0, none⟩]) (.seq (.ops [⟨some 11, (Op.load 29 (Operand.tmp 4)), 29, none⟩,
    ⟨some 12, (Op.call ⟨(Callee.value (Operand.func 51)), #[(Operand.tmp 11)], #[29]⟩), 29, none⟩,
    ⟨some 9, (Op.alloc 29), 0, none⟩,
    ⟨none, (Op.store 29 (Operand.tmp 9) (Operand.tmp 12)), 0, none⟩]) (.seq (.ops [⟨some 13, (Op.move (Operand.tmp 1)), 3, none⟩,
    ⟨some 14, (Op.build 66 #[(0, (Operand.tmp 13))]), 66, none⟩,
    ⟨some 10, (Op.alloc 66), 0, none⟩,
    ⟨none, (Op.store 66 (Operand.tmp 10) (Operand.tmp 14)), 0, none⟩]) (.seq (.seq (.ops [⟨some 15, (Op.move (Operand.tmp 3)), 4, none⟩,
    ⟨some 16, (Op.move (Operand.tmp 15)), 4, none⟩,
    ⟨some 17, (Op.fieldAddr 33 (Operand.tmp 6) 3), 0, some (16, true)⟩,
    ⟨some 18, (Op.load 4 (Operand.tmp 17)), 4, some (16, true)⟩,
    ⟨some 19, (Op.unOp UnOp.not 4 (Operand.tmp 18)), 4, some (16, true)⟩,
    ⟨some 20, (Op.pick (Operand.tmp 16) (Operand.tmp 19) (Operand.const (Value.bool false))), 4, none⟩]) (.cond (Operand.tmp 20) (.alts [[⟨some 21, (Op.fieldAddr 33 (Operand.tmp 6) 2), 0, none⟩,
    ⟨some 22, (Op.load 3 (Operand.tmp 21)), 3, none⟩,
    ⟨some 23, (Op.fieldAddr 66 (Operand.tmp 10) 1), 0, none⟩,
    ⟨none, (Op.store 4 (Operand.tmp 23) (Operand.const (Value.bool true))), 0, none⟩,
    ⟨some 24, (Op.fieldAddr 66 (Operand.tmp 10) 2), 0, none⟩,
    ⟨none, (Op.store 3 (Operand.tmp 24) (Operand.tmp 22)), 0, none⟩],
    [⟨some 21, (Op.fieldAddr 33 (Operand.tmp 6) 2), 0, none⟩,
    ⟨some 23, (Op.fieldAddr 66 (Operand.tmp 10) 1), 0, none⟩,
    ⟨none, (Op.store 4 (Operand.tmp 23) (Operand.const (Value.bool true))), 0, none⟩,
    ⟨some 22, (Op.load 3 (Operand.tmp 21)), 3, none⟩,
    ⟨some 24, (Op.fieldAddr 66 (Operand.tmp 10) 2), 0, none⟩,
    ⟨none, (Op.store 3 (Operand.tmp 24) (Operand.tmp 22)), 0, none⟩],
    [⟨some 23, (Op.fieldAddr 66 (Operand.tmp 10) 1), 0, none⟩,
    ⟨none, (Op.store 4 (Operand.tmp 23) (Operand.const (Value.bool true))), 0, none⟩,
    ⟨some 21, (Op.fieldAddr 33 (Operand.tmp 6) 2), 0, none⟩,
    ⟨some 22, (Op.load 3 (Operand.tmp 21)), 3, none⟩,
    ⟨some 24, (Op.fieldAddr 66 (Operand.tmp 10) 2), 0, none⟩,
    ⟨none, (Op.store 3 (Operand.tmp 24) (Operand.tmp 22)), 0, none⟩]]) .skip)) (.seq (.ops [⟨some 25, (Op.fieldAddr 29 (Operand.tmp 9) 3), 0, none⟩,
    ⟨some 26, (Op.load 27 (Operand.tmp 25)), 27, none⟩,
    ⟨some 27, (Op.load 66 (Operand.tmp 10)), 66, none⟩,
    ⟨some 28, (Op.buildSlice 27 1 #[(0, (Operand.tmp 27))]), 27, none⟩,
    ⟨some 29, (Op.call ⟨(Callee.builtin Builtin.append), #[(Operand.tmp 26), (Operand.tmp 28)], #[27, 27]⟩), 27, none⟩,
    ⟨some 30, (Op.fieldAddr 29 (Operand.tmp 9) 3), 0, none⟩,
    ⟨none, (Op.store 27 (Operand.tmp 30) (Operand.tmp 29)), 0, none⟩]) (.seq (.ops [⟨some 31, (Op.fieldAddr 29 (Operand.tmp 9) 3), 0, none⟩,
    ⟨some 32, (Op.load 27 (Operand.tmp 31)), 27, none⟩,
    ⟨some 33, (Op.fieldAddr 29 (Operand.tmp 9) 3), 0, none⟩,
    ⟨some 34, (Op.load 27 (Operand.tmp 33)), 27, none⟩,
    ⟨some 35, (Op.call ⟨(Callee.builtin Builtin.len), #[(Operand.tmp 34)], #[27]⟩), 3, none⟩,
    ⟨some 36, (Op.binOp BinOp.sub 3 (Operand.tmp 35) (Operand.const (Value.int IntKind.i64 64)) 3), 3, none⟩,
    ⟨some 37, (Op.call ⟨(Callee.builtin Builtin.max), #[(Operand.tmp 36), (Operand.const (Value.int IntKind.i64 0))], #[3, 3]⟩), 3, none⟩,
    ⟨some 38, (Op.slice 27 (Operand.tmp 32) (some (Operand.tmp 37)) none none), 27, none⟩,
    ⟨some 39, (Op.fieldAddr 29 (Operand.tmp 9) 3), 0, none⟩,
    ⟨none, (Op.store 27 (Operand.tmp 39) (Operand.tmp 38)), 0, none⟩]) (.seq (.ops [⟨some 40, (Op.load 29 (Operand.tmp 9)), 29, none⟩,
    ⟨none, (Op.store 29 (Operand.tmp 8) (Operand.tmp 40)), 0, none⟩]) .ret)))))))⟩
theorem is_ask_note (c : Cfg) (h : c.lendT = []) : isF PP c 50 c_ask_note := isF_of (fn := Proofs.Try.f50) (by kernel_rfl) (by kernel_rfl) rfl h (by kernel_rfl) rfl rfl (by kernel_rfl)
def c_node_Copy : SF := ⟨16, [(ResultVar.cell 2 29)],
  (.seq (.ops [⟨some 1, (Op.box 29 (Operand.tmp 0)), 0, none⟩,
    ⟨some 2, (Op.alloc 29), 0, none⟩]) (.seq (.ops [⟨some 3, (Op.fieldAddr 29 (Operand.tmp 1) 1), 0, none⟩,
    ⟨some 4, (Op.load 25 (Operand.tmp 3)), 25, none⟩,
    ⟨some 5, (Op.call ⟨(Callee.value (Operand.func 82)), #[(Operand.tmp 4)], #[25]⟩), 25, none⟩,
    ⟨some 6, (Op.fieldAddr 29 (Operand.tmp 1) 2), 0, none⟩,
    ⟨some 7, (Op.load 26 (Operand.tmp 6)), 26, none⟩,
    ⟨some 8, (Op.call ⟨(Callee.value (Operand.func 83)), #[(Operand.tmp 7)], #[26]⟩), 26, none⟩,
    ⟨some 9, (Op.fieldAddr 29 (Operand.tmp 1) 3), 0, none⟩,
    ⟨some 10, (Op.load 27 (Operand.tmp 9)), 27, none⟩,
    ⟨some 11, (Op.call ⟨(Callee.value (Operand.func 84)), #[(Operand.tmp 10)], #[27]⟩), 27, none⟩,
    ⟨some 12, (Op.fieldAddr 29 (Operand.tmp 1) 1), 0, none⟩,
    ⟨none, (Op.store 25 (Operand.tmp 12) (Operand.tmp 5)), 0, none⟩,
    ⟨some 13, (Op.fieldAddr 29 (Operand.tmp 1) 2), 0, none⟩,
    ⟨none, (Op.store 26 (Operand.tmp 13) (Operand.tmp 8)), 0, none⟩,
    ⟨some 14, (Op.fieldAddr 29 (Operand.tmp 1) 3), 0, none⟩,
    ⟨none, (Op.store 27 (Operand.tmp 14) (Operand.tmp 11)), 0, none⟩]) (.seq (.ops [⟨some 15, (Op.load 29 (Operand.tmp 1)), 29, none⟩,
    ⟨none, (Op.store 29 (Operand.tmp 2) (Operand.tmp 15)), 0, none⟩]) .ret)))⟩
theorem is_node_Copy (c : Cfg) (h : c.lendT = []) : isF PP c 51 c_node_Copy := isF_of (fn := Proofs.Try.f51) (by kernel_rfl) (by kernel_rfl) rfl h (by kernel_rfl) rfl rfl (by kernel_rfl)
def c_ask_to : SF := ⟨37, [(ResultVar.tmp 6)],
  (.seq (.ops [⟨some 6, (Op.assign (Operand.const (Value.bool false))), 4, none⟩]) (.seq (.ops [⟨some 7, (Op.move (Operand.tmp 0)), 93, none⟩,
    ⟨some 8, (Op.nilCheck (Operand.tmp 7)), 0, none⟩,
    ⟨some 9, (Op.load 29 (Operand.tmp 8)), 29, none⟩,
    ⟨some 10, (Op.call ⟨(Callee.value (Operand.func 46)), #[(Operand.tmp 9)], #[29]⟩), 4, none⟩,
    ⟨some 11, (Op.move (Operand.tmp 10)), 4, none⟩,
    ⟨some 12, (Op.move (Operand.tmp 1)), 94, some (11, true)⟩,
    ⟨some 13, (Op.nilCheck (Operand.tmp 12)), 0, some (11, true)⟩,
    ⟨some 14, (Op.load 35 (Operand.tmp 13)), 35, some (11, true)⟩,
    ⟨some 15, (Op.call ⟨(Callee.value (Operand.func 85)), #[(Operand.tmp 14)], #[35]⟩), 4, some (11, true)⟩,
    ⟨some 16, (Op.pick (Operand.tmp 11) (Operand.tmp 15) (Operand.const (Value.bool false))), 4, none⟩,
    ⟨some 17, (Op.move (Operand.tmp 16)), 4, none⟩,
    ⟨some 18, (Op.move (Operand.tmp 1)), 94, some (17, true)⟩,
    ⟨some 19, (Op.nilCheck (Operand.tmp 18)), 0, some (17, true)⟩,
    ⟨some 20, (Op.fieldAddr 35 (Operand.tmp 19) 0), 0, some (17, true)⟩,
    ⟨some 21, (Op.load 3 (Operand.tmp 20)), 3, some (17, true)⟩,
    ⟨some 22, (Op.move (Operand.tmp 2)), 3, some (17, true)⟩,
    ⟨some 23, (Op.binOp BinOp.eql 3 (Operand.tmp 21) (Operand.tmp 22) 3), 4, some (17, true)⟩,
    ⟨some 24, (Op.pick (Operand.tmp 17) (Operand.tmp 23) (Operand.const (Value.bool false))), 4, none⟩,
    ⟨some 25, (Op.move (Operand.tmp 24)), 4, none⟩,
    ⟨some 26, (Op.move (Operand.tmp 1)), 94, some (25, true)⟩,
    ⟨some 27, (Op.nilCheck (Operand.tmp 26)), 0, some (25, true)⟩,
    ⟨some 28, (Op.fieldAddr 35 (Operand.tmp 27) 2), 0, some (25, true)⟩,
    ⟨some 29, (Op.load 3 (Operand.tmp 28)), 3, some (25, true)⟩,
    ⟨some 30, (Op.move (Operand.tmp 0)), 93, some (25, true)⟩,
    ⟨some 31, (Op.nilCheck (Operand.tmp 30)), 0, some (25, true)⟩,
    ⟨some 32, (Op.fieldAddr 29 (Operand.tmp 31) 1), 0, some (25, true)⟩,
    ⟨some 33, (Op.fieldAddr 25 (Operand.tmp 32) 0), 0, some (25, true)⟩,
    ⟨some 34, (Op.load 3 (Operand.tmp 33)), 3, some (25, true)⟩,
    ⟨some 35, (Op.binOp BinOp.eql 3 (Operand.tmp 29) (Operand.tmp 34) 3), 4, some (25, true)⟩,
    ⟨some 36, (Op.pick (Operand.tmp 25) (Operand.tmp 35) (Operand.const (Value.bool false))), 4, none⟩,
    ⟨some 6, (Op.assign (Operand.tmp 36)), 4, none⟩]) .ret))⟩
theorem is_ask_to (c : Cfg) (h : c.lendT = []) : isF PP c 56 c_ask_to := isF_of (fn := Proofs.Try.f56) (by kernel_rfl) (by kernel_rfl) rfl h (by kernel_rfl) rfl rfl (by kernel_rfl)
end Go.AM
/- AM: this seat's functions in short. -/
namespace Go.AM
set_option linter.unusedSimpArgs false
set_option linter.unusedVariables false
def c_item_May : SF := ⟨26, [(ResultVar.tmp 2)],
  (.seq (.ops [⟨some 1, (Op.box 33 (Operand.tmp 0)), 0, none⟩,
    ⟨some 2, (Op.assign (Operand.const (Value.bool false))), 4, none⟩]) (.seq (.ops [⟨some 3, (Op.fieldAddr 33 (Operand.tmp 1) 0), 0, none⟩,
    ⟨some 4, (Op.load 3 (Operand.tmp 3)), 3, none⟩,
    ⟨some 5, (Op.call ⟨(Callee.value (Operand.func 92)), #[(Operand.tmp 4)], #[3]⟩), 4, none⟩,
    ⟨some 6, (Op.move (Operand.tmp 5)), 4, none⟩,
    ⟨some 7, (Op.fieldAddr 33 (Operand.tmp 1) 2), 0, some (6, true)⟩,
    ⟨some 8, (Op.load 3 (Operand.tmp 7)), 3, some (6, true)⟩,
    ⟨some 9, (Op.call ⟨(Callee.value (Operand.func 92)), #[(Operand.tmp 8)], #[3]⟩), 4, some (6, true)⟩,
    ⟨some 10, (Op.pick (Operand.tmp 6) (Operand.tmp 9) (Operand.const (Value.bool false))), 4, none⟩,
    ⟨some 11, (Op.move (Operand.tmp 10)), 4, none⟩,
    ⟨some 12, (Op.fieldAddr 33 (Operand.tmp 1) 1), 0, some (11, true)⟩,
    ⟨some 13, (Op.load 31 (Operand.tmp 12)), 31, some (11, true)⟩,
    ⟨some 14, (Op.call ⟨(Callee.value (Operand.func 93)), #[(Operand.tmp 13)], #[31]⟩), 4, some (11, true)⟩,
    ⟨some 15, (Op.pick (Operand.tmp 11) (Operand.tmp 14) (Operand.const (Value.bool false))), 4, none⟩,
    ⟨some 16, (Op.move (Operand.tmp 15)), 4, none⟩,
    ⟨some 17, (Op.fieldAddr 33 (Operand.tmp 1) 3), 0, some (16, true)⟩,
    ⟨some 18, (Op.load 4 (Operand.tmp 17)), 4, some (16, true)⟩,
    ⟨some 19, (Op.unOp UnOp.not 4 (Operand.tmp 18)), 4, some (16, true)⟩,
    ⟨some 20, (Op.move (Operand.tmp 19)), 4, some (16, true)⟩,
    ⟨some 21, (Op.fieldAddr 33 (Operand.tmp 1) 2), 0, some (20, false)⟩,
    ⟨some 22, (Op.load 3 (Operand.tmp 21)), 3, some (20, false)⟩,
    ⟨some 23, (Op.binOp BinOp.eql 3 (Operand.tmp 22) (Operand.const (Value.int IntKind.i64 0)) 3), 4, some (20, false)⟩,
    ⟨some 24, (Op.pick (Operand.tmp 20) (Operand.const (Value.bool true)) (Operand.tmp 23)), 4, some (16, true)⟩,
    ⟨some 25, (Op.pick (Operand.tmp 16) (Operand.tmp 24) (Operand.const (Value.bool false))), 4, none⟩,
    ⟨some 2, (Op.assign (Operand.tmp 25)), 4, none⟩]) .ret))⟩
theorem is_item_May (c : Cfg) (h : c.lendT = []) : isF PP c 70 c_item_May := isF_of (fn := Proofs.Try.f70) (by kernel_rfl) (by kernel_rfl) rfl h (by kernel_rfl) rfl rfl (by kernel_rfl)
def c_node_May : SF := ⟨46, [(ResultVar.tmp 2)],
  (.seq (.ops [⟨some 1, (Op.box 29 (Operand.tmp 0)), 0, none⟩,
    ⟨some 2, (Op.assign (Operand.const (Value.bool false))), 4, none⟩]) (.seq (.seq (.ops [⟨some 3, (Op.fieldAddr 29 (Operand.tmp 1) 0), 0, none⟩,
    ⟨some 4, (Op.load 4 (Operand.tmp 3)), 4, none⟩,
    ⟨some 5, (Op.unOp UnOp.not 4 (Operand.tmp 4)), 4, none⟩,
    ⟨some 6, (Op.move (Operand.tmp 5)), 4, none⟩,
    ⟨some 7, (Op.fieldAddr 29 (Operand.tmp 1) 1), 0, some (6, true)⟩,
    ⟨some 8, (Op.fieldAddr 25 (Operand.tmp 7) 1), 0, some (6, true)⟩,
    ⟨some 9, (Op.load 22 (Operand.tmp 8)), 22, some (6, true)⟩,
    ⟨some 10, (Op.call ⟨(Callee.builtin Builtin.len), #[(Operand.tmp 9)], #[22]⟩), 3, some (6, true)⟩,
    ⟨some 11, (Op.fieldAddr 29 (Operand.tmp 1) 1), 0, some (6, true)⟩,
    ⟨some 12, (Op.fieldAddr 25 (Operand.tmp 11) 2), 0, some (6, true)⟩,
    ⟨some 13, (Op.load 23 (Operand.tmp 12)), 23, some (6, true)⟩,
    ⟨some 14, (Op.call ⟨(Callee.builtin Builtin.len), #[(Operand.tmp 13)], #[23]⟩), 3, some (6, true)⟩,
    ⟨some 15, (Op.binOp BinOp.add 3 (Operand.tmp 10) (Operand.tmp 14) 3), 3, some (6, true)⟩,
    ⟨some 16, (Op.fieldAddr 29 (Operand.tmp 1) 2), 0, some (6, true)⟩,
    ⟨some 17, (Op.load 26 (Operand.tmp 16)), 26, some (6, true)⟩,
    ⟨some 18, (Op.call ⟨(Callee.builtin Builtin.len), #[(Operand.tmp 17)], #[26]⟩), 3, some (6, true)⟩,
    ⟨some 19, (Op.binOp BinOp.add 3 (Operand.tmp 15) (Operand.tmp 18) 3), 3, some (6, true)⟩,
    ⟨some 20, (Op.fieldAddr 29 (Operand.tmp 1) 3), 0, some (6, true)⟩,
    ⟨some 21, (Op.load 27 (Operand.tmp 20)), 27, some (6, true)⟩,
    ⟨some 22, (Op.call ⟨(Callee.builtin Builtin.len), #[(Operand.tmp 21)], #[27]⟩), 3, some (6, true)⟩,
    ⟨some 23, (Op.binOp BinOp.add 3 (Operand.tmp 19) (Operand.tmp 22) 3), 3, some (6, true)⟩,
    ⟨some 24, (Op.binOp BinOp.gtr 3 (Operand.tmp 23) (Operand.const (Value.int IntKind.i64 0)) 3), 4, some (6, true)⟩,
    ⟨some 25, (Op.pick (Operand.tmp 6) (Operand.tmp 24) (Operand.const (Value.bool false))), 4, none⟩]) (.cond (Operand.tmp 25) (.seq (.ops [⟨some 2, (Op.assign (Operand.const (Value.bool false))), 4, none⟩]) .ret) .skip)) (.seq (.ops [⟨some 26, (Op.fieldAddr 29 (Operand.tmp 1) 1), 0, none⟩,
    ⟨some 27, (Op.load 25 (Operand.tmp 26)), 25, none⟩,
    ⟨some 28, (Op.call ⟨(Callee.value (Operand.func 76)), #[(Operand.tmp 27)], #[25]⟩), 4, none⟩,
    ⟨some 29, (Op.move (Operand.tmp 28)), 4, none⟩,
    ⟨some 30, (Op.fieldAddr 29 (Operand.tmp 1) 2), 0, some (29, true)⟩,
    ⟨some 31, (Op.load 26 (Operand.tmp 30)), 26, some (29, true)⟩,
    ⟨some 32, (Op.call ⟨(Callee.value (Operand.func 79)), #[(Operand.tmp 31)], #[26]⟩), 4, some (29, true)⟩,
    ⟨some 33, (Op.pick (Operand.tmp 29) (Operand.tmp 32) (Operand.const (Value.bool false))), 4, none⟩,
    ⟨some 34, (Op.move (Operand.tmp 33)), 4, none⟩,
    ⟨some 35, (Op.fieldAddr 29 (Operand.tmp 1) 3), 0, some (34, true)⟩,
    ⟨some 36, (Op.load 27 (Operand.tmp 35)), 27, some (34, true)⟩,
    ⟨some 37, (Op.call ⟨(Callee.builtin Builtin.len), #[(Operand.tmp 36)], #[27]⟩), 3, some (34, true)⟩,
    ⟨some 38, (Op.binOp BinOp.leq 3 (Operand.tmp 37) (Operand.const (Value.int IntKind.i64 64)) 3), 4, some (34, true)⟩,
    ⟨some 39, (Op.pick (Operand.tmp 34) (Operand.tmp 38) (Operand.const (Value.bool false))), 4, none⟩,
    ⟨some 40, (Op.move (Operand.tmp 39)), 4, none⟩,
    ⟨some 41, (Op.fieldAddr 29 (Operand.tmp 1) 3), 0, some (40, true)⟩,
    ⟨some 42, (Op.load 27 (Operand.tmp 41)), 27, some (40, true)⟩,
    ⟨some 43, (Op.call ⟨(Callee.value (Operand.func 98)), #[(Operand.tmp 42), (Operand.func 99)], #[27, 132]⟩), 4, some (40, true)⟩,
    ⟨some 44, (Op.unOp UnOp.not 4 (Operand.tmp 43)), 4, some (40, true)⟩,
    ⟨some 45, (Op.pick (Operand.tmp 40) (Operand.tmp 44) (Operand.const (Value.bool false))), 4, none⟩,
    ⟨some 2, (Op.assign (Operand.tmp 45)), 4, none⟩]) .ret)))⟩
theorem is_node_May (c : Cfg) (h : c.lendT = []) : isF PP c 75 c_node_May := isF_of (fn := Proofs.Try.f75) (by kernel_rfl) (by kernel_rfl) rfl h (by kernel_rfl) rfl rfl (by kernel_rfl)
def c_view_May : SF := ⟨32, [(ResultVar.tmp 2)],
  (.seq (.ops [⟨some 1, (Op.box 25 (Operand.tmp 0)), 0, none⟩,
    ⟨some 2, (Op.assign (Operand.const (Value.bool false))), 4, none⟩]) (.seq (.seq (.ops [⟨some 4, (Op.fieldAddr 25 (Operand.tmp 1) 0), 0, none⟩,
    ⟨some 5, (Op.load 3 (Operand.tmp 4)), 3, none⟩,
    ⟨some 6, (Op.fieldAddr 25 (Operand.tmp 1) 1), 0, none⟩,
    ⟨some 7, (Op.load 22 (Operand.tmp 6)), 22, none⟩,
    ⟨some 8, (Op.call ⟨(Callee.value (Operand.func 100)), #[(Operand.tmp 5), (Operand.tmp 7)], #[3, 22]⟩), 4, none⟩,
    ⟨some 9, (Op.unOp UnOp.not 4 (Operand.tmp 8)), 4, none⟩,
    ⟨some 10, (Op.move (Operand.tmp 9)), 4, none⟩,
    ⟨some 11, (Op.fieldAddr 25 (Operand.tmp 1) 2), 0, some (10, false)⟩,
    ⟨some 12, (Op.load 23 (Operand.tmp 11)), 23, some (10, false)⟩,
    ⟨some 13, (Op.call ⟨(Callee.value (Operand.func 101)), #[(Operand.tmp 12)], #[23]⟩), 4, some (10, false)⟩,
    ⟨some 14, (Op.unOp UnOp.not 4 (Operand.tmp 13)), 4, some (10, false)⟩,
    ⟨some 15, (Op.pick (Operand.tmp 10) (Operand.const (Value.bool true)) (Operand.tmp 14)), 4, none⟩,
    ⟨some 16, (Op.move (Operand.tmp 15)), 4, none⟩,
    ⟨some 17, (Op.fieldAddr 25 (Operand.tmp 1) 1), 0, some (16, false)⟩,
    ⟨some 18, (Op.load 22 (Operand.tmp 17)), 22, some (16, false)⟩,
    ⟨some 19, (Op.call ⟨(Callee.builtin Builtin.len), #[(Operand.tmp 18)], #[22]⟩), 3, some (16, false)⟩,
    ⟨some 20, (Op.fieldAddr 25 (Operand.tmp 1) 2), 0, some (16, false)⟩,
    ⟨some 21, (Op.load 23 (Operand.tmp 20)), 23, some (16, false)⟩,
    ⟨some 22, (Op.call ⟨(Callee.builtin Builtin.len), #[(Operand.tmp 21)], #[23]⟩), 3, some (16, false)⟩,
    ⟨some 23, (Op.binOp BinOp.add 3 (Operand.tmp 19) (Operand.tmp 22) 3), 3, some (16, false)⟩,
    ⟨some 24, (Op.binOp BinOp.gtr 3 (Operand.tmp 23) (Operand.const (Value.int IntKind.i64 16)) 3), 4, some (16, false)⟩,
    ⟨some 25, (Op.pick (Operand.tmp 16) (Operand.const (Value.bool true)) (Operand.tmp 24)), 4, none⟩]) (.cond (Operand.tmp 25) (.seq (.ops [⟨some 2, (Op.assign (Operand.const (Value.bool false))), 4, none⟩]) .ret) .skip)) (.seq (.ops [⟨some 26, (Op.makeFunc (Fn.func 102) #[] #[(Operand.tmp 1)]), 88, none⟩,
    ⟨some 3, (Op.assign (Operand.tmp 26)), 88, none⟩]) (.seq (.ops [⟨some 27, (Op.fieldAddr 25 (Operand.tmp 1) 2), 0, none⟩,
    ⟨some 28, (Op.load 23 (Operand.tmp 27)), 23, none⟩,
    ⟨some 29, (Op.move (Operand.tmp 3)), 88, none⟩,
    ⟨some 30, (Op.call ⟨(Callee.value (Operand.func 104)), #[(Operand.tmp 28), (Operand.tmp 29)], #[23, 88]⟩), 4, none⟩,
    ⟨some 31, (Op.unOp UnOp.not 4 (Operand.tmp 30)), 4, none⟩,
    ⟨some 2, (Op.assign (Operand.tmp 31)), 4, none⟩]) .ret))))⟩
theorem is_view_May (c : Cfg) (h : c.lendT = []) : isF PP c 76 c_view_May := isF_of (fn := Proofs.Try.f76) (by kernel_rfl) (by kernel_rfl) rfl h (by kernel_rfl) rfl rfl (by kernel_rfl)
def c_row_Owner : SF := ⟨19, [(ResultVar.tmp 4), (ResultVar.tmp 5)],
  (.seq (.ops [⟨some 4, (Op.assign (Operand.const (Value.int IntKind.i64 0))), 3, none⟩,
    ⟨some 5, (Op.assign (Operand.const (Value.int IntKind.i64 0))), 39, none⟩]) (.seq (.seq (.ops [⟨some 6, (Op.move (Operand.tmp 1)), 3, none⟩,
    ⟨some 7, (Op.move (Operand.tmp 0)), 23, none⟩,
    ⟨some 8, (Op.call ⟨(Callee.value (Operand.func 105)), #[(Operand.tmp 6), (Operand.tmp 7)], #[3, 23]⟩), 4, none⟩,
    ⟨some 9, (Op.unOp UnOp.not 4 (Operand.tmp 8)), 4, none⟩,
    ⟨some 10, (Op.move (Operand.tmp 9)), 4, none⟩,
    ⟨some 11, (Op.move (Operand.tmp 0)), 23, some (10, false)⟩,
    ⟨some 12, (Op.call ⟨(Callee.builtin Builtin.len), #[(Operand.tmp 11)], #[23]⟩), 3, some (10, false)⟩,
    ⟨some 13, (Op.binOp BinOp.eql 3 (Operand.tmp 12) (Operand.const (Value.int IntKind.i64 0)) 3), 4, some (10, false)⟩,
    ⟨some 14, (Op.pick (Operand.tmp 10) (Operand.const (Value.bool true)) (Operand.tmp 13)), 4, none⟩]) (.cond (Operand.tmp 14) (.seq (.ops [⟨some 4, (Op.assign (Operand.const (Value.int IntKind.i64 0))), 3, none⟩,
    ⟨some 5, (Op.assign (Operand.const (Value.int IntKind.i64 200))), 39, none⟩]) .ret) .skip)) (.seq (.ops [⟨some 15, (Op.move (Operand.tmp 0)), 23, none⟩,
    ⟨some 16, (Op.move (Operand.tmp 1)), 3, none⟩,
    ⟨some 17, (Op.call ⟨(Callee.value (Operand.func 107)), #[(Operand.tmp 16)], #[3]⟩), 126, none⟩,
    ⟨some 18, (Op.call ⟨(Callee.value (Operand.func 106)), #[(Operand.tmp 15), (Operand.tmp 17)], #[23, 126]⟩), 3, none⟩,
    ⟨some 4, (Op.assign (Operand.tmp 18)), 3, none⟩,
    ⟨some 5, (Op.assign (Operand.const (Value.int IntKind.i64 0))), 39, none⟩]) .ret)))⟩
theorem is_row_Owner (c : Cfg) (h : c.lendT = []) : isF PP c 77 c_row_Owner := isF_of (fn := Proofs.Try.f77) (by kernel_rfl) (by kernel_rfl) rfl h (by kernel_rfl) rfl rfl (by kernel_rfl)
def c_view_Ids_L0 : SC := (.seq (.ops [⟨some 12, (Op.binOp BinOp.lss 3 (Operand.tmp 11) (Operand.tmp 10) 3), 0, none⟩]) (.seq (.cond (Operand.tmp 12) .skip (.exit 0)) (.seq (.block 1 (.seq (.ops [⟨some 13, (Op.indexAddr 22 (Operand.tmp 9) (Operand.tmp 11)), 0, none⟩,
    ⟨some 14, (Op.load 102 (Operand.tmp 13)), 102, none⟩,
    ⟨some 5, (Op.alloc 102), 0, none⟩,
    ⟨none, (Op.store 102 (Operand.tmp 5) (Operand.tmp 14)), 0, none⟩]) (.ops [⟨some 15, (Op.move (Operand.tmp 3)), 23, none⟩,
    ⟨some 16, (Op.fieldAddr 102 (Operand.tmp 5) 0), 0, none⟩,
    ⟨some 17, (Op.load 3 (Operand.tmp 16)), 3, none⟩,
    ⟨some 18, (Op.buildSlice 23 1 #[(0, (Operand.tmp 17))]), 23, none⟩,
    ⟨some 19, (Op.call ⟨(Callee.builtin Builtin.append), #[(Operand.tmp 15), (Operand.tmp 18)], #[23, 23]⟩), 23, none⟩,
    ⟨some 3, (Op.assign (Operand.tmp 19)), 23, none⟩]))) (.ops [⟨some 20, (Op.binOp BinOp.add 3 (Operand.tmp 11) (Operand.const (Value.int IntKind.i64 1)) 3), 3, none⟩,
    ⟨some 11, (Op.move (Operand.tmp 20)), 3, none⟩]))))
def c_view_Ids : SF := ⟨22, [(ResultVar.tmp 2)],
  (.seq (.ops [⟨some 2, (Op.assign (Operand.const (Value.slice none 0 0))), 23, none⟩]) (.seq (.ops [⟨some 3, (Op.assign (Operand.const (Value.slice none 0 0))), 23, none⟩]) (.seq (.seq (.ops [⟨some 6, (Op.move (Operand.tmp 0)), 117, none⟩,
    ⟨some 7, (Op.nilCheck (Operand.tmp 6)), 0, none⟩,
    ⟨some 8, (Op.fieldAddr 25 (Operand.tmp 7) 1), 0, none⟩,
    ⟨some 9, (Op.load 22 (Operand.tmp 8)), 22, none⟩,
    ⟨some 10, (Op.call ⟨(Callee.builtin Builtin.len), #[(Operand.tmp 9)], #[22]⟩), 3, none⟩,
    ⟨some 11, (Op.move (Operand.const (Value.int IntKind.i64 0))), 3, none⟩]) (.block 0 (.loop c_view_Ids_L0))) (.seq (.ops [⟨some 21, (Op.move (Operand.tmp 3)), 23, none⟩,
    ⟨some 2, (Op.assign (Operand.tmp 21)), 23, none⟩]) .ret))))⟩
theorem is_view_Ids (c : Cfg) (h : c.lendT = []) : isF PP c 78 c_view_Ids := isF_of (fn := Proofs.Try.f78) (by kernel_rfl) (by kernel_rfl) rfl h (by kernel_rfl) rfl rfl (by kernel_rfl)
def c_store_May_L0 : SC := (.seq (.ops [⟨some 8, (Op.binOp BinOp.lss 3 (Operand.tmp 7) (Operand.tmp 6) 3), 0, none⟩]) (.seq (.cond (Operand.tmp 8) .skip (.exit 0)) (.seq (.block 1 (.seq (.ops [⟨some 9, (Op.move (Operand.tmp 7)), 3, none⟩,
    ⟨some 10, (Op.indexAddr 26 (Operand.tmp 5) (Operand.tmp 7)), 0, none⟩,
    ⟨some 11, (Op.load 33 (Operand.tmp 10)), 33, none⟩,
    ⟨some 4, (Op.alloc 33), 0, none⟩,
    ⟨some 3, (Op.assign (Operand.tmp 9)), 3, none⟩,
    ⟨none, (Op.store 33 (Operand.tmp 4) (Operand.tmp 11)), 0, none⟩]) (.seq (.ops [⟨some 12, (Op.load 33 (Operand.tmp 4)), 33, none⟩,
    ⟨some 13, (Op.call ⟨(Callee.value (Operand.func 70)), #[(Operand.tmp 12)], #[33]⟩), 4, none⟩,
    ⟨some 14, (Op.unOp UnOp.not 4 (Operand.tmp 13)), 4, none⟩,
    ⟨some 15, (Op.move (Operand.tmp 14)), 4, none⟩,
    ⟨some 16, (Op.move (Operand.tmp 3)), 3, some (15, false)⟩,
    ⟨some 17, (Op.binOp BinOp.gtr 3 (Operand.tmp 16) (Operand.const (Value.int IntKind.i64 0)) 3), 4, some (15, false)⟩,
    ⟨some 18, (Op.move (Operand.tmp 17)), 4, some (15, false)⟩,
    ⟨some 19, (Op.move (Operand.tmp 0)), 26, some (18, true)⟩,
    ⟨some 20, (Op.move (Operand.tmp 3)), 3, some (18, true)⟩,
    ⟨some 21, (Op.binOp BinOp.sub 3 (Operand.tmp 20) (Operand.const (Value.int IntKind.i64 1)) 3), 3, some (18, true)⟩,
    ⟨some 22, (Op.indexAddr 26 (Operand.tmp 19) (Operand.tmp 21)), 0, some (18, true)⟩,
    ⟨some 23, (Op.fieldAddr 33 (Operand.tmp 22) 0), 0, some (18, true)⟩,
    ⟨some 24, (Op.load 3 (Operand.tmp 23)), 3, some (18, true)⟩,
    ⟨some 25, (Op.fieldAddr 33 (Operand.tmp 4) 0), 0, some (18, true)⟩,
    ⟨some 26, (Op.load 3 (Operand.tmp 25)), 3, some (18, true)⟩,
    ⟨some 27, (Op.binOp BinOp.geq 3 (Operand.tmp 24) (Operand.tmp 26) 3), 4, some (18, true)⟩,
    ⟨some 28, (Op.pick (Operand.tmp 18) (Operand.tmp 27) (Operand.const (Value.bool false))), 4, some (15, false)⟩,
    ⟨some 29, (Op.pick (Operand.tmp 15) (Operand.const (Value.bool true)) (Operand.tmp 28)), 4, none⟩]) (.cond (Operand.tmp 29) (.seq (.ops [⟨some 2, (Op.assign (Operand.const (Value.bool false))), 4, none⟩]) .ret) .skip)))) (.ops [⟨some 30, (Op.binOp BinOp.add 3 (Operand.tmp 7) (Operand.const (Value.int IntKind.i64 1)) 3), 3, none⟩,
    ⟨some 7, (Op.move (Operand.tmp 30)), 3, none⟩]))))
def c_store_May : SF := ⟨34, [(ResultVar.tmp 2)],
  (.seq (.ops [⟨some 2, (Op.assign (Operand.const (Value.bool false))), 4, none⟩]) (.seq (.seq (.ops [⟨some 5, (Op.move (Operand.tmp 0)), 26, none⟩,
    ⟨some 6, (Op.call ⟨(Callee.builtin Builtin.len), #[(Operand.tmp 5)], #[26]⟩), 3, none⟩,
    ⟨some 7, (Op.move (Operand.const (Value.int IntKind.i64 0))), 3, none⟩]) (.block 0 (.loop c_store_May_L0))) (.seq (.ops [⟨some 31, (Op.move (Operand.tmp 0)), 26, none⟩,
    ⟨some 32, (Op.call ⟨(Callee.builtin Builtin.len), #[(Operand.tmp 31)], #[26]⟩), 3, none⟩,
    ⟨some 33, (Op.binOp BinOp.leq 3 (Operand.tmp 32) (Operand.const (Value.int IntKind.i64 16)) 3), 4, none⟩,
    ⟨some 2, (Op.assign (Operand.tmp 33)), 4, none⟩]) .ret)))⟩
theorem is_store_May (c : Cfg) (h : c.lendT = []) : isF PP c 79 c_store_May := isF_of (fn := Proofs.Try.f79) (by kernel_rfl) (by kernel_rfl) rfl h (by kernel_rfl) rfl rfl (by kernel_rfl)
def c_slices_BinarySearchFunc_api_Item_api_Item_int_L0 : SC := (.seq (.seq (.ops [⟨some 15, (Op.move (Operand.tmp 9)), 3, none⟩,
    ⟨some 16, (Op.move (Operand.tmp 10)), 3, none⟩,
    ⟨some 17, (Op.binOp BinOp.lss 3 (Operand.tmp 15) (Operand.tmp 16) 3), 4, none⟩]) (.cond (Operand.tmp 17) .skip (.exit 0))) (.block 1 (.seq (.ops [⟨some 18, (Op.move (Operand.tmp 9)), 3, none⟩,
    ⟨some 19, (Op.move (Operand.tmp 10)), 3, none⟩,
    ⟨some 20, (Op.binOp BinOp.add 3 (Operand.tmp 18) (Operand.tmp 19) 3), 3, none⟩,
    ⟨some 21, (Op.convert 3 77 (Operand.tmp 20)), 77, none⟩,
    ⟨some 22, (Op.binOp BinOp.shr 77 (Operand.tmp 21) (Operand.const (Value.int IntKind.u64 1)) 77), 77, none⟩,
    ⟨some 23, (Op.convert 77 3 (Operand.tmp 22)), 3, none⟩,
    ⟨some 11, (Op.assign (Operand.tmp 23)), 3, none⟩]) (.seq (.ops [⟨some 24, (Op.move (Operand.tmp 2)), 120, none⟩,
    ⟨some 25, (Op.move (Operand.tmp 0)), 26, none⟩,
    ⟨some 26, (Op.move (Operand.tmp 11)), 3, none⟩,
    ⟨some 27, (Op.indexAddr 26 (Operand.tmp 25) (Operand.tmp 26)), 0, none⟩,
    ⟨some 28, (Op.load 33 (Operand.tmp 27)), 33, none⟩,
    ⟨some 29, (Op.move (Operand.tmp 1)), 3, none⟩,
    ⟨some 30, (Op.call ⟨(Callee.value (Operand.tmp 24)), #[(Operand.tmp 28), (Operand.tmp 29)], #[33, 3]⟩), 3, none⟩,
    ⟨some 31, (Op.binOp BinOp.lss 3 (Operand.tmp 30) (Operand.const (Value.int IntKind.i64 0)) 3), 4, none⟩]) (.cond (Operand.tmp 31) (.ops [⟨some 32, (Op.move (Operand.tmp 11)), 3, none⟩,
    ⟨some 33, (Op.binOp BinOp.add 3 (Operand.tmp 32) (Operand.const (Value.int IntKind.i64 1)) 3), 3, none⟩,
    ⟨some 9, (Op.assign (Operand.tmp 33)), 3, none⟩]) (.ops [⟨some 34, (Op.move (Operand.tmp 11)), 3, none⟩,
    ⟨some 10, (Op.assign (Operand.tmp 34)), 3, none⟩]))))))
def c_slices_BinarySearchFunc_api_Item_api_Item_int : SF := ⟨49, [(ResultVar.tmp 6), (ResultVar.tmp 7)],
  (.seq (.ops [⟨some 6, (Op.assign (Operand.const (Value.int IntKind.i64 0))), 3, none⟩,
    ⟨some 7, (Op.assign (Operand.const (Value.bool false))), 4, none⟩]) (.seq (.ops [⟨some 12, (Op.move (Operand.tmp 0)), 26, none⟩,
    ⟨some 13, (Op.call ⟨(Callee.builtin Builtin.len), #[(Operand.tmp 12)], #[26]⟩), 3, none⟩,
    ⟨some 8, (Op.assign (Operand.tmp 13)), 3, none⟩]) (.seq (.ops [⟨some 14, (Op.move (Operand.tmp 8)), 3, none⟩,
    ⟨some 9, (Op.assign (Operand.const (Value.int IntKind.i64 0))), 3, none⟩,
    ⟨some 10, (Op.assign (Operand.tmp 14)), 3, none⟩]) (.seq (.block 0 (.loop c_slices_BinarySearchFunc_api_Item_api_Item_int_L0)) (.seq (.ops [⟨some 35, (Op.move (Operand.tmp 9)), 3, none⟩,
    ⟨some 36, (Op.move (Operand.tmp 9)), 3, none⟩,
    ⟨some 37, (Op.move (Operand.tmp 8)), 3, none⟩,
    ⟨some 38, (Op.binOp BinOp.lss 3 (Operand.tmp 36) (Operand.tmp 37) 3), 4, none⟩,
    ⟨some 39, (Op.move (Operand.tmp 38)), 4, none⟩,
    ⟨some 40, (Op.move (Operand.tmp 2)), 120, some (39, true)⟩,
    ⟨some 41, (Op.move (Operand.tmp 0)), 26, some (39, true)⟩,
    ⟨some 42, (Op.move (Operand.tmp 9)), 3, some (39, true)⟩,
    ⟨some 43, (Op.indexAddr 26 (Operand.tmp 41) (Operand.tmp 42)), 0, some (39, true)⟩,
    ⟨some 44, (Op.load 33 (Operand.tmp 43)), 33, some (39, true)⟩,
    ⟨some 45, (Op.move (Operand.tmp 1)), 3, some (39, true)⟩,
    ⟨some 46, (Op.call ⟨(Callee.value (Operand.tmp 40)), #[(Operand.tmp 44), (Operand.tmp 45)], #[33, 3]⟩), 3, some (39, true)⟩,
    ⟨some 47, (Op.binOp BinOp.eql 3 (Operand.tmp 46) (Operand.const (Value.int IntKind.i64 0)) 3), 4, some (39, true)⟩,
    ⟨some 48, (Op.pick (Operand.tmp 39) (Operand.tmp 47) (Operand.const (Value.bool false))), 4, none⟩,
    ⟨some 6, (Op.assign (Operand.tmp 35)), 3, none⟩,
    ⟨some 7, (Op.assign (Operand.tmp 48)), 4, none⟩]) .ret)))))⟩
theorem is_slices_BinarySearchFunc_api_Item_api_Item_int (c : Cfg) (h : c.lendT = []) : isF PP c 80 c_slices_BinarySearchFunc_api_Item_api_Item_int := isF_of (fn := Proofs.Try.f80) (by kernel_rfl) (by kernel_rfl) rfl h (by kernel_rfl) rfl rfl (by kernel_rfl)
def c_store_byKey : SF := ⟨9, [(ResultVar.tmp 4)],
  (.seq (.ops [⟨some 2, (Op.box 33 (Operand.tmp 0)), 0, none⟩,
    ⟨some 4, (Op.assign (Operand.const (Value.int IntKind.i64 0))), 3, none⟩]) (.seq (.ops [⟨some 5, (Op.fieldAddr 33 (Operand.tmp 2) 0), 0, none⟩,
    ⟨some 6, (Op.load 3 (Operand.tmp 5)), 3, none⟩,
    ⟨some 7, (Op.move (Operand.tmp 1)), 3, none⟩,
    ⟨some 8, (Op.call ⟨(Callee.value (Operand.func 108)), #[(Operand.tmp 6), (Operand.tmp 7)], #[3, 3]⟩), 3, none⟩,
    ⟨some 4, (Op.assign (Operand.tmp 8)), 3, none⟩]) .ret))⟩
theorem is_store_byKey (c : Cfg) (h : c.lendT = []) : isF PP c 81 c_store_byKey := isF_of (fn := Proofs.Try.f81) (by kernel_rfl) (by kernel_rfl) rfl h (by kernel_rfl) rfl rfl (by kernel_rfl)
def c_view_Copy : SF := ⟨12, [(ResultVar.cell 2 25)],
  (.seq (.ops [⟨some 1, (Op.box 25 (Operand.tmp 0)), 0, none⟩,
    ⟨some 2, (Op.alloc 25), 0, none⟩]) (.seq (.ops [⟨some 3, (Op.fieldAddr 25 (Operand.tmp 1) 1), 0, none⟩,
    ⟨some 4, (Op.load 22 (Operand.tmp 3)), 22, none⟩,
    ⟨some 5, (Op.call ⟨(Callee.value (Operand.func 109)), #[(Operand.tmp 4)], #[22]⟩), 22, none⟩,
    ⟨some 6, (Op.fieldAddr 25 (Operand.tmp 1) 2), 0, none⟩,
    ⟨some 7, (Op.load 23 (Operand.tmp 6)), 23, none⟩,
    ⟨some 8, (Op.call ⟨(Callee.value (Operand.func 110)), #[(Operand.tmp 7)], #[23]⟩), 23, none⟩,
    ⟨some 9, (Op.fieldAddr 25 (Operand.tmp 1) 1), 0, none⟩,
    ⟨none, (Op.store 22 (Operand.tmp 9) (Operand.tmp 5)), 0, none⟩,
    ⟨some 10, (Op.fieldAddr 25 (Operand.tmp 1) 2), 0, none⟩,
    ⟨none, (Op.store 23 (Operand.tmp 10) (Operand.tmp 8)), 0, none⟩]) (.seq (.ops [⟨some 11, (Op.load 25 (Operand.tmp 1)), 25, none⟩,
    ⟨none, (Op.store 25 (Operand.tmp 2) (Operand.tmp 11)), 0, none⟩]) .ret)))⟩
theorem is_view_Copy (c : Cfg) (h : c.lendT = []) : isF PP c 82 c_view_Copy := isF_of (fn := Proofs.Try.f82) (by kernel_rfl) (by kernel_rfl) rfl h (by kernel_rfl) rfl rfl (by kernel_rfl)
def c_slices_Clone_api_Item_api_Item : SF := ⟨8, [(ResultVar.tmp 2)],
  (.seq (.ops [⟨some 2, (Op.assign (Operand.const (Value.slice none 0 0))), 26, none⟩]) (.seq (.seq (.ops [⟨some 3, (Op.move (Operand.tmp 0)), 26, none⟩,
    ⟨some 4, (Op.binOp BinOp.eql 26 (Operand.tmp 3) (Operand.const (Value.slice none 0 0)) 26), 4, none⟩]) (.cond (Operand.tmp 4) (.seq (.ops [⟨some 2, (Op.assign (Operand.const (Value.slice none 0 0))), 26, none⟩]) .ret) .skip)) (.seq (.ops [⟨some 5, (Op.buildSlice 26 0 #[]), 26, none⟩,
    ⟨some 6, (Op.move (Operand.tmp 0)), 26, none⟩,
    ⟨some 7, (Op.call ⟨(Callee.builtin Builtin.append), #[(Operand.tmp 5), (Operand.tmp 6)], #[26, 26]⟩), 26, none⟩,
    ⟨some 2, (Op.assign (Operand.tmp 7)), 26, none⟩]) .ret)))⟩
theorem is_slices_Clone_api_Item_api_Item (c : Cfg) (h : c.lendT = []) : isF PP c 83 c_slices_Clone_api_Item_api_Item := isF_of (fn := Proofs.Try.f83) (by kernel_rfl) (by kernel_rfl) rfl h (by kernel_rfl) rfl rfl (by kernel_rfl)
def c_slices_Clone_api_Told_api_Told : SF := ⟨8, [(ResultVar.tmp 2)],
  (.seq (.ops [⟨some 2, (Op.assign (Operand.const (Value.slice none 0 0))), 27, none⟩]) (.seq (.seq (.ops [⟨some 3, (Op.move (Operand.tmp 0)), 27, none⟩,
    ⟨some 4, (Op.binOp BinOp.eql 27 (Operand.tmp 3) (Operand.const (Value.slice none 0 0)) 27), 4, none⟩]) (.cond (Operand.tmp 4) (.seq (.ops [⟨some 2, (Op.assign (Operand.const (Value.slice none 0 0))), 27, none⟩]) .ret) .skip)) (.seq (.ops [⟨some 5, (Op.buildSlice 27 0 #[]), 27, none⟩,
    ⟨some 6, (Op.move (Operand.tmp 0)), 27, none⟩,
    ⟨some 7, (Op.call ⟨(Callee.builtin Builtin.append), #[(Operand.tmp 5), (Operand.tmp 6)], #[27, 27]⟩), 27, none⟩,
    ⟨some 2, (Op.assign (Operand.tmp 7)), 27, none⟩]) .ret)))⟩
theorem is_slices_Clone_api_Told_api_Told (c : Cfg) (h : c.lendT = []) : isF PP c 84 c_slices_Clone_api_Told_api_Told := isF_of (fn := Proofs.Try.f84) (by kernel_rfl) (by kernel_rfl) rfl h (by kernel_rfl) rfl rfl (by kernel_rfl)
def c_msg_May : SF := ⟨94, [(ResultVar.tmp 2)],
  (.seq (.ops [⟨some 1, (Op.box 35 (Operand.tmp 0)), 0, none⟩,
    ⟨some 2, (Op.assign (Operand.const (Value.bool false))), 4, none⟩]) (.seq (.seq (.ops [⟨some 4, (Op.fieldAddr 35 (Operand.tmp 1) 1), 0, none⟩,
    ⟨some 5, (Op.load 3 (Operand.tmp 4)), 3, none⟩,
    ⟨some 6, (Op.call ⟨(Callee.value (Operand.func 47)), #[(Operand.tmp 5)], #[3]⟩), 4, none⟩,
    ⟨some 7, (Op.unOp UnOp.not 4 (Operand.tmp 6)), 4, none⟩,
    ⟨some 8, (Op.move (Operand.tmp 7)), 4, none⟩,
    ⟨some 9, (Op.fieldAddr 35 (Operand.tmp 1) 2), 0, some (8, false)⟩,
    ⟨some 10, (Op.load 3 (Operand.tmp 9)), 3, some (8, false)⟩,
    ⟨some 11, (Op.call ⟨(Callee.value (Operand.func 47)), #[(Operand.tmp 10)], #[3]⟩), 4, some (8, false)⟩,
    ⟨some 12, (Op.unOp UnOp.not 4 (Operand.tmp 11)), 4, some (8, false)⟩,
    ⟨some 13, (Op.pick (Operand.tmp 8) (Operand.const (Value.bool true)) (Operand.tmp 12)), 4, none⟩,
    ⟨some 14, (Op.move (Operand.tmp 13)), 4, none⟩,
    ⟨some 15, (Op.fieldAddr 35 (Operand.tmp 1) 1), 0, some (14, false)⟩,
    ⟨some 16, (Op.load 3 (Operand.tmp 15)), 3, some (14, false)⟩,
    ⟨some 17, (Op.fieldAddr 35 (Operand.tmp 1) 2), 0, some (14, false)⟩,
    ⟨some 18, (Op.load 3 (Operand.tmp 17)), 3, some (14, false)⟩,
    ⟨some 19, (Op.binOp BinOp.eql 3 (Operand.tmp 16) (Operand.tmp 18) 3), 4, some (14, false)⟩,
    ⟨some 20, (Op.pick (Operand.tmp 14) (Operand.const (Value.bool true)) (Operand.tmp 19)), 4, none⟩]) (.cond (Operand.tmp 20) (.seq (.ops [⟨some 2, (Op.assign (Operand.const (Value.bool false))), 4, none⟩]) .ret) .skip)) (.seq (.ops [⟨some 21, (Op.load 35 (Operand.tmp 1)), 35, none⟩,
    ⟨some 3, (Op.alloc 35), 0, none⟩,
    ⟨none, (Op.store 35 (Operand.tmp 3) (Operand.tmp 21)), 0, none⟩]) (.seq (.seq (.ops [⟨some 22, (Op.fieldAddr 35 (Operand.tmp 1) 0), 0, none⟩,
    ⟨some 23, (Op.load 3 (Operand.tmp 22)), 3, none⟩]) (.block 0 (.seq (.ops [⟨some 25, (Op.binOp BinOp.eql 3 (Operand.tmp 23) (Operand.const (Value.int IntKind.i64 0)) 3), 4, none⟩,
    ⟨some 24, (Op.assign (Operand.tmp 25)), 4, none⟩]) (.cond (Operand.tmp 24) (.seq (.ops [⟨some 26, (Op.fieldAddr 35 (Operand.tmp 3) 3), 0, none⟩,
    ⟨none, (Op.store 23 (Operand.tmp 26) (Operand.const (Value.slice none 0 0))), 0, none⟩]) (.seq (.ops [⟨some 27, (Op.load 35 (Operand.tmp 3)), 35, none⟩,
    ⟨some 28, (Op.call ⟨(Callee.value (Operand.func 111)), #[(Operand.tmp 27)], #[35]⟩), 4, none⟩,
    ⟨some 29, (Op.move (Operand.tmp 28)), 4, none⟩,
    ⟨some 30, (Op.fieldAddr 35 (Operand.tmp 1) 3), 0, some (29, true)⟩,
    ⟨some 31, (Op.load 23 (Operand.tmp 30)), 23, some (29, true)⟩,
    ⟨some 32, (Op.call ⟨(Callee.builtin Builtin.len), #[(Operand.tmp 31)], #[23]⟩), 3, some (29, true)⟩,
    ⟨some 33, (Op.binOp BinOp.leq 3 (Operand.tmp 32) (Operand.const (Value.int IntKind.i64 16)) 3), 4, some (29, true)⟩,
    ⟨some 34, (Op.pick (Operand.tmp 29) (Operand.tmp 33) (Operand.const (Value.bool false))), 4, none⟩,
    ⟨some 35, (Op.move (Operand.tmp 34)), 4, none⟩,
    ⟨some 36, (Op.fieldAddr 35 (Operand.tmp 1) 3), 0, some (35, true)⟩,
    ⟨some 37, (Op.load 23 (Operand.tmp 36)), 23, some (35, true)⟩,
    ⟨some 38, (Op.call ⟨(Callee.value (Operand.func 112)), #[(Operand.tmp 37)], #[23]⟩), 4, some (35, true)⟩,
    ⟨some 39, (Op.pick (Operand.tmp 35) (Operand.tmp 38) (Operand.const (Value.bool false))), 4, none⟩,
    ⟨some 2, (Op.assign (Operand.tmp 39)), 4, none⟩]) .ret)) (.seq (.ops [⟨some 41, (Op.binOp BinOp.eql 3 (Operand.tmp 23) (Operand.const (Value.int IntKind.i64 1)) 3), 4, none⟩,
    ⟨some 40, (Op.assign (Operand.tmp 41)), 4, none⟩]) (.cond (Operand.tmp 40) (.seq (.ops [⟨some 42, (Op.build 33 #[]), 33, none⟩,
    ⟨some 43, (Op.fieldAddr 35 (Operand.tmp 3) 5), 0, none⟩,
    ⟨none, (Op.store 33 (Operand.tmp 43) (Operand.tmp 42)), 0, none⟩]) (.seq (.ops [⟨some 44, (Op.load 35 (Operand.tmp 3)), 35, none⟩,
    ⟨some 45, (Op.call ⟨(Callee.value (Operand.func 111)), #[(Operand.tmp 44)], #[35]⟩), 4, none⟩,
    ⟨some 46, (Op.move (Operand.tmp 45)), 4, none⟩,
    ⟨some 47, (Op.fieldAddr 35 (Operand.tmp 1) 5), 0, some (46, true)⟩,
    ⟨some 48, (Op.load 33 (Operand.tmp 47)), 33, some (46, true)⟩,
    ⟨some 49, (Op.call ⟨(Callee.value (Operand.func 70)), #[(Operand.tmp 48)], #[33]⟩), 4, some (46, true)⟩,
    ⟨some 50, (Op.pick (Operand.tmp 46) (Operand.tmp 49) (Operand.const (Value.bool false))), 4, none⟩,
    ⟨some 2, (Op.assign (Operand.tmp 50)), 4, none⟩]) .ret)) (.seq (.ops [⟨some 52, (Op.binOp BinOp.eql 3 (Operand.tmp 23) (Operand.const (Value.int IntKind.i64 2)) 3), 4, none⟩,
    ⟨some 51, (Op.assign (Operand.tmp 52)), 4, none⟩]) (.cond (Operand.tmp 51) (.seq (.ops [⟨some 53, (Op.fieldAddr 35 (Operand.tmp 3) 4), 0, none⟩,
    ⟨none, (Op.store 3 (Operand.tmp 53) (Operand.const (Value.int IntKind.i64 0))), 0, none⟩]) (.seq (.ops [⟨some 54, (Op.load 35 (Operand.tmp 3)), 35, none⟩,
    ⟨some 55, (Op.call ⟨(Callee.value (Operand.func 111)), #[(Operand.tmp 54)], #[35]⟩), 4, none⟩,
    ⟨some 56, (Op.move (Operand.tmp 55)), 4, none⟩,
    ⟨some 57, (Op.fieldAddr 35 (Operand.tmp 1) 4), 0, some (56, true)⟩,
    ⟨some 58, (Op.load 3 (Operand.tmp 57)), 3, some (56, true)⟩,
    ⟨some 59, (Op.call ⟨(Callee.value (Operand.func 47)), #[(Operand.tmp 58)], #[3]⟩), 4, some (56, true)⟩,
    ⟨some 60, (Op.pick (Operand.tmp 56) (Operand.tmp 59) (Operand.const (Value.bool false))), 4, none⟩,
    ⟨some 2, (Op.assign (Operand.tmp 60)), 4, none⟩]) .ret)) (.seq (.ops [⟨some 62, (Op.binOp BinOp.eql 3 (Operand.tmp 23) (Operand.const (Value.int IntKind.i64 3)) 3), 4, none⟩,
    ⟨some 61, (Op.assign (Operand.tmp 62)), 4, none⟩]) (.cond (Operand.tmp 61) (.seq (.seq (.ops [⟨some 63, (Op.fieldAddr 35 (Operand.tmp 3) 4), 0, none⟩,
    ⟨none, (Op.store 3 (Operand.tmp 63) (Operand.const (Value.int IntKind.i64 0))), 0, none⟩,
    ⟨some 64, (Op.fieldAddr 35 (Operand.tmp 3) 6), 0, none⟩,
    ⟨none, (Op.store 4 (Operand.tmp 64) (Operand.const (Value.bool false))), 0, none⟩]) (.seq (.ops [⟨some 65, (Op.fieldAddr 35 (Operand.tmp 1) 6), 0, none⟩,
    ⟨some 66, (Op.load 4 (Operand.tmp 65)), 4, none⟩]) (.cond (Operand.tmp 66) (.ops [⟨some 67, (Op.build 33 #[]), 33, none⟩,
    ⟨some 68, (Op.fieldAddr 35 (Operand.tmp 3) 5), 0, none⟩,
    ⟨none, (Op.store 33 (Operand.tmp 68) (Operand.tmp 67)), 0, none⟩]) .skip))) (.seq (.ops [⟨some 69, (Op.load 35 (Operand.tmp 3)), 35, none⟩,
    ⟨some 70, (Op.call ⟨(Callee.value (Operand.func 111)), #[(Operand.tmp 69)], #[35]⟩), 4, none⟩,
    ⟨some 71, (Op.move (Operand.tmp 70)), 4, none⟩,
    ⟨some 72, (Op.fieldAddr 35 (Operand.tmp 1) 4), 0, some (71, true)⟩,
    ⟨some 73, (Op.load 3 (Operand.tmp 72)), 3, some (71, true)⟩,
    ⟨some 74, (Op.call ⟨(Callee.value (Operand.func 47)), #[(Operand.tmp 73)], #[3]⟩), 4, some (71, true)⟩,
    ⟨some 75, (Op.pick (Operand.tmp 71) (Operand.tmp 74) (Operand.const (Value.bool false))), 4, none⟩,
    ⟨some 76, (Op.move (Operand.tmp 75)), 4, none⟩,
    ⟨some 77, (Op.fieldAddr 35 (Operand.tmp 1) 6), 0, some (76, true)⟩,
    ⟨some 78, (Op.load 4 (Operand.tmp 77)), 4, some (76, true)⟩,
    ⟨some 79, (Op.unOp UnOp.not 4 (Operand.tmp 78)), 4, some (76, true)⟩,
    ⟨some 80, (Op.move (Operand.tmp 79)), 4, some (76, true)⟩,
    ⟨some 81, (Op.fieldAddr 35 (Operand.tmp 1) 5), 0, some (80, false)⟩,
    ⟨some 82, (Op.load 33 (Operand.tmp 81)), 33, some (80, false)⟩,
    ⟨some 83, (Op.call ⟨(Callee.value (Operand.func 70)), #[(Operand.tmp 82)], #[33]⟩), 4, some (80, false)⟩,
    ⟨some 84, (Op.move (Operand.tmp 83)), 4, some (80, false)⟩,
    ⟨some 85, (Op.fieldAddr 35 (Operand.tmp 1) 5), 0, some (84, true)⟩,
    ⟨some 86, (Op.fieldAddr 33 (Operand.tmp 85) 0), 0, some (84, true)⟩,
    ⟨some 87, (Op.load 3 (Operand.tmp 86)), 3, some (84, true)⟩,
    ⟨some 88, (Op.fieldAddr 35 (Operand.tmp 1) 4), 0, some (84, true)⟩,
    ⟨some 89, (Op.load 3 (Operand.tmp 88)), 3, some (84, true)⟩,
    ⟨some 90, (Op.binOp BinOp.eql 3 (Operand.tmp 87) (Operand.tmp 89) 3), 4, some (84, true)⟩,
    ⟨some 91, (Op.pick (Operand.tmp 84) (Operand.tmp 90) (Operand.const (Value.bool false))), 4, some (80, false)⟩,
    ⟨some 92, (Op.pick (Operand.tmp 80) (Operand.const (Value.bool true)) (Operand.tmp 91)), 4, some (76, true)⟩,
    ⟨some 93, (Op.pick (Operand.tmp 76) (Operand.tmp 92) (Operand.const (Value.bool false))), 4, none⟩,
    ⟨some 2, (Op.assign (Operand.tmp 93)), 4, none⟩]) .ret)) .skip)))))))))) (.seq (.ops [⟨some 2, (Op.assign (Operand.const (Value.bool false))), 4, none⟩]) .ret)))))⟩
theorem is_msg_May (c : Cfg) (h : c.lendT = []) : isF PP c 85 c_msg_May := isF_of (fn := Proofs.Try.f85) (by kernel_rfl) (by kernel_rfl) rfl h (by kernel_rfl) rfl rfl (by kernel_rfl)
def c_item_Byte : SF := ⟨9, [(ResultVar.tmp 2)],
  (.seq (.ops [⟨some 2, (Op.assign (Operand.const (Value.bool false))), 4, none⟩]) (.seq (.ops [⟨some 3, (Op.move (Operand.tmp 0)), 3, none⟩,
    ⟨some 4, (Op.binOp BinOp.geq 3 (Operand.tmp 3) (Operand.const (Value.int IntKind.i64 0)) 3), 4, none⟩,
    ⟨some 5, (Op.move (Operand.tmp 4)), 4, none⟩,
    ⟨some 6, (Op.move (Operand.tmp 0)), 3, some (5, true)⟩,
    ⟨some 7, (Op.binOp BinOp.lss 3 (Operand.tmp 6) (Operand.const (Value.int IntKind.i64 256)) 3), 4, some (5, true)⟩,
    ⟨some 8, (Op.pick (Operand.tmp 5) (Operand.tmp 7) (Operand.const (Value.bool false))), 4, none⟩,
    ⟨some 2, (Op.assign (Operand.tmp 8)), 4, none⟩]) .ret))⟩
theorem is_item_Byte (c : Cfg) (h : c.lendT = []) : isF PP c 92 c_item_Byte := isF_of (fn := Proofs.Try.f92) (by kernel_rfl) (by kernel_rfl) rfl h (by kernel_rfl) rfl rfl (by kernel_rfl)
def c_version_May : SF := ⟨16, [(ResultVar.tmp 2)],
  (.seq (.ops [⟨some 1, (Op.box 31 (Operand.tmp 0)), 0, none⟩,
    ⟨some 2, (Op.assign (Operand.const (Value.bool false))), 4, none⟩]) (.seq (.ops [⟨some 3, (Op.fieldAddr 31 (Operand.tmp 1) 0), 0, none⟩,
    ⟨some 4, (Op.load 3 (Operand.tmp 3)), 3, none⟩,
    ⟨some 5, (Op.binOp BinOp.geq 3 (Operand.tmp 4) (Operand.const (Value.int IntKind.i64 1)) 3), 4, none⟩,
    ⟨some 6, (Op.move (Operand.tmp 5)), 4, none⟩,
    ⟨some 7, (Op.fieldAddr 31 (Operand.tmp 1) 0), 0, some (6, true)⟩,
    ⟨some 8, (Op.load 3 (Operand.tmp 7)), 3, some (6, true)⟩,
    ⟨some 9, (Op.binOp BinOp.leq 3 (Operand.tmp 8) (Operand.const (Value.int IntKind.i64 65535)) 3), 4, some (6, true)⟩,
    ⟨some 10, (Op.pick (Operand.tmp 6) (Operand.tmp 9) (Operand.const (Value.bool false))), 4, none⟩,
    ⟨some 11, (Op.move (Operand.tmp 10)), 4, none⟩,
    ⟨some 12, (Op.fieldAddr 31 (Operand.tmp 1) 1), 0, some (11, true)⟩,
    ⟨some 13, (Op.load 3 (Operand.tmp 12)), 3, some (11, true)⟩,
    ⟨some 14, (Op.call ⟨(Callee.value (Operand.func 47)), #[(Operand.tmp 13)], #[3]⟩), 4, some (11, true)⟩,
    ⟨some 15, (Op.pick (Operand.tmp 11) (Operand.tmp 14) (Operand.const (Value.bool false))), 4, none⟩,
    ⟨some 2, (Op.assign (Operand.tmp 15)), 4, none⟩]) .ret))⟩
theorem is_version_May (c : Cfg) (h : c.lendT = []) : isF PP c 93 c_version_May := isF_of (fn := Proofs.Try.f93) (by kernel_rfl) (by kernel_rfl) rfl h (by kernel_rfl) rfl rfl (by kernel_rfl)
def c_slices_ContainsFunc_api_Told_api_Told : SF := ⟨9, [(ResultVar.tmp 4)],
  (.seq (.ops [⟨some 4, (Op.assign (Operand.const (Value.bool false))), 4, none⟩]) (.seq (.ops [⟨some 5, (Op.move (Operand.tmp 0)), 27, none⟩,
    ⟨some 6, (Op.move (Operand.tmp 1)), 132, none⟩,
    ⟨some 7, (Op.call ⟨(Callee.value (Operand.func 116)), #[(Operand.tmp 5), (Operand.tmp 6)], #[27, 132]⟩), 3, none⟩,
    ⟨some 8, (Op.binOp BinOp.geq 3 (Operand.tmp 7) (Operand.const (Value.int IntKind.i64 0)) 3), 4, none⟩,
    ⟨some 4, (Op.assign (Operand.tmp 8)), 4, none⟩]) .ret))⟩
theorem is_slices_ContainsFunc_api_Told_api_Told (c : Cfg) (h : c.lendT = []) : isF PP c 98 c_slices_ContainsFunc_api_Told_api_Told := isF_of (fn := Proofs.Try.f98) (by kernel_rfl) (by kernel_rfl) rfl h (by kernel_rfl) rfl rfl (by kernel_rfl)
def c_node_odd : SF := ⟨23, [(ResultVar.tmp 2)],
  (.seq (.ops [⟨some 1, (Op.box 66 (Operand.tmp 0)), 0, none⟩,
    ⟨some 2, (Op.assign (Operand.const (Value.bool false))), 4, none⟩]) (.seq (.ops [⟨some 3, (Op.fieldAddr 66 (Operand.tmp 1) 0), 0, none⟩,
    ⟨some 4, (Op.load 3 (Operand.tmp 3)), 3, none⟩,
    ⟨some 5, (Op.call ⟨(Callee.value (Operand.func 92)), #[(Operand.tmp 4)], #[3]⟩), 4, none⟩,
    ⟨some 6, (Op.unOp UnOp.not 4 (Operand.tmp 5)), 4, none⟩,
    ⟨some 7, (Op.move (Operand.tmp 6)), 4, none⟩,
    ⟨some 8, (Op.fieldAddr 66 (Operand.tmp 1) 2), 0, some (7, false)⟩,
    ⟨some 9, (Op.load 3 (Operand.tmp 8)), 3, some (7, false)⟩,
    ⟨some 10, (Op.call ⟨(Callee.value (Operand.func 92)), #[(Operand.tmp 9)], #[3]⟩), 4, some (7, false)⟩,
    ⟨some 11, (Op.unOp UnOp.not 4 (Operand.tmp 10)), 4, some (7, false)⟩,
    ⟨some 12, (Op.pick (Operand.tmp 7) (Operand.const (Value.bool true)) (Operand.tmp 11)), 4, none⟩,
    ⟨some 13, (Op.move (Operand.tmp 12)), 4, none⟩,
    ⟨some 14, (Op.fieldAddr 66 (Operand.tmp 1) 1), 0, some (13, false)⟩,
    ⟨some 15, (Op.load 4 (Operand.tmp 14)), 4, some (13, false)⟩,
    ⟨some 16, (Op.unOp UnOp.not 4 (Operand.tmp 15)), 4, some (13, false)⟩,
    ⟨some 17, (Op.move (Operand.tmp 16)), 4, some (13, false)⟩,
    ⟨some 18, (Op.fieldAddr 66 (Operand.tmp 1) 2), 0, some (17, true)⟩,
    ⟨some 19, (Op.load 3 (Operand.tmp 18)), 3, some (17, true)⟩,
    ⟨some 20, (Op.binOp BinOp.neq 3 (Operand.tmp 19) (Operand.const (Value.int IntKind.i64 0)) 3), 4, some (17, true)⟩,
    ⟨some 21, (Op.pick (Operand.tmp 17) (Operand.tmp 20) (Operand.const (Value.bool false))), 4, some (13, false)⟩,
    ⟨some 22, (Op.pick (Operand.tmp 13) (Operand.const (Value.bool true)) (Operand.tmp 21)), 4, none⟩,
    ⟨some 2, (Op.assign (Operand.tmp 22)), 4, none⟩]) .ret))⟩
theorem is_node_odd (c : Cfg) (h : c.lendT = []) : isF PP c 99 c_node_odd := isF_of (fn := Proofs.Try.f99) (by kernel_rfl) (by kernel_rfl) rfl h (by kernel_rfl) rfl rfl (by kernel_rfl)
def c_peers_May_L0 : SC := (.seq (.ops [⟨some 19, (Op.binOp BinOp.lss 3 (Operand.tmp 18) (Operand.tmp 17) 3), 0, none⟩]) (.seq (.cond (Operand.tmp 19) .skip (.exit 0)) (.seq (.block 1 (.seq (.ops [⟨some 20, (Op.indexAddr 22 (Operand.tmp 16) (Operand.tmp 18)), 0, none⟩,
    ⟨some 21, (Op.load 102 (Operand.tmp 20)), 102, none⟩,
    ⟨some 7, (Op.alloc 102), 0, none⟩,
    ⟨none, (Op.store 102 (Operand.tmp 7) (Operand.tmp 21)), 0, none⟩]) (.seq (.seq (.ops [⟨some 22, (Op.fieldAddr 102 (Operand.tmp 7) 0), 0, none⟩,
    ⟨some 23, (Op.load 3 (Operand.tmp 22)), 3, none⟩,
    ⟨some 24, (Op.call ⟨(Callee.value (Operand.func 47)), #[(Operand.tmp 23)], #[3]⟩), 4, none⟩,
    ⟨some 25, (Op.unOp UnOp.not 4 (Operand.tmp 24)), 4, none⟩,
    ⟨some 26, (Op.move (Operand.tmp 25)), 4, none⟩,
    ⟨some 27, (Op.fieldAddr 102 (Operand.tmp 7) 1), 0, some (26, false)⟩,
    ⟨some 28, (Op.load 3 (Operand.tmp 27)), 3, some (26, false)⟩,
    ⟨some 29, (Op.binOp BinOp.lss 3 (Operand.tmp 28) (Operand.const (Value.int IntKind.i64 0)) 3), 4, some (26, false)⟩,
    ⟨some 30, (Op.pick (Operand.tmp 26) (Operand.const (Value.bool true)) (Operand.tmp 29)), 4, none⟩,
    ⟨some 31, (Op.move (Operand.tmp 30)), 4, none⟩,
    ⟨some 32, (Op.fieldAddr 102 (Operand.tmp 7) 1), 0, some (31, false)⟩,
    ⟨some 33, (Op.load 3 (Operand.tmp 32)), 3, some (31, false)⟩,
    ⟨some 34, (Op.binOp BinOp.geq 3 (Operand.tmp 33) (Operand.const (Value.int IntKind.i64 3)) 3), 4, some (31, false)⟩,
    ⟨some 35, (Op.pick (Operand.tmp 31) (Operand.const (Value.bool true)) (Operand.tmp 34)), 4, none⟩,
    ⟨some 36, (Op.move (Operand.tmp 35)), 4, none⟩,
    ⟨some 37, (Op.move (Operand.tmp 0)), 3, some (36, false)⟩,
    ⟨some 38, (Op.fieldAddr 102 (Operand.tmp 7) 0), 0, some (36, false)⟩,
    ⟨some 39, (Op.load 3 (Operand.tmp 38)), 3, some (36, false)⟩,
    ⟨some 40, (Op.call ⟨(Callee.value (Operand.func 117)), #[(Operand.tmp 37), (Operand.tmp 39)], #[3, 3]⟩), 3, some (36, false)⟩,
    ⟨some 41, (Op.move (Operand.tmp 5)), 3, some (36, false)⟩,
    ⟨some 42, (Op.binOp BinOp.leq 3 (Operand.tmp 40) (Operand.tmp 41) 3), 4, some (36, false)⟩,
    ⟨some 43, (Op.pick (Operand.tmp 36) (Operand.const (Value.bool true)) (Operand.tmp 42)), 4, none⟩]) (.cond (Operand.tmp 43) (.seq (.ops [⟨some 4, (Op.assign (Operand.const (Value.bool false))), 4, none⟩]) .ret) .skip)) (.ops [⟨some 44, (Op.move (Operand.tmp 0)), 3, none⟩,
    ⟨some 45, (Op.fieldAddr 102 (Operand.tmp 7) 0), 0, none⟩,
    ⟨some 46, (Op.load 3 (Operand.tmp 45)), 3, none⟩,
    ⟨some 47, (Op.call ⟨(Callee.value (Operand.func 117)), #[(Operand.tmp 44), (Operand.tmp 46)], #[3, 3]⟩), 3, none⟩,
    ⟨some 5, (Op.assign (Operand.tmp 47)), 3, none⟩])))) (.ops [⟨some 48, (Op.binOp BinOp.add 3 (Operand.tmp 18) (Operand.const (Value.int IntKind.i64 1)) 3), 3, none⟩,
    ⟨some 18, (Op.move (Operand.tmp 48)), 3, none⟩]))))
def c_peers_May : SF := ⟨49, [(ResultVar.tmp 4)],
  (.seq (.ops [⟨some 4, (Op.assign (Operand.const (Value.bool false))), 4, none⟩]) (.seq (.seq (.ops [⟨some 8, (Op.move (Operand.tmp 0)), 3, none⟩,
    ⟨some 9, (Op.call ⟨(Callee.value (Operand.func 47)), #[(Operand.tmp 8)], #[3]⟩), 4, none⟩,
    ⟨some 10, (Op.unOp UnOp.not 4 (Operand.tmp 9)), 4, none⟩,
    ⟨some 11, (Op.move (Operand.tmp 10)), 4, none⟩,
    ⟨some 12, (Op.move (Operand.tmp 1)), 22, some (11, false)⟩,
    ⟨some 13, (Op.call ⟨(Callee.builtin Builtin.len), #[(Operand.tmp 12)], #[22]⟩), 3, some (11, false)⟩,
    ⟨some 14, (Op.binOp BinOp.gtr 3 (Operand.tmp 13) (Operand.const (Value.int IntKind.i64 16)) 3), 4, some (11, false)⟩,
    ⟨some 15, (Op.pick (Operand.tmp 11) (Operand.const (Value.bool true)) (Operand.tmp 14)), 4, none⟩]) (.cond (Operand.tmp 15) (.seq (.ops [⟨some 4, (Op.assign (Operand.const (Value.bool false))), 4, none⟩]) .ret) .skip)) (.seq (.ops [⟨some 5, (Op.assign (Operand.const (Value.int IntKind.i64 0))), 3, none⟩]) (.seq (.seq (.ops [⟨some 16, (Op.move (Operand.tmp 1)), 22, none⟩,
    ⟨some 17, (Op.call ⟨(Callee.builtin Builtin.len), #[(Operand.tmp 16)], #[22]⟩), 3, none⟩,
    ⟨some 18, (Op.move (Operand.const (Value.int IntKind.i64 0))), 3, none⟩]) (.block 0 (.loop c_peers_May_L0))) (.seq (.ops [⟨some 4, (Op.assign (Operand.const (Value.bool true))), 4, none⟩]) .ret)))))⟩
theorem is_peers_May (c : Cfg) (h : c.lendT = []) : isF PP c 100 c_peers_May := isF_of (fn := Proofs.Try.f100) (by kernel_rfl) (by kernel_rfl) rfl h (by kernel_rfl) rfl rfl (by kernel_rfl)
def c_passive_May_L0 : SC := (.seq (.ops [⟨some 8, (Op.binOp BinOp.lss 3 (Operand.tmp 7) (Operand.tmp 6) 3), 0, none⟩]) (.seq (.cond (Operand.tmp 8) .skip (.exit 0)) (.seq (.block 1 (.seq (.ops [⟨some 9, (Op.move (Operand.tmp 7)), 3, none⟩,
    ⟨some 10, (Op.indexAddr 23 (Operand.tmp 5) (Operand.tmp 7)), 0, none⟩,
    ⟨some 11, (Op.load 3 (Operand.tmp 10)), 3, none⟩,
    ⟨some 3, (Op.assign (Operand.tmp 9)), 3, none⟩,
    ⟨some 4, (Op.assign (Operand.tmp 11)), 3, none⟩]) (.seq (.ops [⟨some 12, (Op.move (Operand.tmp 4)), 3, none⟩,
    ⟨some 13, (Op.call ⟨(Callee.value (Operand.func 47)), #[(Operand.tmp 12)], #[3]⟩), 4, none⟩,
    ⟨some 14, (Op.unOp UnOp.not 4 (Operand.tmp 13)), 4, none⟩,
    ⟨some 15, (Op.move (Operand.tmp 14)), 4, none⟩,
    ⟨some 16, (Op.move (Operand.tmp 3)), 3, some (15, false)⟩,
    ⟨some 17, (Op.binOp BinOp.gtr 3 (Operand.tmp 16) (Operand.const (Value.int IntKind.i64 0)) 3), 4, some (15, false)⟩,
    ⟨some 18, (Op.move (Operand.tmp 17)), 4, some (15, false)⟩,
    ⟨some 19, (Op.move (Operand.tmp 0)), 23, some (18, true)⟩,
    ⟨some 20, (Op.move (Operand.tmp 3)), 3, some (18, true)⟩,
    ⟨some 21, (Op.binOp BinOp.sub 3 (Operand.tmp 20) (Operand.const (Value.int IntKind.i64 1)) 3), 3, some (18, true)⟩,
    ⟨some 22, (Op.indexAddr 23 (Operand.tmp 19) (Operand.tmp 21)), 0, some (18, true)⟩,
    ⟨some 23, (Op.load 3 (Operand.tmp 22)), 3, some (18, true)⟩,
    ⟨some 24, (Op.move (Operand.tmp 4)), 3, some (18, true)⟩,
    ⟨some 25, (Op.binOp BinOp.geq 3 (Operand.tmp 23) (Operand.tmp 24) 3), 4, some (18, true)⟩,
    ⟨some 26, (Op.pick (Operand.tmp 18) (Operand.tmp 25) (Operand.const (Value.bool false))), 4, some (15, false)⟩,
    ⟨some 27, (Op.pick (Operand.tmp 15) (Operand.const (Value.bool true)) (Operand.tmp 26)), 4, none⟩]) (.cond (Operand.tmp 27) (.seq (.ops [⟨some 2, (Op.assign (Operand.const (Value.bool false))), 4, none⟩]) .ret) .skip)))) (.ops [⟨some 28, (Op.binOp BinOp.add 3 (Operand.tmp 7) (Operand.const (Value.int IntKind.i64 1)) 3), 3, none⟩,
    ⟨some 7, (Op.move (Operand.tmp 28)), 3, none⟩]))))
def c_passive_May : SF := ⟨32, [(ResultVar.tmp 2)],
  (.seq (.ops [⟨some 2, (Op.assign (Operand.const (Value.bool false))), 4, none⟩]) (.seq (.seq (.ops [⟨some 5, (Op.move (Operand.tmp 0)), 23, none⟩,
    ⟨some 6, (Op.call ⟨(Callee.builtin Builtin.len), #[(Operand.tmp 5)], #[23]⟩), 3, none⟩,
    ⟨some 7, (Op.move (Operand.const (Value.int IntKind.i64 0))), 3, none⟩]) (.block 0 (.loop c_passive_May_L0))) (.seq (.ops [⟨some 29, (Op.move (Operand.tmp 0)), 23, none⟩,
    ⟨some 30, (Op.call ⟨(Callee.builtin Builtin.len), #[(Operand.tmp 29)], #[23]⟩), 3, none⟩,
    ⟨some 31, (Op.binOp BinOp.leq 3 (Operand.tmp 30) (Operand.const (Value.int IntKind.i64 16)) 3), 4, none⟩,
    ⟨some 2, (Op.assign (Operand.tmp 31)), 4, none⟩]) .ret)))⟩
theorem is_passive_May (c : Cfg) (h : c.lendT = []) : isF PP c 101 c_passive_May := isF_of (fn := Proofs.Try.f101) (by kernel_rfl) (by kernel_rfl) rfl h (by kernel_rfl) rfl rfl (by kernel_rfl)
def c_view_May_1 : SF := ⟨12, [(ResultVar.tmp 3)],
  (.seq (.ops [⟨some 3, (Op.assign (Operand.const (Value.bool false))), 4, none⟩]) (.seq (.ops [⟨some 4, (Op.move (Operand.tmp 0)), 3, none⟩,
    ⟨some 5, (Op.fieldAddr 25 (Operand.tmp 1) 0), 0, none⟩,
    ⟨some 6, (Op.load 3 (Operand.tmp 5)), 3, none⟩,
    ⟨some 7, (Op.binOp BinOp.eql 3 (Operand.tmp 4) (Operand.tmp 6) 3), 4, none⟩,
    ⟨some 8, (Op.move (Operand.tmp 7)), 4, none⟩,
    ⟨some 9, (Op.move (Operand.tmp 0)), 3, some (8, false)⟩,
    ⟨some 10, (Op.call ⟨(Callee.value (Operand.func 103)), #[(Operand.tmp 1), (Operand.tmp 9)], #[117, 3]⟩), 4, some (8, false)⟩,
    ⟨some 11, (Op.pick (Operand.tmp 8) (Operand.const (Value.bool true)) (Operand.tmp 10)), 4, none⟩,
    ⟨some 3, (Op.assign (Operand.tmp 11)), 4, none⟩]) .ret))⟩
theorem is_view_May_1 (c : Cfg) (h : c.lendT = []) : isF PP c 102 c_view_May_1 := isF_of (fn := Proofs.Try.f102) (by kernel_rfl) (by kernel_rfl) rfl h (by kernel_rfl) rfl rfl (by kernel_rfl)
def c_view_Peer : SF := ⟨21, [(ResultVar.tmp 4)],
  (.seq (.ops [⟨some 4, (Op.assign (Operand.const (Value.bool false))), 4, none⟩]) (.seq (.ops [⟨some 8, (Op.move (Operand.tmp 0)), 117, none⟩,
    ⟨some 12, (Op.move (Operand.tmp 0)), 117, none⟩,
    ⟨some 16, (Op.move (Operand.tmp 1)), 3, none⟩,
    ⟨some 9, (Op.nilCheck (Operand.tmp 8)), 0, none⟩,
    ⟨some 10, (Op.fieldAddr 25 (Operand.tmp 9) 0), 0, none⟩,
    ⟨some 11, (Op.load 3 (Operand.tmp 10)), 3, none⟩,
    ⟨some 13, (Op.nilCheck (Operand.tmp 12)), 0, none⟩,
    ⟨some 14, (Op.fieldAddr 25 (Operand.tmp 13) 1), 0, none⟩,
    ⟨some 15, (Op.load 22 (Operand.tmp 14)), 22, none⟩,
    ⟨some 17, (Op.call ⟨(Callee.value (Operand.func 118)), #[(Operand.tmp 11), (Operand.tmp 15), (Operand.tmp 16)], #[3, 22, 3]⟩), 118, none⟩,
    ⟨some 7, (Op.move (Operand.tmp 17)), 118, none⟩,
    ⟨some 18, (Op.extract (Operand.tmp 7) 0), 3, none⟩,
    ⟨some 19, (Op.extract (Operand.tmp 7) 1), 4, none⟩,
    ⟨some 5, (Op.assign (Operand.tmp 18)), 3, none⟩,
    ⟨some 6, (Op.assign (Operand.tmp 19)), 4, none⟩]) (.seq (.ops [⟨some 20, (Op.move (Operand.tmp 6)), 4, none⟩,
    ⟨some 4, (Op.assign (Operand.tmp 20)), 4, none⟩]) .ret)))⟩
theorem is_view_Peer (c : Cfg) (h : c.lendT = []) : isF PP c 103 c_view_Peer := isF_of (fn := Proofs.Try.f103) (by kernel_rfl) (by kernel_rfl) rfl h (by kernel_rfl) rfl rfl (by kernel_rfl)
def c_slices_ContainsFunc_int_int : SF := ⟨9, [(ResultVar.tmp 4)],
  (.seq (.ops [⟨some 4, (Op.assign (Operand.const (Value.bool false))), 4, none⟩]) (.seq (.ops [⟨some 5, (Op.move (Operand.tmp 0)), 23, none⟩,
    ⟨some 6, (Op.move (Operand.tmp 1)), 88, none⟩,
    ⟨some 7, (Op.call ⟨(Callee.value (Operand.func 119)), #[(Operand.tmp 5), (Operand.tmp 6)], #[23, 88]⟩), 3, none⟩,
    ⟨some 8, (Op.binOp BinOp.geq 3 (Operand.tmp 7) (Operand.const (Value.int IntKind.i64 0)) 3), 4, none⟩,
    ⟨some 4, (Op.assign (Operand.tmp 8)), 4, none⟩]) .ret))⟩
theorem is_slices_ContainsFunc_int_int (c : Cfg) (h : c.lendT = []) : isF PP c 104 c_slices_ContainsFunc_int_int := isF_of (fn := Proofs.Try.f104) (by kernel_rfl) (by kernel_rfl) rfl h (by kernel_rfl) rfl rfl (by kernel_rfl)
def c_row_may : SF := ⟨16, [(ResultVar.tmp 4)],
  (.seq (.ops [⟨some 4, (Op.assign (Operand.const (Value.bool false))), 4, none⟩]) (.seq (.ops [⟨some 5, (Op.move (Operand.tmp 0)), 3, none⟩,
    ⟨some 6, (Op.call ⟨(Callee.value (Operand.func 47)), #[(Operand.tmp 5)], #[3]⟩), 4, none⟩,
    ⟨some 7, (Op.move (Operand.tmp 6)), 4, none⟩,
    ⟨some 8, (Op.move (Operand.tmp 1)), 23, some (7, true)⟩,
    ⟨some 9, (Op.call ⟨(Callee.builtin Builtin.len), #[(Operand.tmp 8)], #[23]⟩), 3, some (7, true)⟩,
    ⟨some 10, (Op.binOp BinOp.leq 3 (Operand.tmp 9) (Operand.const (Value.int IntKind.i64 64)) 3), 4, some (7, true)⟩,
    ⟨some 11, (Op.pick (Operand.tmp 7) (Operand.tmp 10) (Operand.const (Value.bool false))), 4, none⟩,
    ⟨some 12, (Op.move (Operand.tmp 11)), 4, none⟩,
    ⟨some 13, (Op.move (Operand.tmp 1)), 23, some (12, true)⟩,
    ⟨some 14, (Op.call ⟨(Callee.value (Operand.func 112)), #[(Operand.tmp 13)], #[23]⟩), 4, some (12, true)⟩,
    ⟨some 15, (Op.pick (Operand.tmp 12) (Operand.tmp 14) (Operand.const (Value.bool false))), 4, none⟩,
    ⟨some 4, (Op.assign (Operand.tmp 15)), 4, none⟩]) .ret))⟩
theorem is_row_may (c : Cfg) (h : c.lendT = []) : isF PP c 105 c_row_may := isF_of (fn := Proofs.Try.f105) (by kernel_rfl) (by kernel_rfl) rfl h (by kernel_rfl) rfl rfl (by kernel_rfl)
def c_slices_MinFunc_int_int_L0 : SC := (.seq (.seq (.ops [⟨some 14, (Op.move (Operand.tmp 6)), 3, none⟩,
    ⟨some 15, (Op.move (Operand.tmp 0)), 23, none⟩,
    ⟨some 16, (Op.call ⟨(Callee.builtin Builtin.len), #[(Operand.tmp 15)], #[23]⟩), 3, none⟩,
    ⟨some 17, (Op.binOp BinOp.lss 3 (Operand.tmp 14) (Operand.tmp 16) 3), 4, none⟩]) (.cond (Operand.tmp 17) .skip (.exit 0))) (.seq (.block 1 (.seq (.ops [⟨some 20, (Op.move (Operand.tmp 1)), 126, none⟩,
    ⟨some 21, (Op.move (Operand.tmp 0)), 23, none⟩,
    ⟨some 22, (Op.move (Operand.tmp 6)), 3, none⟩,
    ⟨some 23, (Op.indexAddr 23 (Operand.tmp 21) (Operand.tmp 22)), 0, none⟩,
    ⟨some 24, (Op.load 3 (Operand.tmp 23)), 3, none⟩,
    ⟨some 25, (Op.move (Operand.tmp 5)), 3, none⟩,
    ⟨some 26, (Op.call ⟨(Callee.value (Operand.tmp 20)), #[(Operand.tmp 24), (Operand.tmp 25)], #[3, 3]⟩), 3, none⟩,
    ⟨some 27, (Op.binOp BinOp.lss 3 (Operand.tmp 26) (Operand.const (Value.int IntKind.i64 0)) 3), 4, none⟩]) (.cond (Operand.tmp 27) (.ops [⟨some 28, (Op.move (Operand.tmp 0)), 23, none⟩,
    ⟨some 29, (Op.move (Operand.tmp 6)), 3, none⟩,
    ⟨some 30, (Op.indexAddr 23 (Operand.tmp 28) (Operand.tmp 29)), 0, none⟩,
    ⟨some 31, (Op.load 3 (Operand.tmp 30)), 3, none⟩,
    ⟨some 5, (Op.assign (Operand.tmp 31)), 3, none⟩]) .skip))) (.ops [⟨some 18, (Op.move (Operand.tmp 6)), 3, none⟩,
    ⟨some 19, (Op.binOp BinOp.add 3 (Operand.tmp 18) (Operand.const (Value.int IntKind.i64 1)) 3), 3, none⟩,
    ⟨some 6, (Op.assign (Operand.tmp 19)), 3, none⟩])))
def c_slices_MinFunc_int_int : SF := ⟨33, [(ResultVar.tmp 4)],
  (.seq (.ops [⟨some 4, (Op.assign (Operand.const (Value.int IntKind.i64 0))), 3, none⟩]) (.seq (.seq (.ops [⟨some 7, (Op.move (Operand.tmp 0)), 23, none⟩,
    ⟨some 8, (Op.call ⟨(Callee.builtin Builtin.len), #[(Operand.tmp 7)], #[23]⟩), 3, none⟩,
    ⟨some 9, (Op.binOp BinOp.lss 3 (Operand.tmp 8) (Operand.const (Value.int IntKind.i64 1)) 3), 4, none⟩]) (.cond (Operand.tmp 9) (.ops [⟨some 10, (Op.makeInterface 9 (Operand.const (Value.string { data := #[115, 108, 105, 99, 101, 115, 46, 77, 105, 110, 70, 117, 110, 99, 58, 32, 101, 109, 112, 116, 121, 32, 108, 105, 115, 116] }))), 20, none⟩,
    ⟨none, (Op.panic (Operand.tmp 10)), 0, none⟩]) .skip)) (.seq (.ops [⟨some 11, (Op.move (Operand.tmp 0)), 23, none⟩,
    ⟨some 12, (Op.indexAddr 23 (Operand.tmp 11) (Operand.const (Value.int IntKind.i64 0))), 0, none⟩,
    ⟨some 13, (Op.load 3 (Operand.tmp 12)), 3, none⟩,
    ⟨some 5, (Op.assign (Operand.tmp 13)), 3, none⟩]) (.seq (.seq (.ops [⟨some 6, (Op.assign (Operand.const (Value.int IntKind.i64 1))), 3, none⟩]) (.block 0 (.loop c_slices_MinFunc_int_int_L0))) (.seq (.ops [⟨some 32, (Op.move (Operand.tmp 5)), 3, none⟩,
    ⟨some 4, (Op.assign (Operand.tmp 32)), 3, none⟩]) .ret)))))⟩
theorem is_slices_MinFunc_int_int (c : Cfg) (h : c.lendT = []) : isF PP c 106 c_slices_MinFunc_int_int := isF_of (fn := Proofs.Try.f106) (by kernel_rfl) (by kernel_rfl) rfl h (by kernel_rfl) rfl rfl (by kernel_rfl)
def c_row_By : SF := ⟨4, [(ResultVar.tmp 2)],
  (.seq (.ops [⟨some 1, (Op.box 3 (Operand.tmp 0)), 0, none⟩,
    ⟨some 2, (Op.assign (Operand.const Value.nilFunc)), 126, none⟩]) (.seq (.ops [⟨some 3, (Op.makeFunc (Fn.func 120) #[] #[(Operand.tmp 1)]), 126, none⟩,
    ⟨some 2, (Op.assign (Operand.tmp 3)), 126, none⟩]) .ret))⟩
theorem is_row_By (c : Cfg) (h : c.lendT = []) : isF PP c 107 c_row_By := isF_of (fn := Proofs.Try.f107) (by kernel_rfl) (by kernel_rfl) rfl h (by kernel_rfl) rfl rfl (by kernel_rfl)
def c_cmp_Compare_int : SF := ⟨20, [(ResultVar.tmp 4)],
  (.seq (.ops [⟨some 4, (Op.assign (Operand.const (Value.int IntKind.i64 0))), 3, none⟩]) (.seq (.ops [⟨some 7, (Op.move (Operand.tmp 0)), 3, none⟩,
    ⟨some 8, (Op.call ⟨(Callee.value (Operand.func 121)), #[(Operand.tmp 7)], #[3]⟩), 4, none⟩,
    ⟨some 5, (Op.assign (Operand.tmp 8)), 4, none⟩]) (.seq (.ops [⟨some 9, (Op.move (Operand.tmp 1)), 3, none⟩,
    ⟨some 10, (Op.call ⟨(Callee.value (Operand.func 121)), #[(Operand.tmp 9)], #[3]⟩), 4, none⟩,
    ⟨some 6, (Op.assign (Operand.tmp 10)), 4, none⟩]) (.seq (.seq (.ops [⟨some 11, (Op.move (Operand.tmp 5)), 4, none⟩]) (.cond (Operand.tmp 11) (.seq (.seq (.ops [⟨some 12, (Op.move (Operand.tmp 6)), 4, none⟩]) (.cond (Operand.tmp 12) (.seq (.ops [⟨some 4, (Op.assign (Operand.const (Value.int IntKind.i64 0))), 3, none⟩]) .ret) .skip)) (.seq (.ops [⟨some 4, (Op.assign (Operand.const (Value.int IntKind.i64 (-1)))), 3, none⟩]) .ret)) .skip)) (.seq (.seq (.ops [⟨some 13, (Op.move (Operand.tmp 6)), 4, none⟩]) (.cond (Operand.tmp 13) (.seq (.ops [⟨some 4, (Op.assign (Operand.const (Value.int IntKind.i64 1))), 3, none⟩]) .ret) .skip)) (.seq (.seq (.ops [⟨some 14, (Op.move (Operand.tmp 0)), 3, none⟩,
    ⟨some 15, (Op.move (Operand.tmp 1)), 3, none⟩,
    ⟨some 16, (Op.binOp BinOp.lss 3 (Operand.tmp 14) (Operand.tmp 15) 3), 4, none⟩]) (.cond (Operand.tmp 16) (.seq (.ops [⟨some 4, (Op.assign (Operand.const (Value.int IntKind.i64 (-1)))), 3, none⟩]) .ret) .skip)) (.seq (.seq (.ops [⟨some 17, (Op.move (Operand.tmp 0)), 3, none⟩,
    ⟨some 18, (Op.move (Operand.tmp 1)), 3, none⟩,
    ⟨some 19, (Op.binOp BinOp.gtr 3 (Operand.tmp 17) (Operand.tmp 18) 3), 4, none⟩]) (.cond (Operand.tmp 19) (.seq (.ops [⟨some 4, (Op.assign (Operand.const (Value.int IntKind.i64 1))), 3, none⟩]) .ret) .skip)) (.seq (.ops [⟨some 4, (Op.assign (Operand.const (Value.int IntKind.i64 0))), 3, none⟩]) .ret))))))))⟩
theorem is_cmp_Compare_int (c : Cfg) (h : c.lendT = []) : isF PP c 108 c_cmp_Compare_int := isF_of (fn := Proofs.Try.f108) (by kernel_rfl) (by kernel_rfl) rfl h (by kernel_rfl) rfl rfl (by kernel_rfl)
def c_slices_Clone_api_Peer_api_Peer : SF := ⟨8, [(ResultVar.tmp 2)],
  (.seq (.ops [⟨some 2, (Op.assign (Operand.const (Value.slice none 0 0))), 22, none⟩]) (.seq (.seq (.ops [⟨some 3, (Op.move (Operand.tmp 0)), 22, none⟩,
    ⟨some 4, (Op.binOp BinOp.eql 22 (Operand.tmp 3) (Operand.const (Value.slice none 0 0)) 22), 4, none⟩]) (.cond (Operand.tmp 4) (.seq (.ops [⟨some 2, (Op.assign (Operand.const (Value.slice none 0 0))), 22, none⟩]) .ret) .skip)) (.seq (.ops [⟨some 5, (Op.buildSlice 22 0 #[]), 22, none⟩,
    ⟨some 6, (Op.move (Operand.tmp 0)), 22, none⟩,
    ⟨some 7, (Op.call ⟨(Callee.builtin Builtin.append), #[(Operand.tmp 5), (Operand.tmp 6)], #[22, 22]⟩), 22, none⟩,
    ⟨some 2, (Op.assign (Operand.tmp 7)), 22, none⟩]) .ret)))⟩
theorem is_slices_Clone_api_Peer_api_Peer (c : Cfg) (h : c.lendT = []) : isF PP c 109 c_slices_Clone_api_Peer_api_Peer := isF_of (fn := Proofs.Try.f109) (by kernel_rfl) (by kernel_rfl) rfl h (by kernel_rfl) rfl rfl (by kernel_rfl)
def c_slices_Clone_int_int : SF := ⟨8, [(ResultVar.tmp 2)],
  (.seq (.ops [⟨some 2, (Op.assign (Operand.const (Value.slice none 0 0))), 23, none⟩]) (.seq (.seq (.ops [⟨some 3, (Op.move (Operand.tmp 0)), 23, none⟩,
    ⟨some 4, (Op.binOp BinOp.eql 23 (Operand.tmp 3) (Operand.const (Value.slice none 0 0)) 23), 4, none⟩]) (.cond (Operand.tmp 4) (.seq (.ops [⟨some 2, (Op.assign (Operand.const (Value.slice none 0 0))), 23, none⟩]) .ret) .skip)) (.seq (.ops [⟨some 5, (Op.buildSlice 23 0 #[]), 23, none⟩,
    ⟨some 6, (Op.move (Operand.tmp 0)), 23, none⟩,
    ⟨some 7, (Op.call ⟨(Callee.builtin Builtin.append), #[(Operand.tmp 5), (Operand.tmp 6)], #[23, 23]⟩), 23, none⟩,
    ⟨some 2, (Op.assign (Operand.tmp 7)), 23, none⟩]) .ret)))⟩
theorem is_slices_Clone_int_int (c : Cfg) (h : c.lendT = []) : isF PP c 110 c_slices_Clone_int_int := isF_of (fn := Proofs.Try.f110) (by kernel_rfl) (by kernel_rfl) rfl h (by kernel_rfl) rfl rfl (by kernel_rfl)
end Go.AM
/- AM: this seat's functions in short. -/
namespace Go.AM
set_option linter.unusedSimpArgs false
set_option linter.unusedVariables false
def c_msg_none : SF := ⟨23, [(ResultVar.tmp 2)],
  (.seq (.ops [⟨some 1, (Op.box 35 (Operand.tmp 0)), 0, none⟩,
    ⟨some 2, (Op.assign (Operand.const (Value.bool false))), 4, none⟩]) (.seq (.ops [⟨some 3, (Op.fieldAddr 35 (Operand.tmp 1) 3), 0, none⟩,
    ⟨some 4, (Op.load 23 (Operand.tmp 3)), 23, none⟩,
    ⟨some 5, (Op.call ⟨(Callee.builtin Builtin.len), #[(Operand.tmp 4)], #[23]⟩), 3, none⟩,
    ⟨some 6, (Op.binOp BinOp.eql 3 (Operand.tmp 5) (Operand.const (Value.int IntKind.i64 0)) 3), 4, none⟩,
    ⟨some 7, (Op.move (Operand.tmp 6)), 4, none⟩,
    ⟨some 8, (Op.fieldAddr 35 (Operand.tmp 1) 4), 0, some (7, true)⟩,
    ⟨some 9, (Op.load 3 (Operand.tmp 8)), 3, some (7, true)⟩,
    ⟨some 10, (Op.binOp BinOp.eql 3 (Operand.tmp 9) (Operand.const (Value.int IntKind.i64 0)) 3), 4, some (7, true)⟩,
    ⟨some 11, (Op.pick (Operand.tmp 7) (Operand.tmp 10) (Operand.const (Value.bool false))), 4, none⟩,
    ⟨some 12, (Op.move (Operand.tmp 11)), 4, none⟩,
    ⟨some 13, (Op.fieldAddr 35 (Operand.tmp 1) 5), 0, some (12, true)⟩,
    ⟨some 14, (Op.load 33 (Operand.tmp 13)), 33, some (12, true)⟩,
    ⟨some 15, (Op.build 33 #[]), 33, some (12, true)⟩,
    ⟨some 16, (Op.binOp BinOp.eql 33 (Operand.tmp 14) (Operand.tmp 15) 33), 4, some (12, true)⟩,
    ⟨some 17, (Op.pick (Operand.tmp 12) (Operand.tmp 16) (Operand.const (Value.bool false))), 4, none⟩,
    ⟨some 18, (Op.move (Operand.tmp 17)), 4, none⟩,
    ⟨some 19, (Op.fieldAddr 35 (Operand.tmp 1) 6), 0, some (18, true)⟩,
    ⟨some 20, (Op.load 4 (Operand.tmp 19)), 4, some (18, true)⟩,
    ⟨some 21, (Op.unOp UnOp.not 4 (Operand.tmp 20)), 4, some (18, true)⟩,
    ⟨some 22, (Op.pick (Operand.tmp 18) (Operand.tmp 21) (Operand.const (Value.bool false))), 4, none⟩,
    ⟨some 2, (Op.assign (Operand.tmp 22)), 4, none⟩]) .ret))⟩
theorem is_msg_none (c : Cfg) (h : c.lendT = []) : isF PP c 111 c_msg_none := isF_of (fn := Proofs.Try.f111) (by kernel_rfl) (by kernel_rfl) rfl h (by kernel_rfl) rfl rfl (by kernel_rfl)
def c_ring_Places_L0 : SC := (.seq (.ops [⟨some 8, (Op.binOp BinOp.lss 3 (Operand.tmp 7) (Operand.tmp 6) 3), 0, none⟩]) (.seq (.cond (Operand.tmp 8) .skip (.exit 0)) (.seq (.block 1 (.seq (.ops [⟨some 9, (Op.indexAddr 23 (Operand.tmp 5) (Operand.tmp 7)), 0, none⟩,
    ⟨some 10, (Op.load 3 (Operand.tmp 9)), 3, none⟩,
    ⟨some 4, (Op.assign (Operand.tmp 10)), 3, none⟩]) (.seq (.ops [⟨some 11, (Op.move (Operand.tmp 4)), 3, none⟩,
    ⟨some 12, (Op.call ⟨(Callee.value (Operand.func 47)), #[(Operand.tmp 11)], #[3]⟩), 4, none⟩,
    ⟨some 13, (Op.unOp UnOp.not 4 (Operand.tmp 12)), 4, none⟩]) (.cond (Operand.tmp 13) (.seq (.ops [⟨some 2, (Op.assign (Operand.const (Value.bool false))), 4, none⟩]) .ret) .skip)))) (.ops [⟨some 14, (Op.binOp BinOp.add 3 (Operand.tmp 7) (Operand.const (Value.int IntKind.i64 1)) 3), 3, none⟩,
    ⟨some 7, (Op.move (Operand.tmp 14)), 3, none⟩]))))
def c_ring_Places : SF := ⟨15, [(ResultVar.tmp 2)],
  (.seq (.ops [⟨some 2, (Op.assign (Operand.const (Value.bool false))), 4, none⟩]) (.seq (.seq (.ops [⟨some 5, (Op.move (Operand.tmp 0)), 23, none⟩,
    ⟨some 6, (Op.call ⟨(Callee.builtin Builtin.len), #[(Operand.tmp 5)], #[23]⟩), 3, none⟩,
    ⟨some 7, (Op.move (Operand.const (Value.int IntKind.i64 0))), 3, none⟩]) (.block 0 (.loop c_ring_Places_L0))) (.seq (.ops [⟨some 2, (Op.assign (Operand.const (Value.bool true))), 4, none⟩]) .ret)))⟩
theorem is_ring_Places (c : Cfg) (h : c.lendT = []) : isF PP c 112 c_ring_Places := isF_of (fn := Proofs.Try.f112) (by kernel_rfl) (by kernel_rfl) rfl h (by kernel_rfl) rfl rfl (by kernel_rfl)
def c_slices_IndexFunc_api_Told_api_Told_L0 : SC := (.seq (.ops [⟨some 9, (Op.binOp BinOp.lss 3 (Operand.tmp 8) (Operand.tmp 7) 3), 0, none⟩]) (.seq (.cond (Operand.tmp 9) .skip (.exit 0)) (.seq (.block 1 (.seq (.ops [⟨some 10, (Op.move (Operand.tmp 8)), 3, none⟩,
    ⟨some 5, (Op.assign (Operand.tmp 10)), 3, none⟩]) (.seq (.ops [⟨some 11, (Op.move (Operand.tmp 1)), 132, none⟩,
    ⟨some 12, (Op.move (Operand.tmp 0)), 27, none⟩,
    ⟨some 13, (Op.move (Operand.tmp 5)), 3, none⟩,
    ⟨some 14, (Op.indexAddr 27 (Operand.tmp 12) (Operand.tmp 13)), 0, none⟩,
    ⟨some 15, (Op.load 66 (Operand.tmp 14)), 66, none⟩,
    ⟨some 16, (Op.call ⟨(Callee.value (Operand.tmp 11)), #[(Operand.tmp 15)], #[66]⟩), 4, none⟩]) (.cond (Operand.tmp 16) (.seq (.ops [⟨some 17, (Op.move (Operand.tmp 5)), 3, none⟩,
    ⟨some 4, (Op.assign (Operand.tmp 17)), 3, none⟩]) .ret) .skip)))) (.ops [⟨some 18, (Op.binOp BinOp.add 3 (Operand.tmp 8) (Operand.const (Value.int IntKind.i64 1)) 3), 3, none⟩,
    ⟨some 8, (Op.move (Operand.tmp 18)), 3, none⟩]))))
def c_slices_IndexFunc_api_Told_api_Told : SF := ⟨19, [(ResultVar.tmp 4)],
  (.seq (.ops [⟨some 4, (Op.assign (Operand.const (Value.int IntKind.i64 0))), 3, none⟩]) (.seq (.seq (.ops [⟨some 6, (Op.move (Operand.tmp 0)), 27, none⟩,
    ⟨some 7, (Op.call ⟨(Callee.builtin Builtin.len), #[(Operand.tmp 6)], #[27]⟩), 3, none⟩,
    ⟨some 8, (Op.move (Operand.const (Value.int IntKind.i64 0))), 3, none⟩]) (.block 0 (.loop c_slices_IndexFunc_api_Told_api_Told_L0))) (.seq (.ops [⟨some 4, (Op.assign (Operand.const (Value.int IntKind.i64 (-1)))), 3, none⟩]) .ret)))⟩
theorem is_slices_IndexFunc_api_Told_api_Told (c : Cfg) (h : c.lendT = []) : isF PP c 116 c_slices_IndexFunc_api_Told_api_Told := isF_of (fn := Proofs.Try.f116) (by kernel_rfl) (by kernel_rfl) rfl h (by kernel_rfl) rfl rfl (by kernel_rfl)
def c_ring_Far : SF := ⟨10, [(ResultVar.tmp 4)],
  (.seq (.ops [⟨some 4, (Op.assign (Operand.const (Value.int IntKind.i64 0))), 3, none⟩]) (.seq (.ops [⟨some 5, (Op.move (Operand.tmp 1)), 3, none⟩,
    ⟨some 6, (Op.move (Operand.tmp 0)), 3, none⟩,
    ⟨some 7, (Op.binOp BinOp.sub 3 (Operand.tmp 5) (Operand.tmp 6) 3), 3, none⟩,
    ⟨some 8, (Op.binOp BinOp.add 3 (Operand.tmp 7) (Operand.const (Value.int IntKind.i64 256)) 3), 3, none⟩,
    ⟨some 9, (Op.binOp BinOp.rem 3 (Operand.tmp 8) (Operand.const (Value.int IntKind.i64 256)) 3), 3, none⟩,
    ⟨some 4, (Op.assign (Operand.tmp 9)), 3, none⟩]) .ret))⟩
theorem is_ring_Far (c : Cfg) (h : c.lendT = []) : isF PP c 117 c_ring_Far := isF_of (fn := Proofs.Try.f117) (by kernel_rfl) (by kernel_rfl) rfl h (by kernel_rfl) rfl rfl (by kernel_rfl)
def c_peers_Find : SF := ⟨18, [(ResultVar.tmp 6), (ResultVar.tmp 7)],
  (.seq (.ops [⟨some 6, (Op.assign (Operand.const (Value.int IntKind.i64 0))), 3, none⟩,
    ⟨some 7, (Op.assign (Operand.const (Value.bool false))), 4, none⟩]) (.seq (.ops [⟨some 9, (Op.move (Operand.tmp 0)), 3, none⟩,
    ⟨some 10, (Op.build 149 #[(0, (Operand.tmp 9))]), 149, none⟩,
    ⟨some 11, (Op.makeFunc (Fn.func 124) #[(Operand.tmp 10)] #[]), 147, none⟩,
    ⟨some 8, (Op.assign (Operand.tmp 11)), 147, none⟩]) (.seq (.ops [⟨some 12, (Op.move (Operand.tmp 1)), 22, none⟩,
    ⟨some 13, (Op.move (Operand.tmp 2)), 3, none⟩,
    ⟨some 14, (Op.move (Operand.tmp 8)), 147, none⟩,
    ⟨some 15, (Op.call ⟨(Callee.value (Operand.func 125)), #[(Operand.tmp 12), (Operand.tmp 13), (Operand.tmp 14)], #[22, 3, 147]⟩), 118, none⟩,
    ⟨some 16, (Op.extract (Operand.tmp 15) 0), 3, none⟩,
    ⟨some 17, (Op.extract (Operand.tmp 15) 1), 4, none⟩,
    ⟨some 6, (Op.assign (Operand.tmp 16)), 3, none⟩,
    ⟨some 7, (Op.assign (Operand.tmp 17)), 4, none⟩]) .ret)))⟩
theorem is_peers_Find (c : Cfg) (h : c.lendT = []) : isF PP c 118 c_peers_Find := isF_of (fn := Proofs.Try.f118) (by kernel_rfl) (by kernel_rfl) rfl h (by kernel_rfl) rfl rfl (by kernel_rfl)
def c_slices_IndexFunc_int_int_L0 : SC := (.seq (.ops [⟨some 9, (Op.binOp BinOp.lss 3 (Operand.tmp 8) (Operand.tmp 7) 3), 0, none⟩]) (.seq (.cond (Operand.tmp 9) .skip (.exit 0)) (.seq (.block 1 (.seq (.ops [⟨some 10, (Op.move (Operand.tmp 8)), 3, none⟩,
    ⟨some 5, (Op.assign (Operand.tmp 10)), 3, none⟩]) (.seq (.ops [⟨some 11, (Op.move (Operand.tmp 1)), 88, none⟩,
    ⟨some 12, (Op.move (Operand.tmp 0)), 23, none⟩,
    ⟨some 13, (Op.move (Operand.tmp 5)), 3, none⟩,
    ⟨some 14, (Op.indexAddr 23 (Operand.tmp 12) (Operand.tmp 13)), 0, none⟩,
    ⟨some 15, (Op.load 3 (Operand.tmp 14)), 3, none⟩,
    ⟨some 16, (Op.call ⟨(Callee.value (Operand.tmp 11)), #[(Operand.tmp 15)], #[3]⟩), 4, none⟩]) (.cond (Operand.tmp 16) (.seq (.ops [⟨some 17, (Op.move (Operand.tmp 5)), 3, none⟩,
    ⟨some 4, (Op.assign (Operand.tmp 17)), 3, none⟩]) .ret) .skip)))) (.ops [⟨some 18, (Op.binOp BinOp.add 3 (Operand.tmp 8) (Operand.const (Value.int IntKind.i64 1)) 3), 3, none⟩,
    ⟨some 8, (Op.move (Operand.tmp 18)), 3, none⟩]))))
def c_slices_IndexFunc_int_int : SF := ⟨19, [(ResultVar.tmp 4)],
  (.seq (.ops [⟨some 4, (Op.assign (Operand.const (Value.int IntKind.i64 0))), 3, none⟩]) (.seq (.seq (.ops [⟨some 6, (Op.move (Operand.tmp 0)), 23, none⟩,
    ⟨some 7, (Op.call ⟨(Callee.builtin Builtin.len), #[(Operand.tmp 6)], #[23]⟩), 3, none⟩,
    ⟨some 8, (Op.move (Operand.const (Value.int IntKind.i64 0))), 3, none⟩]) (.block 0 (.loop c_slices_IndexFunc_int_int_L0))) (.seq (.ops [⟨some 4, (Op.assign (Operand.const (Value.int IntKind.i64 (-1)))), 3, none⟩]) .ret)))⟩
theorem is_slices_IndexFunc_int_int (c : Cfg) (h : c.lendT = []) : isF PP c 119 c_slices_IndexFunc_int_int := isF_of (fn := Proofs.Try.f119) (by kernel_rfl) (by kernel_rfl) rfl h (by kernel_rfl) rfl rfl (by kernel_rfl)
def c_row_By_1 : SF := ⟨13, [(ResultVar.tmp 5)],
  (.seq (.ops [⟨some 5, (Op.assign (Operand.const (Value.int IntKind.i64 0))), 3, none⟩]) (.seq (.ops [⟨some 7, (Op.move (Operand.tmp 0)), 3, none⟩,
    ⟨some 10, (Op.move (Operand.tmp 1)), 3, none⟩,
    ⟨some 6, (Op.load 3 (Operand.tmp 2)), 3, none⟩,
    ⟨some 8, (Op.call ⟨(Callee.value (Operand.func 117)), #[(Operand.tmp 6), (Operand.tmp 7)], #[3, 3]⟩), 3, none⟩,
    ⟨some 9, (Op.load 3 (Operand.tmp 2)), 3, none⟩,
    ⟨some 11, (Op.call ⟨(Callee.value (Operand.func 117)), #[(Operand.tmp 9), (Operand.tmp 10)], #[3, 3]⟩), 3, none⟩,
    ⟨some 12, (Op.call ⟨(Callee.value (Operand.func 108)), #[(Operand.tmp 8), (Operand.tmp 11)], #[3, 3]⟩), 3, none⟩,
    ⟨some 5, (Op.assign (Operand.tmp 12)), 3, none⟩]) .ret))⟩
theorem is_row_By_1 (c : Cfg) (h : c.lendT = []) : isF PP c 120 c_row_By_1 := isF_of (fn := Proofs.Try.f120) (by kernel_rfl) (by kernel_rfl) rfl h (by kernel_rfl) rfl rfl (by kernel_rfl)
def c_cmp_isNaN_int : SF := ⟨6, [(ResultVar.tmp 2)],
  (.seq (.ops [⟨some 2, (Op.assign (Operand.const (Value.bool false))), 4, none⟩]) (.seq (.ops [⟨some 3, (Op.move (Operand.tmp 0)), 3, none⟩,
    ⟨some 4, (Op.move (Operand.tmp 0)), 3, none⟩,
    ⟨some 5, (Op.binOp BinOp.neq 3 (Operand.tmp 3) (Operand.tmp 4) 3), 4, none⟩,
    ⟨some 2, (Op.assign (Operand.tmp 5)), 4, none⟩]) .ret))⟩
theorem is_cmp_isNaN_int (c : Cfg) (h : c.lendT = []) : isF PP c 121 c_cmp_isNaN_int := isF_of (fn := Proofs.Try.f121) (by kernel_rfl) (by kernel_rfl) rfl h (by kernel_rfl) rfl rfl (by kernel_rfl)
def c_peers_order_find : SF := ⟨17, [(ResultVar.tmp 6)],
  (.seq (.ops [⟨some 3, (Op.box 149 (Operand.tmp 0)), 0, none⟩,
    ⟨some 4, (Op.box 102 (Operand.tmp 1)), 0, none⟩,
    ⟨some 6, (Op.assign (Operand.const (Value.int IntKind.i64 0))), 3, none⟩]) (.seq (.ops [⟨some 14, (Op.move (Operand.tmp 2)), 3, none⟩,
    ⟨some 7, (Op.fieldAddr 149 (Operand.tmp 3) 0), 0, none⟩,
    ⟨some 8, (Op.load 3 (Operand.tmp 7)), 3, none⟩,
    ⟨some 9, (Op.fieldAddr 102 (Operand.tmp 4) 0), 0, none⟩,
    ⟨some 10, (Op.load 3 (Operand.tmp 9)), 3, none⟩,
    ⟨some 11, (Op.call ⟨(Callee.value (Operand.func 117)), #[(Operand.tmp 8), (Operand.tmp 10)], #[3, 3]⟩), 3, none⟩,
    ⟨some 12, (Op.fieldAddr 149 (Operand.tmp 3) 0), 0, none⟩,
    ⟨some 13, (Op.load 3 (Operand.tmp 12)), 3, none⟩,
    ⟨some 15, (Op.call ⟨(Callee.value (Operand.func 117)), #[(Operand.tmp 13), (Operand.tmp 14)], #[3, 3]⟩), 3, none⟩,
    ⟨some 16, (Op.call ⟨(Callee.value (Operand.func 108)), #[(Operand.tmp 11), (Operand.tmp 15)], #[3, 3]⟩), 3, none⟩,
    ⟨some 6, (Op.assign (Operand.tmp 16)), 3, none⟩]) .ret))⟩
theorem is_peers_order_find (c : Cfg) (h : c.lendT = []) : isF PP c 124 c_peers_order_find := isF_of (fn := Proofs.Try.f124) (by kernel_rfl) (by kernel_rfl) rfl h (by kernel_rfl) rfl rfl (by kernel_rfl)
def c_slices_BinarySearchFunc_api_Peer_api_Peer_int_L0 : SC := (.seq (.seq (.ops [⟨some 15, (Op.move (Operand.tmp 9)), 3, none⟩,
    ⟨some 16, (Op.move (Operand.tmp 10)), 3, none⟩,
    ⟨some 17, (Op.binOp BinOp.lss 3 (Operand.tmp 15) (Operand.tmp 16) 3), 4, none⟩]) (.cond (Operand.tmp 17) .skip (.exit 0))) (.block 1 (.seq (.ops [⟨some 18, (Op.move (Operand.tmp 9)), 3, none⟩,
    ⟨some 19, (Op.move (Operand.tmp 10)), 3, none⟩,
    ⟨some 20, (Op.binOp BinOp.add 3 (Operand.tmp 18) (Operand.tmp 19) 3), 3, none⟩,
    ⟨some 21, (Op.convert 3 77 (Operand.tmp 20)), 77, none⟩,
    ⟨some 22, (Op.binOp BinOp.shr 77 (Operand.tmp 21) (Operand.const (Value.int IntKind.u64 1)) 77), 77, none⟩,
    ⟨some 23, (Op.convert 77 3 (Operand.tmp 22)), 3, none⟩,
    ⟨some 11, (Op.assign (Operand.tmp 23)), 3, none⟩]) (.seq (.ops [⟨some 24, (Op.move (Operand.tmp 2)), 147, none⟩,
    ⟨some 25, (Op.move (Operand.tmp 0)), 22, none⟩,
    ⟨some 26, (Op.move (Operand.tmp 11)), 3, none⟩,
    ⟨some 27, (Op.indexAddr 22 (Operand.tmp 25) (Operand.tmp 26)), 0, none⟩,
    ⟨some 28, (Op.load 102 (Operand.tmp 27)), 102, none⟩,
    ⟨some 29, (Op.move (Operand.tmp 1)), 3, none⟩,
    ⟨some 30, (Op.call ⟨(Callee.value (Operand.tmp 24)), #[(Operand.tmp 28), (Operand.tmp 29)], #[102, 3]⟩), 3, none⟩,
    ⟨some 31, (Op.binOp BinOp.lss 3 (Operand.tmp 30) (Operand.const (Value.int IntKind.i64 0)) 3), 4, none⟩]) (.cond (Operand.tmp 31) (.ops [⟨some 32, (Op.move (Operand.tmp 11)), 3, none⟩,
    ⟨some 33, (Op.binOp BinOp.add 3 (Operand.tmp 32) (Operand.const (Value.int IntKind.i64 1)) 3), 3, none⟩,
    ⟨some 9, (Op.assign (Operand.tmp 33)), 3, none⟩]) (.ops [⟨some 34, (Op.move (Operand.tmp 11)), 3, none⟩,
    ⟨some 10, (Op.assign (Operand.tmp 34)), 3, none⟩]))))))
def c_slices_BinarySearchFunc_api_Peer_api_Peer_int : SF := ⟨49, [(ResultVar.tmp 6), (ResultVar.tmp 7)],
  (.seq (.ops [⟨some 6, (Op.assign (Operand.const (Value.int IntKind.i64 0))), 3, none⟩,
    ⟨some 7, (Op.assign (Operand.const (Value.bool false))), 4, none⟩]) (.seq (.ops [⟨some 12, (Op.move (Operand.tmp 0)), 22, none⟩,
    ⟨some 13, (Op.call ⟨(Callee.builtin Builtin.len), #[(Operand.tmp 12)], #[22]⟩), 3, none⟩,
    ⟨some 8, (Op.assign (Operand.tmp 13)), 3, none⟩]) (.seq (.ops [⟨some 14, (Op.move (Operand.tmp 8)), 3, none⟩,
    ⟨some 9, (Op.assign (Operand.const (Value.int IntKind.i64 0))), 3, none⟩,
    ⟨some 10, (Op.assign (Operand.tmp 14)), 3, none⟩]) (.seq (.block 0 (.loop c_slices_BinarySearchFunc_api_Peer_api_Peer_int_L0)) (.seq (.ops [⟨some 35, (Op.move (Operand.tmp 9)), 3, none⟩,
    ⟨some 36, (Op.move (Operand.tmp 9)), 3, none⟩,
    ⟨some 37, (Op.move (Operand.tmp 8)), 3, none⟩,
    ⟨some 38, (Op.binOp BinOp.lss 3 (Operand.tmp 36) (Operand.tmp 37) 3), 4, none⟩,
    ⟨some 39, (Op.move (Operand.tmp 38)), 4, none⟩,
    ⟨some 40, (Op.move (Operand.tmp 2)), 147, some (39, true)⟩,
    ⟨some 41, (Op.move (Operand.tmp 0)), 22, some (39, true)⟩,
    ⟨some 42, (Op.move (Operand.tmp 9)), 3, some (39, true)⟩,
    ⟨some 43, (Op.indexAddr 22 (Operand.tmp 41) (Operand.tmp 42)), 0, some (39, true)⟩,
    ⟨some 44, (Op.load 102 (Operand.tmp 43)), 102, some (39, true)⟩,
    ⟨some 45, (Op.move (Operand.tmp 1)), 3, some (39, true)⟩,
    ⟨some 46, (Op.call ⟨(Callee.value (Operand.tmp 40)), #[(Operand.tmp 44), (Operand.tmp 45)], #[102, 3]⟩), 3, some (39, true)⟩,
    ⟨some 47, (Op.binOp BinOp.eql 3 (Operand.tmp 46) (Operand.const (Value.int IntKind.i64 0)) 3), 4, some (39, true)⟩,
    ⟨some 48, (Op.pick (Operand.tmp 39) (Operand.tmp 47) (Operand.const (Value.bool false))), 4, none⟩,
    ⟨some 6, (Op.assign (Operand.tmp 35)), 3, none⟩,
    ⟨some 7, (Op.assign (Operand.tmp 48)), 4, none⟩]) .ret)))))⟩
theorem is_slices_BinarySearchFunc_api_Peer_api_Peer_int (c : Cfg) (h : c.lendT = []) : isF PP c 125 c_slices_BinarySearchFunc_api_Peer_api_Peer_int := isF_of (fn := Proofs.Try.f125) (by kernel_rfl) (by kernel_rfl) rfl h (by kernel_rfl) rfl rfl (by kernel_rfl)
end Go.AM
/- AM: this seat's functions in short, all of them. -/
/- AM: contracts: places, peers. -/
namespace Go.AM
set_option linter.unusedSimpArgs false
set_option linter.unusedVariables false
set_option maxRecDepth 8000
set_option maxHeartbeats 0
theorem ring_Far (a b : Int) : Den PP 117 [.int .i64 a, .int .i64 b] [] (.int .i64 (far a b)) [] := by
  refine den_of [] [] is_ring_Far ?_
  simp -implicitDefEqProofs [c_ring_Far, far]

theorem ring_Place (a : Int) : Den PP 47 [.int .i64 a] [] (.bool (place a)) [] := by
  refine den_of [] [] is_ring_Place ?_
  simp -implicitDefEqProofs [c_ring_Place]
  refine gOps_dec (fun h => ?_) (fun h => ?_) <;> simp -implicitDefEqProofs [h, place]

theorem peers_May_loop (base : Int) (ps : List Peer) (hl : ps.length ≤ cap) (Q : Ex → St → Prop) (r : Bool) (hQ1 : ∀ fr, r = true → Q .normal ⟨fr, []⟩) (hQ2 : ∀ fr bs, r = false → fr 4 = .bool false → Q .ret ⟨fr, bs⟩) :
    ∀ (rest : List Peer) (i : Nat) (fr : Nat → D) (last : Int), ps.drop i = rest → i ≤ ps.length → fr 0 = .int .i64 base → fr 5 = .int .i64 last → fr 16 = .sl (ps.map Peer.row) ps.length → fr 17 = .int .i64 ps.length → fr 18 = .int .i64 i →
      peersOk base last rest = r → sLoop (cf 0 [] []) 0 c_peers_May_L0 (blockQ 0 Q) (rest.length + 1) ⟨fr, []⟩ := by
  intro rest
  induction rest with
  | nil =>
    intro i fr last e hi h0 h5 h16 h17 h18 hm
    refine sLoop_body c_peers_May_L0.eq_1 ?_
    have hi' := drop_nil e hi
    simp -implicitDefEqProofs [h0, h5, h16, h17, h18, hi']
    exact hQ1 _ hm.symm
  | cons p rest ih =>
    intro i fr last e hi h0 h5 h16 h17 h18 hm
    refine sLoop_body c_peers_May_L0.eq_1 ?_
    obtain ⟨hlt, hget, hd, hlen⟩ := drop_cons e
    have hlt' : (i : Int) < ps.length := by omega
    simp -implicitDefEqProofs [h0, h5, h16, h17, h18, hlt', hget, Peer.row]
    refine callThen_of (ring_Place p.id) ?_
    simp -implicitDefEqProofs [h0, h5, h16, h17, h18]
    simp only [peersOk] at hm
    refine gOps_split (fun h1 => ?_) (fun h1 => ?_)
    all_goals simp -implicitDefEqProofs [h1, h0, h5, h16, h17, h18]
    rotate_left
    · exact hQ2 _ _ (by rw [← hm, h1]; rfl) (by rfl)
    refine gOps_ndec (fun h2 => ?_) (fun h2 => ?_)
    all_goals simp -implicitDefEqProofs [h2, h0, h5, h16, h17, h18]
    · exact hQ2 _ _ (by rw [← hm]; simp; intros; omega) (by rfl)
    refine gOps_ndec (fun h3 => ?_) (fun h3 => ?_)
    all_goals simp -implicitDefEqProofs [h3, h0, h5, h16, h17, h18]
    · exact hQ2 _ _ (by rw [← hm]; simp; intros; omega) (by rfl)
    refine callThen_of (ring_Far base p.id) ?_
    simp -implicitDefEqProofs [h0, h5, h16, h17, h18]
    refine condC_dec (fun h4 => ?_) (fun h4 => ?_)
    all_goals simp -implicitDefEqProofs [h4, h0, h5, h16, h17, h18]
    · exact hQ2 _ _ (by rw [← hm]; simp; intros; omega) (by rfl)
    refine callThen_of (ring_Far base p.id) ?_
    simp -implicitDefEqProofs [h0, h5, h16, h17, h18, wrap_next (show i ≤ 140737488355328 by unfold cap at hl; omega)]
    exact ih (i + 1) _ (far base p.id) hd (by omega) (by simp [h0, h5, h16, h17, h18]) (by simp) (by simp [h0, h5, h16, h17, h18]) (by simp [h0, h5, h16, h17, h18]) (by simp) (by rw [← hm, h1, decide_eq_true (show 0 ≤ p.missed by omega), decide_eq_true (show p.missed < 3 by omega), decide_eq_true (show last < far base p.id by omega)]; rfl)

theorem peers_May (base : Int) (ps : List Peer) (hl : ps.length ≤ cap) : Den PP 100 [.int .i64 base, .sl (ps.map Peer.row) ps.length] [] (.bool (peersMay base ps)) [] := by
  refine den_of [] [] is_peers_May ?_
  simp -implicitDefEqProofs [c_peers_May]
  refine callThen_of (ring_Place base) ?_
  simp -implicitDefEqProofs
  cases hp : place base
  · simp -implicitDefEqProofs [peersMay, hp]
  simp -implicitDefEqProofs
  refine condC_dec (fun h16 => ?_) (fun h16 => ?_)
  · simp -implicitDefEqProofs [peersMay, hp, h16]
    omega
  simp -implicitDefEqProofs
  refine anyLoop_of (ps.length + 1) ?_
  have hm : peersMay base ps = peersOk base 0 ps := by simp [peersMay, hp]; intro _; omega
  rw [hm]
  refine peers_May_loop base ps hl _ (peersOk base 0 ps) (fun fr h => ?_) (fun fr bs h h4 => ?_) ps 0 _ 0 rfl (Nat.zero_le _) rfl rfl rfl rfl rfl rfl
  all_goals simp -implicitDefEqProofs [h]
  simp -implicitDefEqProofs [h4]
end Go.AM
/- AM: contracts: small parts. -/
namespace Go.AM
set_option linter.unusedSimpArgs false
set_option linter.unusedVariables false
set_option maxRecDepth 8000
set_option maxHeartbeats 0
theorem law_Num (a : Int) : Den PP 24 [.int .i64 a] [] (.int .i64 a) [] := by
  refine den_of [] [] is_gimmallaw0_Num ?_
  simp -implicitDefEqProofs [c_gimmallaw0_Num]

theorem cmp_isNaN (a : Int) : Den PP 121 [.int .i64 a] [] (.bool false) [] := by
  refine den_of [] [] is_cmp_isNaN_int ?_
  simp -implicitDefEqProofs [c_cmp_isNaN_int]

theorem cmp_Compare (a b : Int) : Den PP 108 [.int .i64 a, .int .i64 b] [] (.int .i64 (cmpI a b)) [] := by
  refine den_of [] [] is_cmp_Compare_int ?_
  simp -implicitDefEqProofs [c_cmp_Compare_int]
  refine callThen_of (cmp_isNaN a) ?_
  simp -implicitDefEqProofs
  refine callThen_of (cmp_isNaN b) ?_
  simp -implicitDefEqProofs
  refine condC_dec (fun h => ?_) (fun h => ?_) <;> simp -implicitDefEqProofs [h, cmpI]
  refine condC_dec (fun h2 => ?_) (fun h2 => ?_) <;> simp -implicitDefEqProofs [h2]

theorem row_By (a : Int) : Den PP 107 [.int .i64 a] [] (.fn 120 [] [.mem [.int .i64 a]]) [] := by
  refine den_of [] [] is_row_By ?_
  simp -implicitDefEqProofs [c_row_By, expPtr]
theorem row_By_1 (base a b : Int) : Den PP 120 [.int .i64 a, .int .i64 b, .mem [.int .i64 base]] [] (.int .i64 (cmpI (far base a) (far base b))) [] := by
  refine den_of [] [] is_row_By_1 ?_
  simp -implicitDefEqProofs [c_row_By_1]
  refine callThen_of (ring_Far base a) ?_
  simp -implicitDefEqProofs
  refine callThen_of (ring_Far base b) ?_
  simp -implicitDefEqProofs
  refine callThen_of (cmp_Compare _ _) ?_
  simp -implicitDefEqProofs

theorem peers_order_find (base : Int) (p : Peer) (id : Int) : Den PP 124 [.agg [.int .i64 base], .agg p.row, .int .i64 id] [] (.int .i64 (cmpI (far base p.id) (far base id))) [] := by
  refine den_of [] [] is_peers_order_find ?_
  simp -implicitDefEqProofs [c_peers_order_find, Peer.row]
  refine callThen_of (ring_Far base p.id) ?_
  simp -implicitDefEqProofs
  refine callThen_of (ring_Far base id) ?_
  simp -implicitDefEqProofs
  refine callThen_of (cmp_Compare _ _) ?_
  simp -implicitDefEqProofs
end Go.AM
/- AM: contracts: loops over places. -/
namespace Go.AM
set_option linter.unusedSimpArgs false
set_option linter.unusedVariables false
set_option maxRecDepth 8000
set_option maxHeartbeats 0
theorem ring_Places (xs : List Int) (hl : xs.length ≤ cap) : Den PP 112 [intsD xs] [] (.bool (xs.all place)) [] := by
  refine den_of [] [] is_ring_Places ?_
  simp -implicitDefEqProofs [c_ring_Places, intsD]
  refine anyLoop_of (xs.length + 1) ?_
  have key : ∀ (Q : Ex → St → Prop) (r : Bool) (hQ1 : ∀ fr, r = true → Q .normal ⟨fr, []⟩) (hQ2 : ∀ fr bs, r = false → fr 2 = .bool false → Q .ret ⟨fr, bs⟩) (rest : List Int) (i : Nat) (fr : Nat → D), xs.drop i = rest → i ≤ xs.length →
      fr 0 = intsD xs → fr 5 = intsD xs → fr 6 = .int .i64 xs.length → fr 7 = .int .i64 i → rest.all place = r → sLoop (cf 0 [] []) 0 c_ring_Places_L0 (blockQ 0 Q) (rest.length + 1) ⟨fr, []⟩ := by
    intro Q r hQ1 hQ2 rest
    induction rest with
    | nil =>
      intro i fr e hi h0 h5 h6 h7 hm
      refine sLoop_body c_ring_Places_L0.eq_1 ?_
      have hi' := drop_nil e hi
      simp -implicitDefEqProofs [h0, h5, h6, h7, hi']
      exact hQ1 _ hm.symm
    | cons x rest ih =>
      intro i fr e hi h0 h5 h6 h7 hm
      refine sLoop_body c_ring_Places_L0.eq_1 ?_
      obtain ⟨hlt, hget, hd, hlen⟩ := drop_cons e
      have hlt' : (i : Int) < xs.length := by omega
      simp -implicitDefEqProofs [h0, h5, h6, h7, hlt', hget, intsD, irow]
      refine callThen_of (ring_Place x) ?_
      simp -implicitDefEqProofs
      refine condC_not (fun h1 => ?_) (fun h1 => ?_)
      all_goals simp -implicitDefEqProofs [h1, h0, h5, h6, h7, wrap_next (show i ≤ 140737488355328 by unfold cap at hl; omega)]
      · exact ih (i + 1) _ hd (by omega) (by simp [h0, h5, h6, h7, intsD]) (by simp [h0, h5, h6, h7, intsD]) (by simp [h0, h5, h6, h7]) (by simp) (by rw [← hm]; simp [h1])
      · exact hQ2 _ _ (by rw [← hm]; simp [h1]) (by rfl)
  refine key _ (xs.all place) (fun fr h => ?_) (fun fr bs h h2 => ?_) xs 0 _ rfl (Nat.zero_le _) rfl rfl rfl rfl rfl
  · simp -implicitDefEqProofs [h]
  · simp -implicitDefEqProofs [h, h2]

theorem passive_May (xs : List Int) (hl : xs.length ≤ cap) : Den PP 101 [intsD xs] [] (.bool (passiveMay xs)) [] := by
  refine den_of [] [] is_passive_May ?_
  simp -implicitDefEqProofs [c_passive_May, intsD]
  refine anyLoop_of (xs.length + 1) ?_
  have key : ∀ (Q : Ex → St → Prop) (r : Bool) (hQ1 : ∀ fr, r = true → fr 0 = .sl (xs.map irow) xs.length → Q .normal ⟨fr, []⟩) (hQ2 : ∀ fr bs, r = false → fr 2 = .bool false → Q .ret ⟨fr, bs⟩) (rest : List Int) (i : Nat) (fr : Nat → D), xs.drop i = rest → i ≤ xs.length →
      fr 0 = .sl (xs.map irow) xs.length → fr 5 = .sl (xs.map irow) xs.length → fr 6 = .int .i64 xs.length → fr 7 = .int .i64 i → ups (if i = 0 then none else xs[i - 1]?) rest = r → sLoop (cf 0 [] []) 0 c_passive_May_L0 (blockQ 0 Q) (rest.length + 1) ⟨fr, []⟩ := by
    intro Q r hQ1 hQ2 rest
    induction rest with
    | nil =>
      intro i fr e hi h0 h5 h6 h7 hm
      refine sLoop_body c_passive_May_L0.eq_1 ?_
      have hi' := drop_nil e hi
      simp -implicitDefEqProofs [h0, h5, h6, h7, hi']
      exact hQ1 _ hm.symm (by simp [h0, h5, h6, h7])
    | cons x rest ih =>
      intro i fr e hi h0 h5 h6 h7 hm
      refine sLoop_body c_passive_May_L0.eq_1 ?_
      obtain ⟨hlt, hget, hd, hlen⟩ := drop_cons e
      have hlt' : (i : Int) < xs.length := by omega
      have hw := wrap_next (show i ≤ 140737488355328 by unfold cap at hl; omega)
      have hprev : (if i + 1 = 0 then none else xs[i + 1 - 1]?) = some x := by simp [hget]
      simp only [ups] at hm
      simp -implicitDefEqProofs [h0, h5, h6, h7, hlt', hget, irow]
      refine callThen_of (ring_Place x) ?_
      simp -implicitDefEqProofs [h0, h5, h6, h7]
      refine gOps_split (fun h1 => ?_) (fun h1 => ?_)
      rotate_left
      · simp -implicitDefEqProofs [h1, h0, h5, h6, h7]
        exact hQ2 _ _ (by rw [← hm]; simp [h1]) (by rfl)
      simp -implicitDefEqProofs [h1, h0, h5, h6, h7]
      by_cases hi0 : i = 0
      · simp -implicitDefEqProofs [hi0, h0, h5, h6, h7]
        simp -implicitDefEqProofs [hi0] at hw
        simp -implicitDefEqProofs [hw]
        refine ih 1 _ (by rw [← hd, hi0]) (by omega) (by simp [h0, h5, h6, h7]) (by simp [h0, h5, h6, h7]) (by simp [h0, h5, h6, h7]) (by simp) ?_
        rw [hi0] at hprev hm
        rw [← hm]
        simp [h1] at hprev ⊢
        rw [hprev]
      · have hpos : 0 < i := by omega
        have hwp : IntKind.wrap .i64 ((i : Int) - 1) = ((i - 1 : Nat) : Int) := by unfold cap at hl; rw [wrap_in (by omega) (by omega)]; omega
        have hlt2 : ((i - 1 : Nat) : Int) < xs.length := by omega
        obtain ⟨y, hy⟩ : ∃ y, xs[i - 1]? = some y := ⟨xs[i - 1], by simp⟩
        rw [if_neg hi0, hy] at hm
        simp -implicitDefEqProofs [hpos, h0, h5, h6, h7, hwp, hlt2, hy, irow]
        refine condC_dec (fun h2 => ?_) (fun h2 => ?_)
        all_goals simp -implicitDefEqProofs [h2, h0, h5, h6, h7, hw]
        · exact hQ2 _ _ (by rw [← hm]; simp; intros; omega) (by rfl)
        · refine ih (i + 1) _ hd (by omega) (by simp [h0, h5, h6, h7]) (by simp [h0, h5, h6, h7]) (by simp [h0, h5, h6, h7]) (by simp) ?_
          rw [hprev, ← hm, h1]
          simp [show y < x by omega]
  refine key _ (ups none xs) (fun fr h h0 => ?_) (fun fr bs h h2 => ?_) xs 0 _ rfl (Nat.zero_le _) rfl rfl rfl rfl rfl
  · simp -implicitDefEqProofs [h, h0, passiveMay]
    omega
  · simp -implicitDefEqProofs [h, h2, passiveMay]

def TellsI (f : Nat) (caps : List D) (p : Int → Bool) (xs : List Int) : Prop := (∀ bs, caps.map (D.freeze bs) = caps) ∧ (∀ fr fp, mapRL fr fp caps = caps) ∧ ∀ x ∈ xs, Den PP f (.int .i64 x :: caps) [] (.bool (p x)) []
theorem slices_IndexFunc_int (xs : List Int) (hl : xs.length ≤ cap) (f : Nat) (caps : List D) (p : Int → Bool) (hp : TellsI f caps p xs) : Den PP 119 [intsD xs, .fn f [] caps] [] (.int .i64 (fIdx p 0 xs)) [] := by
  refine den_of [] [] is_slices_IndexFunc_int_int ?_
  simp -implicitDefEqProofs [c_slices_IndexFunc_int_int, intsD]
  refine anyLoop_of (xs.length + 1) ?_
  have key : ∀ (Q : Ex → St → Prop) (r : Int) (hQ1 : ∀ fr, r = -1 → Q .normal ⟨fr, []⟩) (hQ2 : ∀ fr bs, fr 4 = .int .i64 r → Q .ret ⟨fr, bs⟩) (rest : List Int) (i : Nat) (fr : Nat → D), xs.drop i = rest → i ≤ xs.length →
      fr 0 = .sl (xs.map irow) xs.length → fr 1 = .fn f [] caps → fr 7 = .int .i64 xs.length → fr 8 = .int .i64 i → fIdx p i rest = r → sLoop (cf 0 [] []) 0 c_slices_IndexFunc_int_int_L0 (blockQ 0 Q) (rest.length + 1) ⟨fr, []⟩ := by
    intro Q r hQ1 hQ2 rest
    induction rest with
    | nil =>
      intro i fr e hi h0 h1 h7 h8 hm
      refine sLoop_body c_slices_IndexFunc_int_int_L0.eq_1 ?_
      have hi' := drop_nil e hi
      simp -implicitDefEqProofs [h0, h1, h7, h8, hi']
      exact hQ1 _ hm.symm
    | cons x rest ih =>
      intro i fr e hi h0 h1 h7 h8 hm
      refine sLoop_body c_slices_IndexFunc_int_int_L0.eq_1 ?_
      obtain ⟨hlt, hget, hd, hlen⟩ := drop_cons e
      have hlt' : (i : Int) < xs.length := by omega
      have hw := wrap_next (show i ≤ 140737488355328 by unfold cap at hl; omega)
      simp -implicitDefEqProofs [h0, h1, h7, h8, hlt', hget, irow, hp.1]
      refine callThen_of (hp.2.2 x (List.mem_of_getElem? hget)) ?_
      simp only [fIdx] at hm
      simp -implicitDefEqProofs
      refine condC_split (fun h2 => ?_) (fun h2 => ?_)
      all_goals simp -implicitDefEqProofs [h2, h0, h1, h7, h8, hw]
      · exact hQ2 _ _ (by rw [← hm, h2]; simp)
      · exact ih (i + 1) _ hd (by omega) (by simp [h0, h1, h7, h8]) (by simp [h0, h1, h7, h8, hp.2.1]) (by simp [h0, h1, h7, h8]) (by simp) (by rw [← hm, h2]; simp)
  refine key _ (fIdx p 0 xs) (fun fr h => ?_) (fun fr bs h => ?_) xs 0 _ rfl (Nat.zero_le _) rfl rfl rfl rfl rfl
  · simp -implicitDefEqProofs [h]
  · simp -implicitDefEqProofs [h]

theorem slices_ContainsFunc_int (xs : List Int) (hl : xs.length ≤ cap) (f : Nat) (caps : List D) (p : Int → Bool) (hp : TellsI f caps p xs) : Den PP 104 [intsD xs, .fn f [] caps] [] (.bool (xs.any p)) [] := by
  refine den_of [] [] is_slices_ContainsFunc_int_int ?_
  simp -implicitDefEqProofs [c_slices_ContainsFunc_int_int, intsD, hp.2.1]
  refine callThen_of (slices_IndexFunc_int xs hl f caps p hp) ?_
  have := fIdx_any p xs 0
  simp -implicitDefEqProofs [← this]

theorem bsearch_Peer (base : Int) (ps : List Peer) (id : Int) (hl : ps.length ≤ cap) (at_ : Nat) (hat : at_ ≤ ps.length)
    (hlo : ∀ i p, i < at_ → ps[i]? = some p → far base p.id < far base id) (hhi : ∀ i p, at_ ≤ i → ps[i]? = some p → far base id ≤ far base p.id) :
    Den PP 125 [peersD ps, .int .i64 id, .fn 124 [.agg [.int .i64 base]] []] [] (.tup [.int .i64 at_, .bool (isFar base id ps[at_]?)]) [] := by
  refine den_of [] [] is_slices_BinarySearchFunc_api_Peer_api_Peer_int ?_
  simp -implicitDefEqProofs [c_slices_BinarySearchFunc_api_Peer_api_Peer_int, peersD]
  refine anyLoop_of (ps.length + 1) ?_
  have key : ∀ (Q : Ex → St → Prop) (hQ1 : ∀ fr, fr 0 = .sl (ps.map Peer.row) ps.length → fr 1 = .int .i64 id → fr 2 = .fn 124 [.agg [.int .i64 base]] [] → fr 8 = .int .i64 ps.length → fr 9 = .int .i64 at_ → Q .normal ⟨fr, []⟩) (d lo hi : Nat) (fr : Nat → D), hi - lo ≤ d → lo ≤ at_ → at_ ≤ hi → hi ≤ ps.length →
      fr 0 = .sl (ps.map Peer.row) ps.length → fr 1 = .int .i64 id → fr 2 = .fn 124 [.agg [.int .i64 base]] [] → fr 8 = .int .i64 ps.length → fr 9 = .int .i64 lo → fr 10 = .int .i64 hi → sLoop (cf 0 [] []) 0 c_slices_BinarySearchFunc_api_Peer_api_Peer_int_L0 (blockQ 0 Q) (d + 1) ⟨fr, []⟩ := by
    intro Q hQ1 d
    induction d with
    | zero =>
      intro lo hi fr hd h3 h4 h5 h0 h1 h2 h8 h9 h10
      refine sLoop_body c_slices_BinarySearchFunc_api_Peer_api_Peer_int_L0.eq_1 ?_
      have e1 : lo = at_ := by omega
      have e2 : hi = at_ := by omega
      simp -implicitDefEqProofs [h0, h1, h2, h8, h9, h10, e1, e2]
      exact hQ1 _ (by simp [h0, h1, h2, h8, h9, h10]) (by simp [h0, h1, h2, h8, h9, h10]) (by simp [h0, h1, h2, h8, h9, h10]) (by simp [h0, h1, h2, h8, h9, h10]) (by simp [h0, h1, h2, h8, h9, h10, e1])
    | succ d ih =>
      intro lo hi fr hd h3 h4 h5 h0 h1 h2 h8 h9 h10
      refine sLoop_body c_slices_BinarySearchFunc_api_Peer_api_Peer_int_L0.eq_1 ?_
      by_cases hlt : lo < hi
      · have hlt' : (lo : Int) < hi := by omega
        have hm := mid_eq (lo := lo) (hi := hi) (by omega) (by omega)
        have hml : (lo + hi) / 2 < ps.length := by omega
        have hml' : (((lo + hi) / 2 : Nat) : Int) < ps.length := by omega
        have hw := wrap_next (n := (lo + hi) / 2) (by unfold cap at hl; omega)
        have hb1 : lo ≤ (lo + hi) / 2 := by omega
        have hb2 : (lo + hi) / 2 < hi := by omega
        generalize (lo + hi) / 2 = mid at *
        simp -implicitDefEqProofs [h0, h1, h2, h8, h9, h10, hlt', hlt, hm, hml, hml', Peer.row]
        refine callThen_of (peers_order_find base ps[mid] id) ?_
        simp -implicitDefEqProofs [cmpI_neg]
        refine condC_dec (fun hc => ?_) (fun hc => ?_)
        all_goals simp -implicitDefEqProofs [h0, h1, h2, h8, h9, h10, hc, hw]
        · have : mid < at_ := by
            apply Classical.byContradiction
            intro hx
            have := hhi mid ps[mid] (by omega) (by simp)
            omega
          refine ih (mid + 1) hi _ (by omega) (by omega) (by omega) (by omega) (by simp [h0, h1, h2, h8, h9, h10]) (by simp [h0, h1, h2, h8, h9, h10]) (by simp [h0, h1, h2, h8, h9, h10]) (by simp [h0, h1, h2, h8, h9, h10]) (by simp) (by simp [h0, h1, h2, h8, h9, h10])
        · have : at_ ≤ mid := by
            apply Classical.byContradiction
            intro hx
            have := hlo mid ps[mid] (by omega) (by simp)
            omega
          refine ih lo mid _ (by omega) (by omega) (by omega) (by omega) (by simp [h0, h1, h2, h8, h9, h10]) (by simp [h0, h1, h2, h8, h9, h10]) (by simp [h0, h1, h2, h8, h9, h10]) (by simp [h0, h1, h2, h8, h9, h10]) (by simp [h0, h1, h2, h8, h9, h10]) (by simp)
      · have e1 : lo = at_ := by omega
        have e2 : hi = at_ := by omega
        simp -implicitDefEqProofs [h0, h1, h2, h8, h9, h10, e1, e2]
        exact hQ1 _ (by simp [h0, h1, h2, h8, h9, h10]) (by simp [h0, h1, h2, h8, h9, h10]) (by simp [h0, h1, h2, h8, h9, h10]) (by simp [h0, h1, h2, h8, h9, h10]) (by simp [h0, h1, h2, h8, h9, h10, e1])
  refine key _ (fun fr h0 h1 h2 h8 h9 => ?_) ps.length 0 ps.length _ (by omega) (by omega) hat (Nat.le_refl _) rfl rfl rfl rfl rfl rfl
  simp -implicitDefEqProofs [h0, h1, h2, h8, h9]
  refine gOps_dec (fun hc => ?_) (fun hc => ?_)
  · simp -implicitDefEqProofs [h0, h1, h2, h8, h9, hc, Peer.row]
    refine callThen_of (peers_order_find base ps[at_] id) ?_
    simp -implicitDefEqProofs [cmpI_beq, cmpI_zero, hc, isFar]
  · have hp : ps[at_]? = none := by rw [List.getElem?_eq_none]; omega
    simp -implicitDefEqProofs [h0, h1, h2, h8, h9, hc, hp, isFar]

theorem peers_Find (base : Int) (ps : List Peer) (id : Int) (hl : ps.length ≤ cap) (hr : Rowed base ps) :
    Den PP 118 [.int .i64 base, peersD ps, .int .i64 id] [] (.tup [.int .i64 (findAt base ps id), .bool (peerIs base ps id)]) [] := by
  refine den_of [] [] is_peers_Find ?_
  simp -implicitDefEqProofs [c_peers_Find, peersD]
  refine callThen_of (bsearch_Peer base ps id hl (findAt base ps id) (findAt_le _ _ _) findAt_lo (findAt_hi hr)) ?_
  simp -implicitDefEqProofs [peerIs]

theorem view_Peer (v : View) (id : Int) (hl : v.peers.length ≤ cap) (hr : Rowed v.id v.peers) : Den PP 103 [.mem v.cells, .int .i64 id] [] (.bool (peerIs v.id v.peers id)) [] := by
  refine den_of [] [] is_view_Peer ?_
  simp -implicitDefEqProofs [c_view_Peer, View.cells, peersD]
  refine callThen_of (peers_Find v.id v.peers id hl hr) ?_
  simp -implicitDefEqProofs

theorem view_May_1 (v : View) (id : Int) (hl : v.peers.length ≤ cap) (hr : Rowed v.id v.peers) : Den PP 102 [.int .i64 id, .mem v.cells] [] (.bool (oddIn v id)) [] := by
  refine den_of [] [] is_view_May_1 ?_
  simp -implicitDefEqProofs [c_view_May_1, View.cells, peersD]
  refine gOps_not (fun h => ?_) (fun h => ?_) <;> simp -implicitDefEqProofs [h, oddIn]
  refine callThen_of (view_Peer v id hl hr) ?_
  simp -implicitDefEqProofs

theorem view_May (v : View) (hs : v.small) : Den PP 76 [viewD v] [] (.bool (viewMay v)) [] := by
  refine den_of [] [] is_view_May ?_
  simp -implicitDefEqProofs [c_view_May, viewD, View.cells, peersD, intsD]
  refine callThen_of (peers_May v.id v.peers (cap_of hs.1)) ?_
  simp -implicitDefEqProofs
  refine gOps_split (fun h1 => ?_) (fun h1 => ?_)
  rotate_left
  · simp -implicitDefEqProofs [h1, viewMay]
  simp -implicitDefEqProofs [h1]
  refine callThen_of (passive_May v.passive hs.2) ?_
  simp -implicitDefEqProofs
  refine gOps_split (fun h2 => ?_) (fun h2 => ?_)
  rotate_left
  · simp -implicitDefEqProofs [h2, h1, viewMay]
  have hw : IntKind.wrap .i64 ((v.peers.length : Int) + v.passive.length) = v.peers.length + v.passive.length := by
    obtain ⟨a, b⟩ := hs
    unfold cap16 at a
    unfold cap at b
    exact wrap_in (by omega) (by omega)
  simp -implicitDefEqProofs [h2, hw]
  refine condC_dec (fun h3 => ?_) (fun h3 => ?_)
  · simp -implicitDefEqProofs [h3, viewMay]
    intros
    omega
  simp -implicitDefEqProofs [h3]
  refine callThen_of (slices_ContainsFunc_int v.passive hs.2 _ _ (oddIn v) ⟨fun bs => rfl, fun fr fp => rfl, fun x _ => view_May_1 v x (cap_of hs.1) (peersMay_rowed h1)⟩) ?_
  simp -implicitDefEqProofs [viewMay, h1, h2]
  intros
  omega
end Go.AM
/- AM: contracts: a view's ends. -/
namespace Go.AM
set_option linter.unusedSimpArgs false
set_option linter.unusedVariables false
set_option maxRecDepth 8000
set_option maxHeartbeats 0
theorem view_Ids (v : View) (hl : v.peers.length ≤ cap16) : Den PP 78 [.mem v.cells] [] (.ref 0 0 v.peers.length) [⟨v.peers.map fun p => irow p.id, 1, .mut⟩] := by
  refine den_of [] [] is_view_Ids ?_
  simp -implicitDefEqProofs [c_view_Ids, View.cells, peersD]
  refine anyLoop_of (v.peers.length + 1) ?_
  have key : ∀ (Q : Ex → St → Prop) (hQ1 : ∀ fr, fr 3 = .ref 1 0 v.peers.length → Q .normal ⟨fr, [⟨[], 1, .mut⟩, ⟨v.peers.map fun p => irow p.id, 1, .mut⟩]⟩) (rest : List Peer) (i : Nat) (fr : Nat → D), v.peers.drop i = rest → i ≤ v.peers.length →
      fr 3 = .ref 1 0 i → fr 9 = .sl (v.peers.map Peer.row) v.peers.length → fr 10 = .int .i64 v.peers.length → fr 11 = .int .i64 i → sLoop (cf 0 [] []) 2 c_view_Ids_L0 (blockQ 0 Q) (rest.length + 1) ⟨fr, [⟨[], 1, .mut⟩, ⟨(v.peers.map fun p => irow p.id).take i, 1, .mut⟩]⟩ := by
    intro Q hQ1 rest
    induction rest with
    | nil =>
      intro i fr e hi h3 h9 h10 h11
      refine sLoop_body c_view_Ids_L0.eq_1 ?_
      have hi' := drop_nil e hi
      have hall : (v.peers.map fun p => irow p.id).take v.peers.length = v.peers.map fun p => irow p.id := List.take_of_length_le (by simp)
      simp -implicitDefEqProofs [h3, h9, h10, h11, hi', hall]
      exact hQ1 _ (by simp [h3, h9, h10, h11, hi'])
    | cons p rest ih =>
      intro i fr e hi h3 h9 h10 h11
      refine sLoop_body c_view_Ids_L0.eq_1 ?_
      obtain ⟨hlt, hget, hd, hlen⟩ := drop_cons e
      have hlt' : (i : Int) < v.peers.length := by omega
      have hw := wrap_next (n := i) (by unfold cap16 at hl; omega)
      have hb1 : (i + 1) * 8 ≤ 140737488355328 := by unfold cap16 at hl; omega
      have hb2 : i ≤ 9223372036854775806 := by unfold cap16 at hl; omega
      have hmin : min i v.peers.length = i := Nat.min_eq_left hi
      have htk : (v.peers.map fun p => irow p.id).take (i + 1) = (v.peers.map fun p => irow p.id).take i ++ [[.int .i64 p.id]] := by
        rw [List.take_add_one, List.getElem?_map, hget]
        rfl
      have := ih (i + 1)
      rw [htk] at this
      simp -implicitDefEqProofs [h3, h9, h10, h11, hlt', hget, Peer.row, hw, hb1, hb2, hmin, Fits]
      exact this _ hd (by omega) (by simp [h3, h9, h10, h11]) (by simp [h3, h9, h10, h11]) (by simp [h3, h9, h10, h11]) (by simp)
  refine key _ (fun fr h3 => ?_) v.peers 0 _ rfl (Nat.zero_le _) rfl rfl rfl rfl
  simp -implicitDefEqProofs [h3]

end Go.AM
/- AM: what the library's functions over slices step through: slices of own blocks, rows written over others. -/
namespace Go.AM
set_option linter.unusedSimpArgs false
set_option linter.unusedVariables false

section
variable {c : Cfg} {K : St → Prop} {st : St} {dst : Option Nat} {p : Prop} [Decidable p]
theorem overK_if {d : D} {a b : Option St} (hp : p) (h : overK dst d a K) : overK dst d (if p then a else b) K := by rw [if_pos hp]; exact h
theorem appK2_else {a b : Option (D × St)} (hp : ¬ p) (h : appK2 dst b K) : appK2 dst (if p then a else b) K := by rw [if_neg hp]; exact h
theorem overK_else {d : D} {a b : Option St} (hp : ¬ p) (h : overK dst d b K) : overK dst d (if p then a else b) K := by rw [if_neg hp]; exact h
theorem optK_if {a b : Option St} (hp : p) (h : optK a K) : optK (if p then a else b) K := by rw [if_pos hp]; exact h
theorem outK_if {a b : Option Out} (hp : p) (h : outK st dst a K) : outK st dst (if p then a else b) K := by rw [if_pos hp]; exact h
theorem appK_if {e : Nat} {base : D} {a b : Option (List (List D))} (hp : p) (h : appK c dst e base a st K) : appK c dst e base (if p then a else b) st K := by rw [if_pos hp]; exact h
/-- A part of a slice in an own block. -/
theorem outK_slice {T : Tab} {t b off len e : Nat} {lo hi : Option D} {k : Blk} (l h : Nat) (hT : (T t).d = .slice e) (hb : st.bs[b]? = some k) (hlo : boundD 0 lo = some (l : Int)) (hhi : boundD len hi = some (h : Int))
    (h1 : l ≤ h) (h2 : off + h ≤ k.rows.length) (h3 : k.esz = (T e).size) (hne : l = 0 ∨ off + l < k.rows.length) (hK : K (st.put dst (.ref b (off + l) (h - l)))) : outK st dst (sliceD T st.bs t (.ref b off len) lo hi none) K := by
  have : sliceD T st.bs t (.ref b off len) lo hi none = some { d := .ref b (off + l) (h - l) } := by
    unfold sliceD
    rw [hT]
    simp only [hlo, hhi, hb]
    rw [if_pos (by refine ⟨by omega, by omega, by omega, h3⟩)]
    by_cases hl : l = 0
    · subst hl
      simp
    · rw [if_neg (by omega), if_pos (by simp; omega)]
      have : ((h : Int) - l).toNat = h - l := by omega
      simp [this]
  rw [this]
  refine ⟨by simp, ?_⟩
  rw [out_quiet]
  exact hK
/-- A part of a slice whose cells stay. -/
theorem outK_sliceS {T : Tab} {bs : List Blk} {t len e : Nat} {rows : List (List D)} {lo hi : Option D} (l h : Nat) (hT : (T t).d = .slice e) (hlo : boundD 0 lo = some (l : Int)) (hhi : boundD len hi = some (h : Int))
    (h1 : l ≤ h) (h2 : h ≤ rows.length) (h3 : ∀ r ∈ rows, r.length = (T e).size) (hK : K (st.put dst (.sl (rows.drop l) (h - l)))) : outK st dst (sliceD T bs t (.sl rows len) lo hi none) K := by
  have : sliceD T bs t (.sl rows len) lo hi none = some { d := .sl (rows.drop l) (h - l) } := by
    unfold sliceD
    rw [hT]
    simp only [hlo, hhi]
    rw [if_pos (by omega), if_pos h3]
    have : ((h : Int) - l).toNat = h - l := by omega
    simp [this]
  rw [this]
  refine ⟨by simp, ?_⟩
  rw [out_quiet]
  exact hK
/-- The empty part at the end of a block. -/
theorem outK_sliceE {T : Tab} {t b off len e : Nat} {lo hi : Option D} {k : Blk} (l : Nat) (hT : (T t).d = .slice e) (hb : st.bs[b]? = some k) (hlo : boundD 0 lo = some (l : Int)) (hhi : boundD len hi = some (l : Int))
    (h2 : off + l = k.rows.length) (h3 : k.esz = (T e).size) (hl : l ≠ 0) (hK : K (st.put dst (.sl [] 0))) : outK st dst (sliceD T st.bs t (.ref b off len) lo hi none) K := by
  have : sliceD T st.bs t (.ref b off len) lo hi none = some { d := .sl [] 0 } := by
    unfold sliceD
    rw [hT]
    simp only [hlo, hhi, hb]
    rw [if_pos (by refine ⟨by omega, by omega, by omega, h3⟩), if_neg (by omega), if_neg (by simp; omega)]
  rw [this]
  refine ⟨by simp, ?_⟩
  rw [out_quiet]
  exact hK
end

theorem outRows_of {esz j o l : Nat} {k' : Blk} {bs' : List Blk} {R : List (List D)} (hj : bs'[j]? = some k') (hm : k'.kind = .mut) (he : k'.esz = esz) (hl : o + l ≤ k'.rows.length) (hR : R = (k'.rows.drop o).take l) (h0 : j = 0 ∨ 0 < l) : outRows esz (.ref j o l) bs' R :=
  ⟨j, o, l, k', rfl, hj, hm, he, hl, hR, h0⟩

/-- It names no own block. -/
def D.still : D → Bool
  | .int _ _ => true
  | .bool _ => true
  | .nil => true
  | .zs _ => true
  | .sl _ _ => true
  | .mem _ => true
  | .undef => true
  | _ => false
def StillR (rows : List (List D)) : Prop := ∀ r ∈ rows, ∀ d ∈ r, d.still = true
theorem still_rids {d : D} (h : d.still = true) : d.rids = [] := by cases d <;> first | rfl | cases h
theorem still_mapR {d : D} (h : d.still = true) (fr fp : Nat → Nat → Nat → D) : d.mapR fr fp = d := by cases d <;> first | rfl | cases h
theorem still_ridsL : ∀ {r : List D}, (∀ d ∈ r, d.still = true) → ridsL r = [] := by
  intro r
  induction r with
  | nil => intro _; rfl
  | cons d ds ih =>
    intro h
    simp only [ridsL, still_rids (h d (by simp)), ih fun d hd => h d (by simp [hd])]
    rfl
theorem StillR.mapR {rows : List (List D)} (h : StillR rows) (fr fp : Nat → Nat → Nat → D) : rows.map (fun r => r.map (D.mapR fr fp)) = rows := by
  rw [List.map_congr_left (g := id), List.map_id]
  intro r hr
  rw [List.map_congr_left (g := id), List.map_id]
  · rfl
  · intro d hd
    exact still_mapR (h r hr d hd) fr fp
/-- A given block of whatever capacity: the rows that are known, and rows of nothing. -/
theorem gives_of {G : Con} {f esz : Nat} {rows : List (List D)} {rest : List D} {R : List (List D)} (hf : ∀ r ∈ rows, r.length = esz) (hst : StillR rows)
    (h : ∀ fl : List (List D), rows.length ≤ fl.length → (∀ r ∈ fl, r.length = esz) → StillR fl → fl.take rows.length = rows → (∀ i, i < rows.length → fl[i]? = rows[i]?) →
      ∃ r bs', G f (.ref 0 0 rows.length :: rest) [⟨fl, esz, .mut⟩] r bs' ∧ outRows esz r bs' R) : GivesC G f rows esz rest R := by
  intro cp hcp
  refine h _ (by simp) ?_ ?_ (by simp) ?_
  · intro r hr
    rcases List.mem_append.1 hr with h | h
    · exact hf r h
    · rw [(List.mem_replicate.1 h).2]; simp
  · intro r hr d hd
    rcases List.mem_append.1 hr with h | h
    · exact hst r h d hd
    · rw [(List.mem_replicate.1 h).2] at hd
      rw [(List.mem_replicate.1 hd).2]
      rfl
  · intro i hi
    rw [List.getElem?_append_left hi]
theorem StillR.append {a b : List (List D)} (h1 : StillR a) (h2 : StillR b) : StillR (a ++ b) := by
  intro r hr
  rcases List.mem_append.1 hr with h | h
  · exact h1 r h
  · exact h2 r h
theorem StillR.take {a : List (List D)} (h1 : StillR a) (n : Nat) : StillR (a.take n) := fun r hr => h1 r (List.mem_of_mem_take hr)
theorem StillR.drop {a : List (List D)} (h1 : StillR a) (n : Nat) : StillR (a.drop n) := fun r hr => h1 r (List.mem_of_mem_drop hr)
theorem StillR.ovr {a b : List (List D)} (h1 : StillR a) (h2 : StillR b) (p : Nat) : StillR (ovr a p b) := ((h1.take _).append h2).append (h1.drop _)
theorem StillR.set {a : List (List D)} {r : List D} (h1 : StillR a) (h2 : ∀ d ∈ r, d.still = true) (i : Nat) : StillR (a.set i r) := by
  intro x hx
  rcases List.mem_or_eq_of_mem_set hx with h | h
  · exact h1 x h
  · rw [h]; exact h2
theorem StillR.map {α : Type} (f : α → List D) (l : List α) (h : ∀ a ∈ l, ∀ d ∈ f a, d.still = true) : StillR (l.map f) := by
  intro r hr
  obtain ⟨a, ha, rfl⟩ := List.mem_map.1 hr
  exact h a ha
def insL {α : Type} (xs : List α) (i : Nat) (x : α) : List α := xs.take i ++ x :: xs.drop i
theorem insL_map {α β : Type} (f : α → β) (xs : List α) (i : Nat) (x : α) : (insL xs i x).map f = insL (xs.map f) i (f x) := by simp [insL, List.map_take, List.map_drop]
theorem insL_get {α : Type} {xs : List α} {i : Nat} {x : α} (hi : i ≤ xs.length) (j : Nat) : (insL xs i x)[j]? = if j < i then xs[j]? else if j = i then some x else xs[j - 1]? := by
  unfold insL
  have hl : (xs.take i).length = i := by simp; omega
  by_cases h1 : j < i
  · rw [if_pos h1, List.getElem?_append_left (by omega), List.getElem?_take_of_lt h1]
  · rw [if_neg h1, List.getElem?_append_right (by omega), hl]
    by_cases h2 : j = i
    · subst h2; simp
    · rw [if_neg h2]
      obtain ⟨m, hm⟩ : ∃ m, j - i = m + 1 := ⟨j - i - 1, by omega⟩
      rw [hm, List.getElem?_cons_succ, List.getElem?_drop]
      congr 1
      omega
@[simp] theorem insL_length {α : Type} (xs : List α) (i : Nat) (x : α) : (insL xs i x).length = xs.length + 1 := by simp [insL]; omega
@[simp] theorem fits_rep {esz m : Nat} {z : List D} : Fits esz (List.replicate m z) = (m = 0 ∨ (z.length = esz ∧ z.all D.isCell = true)) := by
  apply propext
  constructor
  · intro h
    by_cases hm : m = 0
    · exact .inl hm
    · exact .inr (h z (by simp [hm]))
  · rintro (rfl | h) r hr
    · simp at hr
    · rw [(List.mem_replicate.1 hr).2]; exact h
theorem StillR.sweep {rows : List (List D)} (h : StillR rows) (S : Nat → Bool) : rows.map (fun r => r.map (D.sweep S)) = rows := h.mapR _ _
theorem lent_still {bs : List Blk} (h : ∀ k ∈ bs, StillR k.rows) : lentRids bs = [] ∧ ∀ fr fp, bs.map (Blk.mapR fr fp) = bs := by
  constructor
  · unfold lentRids
    rw [List.flatMap_eq_nil_iff]
    intro k hk
    rw [List.flatMap_eq_nil_iff]
    intro r hr
    exact still_ridsL fun d hd => h k hk r hr d hd
  · intro fr fp
    rw [List.map_congr_left (g := id), List.map_id]
    intro k hk
    show { k with rows := _ } = k
    have := (h k hk).mapR fr fp
    rw [this]
theorem leave_lent {n0 b o l : Nat} {st : St} (hb : b < n0) (h : ∀ k ∈ st.bs.take n0, StillR k.rows) : leave n0 st (.ref b o l) = some (.ref b o l, st.bs.take n0) := by
  obtain ⟨h1, h2⟩ := lent_still h
  unfold leave
  simp only [D.rids, h1, List.append_nil]
  have : [b].filter (fun b => decide (n0 ≤ b)) = [] := by simp; omega
  rw [this]
  simp [expRef, hb, h2]
theorem leave_new {n0 b o l : Nat} {st : St} {k : Blk} (hb : n0 ≤ b) (hk : st.bs[b]? = some k) (hbox : k.kind.isBox = false) (h : ∀ k ∈ st.bs.take n0, StillR k.rows) : leave n0 st (.ref b o l) = some (.ref n0 o l, st.bs.take n0 ++ [k]) := by
  obtain ⟨h1, h2⟩ := lent_still h
  unfold leave
  simp only [D.rids, h1, List.append_nil]
  have : [b].filter (fun b => decide (n0 ≤ b)) = [b] := by simp; omega
  rw [this]
  have hnb : ¬ b < n0 := by omega
  have hnk : k.kind ≠ .box ∧ k.kind ≠ .ibox := by
    constructor <;> (intro h; rw [h] at hbox; cases hbox)
  simp [expRef, hnb, h2, hk]
  cases hkk : k.kind <;> simp [hkk] at hnk ⊢
section
variable {rows fl : List (List D)} {v : List D} {at_ n : Nat}
theorem ins_get (hn : rows.length = n) (hat : at_ ≤ n) (hfl : n ≤ fl.length) (htake : fl.take n = rows) (i : Nat) : (insL rows at_ v)[i]? = if i < at_ then fl[i]? else if i = at_ then some v else if i ≤ n then fl[i - 1]? else none := by
  rw [insL_get (by omega)]
  have hr : ∀ j, rows[j]? = if j < n then fl[j]? else none := by
    intro j
    rw [← htake, List.getElem?_take]
  rw [hr, hr]
  by_cases h1 : i < at_
  · rw [if_pos h1, if_pos h1, if_pos (by omega)]
  · rw [if_neg h1, if_neg h1]
    by_cases h2 : i = at_
    · rw [if_pos h2, if_pos h2]
    · rw [if_neg h2, if_neg h2]
      by_cases h3 : i ≤ n
      · rw [if_pos h3, if_pos (by omega)]
      · rw [if_neg h3, if_neg (by omega)]
theorem ins_rows1 (hn : rows.length = n) (hfl : n + 1 ≤ fl.length) (htake : fl.take n = rows) : insL rows n v = ((ovr fl n [v]).drop 0).take (n + 1) := by
  apply List.ext_getElem?
  intro i
  rw [ins_get hn (Nat.le_refl _) (by omega) htake, List.drop_zero, List.getElem?_take, ovr_get (by simpa using hfl)]
  simp only [List.length_singleton]
  by_cases h1 : i < n
  · rw [if_pos h1, if_pos (by omega), if_pos h1]
  · rw [if_neg h1]
    by_cases h2 : i = n
    · subst h2; simp
    · rw [if_neg h2, if_neg (by omega), if_neg (by omega)]
theorem ins_rows2 (hn : rows.length = n) (htake : fl.take n = rows) : insL rows n v = ((fl.take n ++ [v]).drop 0).take (n + 1) := by
  rw [htake, List.drop_zero, List.take_of_length_le (by simp; omega)]
  simp [insL, ← hn]
theorem ins_rowsC (hn : rows.length = n) (hat : at_ < n) (hfl : n + 1 ≤ fl.length) (htake : fl.take n = rows) :
    insL rows at_ v = ((ovr (ovr fl (at_ + 1) ((fl.drop at_).take (n - at_))) at_ [v]).drop 0).take (n + 1) := by
  have hl : ((fl.drop at_).take (n - at_)).length = n - at_ := by simp; omega
  have hl2 := ovr_length (rows := fl) (p := at_ + 1) (ys := (fl.drop at_).take (n - at_)) (by omega)
  apply List.ext_getElem?
  intro i
  rw [ins_get hn (by omega) (by omega) htake, List.drop_zero, List.getElem?_take, ovr_get (by simp; omega), ovr_get (by omega)]
  simp only [List.length_singleton, hl]
  by_cases h1 : i < at_
  · rw [if_pos h1, if_pos (by omega), if_pos h1, if_pos (by omega)]
  · rw [if_neg h1]
    by_cases h2 : i = at_
    · subst h2; simp; omega
    · rw [if_neg h2]
      by_cases h3 : i ≤ n
      · rw [if_pos h3, if_pos (by omega), if_neg h1, if_neg (by omega), if_neg (by omega), if_pos (by omega), List.getElem?_take_of_lt (by omega), List.getElem?_drop]
        congr 1
        omega
      · rw [if_neg h3, if_neg (by omega)]
theorem ins_rowsB {z : List D} (hn : rows.length = n) (hat : at_ < n) (hfl : fl.length = n) (htake : fl.take n = rows) :
    insL rows at_ v = ((ovr (ovr (fl.take at_ ++ List.replicate (n + 1 - at_) z) at_ [v]) (at_ + 1) ((fl.drop at_).take (n - at_))).drop 0).take (n + 1) := by
  have hl : ((fl.drop at_).take (n - at_)).length = n - at_ := by simp; omega
  have hl0 : (fl.take at_ ++ List.replicate (n + 1 - at_) z).length = n + 1 := by simp; omega
  have hl2 := ovr_length (rows := fl.take at_ ++ List.replicate (n + 1 - at_) z) (p := at_) (ys := [v]) (by rw [hl0]; simp; omega)
  apply List.ext_getElem?
  intro i
  rw [ins_get hn (by omega) (by omega) htake, List.drop_zero, List.getElem?_take, ovr_get (by rw [hl2, hl0]; omega), ovr_get (by rw [hl0]; simp; omega)]
  simp only [List.length_singleton, hl]
  by_cases h1 : i < at_
  · rw [if_pos h1, if_pos (by omega), if_pos (by omega), if_pos h1, List.getElem?_append_left (by simp; omega), List.getElem?_take_of_lt h1]
  · rw [if_neg h1]
    by_cases h2 : i = at_
    · subst h2; simp; omega
    · rw [if_neg h2]
      by_cases h3 : i ≤ n
      · rw [if_pos h3, if_pos (by omega), if_neg (by omega), if_pos (by omega), List.getElem?_take_of_lt (by omega), List.getElem?_drop]
        congr 1
        omega
      · rw [if_neg h3, if_neg (by omega)]
end
/-- A slice, with the rows of its length alone. -/
def D.cut : D → D
  | .sl rows len => .sl (rows.take len) len
  | d => d
theorem RepI.cutLen {w : World} {M : Foot} {v : Value} {rows : List (List D)} {len : Nat} (h : RepI w M v (.sl rows len)) : RepI w M v (.sl (rows.take len) len) := by
  cases h with
  | sl a _ cap _ esz g off vals h1 h2 hr ha hc hv =>
    refine .sl a len cap _ esz g off vals (by simp; omega) (by simp; omega) (fun r hx => hr r (List.mem_of_mem_take hx)) (fun hne => ha (by rintro rfl; exact hne (by simp))) (fun i j hi hj => hc i j (by simp at hi; omega) hj) ?_
    intro i j r d hi hj
    rw [List.getElem?_take] at hi
    split at hi
    · exact hv i j r d hi hj
    · cases hi
theorem Rep.cut {w : World} {M : Foot} {ρ : Nat → Loc} {v : Value} {d : D} (h : Rep w M ρ v d) : Rep w M ρ v d.cut := by
  cases d <;> try exact h
  exact .imm _ _ h.sl_inv.cutLen
theorem den_cut {P : Program} {f : Nat} {args : List D} {bs : List Blk} {r : D} {bs' : List Blk} (h : Den P f (args.map D.cut) bs r bs') : Den P f args bs r bs' := by
  refine ⟨h.1, fun w M0 ρ vals hM hS hs ha => h.2 w M0 ρ vals hM hS (by simpa using hs) ?_⟩
  intro i v d hv hd
  rw [List.getElem?_map] at hd
  cases hc : args[i]? with
  | none => simp [hc] at hd
  | some d0 => simp [hc] at hd; subst hd; exact (ha i v d0 hv hc).cut
attribute [simp] D.cut
@[simp] theorem take_map_app {α β : Type} (f : α → β) (l : List α) (r : List β) : (l.map f ++ r).take l.length = l.map f := List.take_left' (by simp)
/-- nil is an empty array of one's own. -/
theorem den_virt {P : Program} {f : Nat} {args : List D} (esz : Nat) (h : Den P f args [] .nil []) : Den P f args [] (.ref 0 0 0) [⟨[], esz, .mut⟩] := by
  refine ⟨h.1, fun w M0 ρ vals hM hS hs ha => (h.2 w M0 ρ vals hM hS hs ha).mono ?_⟩
  rintro e w' ⟨v, ρ', rfl, hr, hS', hlen, hlent, hp, har⟩
  obtain ⟨a, rfl⟩ := hr.nil_inv
  have hMM : Mof M0 (updL ρ' 0 .virt) [⟨[], esz, .mut⟩] = Mof M0 ρ' [] := by
    rw [Mof_nil]
    funext g o
    apply propext
    constructor
    · rintro (h | ⟨i, b', base, n, rl, ez, hi, hat, _⟩)
      · exact h
      · cases i with
        | zero => rw [updL_same] at hat; cases hat
        | succ i => simp at hi
    · exact .inl
  have hno : ∀ i, ρ' i = .absent := fun i => hS'.out i (Nat.zero_le _)
  have hat : ∀ i g base n rl ez, updL ρ' 0 .virt i ≠ .at_ g base n rl ez := by
    intro i g base n rl ez h
    by_cases hi : i = 0
    · subst hi; rw [updL_same] at h; cases h
    · rw [updL_ne _ _ hi, hno] at h; cases h
  refine ⟨_, updL ρ' 0 .virt, rfl, .refV 0 a (updL_same _ _ _), ⟨fun i b g base n rl ez _ h => absurd h (hat _ _ _ _ _ _), ?_, ?_, fun i j g _ _ _ _ _ _ _ _ h => absurd h (hat _ _ _ _ _ _), fun i g _ _ _ _ h => absurd h (hat _ _ _ _ _ _)⟩, by simp, fun i hi => absurd hi (by simp), by rw [hMM]; exact hp, ⟨har.size, har.os, har.tape, har.output, har.keep, fun i g base n rl ez _ h => absurd h (hat _ _ _ _ _ _)⟩⟩
  · intro i b hi hv
    cases i with
    | zero => simp at hi; subst hi; exact ⟨rfl, rfl⟩
    | succ i => simp at hi
  · intro i hi
    rw [updL_ne _ _ (by simp at hi; omega)]
    exact hno i
/-- A loop that counts to n. -/
theorem count_rule {c : Cfg} {k id : Nat} {x y : SC} {Q : Ex → St → Prop} {st : St} (n : Nat) (P : Nat → St → Prop) (N R : St → Prop) (hx : x = y)
    (h0 : P 0 st) (hlast : ∀ st, P n st → sCode c y st (roundQ (fun _ => False) id N R)) (hstep : ∀ i st, i < n → P i st → sCode c y st (roundQ (onK (P (i + 1)) k) id N R))
    (hN : ∀ st, N st → Q .normal st) (hR : ∀ st, R st → Q .ret st) : anyLoop c k x (blockQ id Q) st := by
  refine loop_rule n (fun m st => m ≤ n ∧ P (n - m) st) N R hx ⟨Nat.le_refl _, by simpa using h0⟩ (fun st h => hlast st (by simpa using h.2)) (fun m st h => ?_) hN hR
  have := hstep (n - (m + 1)) st (by omega) h.2
  rw [show n - (m + 1) + 1 = n - m by omega] at this
  refine sCode_mono _ _ _ _ ?_ this
  intro ex st' h'
  cases ex with
  | normal => exact ⟨by omega, h'⟩
  | exit i => exact h'
  | ret => exact h'
theorem count_keep {c : Cfg} {k id : Nat} {x y : SC} {Q : Ex → St → Prop} {st : St} (n : Nat) (P : Nat → St → Prop) (N R : St → Prop) (hx : x = y)
    (h0 : P 0 st) (hlast : ∀ st, P n st → sCode c y st (roundQ (fun _ => False) id N R)) (hstep : ∀ i st, i < n → P i st → sCode c y st (roundQ (onKeep (P (i + 1)) k) id N R))
    (hN : ∀ st, N st → Q .normal st) (hR : ∀ st, R st → Q .ret st) : anyLoop c k x (blockQ id Q) st := by
  refine loop_keep n (fun m st => m ≤ n ∧ P (n - m) st) N R hx ⟨Nat.le_refl _, by simpa using h0⟩ (fun st h => hlast st (by simpa using h.2)) (fun m st h => ?_) hN hR
  have := hstep (n - (m + 1)) st (by omega) h.2
  rw [show n - (m + 1) + 1 = n - m by omega] at this
  refine sCode_mono _ _ _ _ ?_ this
  intro ex st' h'
  cases ex with
  | normal =>
    obtain ⟨ext, h1, h2⟩ := h'
    exact ⟨ext, h1, by omega, h2⟩
  | exit i => exact h'
  | ret => exact h'
@[simp] theorem wrap_zero : IntKind.wrap .i64 0 = 0 := wrap_in (by omega) (by omega)
theorem splice_map {α : Type} (f : α → D) (W : List α) (k : Nat) (b : α) (hk : k < W.length) : List.take k (List.map f W) ++ f b :: List.drop (k + 1) (List.map f W) = List.map f (W.set k b) := by
  rw [List.map_set, List.set_eq_take_append_cons_drop, if_pos (by simpa using hk)]
end Go.AM
/- AM: contracts: the library's functions over slices. -/
namespace Go.AM
set_option linter.unusedSimpArgs false
set_option linter.unusedVariables false
set_option maxRecDepth 8000
set_option maxHeartbeats 0
theorem clone_int (rows : List (List D)) (hf : Fits 1 rows) (hl : rows.length * 8 ≤ 140737488355328) : Den PP 110 [.sl rows rows.length] [] (.ref 0 0 rows.length) [⟨rows, 1, .mut⟩] := by
  cases hr : rows with
  | nil =>
    refine den_zs (pre := []) (post := []) ?_ ?_
    · refine den_of [] [] is_slices_Clone_int_int ?_
      simp -implicitDefEqProofs [c_slices_Clone_int_int]
    · refine den_of [] [] is_slices_Clone_int_int ?_
      simp -implicitDefEqProofs [c_slices_Clone_int_int, Fits]
  | cons r rs =>
    rw [hr] at hf hl
    have h63 : (r :: rs).length ≤ 9223372036854775807 := by omega
    have hlen : 0 < (r :: rs).length := by simp
    generalize hn : (r :: rs).length = n at *
    generalize r :: rs = rows at *
    refine den_of [] [] is_slices_Clone_int_int ?_
    simp -implicitDefEqProofs [c_slices_Clone_int_int, hlen, List.take_of_length_le (Nat.le_of_eq hn), hf, hn, hl, h63]
theorem clone_Peer (rows : List (List D)) (hf : Fits 2 rows) (hl : rows.length * 16 ≤ 140737488355328) : Den PP 109 [.sl rows rows.length] [] (.ref 0 0 rows.length) [⟨rows, 2, .mut⟩] := by
  cases hr : rows with
  | nil =>
    refine den_zs (pre := []) (post := []) ?_ ?_
    · refine den_of [] [] is_slices_Clone_api_Peer_api_Peer ?_
      simp -implicitDefEqProofs [c_slices_Clone_api_Peer_api_Peer]
    · refine den_of [] [] is_slices_Clone_api_Peer_api_Peer ?_
      simp -implicitDefEqProofs [c_slices_Clone_api_Peer_api_Peer, Fits]
  | cons r rs =>
    rw [hr] at hf hl
    have h63 : (r :: rs).length ≤ 9223372036854775807 := by omega
    have hlen : 0 < (r :: rs).length := by simp
    generalize hn : (r :: rs).length = n at *
    generalize r :: rs = rows at *
    refine den_of [] [] is_slices_Clone_api_Peer_api_Peer ?_
    simp -implicitDefEqProofs [c_slices_Clone_api_Peer_api_Peer, hlen, List.take_of_length_le (Nat.le_of_eq hn), hf, hn, hl, h63]
theorem clone_Item (rows : List (List D)) (hf : Fits 5 rows) (hl : rows.length * 40 ≤ 140737488355328) : Den PP 83 [.sl rows rows.length] [] (.ref 0 0 rows.length) [⟨rows, 5, .mut⟩] := by
  cases hr : rows with
  | nil =>
    refine den_zs (pre := []) (post := []) ?_ ?_
    · refine den_of [] [] is_slices_Clone_api_Item_api_Item ?_
      simp -implicitDefEqProofs [c_slices_Clone_api_Item_api_Item]
    · refine den_of [] [] is_slices_Clone_api_Item_api_Item ?_
      simp -implicitDefEqProofs [c_slices_Clone_api_Item_api_Item, Fits]
  | cons r rs =>
    rw [hr] at hf hl
    have h63 : (r :: rs).length ≤ 9223372036854775807 := by omega
    have hlen : 0 < (r :: rs).length := by simp
    generalize hn : (r :: rs).length = n at *
    generalize r :: rs = rows at *
    refine den_of [] [] is_slices_Clone_api_Item_api_Item ?_
    simp -implicitDefEqProofs [c_slices_Clone_api_Item_api_Item, hlen, List.take_of_length_le (Nat.le_of_eq hn), hf, hn, hl, h63]
theorem clone_Told (rows : List (List D)) (hf : Fits 3 rows) (hl : rows.length * 24 ≤ 140737488355328) : Den PP 84 [.sl rows rows.length] [] (.ref 0 0 rows.length) [⟨rows, 3, .mut⟩] := by
  cases hr : rows with
  | nil =>
    refine den_zs (pre := []) (post := []) ?_ ?_
    · refine den_of [] [] is_slices_Clone_api_Told_api_Told ?_
      simp -implicitDefEqProofs [c_slices_Clone_api_Told_api_Told]
    · refine den_of [] [] is_slices_Clone_api_Told_api_Told ?_
      simp -implicitDefEqProofs [c_slices_Clone_api_Told_api_Told, Fits]
  | cons r rs =>
    rw [hr] at hf hl
    have h63 : (r :: rs).length ≤ 9223372036854775807 := by omega
    have hlen : 0 < (r :: rs).length := by simp
    generalize hn : (r :: rs).length = n at *
    generalize r :: rs = rows at *
    refine den_of [] [] is_slices_Clone_api_Told_api_Told ?_
    simp -implicitDefEqProofs [c_slices_Clone_api_Told_api_Told, hlen, List.take_of_length_le (Nat.le_of_eq hn), hf, hn, hl, h63]
end Go.AM
/- AM: contracts: a view's ends, a key's owner. -/
namespace Go.AM
set_option linter.unusedSimpArgs false
set_option linter.unusedVariables false
set_option maxRecDepth 8000
set_option maxHeartbeats 0
end Go.AM
/- AM: contracts: a key's owner. -/
namespace Go.AM
set_option linter.unusedSimpArgs false
set_option linter.unusedVariables false
set_option maxRecDepth 8000
set_option maxHeartbeats 0
theorem row_may (one : Int) (ids : List Int) (hl : ids.length ≤ cap) : Den PP 105 [.int .i64 one, intsD ids] [] (.bool (place one && decide (ids.length ≤ 64) && ids.all place)) [] := by
  have hc := ring_Places ids hl
  simp [intsD] at hc
  refine den_of [] [] is_row_may ?_
  simp -implicitDefEqProofs [c_row_may, intsD]
  refine callThen_of (ring_Place one) ?_
  simp -implicitDefEqProofs
  refine gOps_split (fun h => ?_) (fun h => ?_)
  rotate_left
  · simp -implicitDefEqProofs [h]
  simp -implicitDefEqProofs [h]
  refine gOps_dec (fun h2 => ?_) (fun h2 => ?_)
  rotate_left
  · simp -implicitDefEqProofs [h, h2]
    omega
  simp -implicitDefEqProofs [h2]
  refine callThen_of hc ?_
  simp -implicitDefEqProofs
  intros
  omega
theorem slices_MinFunc (key_ x : Int) (xs : List Int) (hl : xs.length < cap) : Den PP 106 [intsD (x :: xs), .fn 120 [] [.mem [.int .i64 key_]]] [] (.int .i64 (nearest key_ x xs)) [] := by
  refine den_of [] [] is_slices_MinFunc_int_int ?_
  have h0 : ¬ ((xs.length : Int) + 1 < 1) := by omega
  simp -implicitDefEqProofs [c_slices_MinFunc_int_int, intsD, h0, irow]
  refine anyLoop_of (xs.length + 1) ?_
  have key : ∀ (Q : Ex → St → Prop) (r : Int) (hQ1 : ∀ fr, fr 5 = .int .i64 r → Q .normal ⟨fr, []⟩) (ys : List Int) (hys : ys.length ≤ cap) (rest : List Int) (i : Nat) (m : Int) (fr : Nat → D), ys.drop i = rest → i ≤ ys.length →
      fr 0 = .sl (ys.map irow) ys.length → fr 1 = .fn 120 [] [.mem [.int .i64 key_]] → fr 5 = .int .i64 m → fr 6 = .int .i64 i → nearest key_ m rest = r → sLoop (cf 0 [] []) 0 c_slices_MinFunc_int_int_L0 (blockQ 0 Q) (rest.length + 1) ⟨fr, []⟩ := by
    intro Q r hQ1 ys hys rest
    induction rest with
    | nil =>
      intro i m fr e hi h0 h1 h5 h6 hm
      refine sLoop_body c_slices_MinFunc_int_int_L0.eq_1 ?_
      have hi' := drop_nil e hi
      simp -implicitDefEqProofs [h0, h1, h5, h6, hi']
      exact hQ1 _ (by rw [← hm]; simp [h0, h1, h5, h6, nearest])
    | cons y rest ih =>
      intro i m fr e hi h0 h1 h5 h6 hm
      refine sLoop_body c_slices_MinFunc_int_int_L0.eq_1 ?_
      obtain ⟨hlt, hget, hd, hlen⟩ := drop_cons e
      have hlt' : (i : Int) < ys.length := by omega
      have hw := wrap_next (n := i) (by unfold cap at hys; omega)
      simp only [nearest] at hm
      simp -implicitDefEqProofs [h0, h1, h5, h6, hlt', hget, irow]
      refine callThen_of (row_By_1 key_ y m) ?_
      simp -implicitDefEqProofs [cmpI_neg]
      refine condC_dec (fun h2 => ?_) (fun h2 => ?_)
      all_goals simp -implicitDefEqProofs [h2, h0, h1, h5, h6, hw, hlt', hget, irow]
      · exact ih (i + 1) y _ hd (by omega) (by simp [h0, h1, h5, h6]) (by simp [h0, h1, h5, h6]) (by simp) (by simp) (by rw [← hm, if_pos h2])
      · exact ih (i + 1) m _ hd (by omega) (by simp [h0, h1, h5, h6]) (by simp [h0, h1, h5, h6]) (by simp [h0, h1, h5, h6]) (by simp) (by rw [← hm, if_neg h2])
  refine key _ (nearest key_ x xs) (fun fr h => ?_) (x :: xs) (by simp; omega) xs 1 x _ rfl (by simp) rfl rfl rfl rfl rfl
  simp -implicitDefEqProofs [h]
theorem row_Owner (ids : List Int) (key : Int) (hl : ids.length ≤ cap) : Den PP 77 [intsD ids, .int .i64 key] [] (pairD (rowOwner ids key)) [] := by
  have hc := row_may key ids hl
  simp only [rowOwner, pairD]
  generalize (place key && decide (ids.length ≤ 64) && ids.all place) = b at *
  simp [intsD] at hc
  refine den_of [] [] is_row_Owner ?_
  simp -implicitDefEqProofs [c_row_Owner, intsD]
  refine callThen_of hc ?_
  simp -implicitDefEqProofs
  cases b
  · simp -implicitDefEqProofs
  simp -implicitDefEqProofs
  cases ids with
  | nil => simp -implicitDefEqProofs
  | cons x xs =>
    have hm := slices_MinFunc key x xs (by simpa [Nat.lt_iff_add_one_le] using hl)
    simp [intsD] at hm
    simp -implicitDefEqProofs
    refine callThen_of (row_By key) ?_
    simp -implicitDefEqProofs
    refine callThen_of hm ?_
    simp -implicitDefEqProofs
theorem view_Owner (v : View) (key : Int) (hs : v.small) : Den PP 48 [viewD v, .int .i64 key] [] (pairD (ownerV v key)) [] := by
  have hc := view_May v hs
  have hi := view_Ids v hs.1
  simp only [ownerV, pairD]
  simp [viewD, View.cells, peersD, intsD] at hc hi
  refine den_of [17] [] is_view_Owner ?_
  simp -implicitDefEqProofs [c_view_Owner, viewD, View.cells, peersD, intsD]
  refine callThen_of hc ?_
  simp -implicitDefEqProofs
  refine gOps_split (fun h => ?_) (fun h => ?_)
  rotate_left
  · simp -implicitDefEqProofs [h]
  simp -implicitDefEqProofs [h]
  refine callThen_of (ring_Place key) ?_
  simp -implicitDefEqProofs
  refine condC_not (fun h2 => ?_) (fun h2 => ?_)
  rotate_left
  · simp -implicitDefEqProofs [h, h2]
  simp -implicitDefEqProofs [h, h2]
  refine callThen_of hi ?_
  have hb1 : (v.peers.length + 1) * 8 ≤ 140737488355328 := by
    have := hs.1
    unfold cap16 at this
    omega
  have hb2 : v.peers.length ≤ 9223372036854775806 := by omega
  have ho := row_Owner (v.peers.map Peer.id ++ [v.id]) key (by unfold cap; simp; omega)
  simp [intsD, pairD, irow] at ho
  simp -implicitDefEqProofs [downTo, hb1, hb2, Fits]
  refine callThen_of ho ?_
  simp -implicitDefEqProofs
end Go.AM
/- AM: contracts: the document's answers about views. -/
namespace Go.AM
set_option linter.unusedSimpArgs false
set_option linter.unusedVariables false
set_option maxRecDepth 8000
set_option maxHeartbeats 0
end Go.AM
/- AM: contracts: the document's peers. -/
namespace Go.AM
set_option linter.unusedSimpArgs false
set_option linter.unusedVariables false
set_option maxRecDepth 8000
set_option maxHeartbeats 0
end Go.AM
/- AM: contracts: the document's answers about views. -/
namespace Go.AM
set_option linter.unusedSimpArgs false
set_option linter.unusedVariables false
set_option maxRecDepth 8000
set_option maxHeartbeats 0
end Go.AM
/- Plain law: places put in their row, taken out. -/
namespace Go.AM
set_option linter.unusedSimpArgs false
set_option linter.unusedVariables false

end Go.AM
/- Plain law: where a search by a comparison ends; stores by it. -/
namespace Go.AM
set_option linter.unusedSimpArgs false
set_option linter.unusedVariables false

def posC {α : Type} (c : α → Int) (xs : List α) : Nat := (xs.takeWhile fun x => decide (c x < 0)).length
def atC {α : Type} (c : α → Int) (xs : List α) : Bool := (xs[posC c xs]?).any fun x => decide (c x = 0)
def MonoC {α : Type} (c : α → Int) (xs : List α) : Prop := ∀ (i j : Nat) (x y : α), i ≤ j → xs[i]? = some x → xs[j]? = some y → c y < 0 → c x < 0
theorem posC_cons {α : Type} (c : α → Int) (a : α) (xs : List α) : posC c (a :: xs) = if c a < 0 then posC c xs + 1 else 0 := by
  unfold posC
  rw [List.takeWhile_cons]
  by_cases h : c a < 0 <;> simp [h]
theorem atC_nil {α : Type} (c : α → Int) : atC c [] = false := rfl
theorem atC_cons {α : Type} (c : α → Int) (a : α) (xs : List α) : atC c (a :: xs) = if c a < 0 then atC c xs else decide (c a = 0) := by
  unfold atC
  rw [posC_cons]
  by_cases h : c a < 0 <;> simp [h]
theorem posC_le {α : Type} (c : α → Int) (xs : List α) : posC c xs ≤ xs.length := by
  induction xs with
  | nil => simp [posC]
  | cons a xs ih => rw [posC_cons]; split <;> simp <;> omega
theorem posC_lo {α : Type} (c : α → Int) (xs : List α) : ∀ (i : Nat) (x : α), i < posC c xs → xs[i]? = some x → c x < 0 := by
  induction xs with
  | nil => intro i x h; simp [posC] at h
  | cons a xs ih =>
    intro i x h hx
    rw [posC_cons] at h
    by_cases ha : c a < 0
    · rw [if_pos ha] at h
      cases i with
      | zero => simp at hx; subst hx; exact ha
      | succ i => exact ih i x (by omega) (by simpa using hx)
    · rw [if_neg ha] at h; omega
theorem posC_at {α : Type} (c : α → Int) (xs : List α) : ∀ x, xs[posC c xs]? = some x → 0 ≤ c x := by
  induction xs with
  | nil => intro x h; simp [posC] at h
  | cons a xs ih =>
    intro x hx
    rw [posC_cons] at hx
    by_cases ha : c a < 0
    · rw [if_pos ha] at hx
      exact ih x (by simpa using hx)
    · rw [if_neg ha] at hx
      simp at hx
      subst hx
      omega
theorem posC_hi {α : Type} {c : α → Int} {xs : List α} (hm : MonoC c xs) : ∀ (i : Nat) (x : α), posC c xs ≤ i → xs[i]? = some x → 0 ≤ c x := by
  intro i x hi hx
  apply Classical.byContradiction
  intro hc
  have hlt : posC c xs < xs.length := by
    have := (List.getElem?_eq_some_iff.1 hx).1
    omega
  have h1 : xs[posC c xs]? = some xs[posC c xs] := by simp
  have h2 := hm _ _ _ _ hi h1 hx (by omega)
  have h3 := posC_at c xs _ h1
  omega
theorem atC_true {α : Type} {c : α → Int} {xs : List α} (h : atC c xs = true) : posC c xs < xs.length ∧ ∃ x, xs[posC c xs]? = some x ∧ c x = 0 := by
  unfold atC at h
  cases hx : xs[posC c xs]? with
  | none => rw [hx] at h; cases h
  | some x =>
    rw [hx] at h
    exact ⟨(List.getElem?_eq_some_iff.1 hx).1, x, rfl, by simpa using h⟩

def keyC (k : Int) (i : Item) : Int := cmpI i.key k
theorem cmpI_lt (a b : Int) : cmpI a b < 0 ↔ a < b := by unfold cmpI; split <;> (try split) <;> omega
theorem cmpI_eq (a b : Int) : cmpI a b = 0 ↔ a = b := by unfold cmpI; split <;> (try split) <;> omega
theorem risingK_get : ∀ {is : List Item}, risingK is → ∀ (i j : Nat) (x y : Item), i < j → is[i]? = some x → is[j]? = some y → x.key < y.key := by
  intro is
  induction is with
  | nil => intro _ i j x y _ h; simp at h
  | cons a is ih =>
    intro h i j x y hij hx hy
    rw [rising_cons] at h
    cases j with
    | zero => omega
    | succ j =>
      simp at hy
      cases i with
      | zero =>
        simp at hx
        subst hx
        exact h.1 y (List.mem_of_getElem? hy)
      | succ i => exact ih h.2 i j x y (by omega) (by simpa using hx) hy
theorem mono_key {is : List Item} (h : risingK is) (k : Int) : MonoC (keyC k) is := by
  intro i j x y hij hx hy hc
  unfold keyC at hc ⊢
  rw [cmpI_lt] at hc ⊢
  by_cases e : i = j
  · subst e
    rw [hx] at hy
    cases hy
    exact hc
  · have := risingK_get h i j x y (by omega) hx hy
    omega
theorem getS_at : ∀ {is : List Item}, risingK is → ∀ k, getS is k = if atC (keyC k) is then is[posC (keyC k) is]? else none := by
  intro is
  induction is with
  | nil => intro _ k; simp [getS, atC_nil]
  | cons a is ih =>
    intro h k
    rw [rising_cons] at h
    rw [getS_cons, posC_cons, atC_cons]
    simp only [keyC, cmpI_lt, cmpI_eq]
    by_cases h1 : a.key < k
    · rw [if_neg (by omega), if_pos h1, if_pos h1, ih h.2 k]
      simp [keyC]
    · by_cases h2 : a.key = k
      · simp [h1, h2]
      · simp [h1, h2]
        exact getS_above h.1 (by omega)
def getR (is : List Item) (k : Int) : Item × Bool := if storeMay is then (match getS is k with | some i => (i, true) | none => (zeroItem, false)) else (zeroItem, false)
end Go.AM
/- AM: contracts: binary search by a comparison. -/
namespace Go.AM
set_option linter.unusedSimpArgs false
set_option linter.unusedVariables false
set_option maxRecDepth 8000
set_option maxHeartbeats 0
theorem bsearch_Item (xs : List Item) (g : Nat) (key : Int) (c : Item → Int) (hc : ∀ x ∈ xs, Den PP g [.agg x.row, .int .i64 key] [] (.int .i64 (c x)) []) (hl : xs.length ≤ cap) (hr : MonoC c xs) :
    Den PP 80 [.sl (xs.map Item.row) xs.length, .int .i64 key, .fn g [] []] [] (.tup [.int .i64 (posC c xs), .bool (atC c xs)]) [] := by
  have hlo := posC_lo c xs
  have hhi := posC_hi hr
  have hat := posC_le c xs
  have hac : atC c xs = (xs[posC c xs]?).any fun x => decide (c x = 0) := rfl
  rw [hac]
  clear hac
  generalize posC c xs = at_ at *
  refine den_of [] [] is_slices_BinarySearchFunc_api_Item_api_Item_int ?_
  simp -implicitDefEqProofs [c_slices_BinarySearchFunc_api_Item_api_Item_int]
  refine loop_rule xs.length (fun m ⟨fr, bs⟩ => ∃ lo hi : Nat, bs = [] ∧ hi - lo ≤ m ∧ lo ≤ at_ ∧ at_ ≤ hi ∧ hi ≤ xs.length ∧ fr 0 = .sl (xs.map Item.row) xs.length ∧ fr 1 = .int .i64 key ∧ fr 2 = .fn g [] [] ∧ fr 8 = .int .i64 xs.length ∧ fr 9 = .int .i64 lo ∧ fr 10 = .int .i64 hi)
    (fun ⟨fr, bs⟩ => bs = [] ∧ fr 0 = .sl (xs.map Item.row) xs.length ∧ fr 1 = .int .i64 key ∧ fr 2 = .fn g [] [] ∧ fr 8 = .int .i64 xs.length ∧ fr 9 = .int .i64 at_) (fun _ => False) c_slices_BinarySearchFunc_api_Item_api_Item_int_L0.eq_1 ?_ ?_ ?_ ?_ ?_
  · exact ⟨0, xs.length, rfl, by omega, by omega, hat, by omega, rfl, rfl, rfl, rfl, rfl, rfl⟩
  · rintro ⟨fr, bs⟩ ⟨lo, hi, rfl, h1, h2, h3, h4, h0, h5, h9, h6, h7, h8⟩
    have e1 : lo = at_ := by omega
    have e2 : hi = at_ := by omega
    simp -implicitDefEqProofs [h0, h5, h9, h6, h7, h8, e1, e2]
  · rintro m ⟨fr, bs⟩ ⟨lo, hi, rfl, h1, h2, h3, h4, h0, h5, h9, h6, h7, h8⟩
    by_cases hlt : lo < hi
    · have hlt' : (lo : Int) < hi := by omega
      have hm := mid_eq (lo := lo) (hi := hi) (by omega) (by omega)
      have hml : (lo + hi) / 2 < xs.length := by omega
      have hml' : (((lo + hi) / 2 : Nat) : Int) < xs.length := by omega
      have hw := wrap_next (n := (lo + hi) / 2) (by unfold cap at hl; omega)
      have hb1 : lo ≤ (lo + hi) / 2 := by omega
      have hb2 : (lo + hi) / 2 < hi := by omega
      generalize (lo + hi) / 2 = mid at *
      obtain ⟨x, hx⟩ : ∃ x, xs[mid] = x := ⟨_, rfl⟩
      have hx' : xs[mid]? = some x := by simp [hml, hx]
      have hcx := hc x (List.mem_of_getElem? hx')
      simp only [Item.row] at hcx
      simp -implicitDefEqProofs [h0, h5, h9, h6, h7, h8, hlt', hlt, hm, hml, hml', hx, Item.row]
      refine callThen_of hcx ?_
      simp -implicitDefEqProofs
      refine condC_dec (fun hc => ?_) (fun hc => ?_)
      all_goals simp -implicitDefEqProofs [h0, h5, h9, h6, h7, h8, hc, hw]
      · have : mid < at_ := by
          apply Classical.byContradiction
          intro hx2
          have := hhi mid x (by omega) hx'
          omega
        exact ⟨mid + 1, hi, by omega, by omega, by omega, by omega, by simp, by simp⟩
      · have : at_ ≤ mid := by
          apply Classical.byContradiction
          intro hx2
          have := hlo mid x (by omega) hx'
          omega
        exact ⟨lo, mid, by omega, by omega, by omega, by omega, by simp, by simp⟩
    · have e1 : lo = at_ := by omega
      have e2 : hi = at_ := by omega
      simp -implicitDefEqProofs [h0, h5, h9, h6, h7, h8, e1, e2]
  · rintro ⟨fr, bs⟩ ⟨rfl, h0, h1, h2, h6, h7⟩
    simp -implicitDefEqProofs [h0, h1, h2, h6, h7]
    refine gOps_dec (fun hc2 => ?_) (fun hc2 => ?_)
    · obtain ⟨x, hx⟩ : ∃ x, xs[at_]'(by omega) = x := ⟨_, rfl⟩
      have hal : at_ < xs.length := by omega
      have hx' : xs[at_]? = some x := by simp [hx, hal]
      have hcx := hc x (List.mem_of_getElem? hx')
      simp only [Item.row] at hcx
      simp -implicitDefEqProofs [h0, h1, h2, h6, h7, hc2, hx, hal, Item.row]
      refine callThen_of hcx ?_
      simp -implicitDefEqProofs [h0, h1, h2, h6, h7, hc2, hx, hal, hx', Item.row]
    · have hp : xs[at_]? = none := by rw [List.getElem?_eq_none]; omega
      simp -implicitDefEqProofs [h0, h1, h2, h6, h7, hc2, hp]
  · rintro ⟨fr, bs⟩ h
    exact h.elim
end Go.AM
/- AM: contracts: binary search, places put and taken out. -/
namespace Go.AM
set_option linter.unusedSimpArgs false
set_option linter.unusedVariables false
set_option maxRecDepth 8000
set_option maxHeartbeats 0
end Go.AM
/- AM: contracts: the document's answers about views, more. -/
namespace Go.AM
set_option linter.unusedSimpArgs false
set_option linter.unusedVariables false
set_option maxRecDepth 8000
set_option maxHeartbeats 0
end Go.AM
/- AM: contracts: items, stores, nodes. -/
namespace Go.AM
set_option linter.unusedSimpArgs false
set_option linter.unusedVariables false
set_option maxRecDepth 8000
set_option maxHeartbeats 0
theorem version_May (c w : Int) : Den PP 93 [.agg [.int .i64 c, .int .i64 w]] [] (.bool (verMay c w)) [] := by
  refine den_of [] [] is_version_May ?_
  simp -implicitDefEqProofs [c_version_May]
  repeat' (first | (refine callThen_of (by first | exact ring_Place _) ?_; simp -implicitDefEqProofs [*, verMay]) | (with_reducible refine gOps_dec (fun _ => ?_) (fun _ => ?_) <;> simp -implicitDefEqProofs [*, verMay]) | (with_reducible refine gOps_ndec (fun _ => ?_) (fun _ => ?_) <;> simp -implicitDefEqProofs [*, verMay]) | (with_reducible refine gOps_and (fun hq => ?_) (fun hq => ?_) <;> (try simp at hq) <;> simp -implicitDefEqProofs [*, verMay]) | (with_reducible refine gOps_or (fun hq => ?_) (fun hq => ?_) <;> (try simp at hq) <;> simp -implicitDefEqProofs [*, verMay]) | (with_reducible refine gOps_not (fun hq => ?_) (fun hq => ?_) <;> (try simp at hq) <;> simp -implicitDefEqProofs [*, verMay]) | (with_reducible refine gOps_split (fun hq => ?_) (fun hq => ?_) <;> (try simp at hq) <;> simp -implicitDefEqProofs [*, verMay]) | (with_reducible refine condC_dec (fun _ => ?_) (fun _ => ?_) <;> simp -implicitDefEqProofs [*, verMay]) | (with_reducible refine condC_ndec (fun _ => ?_) (fun _ => ?_) <;> simp -implicitDefEqProofs [*, verMay]) | (with_reducible refine condC_and (fun hq => ?_) (fun hq => ?_) <;> (try simp at hq) <;> simp -implicitDefEqProofs [*, verMay]) | (with_reducible refine condC_or (fun hq => ?_) (fun hq => ?_) <;> (try simp at hq) <;> simp -implicitDefEqProofs [*, verMay]) | (with_reducible refine condC_not (fun hq => ?_) (fun hq => ?_) <;> (try simp at hq) <;> simp -implicitDefEqProofs [*, verMay]) | (with_reducible refine condC_split (fun hq => ?_) (fun hq => ?_) <;> (try simp at hq) <;> simp -implicitDefEqProofs [*, verMay]) | (refine appK2_if (by omega) ?_; simp -implicitDefEqProofs [*, verMay]) | (refine pureV_if (by omega) ?_; simp -implicitDefEqProofs [*, verMay]))
theorem item_Byte (x : Int) : Den PP 92 [.int .i64 x] [] (.bool (byte x)) [] := by
  refine den_of [] [] is_item_Byte ?_
  simp -implicitDefEqProofs [c_item_Byte]
  repeat' (first | (with_reducible refine gOps_dec (fun _ => ?_) (fun _ => ?_) <;> simp -implicitDefEqProofs [*, byte]) | (with_reducible refine gOps_ndec (fun _ => ?_) (fun _ => ?_) <;> simp -implicitDefEqProofs [*, byte]) | (with_reducible refine gOps_and (fun hq => ?_) (fun hq => ?_) <;> (try simp at hq) <;> simp -implicitDefEqProofs [*, byte]) | (with_reducible refine gOps_or (fun hq => ?_) (fun hq => ?_) <;> (try simp at hq) <;> simp -implicitDefEqProofs [*, byte]) | (with_reducible refine gOps_not (fun hq => ?_) (fun hq => ?_) <;> (try simp at hq) <;> simp -implicitDefEqProofs [*, byte]) | (with_reducible refine gOps_split (fun hq => ?_) (fun hq => ?_) <;> (try simp at hq) <;> simp -implicitDefEqProofs [*, byte]) | (with_reducible refine condC_dec (fun _ => ?_) (fun _ => ?_) <;> simp -implicitDefEqProofs [*, byte]) | (with_reducible refine condC_ndec (fun _ => ?_) (fun _ => ?_) <;> simp -implicitDefEqProofs [*, byte]) | (with_reducible refine condC_and (fun hq => ?_) (fun hq => ?_) <;> (try simp at hq) <;> simp -implicitDefEqProofs [*, byte]) | (with_reducible refine condC_or (fun hq => ?_) (fun hq => ?_) <;> (try simp at hq) <;> simp -implicitDefEqProofs [*, byte]) | (with_reducible refine condC_not (fun hq => ?_) (fun hq => ?_) <;> (try simp at hq) <;> simp -implicitDefEqProofs [*, byte]) | (with_reducible refine condC_split (fun hq => ?_) (fun hq => ?_) <;> (try simp at hq) <;> simp -implicitDefEqProofs [*, byte]) | (refine appK2_if (by omega) ?_; simp -implicitDefEqProofs [*, byte]) | (refine pureV_if (by omega) ?_; simp -implicitDefEqProofs [*, byte]))
theorem item_May (i : Item) : Den PP 70 [.agg i.row] [] (.bool (itemMay i)) [] := by
  refine den_of [] [] is_item_May ?_
  simp -implicitDefEqProofs [c_item_May, Item.row]
  repeat' (first | (refine callThen_of (by first | exact item_Byte _ | exact version_May _ _) ?_; simp -implicitDefEqProofs [*, itemMay]) | (with_reducible refine gOps_dec (fun _ => ?_) (fun _ => ?_) <;> simp -implicitDefEqProofs [*, itemMay]) | (with_reducible refine gOps_ndec (fun _ => ?_) (fun _ => ?_) <;> simp -implicitDefEqProofs [*, itemMay]) | (with_reducible refine gOps_and (fun hq => ?_) (fun hq => ?_) <;> (try simp at hq) <;> simp -implicitDefEqProofs [*, itemMay]) | (with_reducible refine gOps_or (fun hq => ?_) (fun hq => ?_) <;> (try simp at hq) <;> simp -implicitDefEqProofs [*, itemMay]) | (with_reducible refine gOps_not (fun hq => ?_) (fun hq => ?_) <;> (try simp at hq) <;> simp -implicitDefEqProofs [*, itemMay]) | (with_reducible refine gOps_split (fun hq => ?_) (fun hq => ?_) <;> (try simp at hq) <;> simp -implicitDefEqProofs [*, itemMay]) | (with_reducible refine condC_dec (fun _ => ?_) (fun _ => ?_) <;> simp -implicitDefEqProofs [*, itemMay]) | (with_reducible refine condC_ndec (fun _ => ?_) (fun _ => ?_) <;> simp -implicitDefEqProofs [*, itemMay]) | (with_reducible refine condC_and (fun hq => ?_) (fun hq => ?_) <;> (try simp at hq) <;> simp -implicitDefEqProofs [*, itemMay]) | (with_reducible refine condC_or (fun hq => ?_) (fun hq => ?_) <;> (try simp at hq) <;> simp -implicitDefEqProofs [*, itemMay]) | (with_reducible refine condC_not (fun hq => ?_) (fun hq => ?_) <;> (try simp at hq) <;> simp -implicitDefEqProofs [*, itemMay]) | (with_reducible refine condC_split (fun hq => ?_) (fun hq => ?_) <;> (try simp at hq) <;> simp -implicitDefEqProofs [*, itemMay]) | (refine appK2_if (by omega) ?_; simp -implicitDefEqProofs [*, itemMay]) | (refine pureV_if (by omega) ?_; simp -implicitDefEqProofs [*, itemMay]))
theorem item_May_raw (k c w v : Int) (g : Bool) : Den PP 70 [.agg [.int .i64 k, .int .i64 c, .int .i64 w, .int .i64 v, .bool g]] [] (.bool (itemMay ⟨k, c, w, v, g⟩)) [] := item_May ⟨k, c, w, v, g⟩
def prevKey (is : List Item) (i : Nat) : Option Int := if i = 0 then none else (is[i - 1]?).map Item.key
theorem store_May (is : List Item) (hl : is.length ≤ cap16) : Den PP 79 [itemsD is] [] (.bool (storeMay is)) [] := by
  obtain ⟨A, hA⟩ : ∃ A, itemsOk none is = A := ⟨_, rfl⟩
  unfold cap16 at hl
  refine den_of [] [] is_store_May ?_
  simp -implicitDefEqProofs [c_store_May, itemsD]
  refine list_rule is (fun i rest => fun ⟨fr, bs⟩ => bs = [] ∧ fr 0 = itemsD is ∧ fr 5 = itemsD is ∧ fr 6 = .int .i64 is.length ∧ fr 7 = .int .i64 i ∧ itemsOk (prevKey is i) rest = A)
    (fun ⟨fr, bs⟩ => bs = [] ∧ fr 0 = itemsD is ∧ A = true) (fun ⟨fr, bs⟩ => fr 2 = .bool false ∧ A = false) c_store_May_L0.eq_1 ?_ ?_ ?_ ?_ ?_
  · exact ⟨rfl, rfl, rfl, rfl, rfl, hA⟩
  · rintro i ⟨fr, bs⟩ hi ⟨rfl, h0, h5, h6, h7, he⟩
    simp -implicitDefEqProofs [h0, h5, h6, h7, hi]
    simpa [itemsOk] using he.symm
  · rintro i a rest ⟨fr, bs⟩ hlt hget hg hd hd2 ⟨rfl, h0, h5, h6, h7, he⟩
    have hlt' : (i : Int) < is.length := by omega
    have hw := wrap_next (n := i) (by omega)
    have c1 := item_May a
    simp [Item.row] at c1
    simp only [itemsOk] at he
    have hp : prevKey is (i + 1) = some a.key := by simp [prevKey, hget]
    cases i with
    | zero =>
      simp [prevKey] at he
      simp -implicitDefEqProofs [h0, h5, h6, h7, hlt, hlt', hget, hg, itemsD, Item.row]
      repeat' (first | (refine callThen_of (by first | exact c1) ?_; simp -implicitDefEqProofs [*, itemsD, Item.row, hw]) | (with_reducible refine gOps_dec (fun _ => ?_) (fun _ => ?_) <;> simp -implicitDefEqProofs [*, itemsD, Item.row, hw]) | (with_reducible refine gOps_ndec (fun _ => ?_) (fun _ => ?_) <;> simp -implicitDefEqProofs [*, itemsD, Item.row, hw]) | (with_reducible refine gOps_and (fun hq => ?_) (fun hq => ?_) <;> (try simp at hq) <;> simp -implicitDefEqProofs [*, itemsD, Item.row, hw]) | (with_reducible refine gOps_or (fun hq => ?_) (fun hq => ?_) <;> (try simp at hq) <;> simp -implicitDefEqProofs [*, itemsD, Item.row, hw]) | (with_reducible refine gOps_not (fun hq => ?_) (fun hq => ?_) <;> (try simp at hq) <;> simp -implicitDefEqProofs [*, itemsD, Item.row, hw]) | (with_reducible refine gOps_split (fun hq => ?_) (fun hq => ?_) <;> (try simp at hq) <;> simp -implicitDefEqProofs [*, itemsD, Item.row, hw]) | (with_reducible refine condC_dec (fun _ => ?_) (fun _ => ?_) <;> simp -implicitDefEqProofs [*, itemsD, Item.row, hw]) | (with_reducible refine condC_ndec (fun _ => ?_) (fun _ => ?_) <;> simp -implicitDefEqProofs [*, itemsD, Item.row, hw]) | (with_reducible refine condC_and (fun hq => ?_) (fun hq => ?_) <;> (try simp at hq) <;> simp -implicitDefEqProofs [*, itemsD, Item.row, hw]) | (with_reducible refine condC_or (fun hq => ?_) (fun hq => ?_) <;> (try simp at hq) <;> simp -implicitDefEqProofs [*, itemsD, Item.row, hw]) | (with_reducible refine condC_not (fun hq => ?_) (fun hq => ?_) <;> (try simp at hq) <;> simp -implicitDefEqProofs [*, itemsD, Item.row, hw]) | (with_reducible refine condC_split (fun hq => ?_) (fun hq => ?_) <;> (try simp at hq) <;> simp -implicitDefEqProofs [*, itemsD, Item.row, hw]) | (refine appK2_if (by omega) ?_; simp -implicitDefEqProofs [*, itemsD, Item.row, hw]) | (refine pureV_if (by omega) ?_; simp -implicitDefEqProofs [*, itemsD, Item.row, hw]))
      all_goals grind
    | succ j =>
      have hj : j < is.length := by omega
      have hj' : (j : Int) < is.length := by omega
      have hjw : IntKind.wrap .i64 (j : Int) = j := wrap_in (by omega) (by omega)
      obtain ⟨b, hb⟩ : ∃ b, is[j] = b := ⟨_, rfl⟩
      have hpj : prevKey is (j + 1) = some b.key := by simp [prevKey, hj, hb]
      rw [hpj] at he
      simp -implicitDefEqProofs [h0, h5, h6, h7, hlt, hlt', hget, hg, itemsD, Item.row]
      repeat' (first | (refine callThen_of (by first | exact c1) ?_; simp -implicitDefEqProofs [*, itemsD, Item.row, hw, hb]) | (with_reducible refine gOps_dec (fun _ => ?_) (fun _ => ?_) <;> simp -implicitDefEqProofs [*, itemsD, Item.row, hw, hb]) | (with_reducible refine gOps_ndec (fun _ => ?_) (fun _ => ?_) <;> simp -implicitDefEqProofs [*, itemsD, Item.row, hw, hb]) | (with_reducible refine gOps_and (fun hq => ?_) (fun hq => ?_) <;> (try simp at hq) <;> simp -implicitDefEqProofs [*, itemsD, Item.row, hw, hb]) | (with_reducible refine gOps_or (fun hq => ?_) (fun hq => ?_) <;> (try simp at hq) <;> simp -implicitDefEqProofs [*, itemsD, Item.row, hw, hb]) | (with_reducible refine gOps_not (fun hq => ?_) (fun hq => ?_) <;> (try simp at hq) <;> simp -implicitDefEqProofs [*, itemsD, Item.row, hw, hb]) | (with_reducible refine gOps_split (fun hq => ?_) (fun hq => ?_) <;> (try simp at hq) <;> simp -implicitDefEqProofs [*, itemsD, Item.row, hw, hb]) | (with_reducible refine condC_dec (fun _ => ?_) (fun _ => ?_) <;> simp -implicitDefEqProofs [*, itemsD, Item.row, hw, hb]) | (with_reducible refine condC_ndec (fun _ => ?_) (fun _ => ?_) <;> simp -implicitDefEqProofs [*, itemsD, Item.row, hw, hb]) | (with_reducible refine condC_and (fun hq => ?_) (fun hq => ?_) <;> (try simp at hq) <;> simp -implicitDefEqProofs [*, itemsD, Item.row, hw, hb]) | (with_reducible refine condC_or (fun hq => ?_) (fun hq => ?_) <;> (try simp at hq) <;> simp -implicitDefEqProofs [*, itemsD, Item.row, hw, hb]) | (with_reducible refine condC_not (fun hq => ?_) (fun hq => ?_) <;> (try simp at hq) <;> simp -implicitDefEqProofs [*, itemsD, Item.row, hw, hb]) | (with_reducible refine condC_split (fun hq => ?_) (fun hq => ?_) <;> (try simp at hq) <;> simp -implicitDefEqProofs [*, itemsD, Item.row, hw, hb]) | (refine appK2_if (by omega) ?_; simp -implicitDefEqProofs [*, itemsD, Item.row, hw, hb]) | (refine pureV_if (by omega) ?_; simp -implicitDefEqProofs [*, itemsD, Item.row, hw, hb]))
      all_goals grind
  · rintro ⟨fr, bs⟩ ⟨rfl, h0, h1⟩
    simp -implicitDefEqProofs [h0, itemsD, storeMay, hA, h1]
    omega
  · rintro ⟨fr, bs⟩ h
    simp -implicitDefEqProofs [h.1, h.2, storeMay, hA]
theorem node_odd (t : Told) : Den PP 99 [.agg t.row] [] (.bool (toldOdd t)) [] := by
  refine den_of [] [] is_node_odd ?_
  simp -implicitDefEqProofs [c_node_odd, Told.row]
  repeat' (first | (refine callThen_of (by first | exact item_Byte _) ?_; simp -implicitDefEqProofs [*, toldOdd]) | (with_reducible refine gOps_dec (fun _ => ?_) (fun _ => ?_) <;> simp -implicitDefEqProofs [*, toldOdd]) | (with_reducible refine gOps_ndec (fun _ => ?_) (fun _ => ?_) <;> simp -implicitDefEqProofs [*, toldOdd]) | (with_reducible refine gOps_and (fun hq => ?_) (fun hq => ?_) <;> (try simp at hq) <;> simp -implicitDefEqProofs [*, toldOdd]) | (with_reducible refine gOps_or (fun hq => ?_) (fun hq => ?_) <;> (try simp at hq) <;> simp -implicitDefEqProofs [*, toldOdd]) | (with_reducible refine gOps_not (fun hq => ?_) (fun hq => ?_) <;> (try simp at hq) <;> simp -implicitDefEqProofs [*, toldOdd]) | (with_reducible refine gOps_split (fun hq => ?_) (fun hq => ?_) <;> (try simp at hq) <;> simp -implicitDefEqProofs [*, toldOdd]) | (with_reducible refine condC_dec (fun _ => ?_) (fun _ => ?_) <;> simp -implicitDefEqProofs [*, toldOdd]) | (with_reducible refine condC_ndec (fun _ => ?_) (fun _ => ?_) <;> simp -implicitDefEqProofs [*, toldOdd]) | (with_reducible refine condC_and (fun hq => ?_) (fun hq => ?_) <;> (try simp at hq) <;> simp -implicitDefEqProofs [*, toldOdd]) | (with_reducible refine condC_or (fun hq => ?_) (fun hq => ?_) <;> (try simp at hq) <;> simp -implicitDefEqProofs [*, toldOdd]) | (with_reducible refine condC_not (fun hq => ?_) (fun hq => ?_) <;> (try simp at hq) <;> simp -implicitDefEqProofs [*, toldOdd]) | (with_reducible refine condC_split (fun hq => ?_) (fun hq => ?_) <;> (try simp at hq) <;> simp -implicitDefEqProofs [*, toldOdd]) | (refine appK2_if (by omega) ?_; simp -implicitDefEqProofs [*, toldOdd]) | (refine pureV_if (by omega) ?_; simp -implicitDefEqProofs [*, toldOdd]))
end Go.AM
/- AM: contracts: nodes, sharing. -/
namespace Go.AM
set_option linter.unusedSimpArgs false
set_option linter.unusedVariables false
set_option maxRecDepth 8000
set_option maxHeartbeats 0
theorem slices_IndexFunc_Told (xs : List Told) (hl : xs.length ≤ cap) : Den PP 116 [toldsD xs, .fn 99 [] []] [] (.int .i64 (gIdx toldOdd 0 xs)) [] := by
  obtain ⟨A, hA⟩ : ∃ A, gIdx toldOdd 0 xs = A := ⟨_, rfl⟩
  unfold cap at hl
  refine den_of [] [] is_slices_IndexFunc_api_Told_api_Told ?_
  simp -implicitDefEqProofs [c_slices_IndexFunc_api_Told_api_Told, toldsD, hA]
  refine list_rule xs (fun i rest => fun ⟨fr, bs⟩ => bs = [] ∧ fr 0 = toldsD xs ∧ fr 1 = .fn 99 [] [] ∧ fr 7 = .int .i64 xs.length ∧ fr 8 = .int .i64 i ∧ gIdx toldOdd i rest = A)
    (fun ⟨fr, bs⟩ => bs = [] ∧ A = -1) (fun ⟨fr, bs⟩ => fr 4 = .int .i64 A) c_slices_IndexFunc_api_Told_api_Told_L0.eq_1 ?_ ?_ ?_ ?_ ?_
  · exact ⟨rfl, rfl, rfl, rfl, rfl, hA⟩
  · rintro i ⟨fr, bs⟩ hi ⟨rfl, h0, h1, h7, h8, he⟩
    simp -implicitDefEqProofs [h0, h1, h7, h8, hi]
    simpa [gIdx] using he.symm
  · rintro i a rest ⟨fr, bs⟩ hlt hget hg hd hd2 ⟨rfl, h0, h1, h7, h8, he⟩
    have hlt' : (i : Int) < xs.length := by omega
    have hw := wrap_next (n := i) (by omega)
    have c1 := node_odd a
    simp [Told.row] at c1
    simp only [gIdx] at he
    simp -implicitDefEqProofs [h0, h1, h7, h8, hlt, hlt', hget, hg, toldsD, Told.row]
    repeat' (first | (refine callThen_of (by first | exact c1) ?_; simp -implicitDefEqProofs [*, toldsD, Told.row, hw]) | (with_reducible refine gOps_dec (fun _ => ?_) (fun _ => ?_) <;> simp -implicitDefEqProofs [*, toldsD, Told.row, hw]) | (with_reducible refine gOps_ndec (fun _ => ?_) (fun _ => ?_) <;> simp -implicitDefEqProofs [*, toldsD, Told.row, hw]) | (with_reducible refine gOps_and (fun hq => ?_) (fun hq => ?_) <;> (try simp at hq) <;> simp -implicitDefEqProofs [*, toldsD, Told.row, hw]) | (with_reducible refine gOps_or (fun hq => ?_) (fun hq => ?_) <;> (try simp at hq) <;> simp -implicitDefEqProofs [*, toldsD, Told.row, hw]) | (with_reducible refine gOps_not (fun hq => ?_) (fun hq => ?_) <;> (try simp at hq) <;> simp -implicitDefEqProofs [*, toldsD, Told.row, hw]) | (with_reducible refine gOps_split (fun hq => ?_) (fun hq => ?_) <;> (try simp at hq) <;> simp -implicitDefEqProofs [*, toldsD, Told.row, hw]) | (with_reducible refine condC_dec (fun _ => ?_) (fun _ => ?_) <;> simp -implicitDefEqProofs [*, toldsD, Told.row, hw]) | (with_reducible refine condC_ndec (fun _ => ?_) (fun _ => ?_) <;> simp -implicitDefEqProofs [*, toldsD, Told.row, hw]) | (with_reducible refine condC_and (fun hq => ?_) (fun hq => ?_) <;> (try simp at hq) <;> simp -implicitDefEqProofs [*, toldsD, Told.row, hw]) | (with_reducible refine condC_or (fun hq => ?_) (fun hq => ?_) <;> (try simp at hq) <;> simp -implicitDefEqProofs [*, toldsD, Told.row, hw]) | (with_reducible refine condC_not (fun hq => ?_) (fun hq => ?_) <;> (try simp at hq) <;> simp -implicitDefEqProofs [*, toldsD, Told.row, hw]) | (with_reducible refine condC_split (fun hq => ?_) (fun hq => ?_) <;> (try simp at hq) <;> simp -implicitDefEqProofs [*, toldsD, Told.row, hw]) | (refine appK2_if (by omega) ?_; simp -implicitDefEqProofs [*, toldsD, Told.row, hw]) | (refine pureV_if (by omega) ?_; simp -implicitDefEqProofs [*, toldsD, Told.row, hw]))
    all_goals grind
  · rintro ⟨fr, bs⟩ ⟨rfl, h1⟩
    simp -implicitDefEqProofs [h1]
  · rintro ⟨fr, bs⟩ h
    simp -implicitDefEqProofs [h]
theorem slices_ContainsFunc_Told (xs : List Told) (hl : xs.length ≤ cap) : Den PP 98 [toldsD xs, .fn 99 [] []] [] (.bool (xs.any toldOdd)) [] := by
  have c1 := slices_IndexFunc_Told xs hl
  have h1 := gIdx_any toldOdd xs 0
  obtain ⟨A, hA⟩ : ∃ A, xs.any toldOdd = A := ⟨_, rfl⟩
  rw [hA] at h1
  simp [toldsD] at c1
  refine den_of [] [] is_slices_ContainsFunc_api_Told_api_Told ?_
  simp -implicitDefEqProofs [c_slices_ContainsFunc_api_Told_api_Told, toldsD]
  refine callThen_of c1 ?_
  simp -implicitDefEqProofs [h1, hA]
theorem node_May (x : Node) (hs : x.small) : Den PP 75 [nodeD x] [] (.bool (nodeMay x)) [] := by
  obtain ⟨h1, h2, h3⟩ := hs
  have c1 := view_May x.view h1
  have c2 := store_May x.items (by unfold cap16; omega)
  have c3 := slices_ContainsFunc_Told x.log (by unfold cap; omega)
  obtain ⟨A, hA⟩ : ∃ A, x.log.any toldOdd = A := ⟨_, rfl⟩
  rw [hA] at c3
  simp [viewD, View.cells, peersD, intsD, itemsD, toldsD] at c1 c2 c3
  obtain ⟨hp, hq⟩ := h1
  unfold cap16 at hp
  unfold cap at hq
  have w1 : IntKind.wrap .i64 ((x.view.peers.length : Int) + x.view.passive.length) = x.view.peers.length + x.view.passive.length := wrap_in (by omega) (by omega)
  have w2 : IntKind.wrap .i64 ((x.view.peers.length : Int) + x.view.passive.length + x.items.length) = x.view.peers.length + x.view.passive.length + x.items.length := wrap_in (by omega) (by omega)
  have w3 : IntKind.wrap .i64 ((x.view.peers.length : Int) + x.view.passive.length + x.items.length + x.log.length) = x.view.peers.length + x.view.passive.length + x.items.length + x.log.length := wrap_in (by omega) (by omega)
  refine den_of [] [] is_node_May ?_
  simp -implicitDefEqProofs [c_node_May, nodeD, Node.cells, peersD, intsD, itemsD, toldsD]
  repeat' (first | (refine callThen_of (by first | exact c1 | exact c2 | exact c3) ?_; simp -implicitDefEqProofs [*, w1, w2, w3]) | (with_reducible refine gOps_dec (fun _ => ?_) (fun _ => ?_) <;> simp -implicitDefEqProofs [*, w1, w2, w3]) | (with_reducible refine gOps_ndec (fun _ => ?_) (fun _ => ?_) <;> simp -implicitDefEqProofs [*, w1, w2, w3]) | (with_reducible refine gOps_and (fun hq => ?_) (fun hq => ?_) <;> (try simp at hq) <;> simp -implicitDefEqProofs [*, w1, w2, w3]) | (with_reducible refine gOps_or (fun hq => ?_) (fun hq => ?_) <;> (try simp at hq) <;> simp -implicitDefEqProofs [*, w1, w2, w3]) | (with_reducible refine gOps_not (fun hq => ?_) (fun hq => ?_) <;> (try simp at hq) <;> simp -implicitDefEqProofs [*, w1, w2, w3]) | (with_reducible refine gOps_split (fun hq => ?_) (fun hq => ?_) <;> (try simp at hq) <;> simp -implicitDefEqProofs [*, w1, w2, w3]) | (with_reducible refine condC_dec (fun _ => ?_) (fun _ => ?_) <;> simp -implicitDefEqProofs [*, w1, w2, w3]) | (with_reducible refine condC_ndec (fun _ => ?_) (fun _ => ?_) <;> simp -implicitDefEqProofs [*, w1, w2, w3]) | (with_reducible refine condC_and (fun hq => ?_) (fun hq => ?_) <;> (try simp at hq) <;> simp -implicitDefEqProofs [*, w1, w2, w3]) | (with_reducible refine condC_or (fun hq => ?_) (fun hq => ?_) <;> (try simp at hq) <;> simp -implicitDefEqProofs [*, w1, w2, w3]) | (with_reducible refine condC_not (fun hq => ?_) (fun hq => ?_) <;> (try simp at hq) <;> simp -implicitDefEqProofs [*, w1, w2, w3]) | (with_reducible refine condC_split (fun hq => ?_) (fun hq => ?_) <;> (try simp at hq) <;> simp -implicitDefEqProofs [*, w1, w2, w3]) | (refine appK2_if (by omega) ?_; simp -implicitDefEqProofs [*, w1, w2, w3]) | (refine pureV_if (by omega) ?_; simp -implicitDefEqProofs [*, w1, w2, w3]))
  all_goals simp only [nodeMay, emptyN, hA]
  all_goals grind
theorem node_Up (x : Node) (hs : x.small) : Den PP 46 [nodeD x] [] (.bool (nodeUp x)) [] := by
  have c1 := node_May x hs
  simp only [nodeD, Node.cells, peersD, intsD, itemsD, toldsD] at c1
  refine den_of [] [] is_node_Up ?_
  cases hu : x.up
  all_goals
    rw [hu] at c1
    simp -implicitDefEqProofs [c_node_Up, nodeD, Node.cells, peersD, intsD, itemsD, toldsD, hu]
    repeat' (first | (refine callThen_of (by first | exact c1) ?_; simp -implicitDefEqProofs [*]) | (with_reducible refine gOps_dec (fun _ => ?_) (fun _ => ?_) <;> simp -implicitDefEqProofs [*]) | (with_reducible refine gOps_ndec (fun _ => ?_) (fun _ => ?_) <;> simp -implicitDefEqProofs [*]) | (with_reducible refine gOps_and (fun hq => ?_) (fun hq => ?_) <;> (try simp at hq) <;> simp -implicitDefEqProofs [*]) | (with_reducible refine gOps_or (fun hq => ?_) (fun hq => ?_) <;> (try simp at hq) <;> simp -implicitDefEqProofs [*]) | (with_reducible refine gOps_not (fun hq => ?_) (fun hq => ?_) <;> (try simp at hq) <;> simp -implicitDefEqProofs [*]) | (with_reducible refine gOps_split (fun hq => ?_) (fun hq => ?_) <;> (try simp at hq) <;> simp -implicitDefEqProofs [*]) | (with_reducible refine condC_dec (fun _ => ?_) (fun _ => ?_) <;> simp -implicitDefEqProofs [*]) | (with_reducible refine condC_ndec (fun _ => ?_) (fun _ => ?_) <;> simp -implicitDefEqProofs [*]) | (with_reducible refine condC_and (fun hq => ?_) (fun hq => ?_) <;> (try simp at hq) <;> simp -implicitDefEqProofs [*]) | (with_reducible refine condC_or (fun hq => ?_) (fun hq => ?_) <;> (try simp at hq) <;> simp -implicitDefEqProofs [*]) | (with_reducible refine condC_not (fun hq => ?_) (fun hq => ?_) <;> (try simp at hq) <;> simp -implicitDefEqProofs [*]) | (with_reducible refine condC_split (fun hq => ?_) (fun hq => ?_) <;> (try simp at hq) <;> simp -implicitDefEqProofs [*]) | (refine appK2_if (by omega) ?_; simp -implicitDefEqProofs [*]) | (refine pureV_if (by omega) ?_; simp -implicitDefEqProofs [*]))
    all_goals simp [nodeUp, hu]
end Go.AM
/- AM: contracts: what the statements' own helpers do with items, messages, nodes. -/
namespace Go.AM
set_option linter.unusedSimpArgs false
set_option linter.unusedVariables false
set_option maxRecDepth 8000
set_option maxHeartbeats 0
theorem law_SameTolds (xs ys : List Told) (hl : xs.length ≤ cap) : Den PP 36 [toldsD xs, toldsD ys] [] (.bool (decide (xs = ys))) [] := by
  refine den_of [] [] is_gimmallaw0_SameTolds ?_
  simp -implicitDefEqProofs [c_gimmallaw0_SameTolds, toldsD]
  refine condC_split (fun h => ?_) (fun h => ?_)
  · simp -implicitDefEqProofs
    grind
  have hlen : xs.length = ys.length := by simp at h; omega
  simp -implicitDefEqProofs
  refine list_rule xs (fun i rest => fun ⟨fr, bs⟩ => bs = [] ∧ fr 0 = .sl (xs.map Told.row) xs.length ∧ fr 1 = .sl (ys.map Told.row) ys.length ∧ fr 5 = .int .i64 i ∧ (rest = ys.drop i ↔ xs = ys))
    (fun ⟨fr, bs⟩ => bs = [] ∧ xs = ys) (fun ⟨fr, bs⟩ => fr 4 = .bool false ∧ ¬ xs = ys) c_gimmallaw0_SameTolds_L0.eq_1 ?_ ?_ ?_ ?_ ?_
  · exact ⟨rfl, rfl, rfl, rfl, by simp⟩
  · rintro i ⟨fr, bs⟩ hi ⟨rfl, h0, h1, h5, he⟩
    simp -implicitDefEqProofs [*]
    grind
  · rintro i a rest ⟨fr, bs⟩ hlt hget hg hd hd2 ⟨rfl, h0, h1, h5, he⟩
    have hlt' : (i : Int) < xs.length := by omega
    have hlt2 : i < ys.length := by omega
    have hlt3 : (i : Int) < ys.length := by omega
    have hw := wrap_next (n := i) (by unfold cap at hl; omega)
    rw [List.drop_eq_getElem_cons hlt2] at he
    generalize hy : ys[i] = b at he
    simp -implicitDefEqProofs [h0, h1, h5, hlt, hlt', hlt2, hlt3, hget, hg, hy, Told.row, EQS]
    repeat' (first | (with_reducible refine gOps_dec (fun _ => ?_) (fun _ => ?_) <;> simp -implicitDefEqProofs [*, EQS, hw, Told.row]) | (with_reducible refine gOps_ndec (fun _ => ?_) (fun _ => ?_) <;> simp -implicitDefEqProofs [*, EQS, hw, Told.row]) | (with_reducible refine gOps_and (fun hq => ?_) (fun hq => ?_) <;> (try simp at hq) <;> simp -implicitDefEqProofs [*, EQS, hw, Told.row]) | (with_reducible refine gOps_or (fun hq => ?_) (fun hq => ?_) <;> (try simp at hq) <;> simp -implicitDefEqProofs [*, EQS, hw, Told.row]) | (with_reducible refine gOps_not (fun hq => ?_) (fun hq => ?_) <;> (try simp at hq) <;> simp -implicitDefEqProofs [*, EQS, hw, Told.row]) | (with_reducible refine gOps_split (fun hq => ?_) (fun hq => ?_) <;> (try simp at hq) <;> simp -implicitDefEqProofs [*, EQS, hw, Told.row]) | (with_reducible refine condC_dec (fun _ => ?_) (fun _ => ?_) <;> simp -implicitDefEqProofs [*, EQS, hw, Told.row]) | (with_reducible refine condC_ndec (fun _ => ?_) (fun _ => ?_) <;> simp -implicitDefEqProofs [*, EQS, hw, Told.row]) | (with_reducible refine condC_and (fun hq => ?_) (fun hq => ?_) <;> (try simp at hq) <;> simp -implicitDefEqProofs [*, EQS, hw, Told.row]) | (with_reducible refine condC_or (fun hq => ?_) (fun hq => ?_) <;> (try simp at hq) <;> simp -implicitDefEqProofs [*, EQS, hw, Told.row]) | (with_reducible refine condC_not (fun hq => ?_) (fun hq => ?_) <;> (try simp at hq) <;> simp -implicitDefEqProofs [*, EQS, hw, Told.row]) | (with_reducible refine condC_split (fun hq => ?_) (fun hq => ?_) <;> (try simp at hq) <;> simp -implicitDefEqProofs [*, EQS, hw, Told.row]) | (refine appK2_if (by omega) ?_; simp -implicitDefEqProofs [*, EQS, hw, Told.row]) | (refine pureV_if (by omega) ?_; simp -implicitDefEqProofs [*, EQS, hw, Told.row]))
    all_goals (obtain ⟨_, _, _⟩ := a; obtain ⟨_, _, _⟩ := b; grind)
  · rintro ⟨fr, bs⟩ ⟨rfl, h6⟩
    simp -implicitDefEqProofs [*]
  · rintro ⟨fr, bs⟩ h
    simp -implicitDefEqProofs [h.1, h.2]
end Go.AM
/- AM: contracts: what the statements' helpers do with slices. -/
namespace Go.AM
set_option linter.unusedSimpArgs false
set_option linter.unusedVariables false
set_option maxRecDepth 8000
set_option maxHeartbeats 0
end Go.AM
/- AM: contracts: the document's best, its put; what a node takes. -/
namespace Go.AM
set_option linter.unusedSimpArgs false
set_option linter.unusedVariables false
set_option maxRecDepth 8000
set_option maxHeartbeats 0
end Go.AM
/- AM: contracts: the best of two, a store's item, its put. -/
namespace Go.AM
set_option linter.unusedSimpArgs false
set_option linter.unusedVariables false
set_option maxRecDepth 8000
set_option maxHeartbeats 0
theorem store_byKey (x : Item) (k : Int) : Den PP 81 [.agg x.row, .int .i64 k] [] (.int .i64 (keyC k x)) [] := by
  refine den_of [] [] is_store_byKey ?_
  simp -implicitDefEqProofs [c_store_byKey, Item.row, keyC]
  repeat' (first | (refine callThen_of (by first | exact cmp_Compare _ _) ?_; simp -implicitDefEqProofs [*]) | (with_reducible refine gOps_dec (fun _ => ?_) (fun _ => ?_) <;> simp -implicitDefEqProofs [*]) | (with_reducible refine gOps_ndec (fun _ => ?_) (fun _ => ?_) <;> simp -implicitDefEqProofs [*]) | (with_reducible refine gOps_and (fun hq => ?_) (fun hq => ?_) <;> (try simp at hq) <;> simp -implicitDefEqProofs [*]) | (with_reducible refine gOps_or (fun hq => ?_) (fun hq => ?_) <;> (try simp at hq) <;> simp -implicitDefEqProofs [*]) | (with_reducible refine gOps_not (fun hq => ?_) (fun hq => ?_) <;> (try simp at hq) <;> simp -implicitDefEqProofs [*]) | (with_reducible refine gOps_split (fun hq => ?_) (fun hq => ?_) <;> (try simp at hq) <;> simp -implicitDefEqProofs [*]) | (with_reducible refine condC_dec (fun _ => ?_) (fun _ => ?_) <;> simp -implicitDefEqProofs [*]) | (with_reducible refine condC_ndec (fun _ => ?_) (fun _ => ?_) <;> simp -implicitDefEqProofs [*]) | (with_reducible refine condC_and (fun hq => ?_) (fun hq => ?_) <;> (try simp at hq) <;> simp -implicitDefEqProofs [*]) | (with_reducible refine condC_or (fun hq => ?_) (fun hq => ?_) <;> (try simp at hq) <;> simp -implicitDefEqProofs [*]) | (with_reducible refine condC_not (fun hq => ?_) (fun hq => ?_) <;> (try simp at hq) <;> simp -implicitDefEqProofs [*]) | (with_reducible refine condC_split (fun hq => ?_) (fun hq => ?_) <;> (try simp at hq) <;> simp -implicitDefEqProofs [*]) | (refine appK2_if (by omega) ?_; simp -implicitDefEqProofs [*]) | (refine pureV_if (by omega) ?_; simp -implicitDefEqProofs [*]))
theorem store_Get (is : List Item) (k : Int) (hl : is.length ≤ cap16) : Den PP 49 [itemsD is, .int .i64 k] [] (.tup [.agg (getR is k).1.row, .bool (getR is k).2]) [] := by
  have c1 := store_May is hl
  have c2 := fun h => bsearch_Item is 81 k (keyC k) (fun x _ => store_byKey x k) (by unfold cap; unfold cap16 at hl; omega) h
  simp only [itemsD] at c1
  refine den_of [] [] is_store_Get ?_
  simp -implicitDefEqProofs [c_store_Get, itemsD]
  refine callThen_of c1 ?_
  simp -implicitDefEqProofs
  refine condC_not (fun h1 => ?_) (fun h1 => ?_)
  rotate_left
  · simp -implicitDefEqProofs [h1, getR, zeroItem, Item.row]
  obtain ⟨hm, hr, h16⟩ := (storeMay_iff is).1 h1
  have hg := getS_at hr k
  have hat := fun h => atC_true (c := keyC k) (xs := is) h
  have c3 := c2 (mono_key hr k)
  clear c2 c1
  generalize atC (keyC k) is = A at *
  generalize posC (keyC k) is = p at *
  simp -implicitDefEqProofs [h1]
  refine callThen_of c3 ?_
  cases A with
  | false =>
    simp -implicitDefEqProofs [h1, hg, getR, zeroItem, Item.row]
  | true =>
    obtain ⟨hlt, x, hx, hx0⟩ := hat rfl
    have hlt' : (p : Int) < is.length := by omega
    simp at hg
    rw [hx] at hg
    have hxr : (is.map Item.row)[p]? = some x.row := by simp [hx]
    have hx2 : is[p] = x := by simpa [hlt] using hx
    simp -implicitDefEqProofs [h1, hg, getR, hlt', hlt, hx2, Item.row]
end Go.AM
/- AM: contracts: a store's put. -/
namespace Go.AM
set_option linter.unusedSimpArgs false
set_option linter.unusedVariables false
set_option maxRecDepth 8000
set_option maxHeartbeats 0
end Go.AM
/- AM: contracts: what chapter 9's statements build on. -/
namespace Go.AM
set_option linter.unusedSimpArgs false
set_option linter.unusedVariables false
set_option maxRecDepth 8000
set_option maxHeartbeats 0
end Go.AM
/- AM: contracts: the document's nodes and sharing; chapter 18's helpers. -/
namespace Go.AM
set_option linter.unusedSimpArgs false
set_option linter.unusedVariables false
set_option maxRecDepth 8000
set_option maxHeartbeats 0
end Go.AM
/- AM: what is handed in, told. -/
namespace Go.AM
set_option linter.unusedSimpArgs false
set_option linter.unusedVariables false
set_option maxRecDepth 8000
theorem tell_int {n : Nat} {cs : List D} (h : Tell TT (n + 1) 3 cs) : ∃ x, cs = [.int .i64 x] ∧ in64 x := by
  simp [Tell] at h
  obtain ⟨x, rfl, hx⟩ := h
  exact ⟨x, rfl, wf64 hx⟩
theorem tell_bool {n : Nat} {cs : List D} (h : Tell TT (n + 1) 4 cs) : ∃ x, cs = [.bool x] := by
  simpa [Tell] using h
theorem tell_ints {n : Nat} {cs : List D} (h : Tell TT (n + 2) 23 cs) : ∃ xs : List Int, cs = [intsD xs] ∧ xs.length * 8 ≤ 140737488351232 ∧ ∀ x ∈ xs, in64 x := by
  unfold Tell at h
  simp at h
  obtain ⟨rows, rfl, hl, hr⟩ := h
  obtain ⟨xs, rfl, hx⟩ := rows_of (f := irow) (Q := in64) rows fun r h => by
    obtain ⟨x, rfl, hx⟩ := tell_int (hr r h)
    exact ⟨x, rfl, hx⟩
  exact ⟨xs, by simp [intsD], by simpa using hl, hx⟩
theorem tell_Peer {n : Nat} {cs : List D} (h : Tell TT (n + 2) 102 cs) : ∃ p : Peer, cs = p.row ∧ in64 p.id ∧ in64 p.missed := by
  unfold Tell at h
  simp [Tell.TellFs] at h
  obtain ⟨a, b, rfl, h1, h2⟩ := h
  obtain ⟨x, rfl, hx⟩ := tell_int h1
  obtain ⟨y, rfl, hy⟩ := tell_int h2
  exact ⟨⟨x, y⟩, rfl, hx, hy⟩
theorem tell_peers {n : Nat} {cs : List D} (h : Tell TT (n + 3) 22 cs) : ∃ ps : List Peer, cs = [peersD ps] ∧ ps.length * 16 ≤ 140737488351232 ∧ ∀ p ∈ ps, in64 p.id ∧ in64 p.missed := by
  unfold Tell at h
  simp at h
  obtain ⟨rows, rfl, hl, hr⟩ := h
  obtain ⟨xs, rfl, hx⟩ := rows_of (f := Peer.row) (Q := fun p => in64 p.id ∧ in64 p.missed) rows fun r h => tell_Peer (hr r h)
  exact ⟨xs, by simp [peersD], by simpa using hl, hx⟩
def View.tame (v : View) : Prop := v.peers.length * 16 ≤ 140737488351232 ∧ v.passive.length * 8 ≤ 140737488351232 ∧ in64 v.id ∧ (∀ p ∈ v.peers, in64 p.id ∧ in64 p.missed) ∧ ∀ x ∈ v.passive, in64 x
theorem View.tame.small {v : View} (h : v.tame) : v.small := by
  obtain ⟨h1, h2, _⟩ := h
  unfold View.small cap16 cap
  omega
theorem tell_View {n : Nat} {cs : List D} (h : Tell TT (n + 4) 25 cs) : ∃ v : View, cs = v.cells ∧ v.tame := by
  unfold Tell at h
  simp [Tell.TellFs] at h
  obtain ⟨a, r, rfl, h1, b, c, rfl, h2, h3⟩ := h
  obtain ⟨x, rfl, hx⟩ := tell_int h1
  obtain ⟨ps, rfl, hp, hp2⟩ := tell_peers h2
  obtain ⟨xs, rfl, hq, hq2⟩ := tell_ints h3
  exact ⟨⟨x, ps, xs⟩, rfl, hp, hq, hx, hp2, hq2⟩
theorem tell_Version {n : Nat} {cs : List D} (h : Tell TT (n + 2) 31 cs) : ∃ c w : Int, cs = [.int .i64 c, .int .i64 w] ∧ in64 c ∧ in64 w := by
  unfold Tell at h
  simp [Tell.TellFs] at h
  obtain ⟨a, b, rfl, h1, h2⟩ := h
  obtain ⟨x, rfl, hx⟩ := tell_int h1
  obtain ⟨y, rfl, hy⟩ := tell_int h2
  exact ⟨x, y, rfl, hx, hy⟩
def Item.tame (i : Item) : Prop := in64 i.key ∧ in64 i.count ∧ in64 i.writer ∧ in64 i.value
theorem tell_Item {n : Nat} {cs : List D} (h : Tell TT (n + 3) 33 cs) : ∃ i : Item, cs = i.row ∧ i.tame := by
  unfold Tell at h
  simp [Tell.TellFs] at h
  obtain ⟨a, r1, rfl, h1, b, r2, rfl, h2, c, d, rfl, h3, h4⟩ := h
  obtain ⟨x, rfl, hx⟩ := tell_int h1
  obtain ⟨y, z, rfl, hy, hz⟩ := tell_Version h2
  obtain ⟨u, rfl, hu⟩ := tell_int h3
  obtain ⟨g, rfl⟩ := tell_bool h4
  exact ⟨⟨x, y, z, u, g⟩, rfl, hx, hy, hz, hu⟩
theorem tell_items {n : Nat} {cs : List D} (h : Tell TT (n + 4) 26 cs) : ∃ is : List Item, cs = [itemsD is] ∧ is.length * 40 ≤ 140737488351232 ∧ ∀ i ∈ is, i.tame := by
  unfold Tell at h
  simp at h
  obtain ⟨rows, rfl, hl, hr⟩ := h
  obtain ⟨xs, rfl, hx⟩ := rows_of (f := Item.row) (Q := Item.tame) rows fun r h => tell_Item (hr r h)
  exact ⟨xs, by simp [itemsD], by simpa using hl, hx⟩
theorem tell_Told {n : Nat} {cs : List D} (h : Tell TT (n + 2) 66 cs) : ∃ t : Told, cs = t.row ∧ in64 t.key ∧ in64 t.value := by
  unfold Tell at h
  simp [Tell.TellFs] at h
  obtain ⟨a, r1, rfl, h1, b, c, rfl, h2, h3⟩ := h
  obtain ⟨x, rfl, hx⟩ := tell_int h1
  obtain ⟨g, rfl⟩ := tell_bool h2
  obtain ⟨u, rfl, hu⟩ := tell_int h3
  exact ⟨⟨x, g, u⟩, rfl, hx, hu⟩
theorem tell_tolds {n : Nat} {cs : List D} (h : Tell TT (n + 3) 27 cs) : ∃ ts : List Told, cs = [toldsD ts] ∧ ts.length * 24 ≤ 140737488351232 ∧ ∀ t ∈ ts, in64 t.key ∧ in64 t.value := by
  unfold Tell at h
  simp at h
  obtain ⟨rows, rfl, hl, hr⟩ := h
  obtain ⟨xs, rfl, hx⟩ := rows_of (f := Told.row) (Q := fun t => in64 t.key ∧ in64 t.value) rows fun r h => tell_Told (hr r h)
  exact ⟨xs, by simp [toldsD], by simpa using hl, hx⟩
def Node.tame (x : Node) : Prop := x.view.tame ∧ x.items.length * 40 ≤ 140737488351232 ∧ (∀ i ∈ x.items, i.tame) ∧ x.log.length * 24 ≤ 140737488351232 ∧ ∀ t ∈ x.log, in64 t.key ∧ in64 t.value
theorem Node.tame.small {x : Node} (h : x.tame) : x.small := ⟨h.1.small, h.2.1, h.2.2.2.1⟩
theorem tell_Node {n : Nat} {cs : List D} (h : Tell TT (n + 5) 29 cs) : ∃ x : Node, cs = x.cells ∧ x.tame := by
  unfold Tell at h
  simp [Tell.TellFs] at h
  obtain ⟨a, r1, rfl, h1, b, r2, rfl, h2, c, d, rfl, h3, h4⟩ := h
  obtain ⟨u, rfl⟩ := tell_bool h1
  obtain ⟨v, rfl, hv⟩ := tell_View h2
  obtain ⟨is, rfl, h5, h6⟩ := tell_items h3
  obtain ⟨ts, rfl, h7, h8⟩ := tell_tolds h4
  exact ⟨⟨u, v, is, ts⟩, rfl, hv, h5, h6, h7, h8⟩
theorem arg_Node {n : Nat} {d : D} (h : TellArg TT (n + 5) 29 d) : ∃ x : Node, d = nodeD x ∧ x.tame := by
  simp [TellArg] at h
  obtain ⟨cs, rfl, h⟩ := h
  obtain ⟨v, rfl, hv⟩ := tell_Node h
  exact ⟨v, rfl, hv⟩
theorem arg_Item {n : Nat} {d : D} (h : TellArg TT (n + 3) 33 d) : ∃ x : Item, d = .agg x.row ∧ x.tame := by
  simp [TellArg] at h
  obtain ⟨cs, rfl, h⟩ := h
  obtain ⟨v, rfl, hv⟩ := tell_Item h
  exact ⟨v, rfl, hv⟩
theorem arg_items {n : Nat} {d : D} (h : TellArg TT (n + 4) 26 d) : ∃ x : List Item, d = itemsD x ∧ x.length * 40 ≤ 140737488351232 ∧ ∀ i ∈ x, i.tame := by
  simp [TellArg] at h
  obtain ⟨xs, hx, h2⟩ := tell_items h
  simp at hx
  exact ⟨xs, hx, h2⟩
theorem arg_ints {n : Nat} {d : D} (h : TellArg TT (n + 2) 23 d) : ∃ x : List Int, d = intsD x ∧ x.length * 8 ≤ 140737488351232 ∧ ∀ i ∈ x, in64 i := by
  simp [TellArg] at h
  obtain ⟨xs, hx, h2⟩ := tell_ints h
  simp at hx
  exact ⟨xs, hx, h2⟩
theorem arg_peers {n : Nat} {d : D} (h : TellArg TT (n + 3) 22 d) : ∃ x : List Peer, d = peersD x ∧ x.length * 16 ≤ 140737488351232 ∧ ∀ p ∈ x, in64 p.id ∧ in64 p.missed := by
  simp [TellArg] at h
  obtain ⟨xs, hx, h2⟩ := tell_peers h
  simp at hx
  exact ⟨xs, hx, h2⟩
theorem arg_bool {n : Nat} {d : D} (h : TellArg TT (n + 1) 4 d) : ∃ x, d = .bool x ∧ True := by
  simp [TellArg] at h
  obtain ⟨x, hx⟩ := tell_bool h
  simp at hx
  exact ⟨x, hx, trivial⟩
theorem arg_int {n : Nat} {d : D} (h : TellArg TT (n + 1) 3 d) : ∃ x, d = .int .i64 x ∧ in64 x := by
  simp [TellArg] at h
  obtain ⟨x, hx, h2⟩ := tell_int h
  simp at hx
  exact ⟨x, hx, h2⟩
theorem arg_View {n : Nat} {d : D} (h : TellArg TT (n + 4) 25 d) : ∃ v : View, d = viewD v ∧ v.tame := by
  simp [TellArg] at h
  obtain ⟨cs, rfl, h⟩ := h
  obtain ⟨v, rfl, hv⟩ := tell_View h
  exact ⟨v, rfl, hv⟩
end Go.AM
/- Plain law: stores: put twice, in another row. -/
namespace Go.AM
set_option linter.unusedSimpArgs false
set_option linter.unusedVariables false

end Go.AM
namespace Go.AM
end Go.AM
/- AM: contracts: a node is copied, takes an item. -/
namespace Go.AM
set_option linter.unusedSimpArgs false
set_option linter.unusedVariables false
set_option maxRecDepth 8000
set_option maxHeartbeats 0
theorem fit_of {α : Type} {f : α → List D} {n : Nat} (h : ∀ a, (f a).length = n ∧ (f a).all D.isCell = true) (xs : List α) : Fits n (xs.map f) := by
  intro r hr
  obtain ⟨a, _, rfl⟩ := List.mem_map.1 hr
  exact h a
theorem view_Copy (v : View) (hs : v.small) : Den PP 82 [viewD v] [] (.agg [.int .i64 v.id, .ref 0 0 v.peers.length, .ref 1 0 v.passive.length]) [⟨v.peers.map Peer.row, 2, .mut⟩, ⟨v.passive.map irow, 1, .mut⟩] := by
  obtain ⟨h1, h2⟩ := hs
  unfold cap16 at h1
  unfold cap at h2
  have c1 := clone_Peer (v.peers.map Peer.row) (fit_of (f := Peer.row) (n := 2) (fun _ => ⟨rfl, rfl⟩) _) (by simp; omega)
  have c2 := clone_int (v.passive.map irow) (fit_of (f := irow) (n := 1) (fun _ => ⟨rfl, rfl⟩) _) (by simp; omega)
  simp only [List.length_map] at c1 c2
  refine den_of [5, 8] [] is_view_Copy ?_
  simp -implicitDefEqProofs [c_view_Copy, viewD, View.cells, peersD, intsD]
  refine callThen_of c1 ?_
  simp -implicitDefEqProofs [downTo]
  refine callThen_of c2 ?_
  simp -implicitDefEqProofs [downTo]
def copyD (x : Node) : D := .agg [.bool x.up, .int .i64 x.view.id, .ref 0 0 x.view.peers.length, .ref 1 0 x.view.passive.length, .ref 2 0 x.items.length, .ref 3 0 x.log.length]
def nodeB (x : Node) : List Blk := [⟨x.view.peers.map Peer.row, 2, .mut⟩, ⟨x.view.passive.map irow, 1, .mut⟩, ⟨x.items.map Item.row, 5, .mut⟩, ⟨x.log.map Told.row, 3, .mut⟩]
theorem node_Copy (x : Node) (hs : x.small) : Den PP 51 [nodeD x] [] (copyD x) (nodeB x) := by
  have c1 := view_Copy x.view hs.1
  obtain ⟨⟨h1, h2⟩, h3, h4⟩ := hs
  unfold cap16 at h1
  unfold cap at h2
  have c2 := clone_Item (x.items.map Item.row) (fit_of (f := Item.row) (n := 5) (fun _ => ⟨rfl, rfl⟩) _) (by simp; omega)
  have c3 := clone_Told (x.log.map Told.row) (fit_of (f := Told.row) (n := 3) (fun _ => ⟨rfl, rfl⟩) _) (by simp; omega)
  simp only [List.length_map, viewD, View.cells, peersD, intsD] at c1 c2 c3
  unfold copyD nodeB
  refine den_of [5, 8, 11] [] is_node_Copy ?_
  simp -implicitDefEqProofs [c_node_Copy, nodeD, Node.cells, peersD, intsD, itemsD, toldsD]
  refine callThen_of c1 ?_
  simp -implicitDefEqProofs [downTo]
  refine callThen_of c2 ?_
  simp -implicitDefEqProofs [downTo]
  refine callThen_of c3 ?_
  simp -implicitDefEqProofs [downTo]
end Go.AM
/- AM: contracts: the document's take; a node spoiled. -/
namespace Go.AM
set_option linter.unusedSimpArgs false
set_option linter.unusedVariables false
set_option maxRecDepth 8000
set_option maxHeartbeats 0
end Go.AM
/- AM: chapter 20's statements: Takes. -/
namespace Go.AM
set_option linter.unusedSimpArgs false
set_option linter.unusedVariables false
set_option maxRecDepth 8000
set_option maxHeartbeats 0
def itT (k c : Int) : Item := ⟨k, c, 1, c % 256, false⟩
def nodeT : Node := ⟨true, ⟨100, [⟨101, 2⟩, ⟨200, 0⟩, ⟨90, 1⟩], [7]⟩, [⟨95, 1, 1, 1, false⟩, ⟨99, 3, 1, 3, false⟩, ⟨250, 2, 1, 2, false⟩], []⟩
theorem small_nodeT : nodeT.small := by unfold Node.small View.small cap16 cap; decide
theorem nodeUp_parts {x : Node} (h : nodeUp x = true) : x.up = true ∧ viewMay x.view = true ∧ storeMay x.items = true ∧ x.log.length ≤ 64 ∧ x.log.any toldOdd = false := by
  simp only [nodeUp, nodeMay, Bool.and_eq_true, decide_eq_true_eq, Bool.not_eq_true'] at h
  exact ⟨h.1, h.2.1.1.1.2, h.2.1.1.2, h.2.1.2, h.2.2⟩
theorem nodeUp_of {x : Node} (h1 : x.up = true) (h2 : viewMay x.view = true) (h3 : storeMay x.items = true) (h4 : x.log.length ≤ 64) (h5 : x.log.any toldOdd = false) : nodeUp x = true := by
  simp [nodeUp, nodeMay, h1, h2, h3, h4, h5]
theorem nodeUp_small {x : Node} (h : nodeUp x = true) : x.view.peers.length ≤ 16 ∧ x.view.passive.length ≤ 16 ∧ x.items.length ≤ 16 ∧ x.log.length ≤ 64 := by
  obtain ⟨h1, h2, h3, h4, h5⟩ := nodeUp_parts h
  have h6 := (viewMay_parts h2).2.2.1
  have h7 := ((storeMay_iff _).1 h3).2.2
  omega
theorem nodeUp_small2 {x : Node} (h : nodeUp x = true) : x.small := by
  obtain ⟨h1, h2, h3, h4⟩ := nodeUp_small h
  unfold Node.small View.small cap16 cap
  omega
end Go.AM
/- AM: contracts: what a node was told is noted. -/
namespace Go.AM
set_option linter.unusedSimpArgs false
set_option linter.unusedVariables false
set_option maxRecDepth 8000
set_option maxHeartbeats 0
def toldOf (key : Int) (i : Item) (has : Bool) : Told := ⟨key, has && !i.gone, if has && !i.gone then i.value else 0⟩
theorem ask_note (x : Node) (key : Int) (i : Item) (has : Bool) (hs : x.small) (hl : x.log.length ≤ 64) : Den PP 50 [nodeD x, .int .i64 key, .agg i.row, .bool has] [] (.agg [.bool x.up, .int .i64 x.view.id, .ref 0 0 x.view.peers.length, .ref 1 0 x.view.passive.length, .ref 2 0 x.items.length, .ref 3 (x.log.length + 1 - 64) (x.log.length + 1 - (x.log.length + 1 - 64))])
    [⟨x.view.peers.map Peer.row, 2, .mut⟩, ⟨x.view.passive.map irow, 1, .mut⟩, ⟨x.items.map Item.row, 5, .mut⟩, ⟨(x.log ++ [toldOf key i has]).map Told.row, 3, .mut⟩] := by
  have c1 := node_Copy x hs
  obtain ⟨ik, ic, iw, iv, ig⟩ := i
  simp only [nodeD, Node.cells, peersD, intsD, itemsD, toldsD, Item.row, copyD, nodeB] at c1 ⊢
  have hm : (if IntKind.wrap .i64 ((x.log.length : Int) + 1 - 64) < 0 then 0 else IntKind.wrap .i64 ((x.log.length : Int) + 1 - 64)) = ((x.log.length + 1 - 64 : Nat) : Int) := by
    rw [wrap_in (by omega) (by omega)]; split <;> omega
  refine den_of [12] [] is_ask_note ?_
  cases has <;> cases ig
  all_goals
    simp -implicitDefEqProofs [c_ask_note]
    refine callThen_of c1 ?_
    simp -implicitDefEqProofs [downTo]
  case false.false | false.true | true.true =>
    refine ⟨by simp [Fits], ?_⟩
    repeat' (first | (refine callThen_of (by first | exact ring_Place _ | exact den_nrm (ring_Place _) | exact den_nrm (by simpa using ring_Place _)) ?_; simp -implicitDefEqProofs [*, downTo]) | (with_reducible refine gOps_dec (fun _ => ?_) (fun _ => ?_) <;> simp -implicitDefEqProofs [*, downTo]) | (with_reducible refine gOps_ndec (fun _ => ?_) (fun _ => ?_) <;> simp -implicitDefEqProofs [*, downTo]) | (with_reducible refine gOps_and (fun hq => ?_) (fun hq => ?_) <;> (try simp at hq) <;> simp -implicitDefEqProofs [*, downTo]) | (with_reducible refine gOps_or (fun hq => ?_) (fun hq => ?_) <;> (try simp at hq) <;> simp -implicitDefEqProofs [*, downTo]) | (with_reducible refine gOps_not (fun hq => ?_) (fun hq => ?_) <;> (try simp at hq) <;> simp -implicitDefEqProofs [*, downTo]) | (with_reducible refine gOps_split (fun hq => ?_) (fun hq => ?_) <;> (try simp at hq) <;> simp -implicitDefEqProofs [*, downTo]) | (with_reducible refine condC_dec (fun _ => ?_) (fun _ => ?_) <;> simp -implicitDefEqProofs [*, downTo]) | (with_reducible refine condC_ndec (fun _ => ?_) (fun _ => ?_) <;> simp -implicitDefEqProofs [*, downTo]) | (with_reducible refine condC_and (fun hq => ?_) (fun hq => ?_) <;> (try simp at hq) <;> simp -implicitDefEqProofs [*, downTo]) | (with_reducible refine condC_or (fun hq => ?_) (fun hq => ?_) <;> (try simp at hq) <;> simp -implicitDefEqProofs [*, downTo]) | (with_reducible refine condC_not (fun hq => ?_) (fun hq => ?_) <;> (try simp at hq) <;> simp -implicitDefEqProofs [*, downTo]) | (with_reducible refine condC_split (fun hq => ?_) (fun hq => ?_) <;> (try simp at hq) <;> simp -implicitDefEqProofs [*, downTo]) | (refine appK2_if (by omega) ?_; simp -implicitDefEqProofs [*, downTo]) | (refine pureV_if (by omega) ?_; simp -implicitDefEqProofs [*, downTo]))
    simp -implicitDefEqProofs [minL, minF, hm]
    refine outK_slice (x.log.length + 1 - 64) (x.log.length + 1) (by simp; rfl) rfl (by simp [boundD, hm]) (by first | rfl | omega | (simp [boundD]; done) | (simp [boundD]; omega) | (simp; done) | (simp; omega) | (simp [*]; done) | (simp [*]; omega)) (by omega) (by first | rfl | omega | (simp [boundD]; done) | (simp [boundD]; omega) | (simp; done) | (simp; omega) | (simp [*]; done) | (simp [*]; omega)) rfl (by first | rfl | omega | (simp [boundD]; done) | (simp [boundD]; omega) | (simp; done) | (simp; omega) | (simp [*]; done) | (simp [*]; omega)) ?_
    simp -implicitDefEqProofs [toldOf, Told.row]
  case true.false =>
    repeat' apply And.intro
    all_goals try (simp [Fits]; done)
    all_goals
      repeat' (first | (refine callThen_of (by first | exact ring_Place _ | exact den_nrm (ring_Place _) | exact den_nrm (by simpa using ring_Place _)) ?_; simp -implicitDefEqProofs [*, downTo]) | (with_reducible refine gOps_dec (fun _ => ?_) (fun _ => ?_) <;> simp -implicitDefEqProofs [*, downTo]) | (with_reducible refine gOps_ndec (fun _ => ?_) (fun _ => ?_) <;> simp -implicitDefEqProofs [*, downTo]) | (with_reducible refine gOps_and (fun hq => ?_) (fun hq => ?_) <;> (try simp at hq) <;> simp -implicitDefEqProofs [*, downTo]) | (with_reducible refine gOps_or (fun hq => ?_) (fun hq => ?_) <;> (try simp at hq) <;> simp -implicitDefEqProofs [*, downTo]) | (with_reducible refine gOps_not (fun hq => ?_) (fun hq => ?_) <;> (try simp at hq) <;> simp -implicitDefEqProofs [*, downTo]) | (with_reducible refine gOps_split (fun hq => ?_) (fun hq => ?_) <;> (try simp at hq) <;> simp -implicitDefEqProofs [*, downTo]) | (with_reducible refine condC_dec (fun _ => ?_) (fun _ => ?_) <;> simp -implicitDefEqProofs [*, downTo]) | (with_reducible refine condC_ndec (fun _ => ?_) (fun _ => ?_) <;> simp -implicitDefEqProofs [*, downTo]) | (with_reducible refine condC_and (fun hq => ?_) (fun hq => ?_) <;> (try simp at hq) <;> simp -implicitDefEqProofs [*, downTo]) | (with_reducible refine condC_or (fun hq => ?_) (fun hq => ?_) <;> (try simp at hq) <;> simp -implicitDefEqProofs [*, downTo]) | (with_reducible refine condC_not (fun hq => ?_) (fun hq => ?_) <;> (try simp at hq) <;> simp -implicitDefEqProofs [*, downTo]) | (with_reducible refine condC_split (fun hq => ?_) (fun hq => ?_) <;> (try simp at hq) <;> simp -implicitDefEqProofs [*, downTo]) | (refine appK2_if (by omega) ?_; simp -implicitDefEqProofs [*, downTo]) | (refine pureV_if (by omega) ?_; simp -implicitDefEqProofs [*, downTo]))
      simp -implicitDefEqProofs [minL, minF, hm]
      refine outK_slice (x.log.length + 1 - 64) (x.log.length + 1) (by simp; rfl) rfl (by simp [boundD, hm]) (by first | rfl | omega | (simp [boundD]; done) | (simp [boundD]; omega) | (simp; done) | (simp; omega) | (simp [*]; done) | (simp [*]; omega)) (by omega) (by first | rfl | omega | (simp [boundD]; done) | (simp [boundD]; omega) | (simp; done) | (simp; omega) | (simp [*]; done) | (simp [*]; omega)) rfl (by first | rfl | omega | (simp [boundD]; done) | (simp [boundD]; omega) | (simp; done) | (simp; omega) | (simp [*]; done) | (simp [*]; omega)) ?_
      simp -implicitDefEqProofs [toldOf, Told.row]
end Go.AM
/- AM: contracts: messages that may be. -/
namespace Go.AM
set_option linter.unusedSimpArgs false
set_option linter.unusedVariables false
set_option maxRecDepth 8000
set_option maxHeartbeats 0
def noneM (ids : List Int) (key : Int) (i : Item) (has : Bool) : Bool := decide (ids.length = 0) && decide (key = 0) && decide (i = zeroItem) && !has
theorem msg_none_raw (kind f t key ik ic iw iv : Int) (ig has : Bool) (ids : List Int) : Den PP 111 [.agg [.int .i64 kind, .int .i64 f, .int .i64 t, .sl (ids.map irow) ids.length, .int .i64 key, .int .i64 ik, .int .i64 ic, .int .i64 iw, .int .i64 iv, .bool ig, .bool has]] [] (.bool (noneM ids key ⟨ik, ic, iw, iv, ig⟩ has)) [] := by
  refine den_of [] [] is_msg_none ?_
  simp -implicitDefEqProofs [c_msg_none, EQS]
  repeat' (first | (with_reducible refine gOps_dec (fun _ => ?_) (fun _ => ?_) <;> simp -implicitDefEqProofs [*, EQS]) | (with_reducible refine gOps_ndec (fun _ => ?_) (fun _ => ?_) <;> simp -implicitDefEqProofs [*, EQS]) | (with_reducible refine gOps_and (fun hq => ?_) (fun hq => ?_) <;> (try simp at hq) <;> simp -implicitDefEqProofs [*, EQS]) | (with_reducible refine gOps_or (fun hq => ?_) (fun hq => ?_) <;> (try simp at hq) <;> simp -implicitDefEqProofs [*, EQS]) | (with_reducible refine gOps_not (fun hq => ?_) (fun hq => ?_) <;> (try simp at hq) <;> simp -implicitDefEqProofs [*, EQS]) | (with_reducible refine gOps_split (fun hq => ?_) (fun hq => ?_) <;> (try simp at hq) <;> simp -implicitDefEqProofs [*, EQS]) | (with_reducible refine condC_dec (fun _ => ?_) (fun _ => ?_) <;> simp -implicitDefEqProofs [*, EQS]) | (with_reducible refine condC_ndec (fun _ => ?_) (fun _ => ?_) <;> simp -implicitDefEqProofs [*, EQS]) | (with_reducible refine condC_and (fun hq => ?_) (fun hq => ?_) <;> (try simp at hq) <;> simp -implicitDefEqProofs [*, EQS]) | (with_reducible refine condC_or (fun hq => ?_) (fun hq => ?_) <;> (try simp at hq) <;> simp -implicitDefEqProofs [*, EQS]) | (with_reducible refine condC_not (fun hq => ?_) (fun hq => ?_) <;> (try simp at hq) <;> simp -implicitDefEqProofs [*, EQS]) | (with_reducible refine condC_split (fun hq => ?_) (fun hq => ?_) <;> (try simp at hq) <;> simp -implicitDefEqProofs [*, EQS]) | (refine appK2_if (by omega) ?_; simp -implicitDefEqProofs [*, EQS]) | (refine pureV_if (by omega) ?_; simp -implicitDefEqProofs [*, EQS]))
  all_goals (simp only [noneM, zeroItem, Item.mk.injEq]; first | (simp [*]; done) | (simp [*]; grind) | grind)
theorem msg_none_nil (kind f t key ik ic iw iv : Int) (ig has : Bool) : Den PP 111 [.agg [.int .i64 kind, .int .i64 f, .int .i64 t, .nil, .int .i64 key, .int .i64 ik, .int .i64 ic, .int .i64 iw, .int .i64 iv, .bool ig, .bool has]] [] (.bool (noneM [] key ⟨ik, ic, iw, iv, ig⟩ has)) [] := by
  refine den_of [] [] is_msg_none ?_
  simp -implicitDefEqProofs [c_msg_none, EQS]
  repeat' (first | (with_reducible refine gOps_dec (fun _ => ?_) (fun _ => ?_) <;> simp -implicitDefEqProofs [*, EQS]) | (with_reducible refine gOps_ndec (fun _ => ?_) (fun _ => ?_) <;> simp -implicitDefEqProofs [*, EQS]) | (with_reducible refine gOps_and (fun hq => ?_) (fun hq => ?_) <;> (try simp at hq) <;> simp -implicitDefEqProofs [*, EQS]) | (with_reducible refine gOps_or (fun hq => ?_) (fun hq => ?_) <;> (try simp at hq) <;> simp -implicitDefEqProofs [*, EQS]) | (with_reducible refine gOps_not (fun hq => ?_) (fun hq => ?_) <;> (try simp at hq) <;> simp -implicitDefEqProofs [*, EQS]) | (with_reducible refine gOps_split (fun hq => ?_) (fun hq => ?_) <;> (try simp at hq) <;> simp -implicitDefEqProofs [*, EQS]) | (with_reducible refine condC_dec (fun _ => ?_) (fun _ => ?_) <;> simp -implicitDefEqProofs [*, EQS]) | (with_reducible refine condC_ndec (fun _ => ?_) (fun _ => ?_) <;> simp -implicitDefEqProofs [*, EQS]) | (with_reducible refine condC_and (fun hq => ?_) (fun hq => ?_) <;> (try simp at hq) <;> simp -implicitDefEqProofs [*, EQS]) | (with_reducible refine condC_or (fun hq => ?_) (fun hq => ?_) <;> (try simp at hq) <;> simp -implicitDefEqProofs [*, EQS]) | (with_reducible refine condC_not (fun hq => ?_) (fun hq => ?_) <;> (try simp at hq) <;> simp -implicitDefEqProofs [*, EQS]) | (with_reducible refine condC_split (fun hq => ?_) (fun hq => ?_) <;> (try simp at hq) <;> simp -implicitDefEqProofs [*, EQS]) | (refine appK2_if (by omega) ?_; simp -implicitDefEqProofs [*, EQS]) | (refine pureV_if (by omega) ?_; simp -implicitDefEqProofs [*, EQS]))
  all_goals (simp only [noneM, zeroItem, Item.mk.injEq]; first | (simp [*]; done) | (simp [*]; grind) | grind)
theorem msg_May (m : Msg) (hl : m.ids.length ≤ cap) : Den PP 85 [msgD m] [] (.bool (msgMay m)) [] := by
  obtain ⟨kind, from_, to, ids, key, ⟨ik, ic, iw, iv, ig⟩, has⟩ := m
  have c1 := ring_Places ids hl
  obtain ⟨A, hA⟩ : ∃ A, ids.all place = A := ⟨_, rfl⟩
  rw [hA] at c1
  simp only [intsD] at c1
  refine den_of [] [] is_msg_May ?_
  simp -implicitDefEqProofs [c_msg_May, msgD, Msg.row, intsD, EQS]
  repeat' (first | (refine callThen_of (by first | exact c1 | exact item_May_raw _ _ _ _ _ | exact ring_Place _ | exact msg_none_raw _ _ _ _ _ _ _ _ _ _ _ | exact msg_none_nil _ _ _ _ _ _ _ _ _ _ | exact den_nrm (msg_none_nil _ _ _ _ _ _ _ _ _ _) | exact den_nrm (by simpa using msg_none_nil _ _ _ _ _ _ _ _ _ _)) ?_; simp -implicitDefEqProofs [*, EQS]) | (with_reducible refine gOps_dec (fun _ => ?_) (fun _ => ?_) <;> simp -implicitDefEqProofs [*, EQS]) | (with_reducible refine gOps_ndec (fun _ => ?_) (fun _ => ?_) <;> simp -implicitDefEqProofs [*, EQS]) | (with_reducible refine gOps_and (fun hq => ?_) (fun hq => ?_) <;> (try simp at hq) <;> simp -implicitDefEqProofs [*, EQS]) | (with_reducible refine gOps_or (fun hq => ?_) (fun hq => ?_) <;> (try simp at hq) <;> simp -implicitDefEqProofs [*, EQS]) | (with_reducible refine gOps_not (fun hq => ?_) (fun hq => ?_) <;> (try simp at hq) <;> simp -implicitDefEqProofs [*, EQS]) | (with_reducible refine gOps_split (fun hq => ?_) (fun hq => ?_) <;> (try simp at hq) <;> simp -implicitDefEqProofs [*, EQS]) | (with_reducible refine condC_dec (fun _ => ?_) (fun _ => ?_) <;> simp -implicitDefEqProofs [*, EQS]) | (with_reducible refine condC_ndec (fun _ => ?_) (fun _ => ?_) <;> simp -implicitDefEqProofs [*, EQS]) | (with_reducible refine condC_and (fun hq => ?_) (fun hq => ?_) <;> (try simp at hq) <;> simp -implicitDefEqProofs [*, EQS]) | (with_reducible refine condC_or (fun hq => ?_) (fun hq => ?_) <;> (try simp at hq) <;> simp -implicitDefEqProofs [*, EQS]) | (with_reducible refine condC_not (fun hq => ?_) (fun hq => ?_) <;> (try simp at hq) <;> simp -implicitDefEqProofs [*, EQS]) | (with_reducible refine condC_split (fun hq => ?_) (fun hq => ?_) <;> (try simp at hq) <;> simp -implicitDefEqProofs [*, EQS]) | (refine appK2_if (by omega) ?_; simp -implicitDefEqProofs [*, EQS]) | (refine pureV_if (by omega) ?_; simp -implicitDefEqProofs [*, EQS]))
  all_goals (try simp only [noneM, zeroItem, Item.mk.injEq] at *)
  all_goals (simp only [msgMay, hA, zeroItem, Item.mk.injEq]; first | (simp [*]; done) | (simp [*]; grind) | grind)
end Go.AM
/- Plain law: a store takes items twice. -/
namespace Go.AM
set_option linter.unusedSimpArgs false
set_option linter.unusedVariables false

end Go.AM
/- AM: chapter 20's statements: TakeTwice, TakeBest. -/
namespace Go.AM
set_option linter.unusedSimpArgs false
set_option linter.unusedVariables false
set_option maxRecDepth 8000
set_option maxHeartbeats 0
end Go.AM
