/- What the proof of this claim stands on, part 10. -/
import Derived.Test.YtehagcggdepajaaProg
import Derived.KernelRfl
import Derived.Test.YtehagcggdepajaaAmZ9
/- AM: this seat's types. -/
namespace Go.AM
set_option linter.unusedSimpArgs false
set_option linter.unusedVariables false
def tab : List (Nat × TyI) := [
  (3, ⟨.int .i64, 1, 8, [.int .i64 0]⟩),
  (4, ⟨.bool, 1, 1, [.bool false]⟩),
  (23, ⟨.slice 54, 1, 24, [.nil]⟩),
  (24, ⟨.slice 3, 1, 24, [.nil]⟩),
  (26, ⟨.struct [(0, 3), (1, 23), (2, 24)], 3, 56, [.int .i64 0, .nil, .nil]⟩),
  (27, ⟨.slice 35, 1, 24, [.nil]⟩),
  (28, ⟨.slice 63, 1, 24, [.nil]⟩),
  (30, ⟨.struct [(0, 4), (1, 26), (4, 27), (5, 28)], 6, 112, [.bool false, .int .i64 0, .nil, .nil, .nil, .nil]⟩),
  (33, ⟨.struct [(0, 3), (1, 3)], 2, 16, [.int .i64 0, .int .i64 0]⟩),
  (35, ⟨.struct [(0, 3), (1, 33), (3, 3), (4, 4)], 5, 40, [.int .i64 0, .int .i64 0, .int .i64 0, .int .i64 0, .bool false]⟩),
  (38, ⟨.struct [(0, 3), (1, 3), (2, 3), (3, 24), (4, 3), (5, 35), (10, 4)], 11, 104, [.int .i64 0, .int .i64 0, .int .i64 0, .nil, .int .i64 0, .int .i64 0, .int .i64 0, .int .i64 0, .int .i64 0, .bool false, .bool false]⟩),
  (39, ⟨.slice 38, 1, 24, [.nil]⟩),
  (40, ⟨.int .i64, 1, 8, [.int .i64 0]⟩),
  (54, ⟨.struct [(0, 3), (1, 3)], 2, 16, [.int .i64 0, .int .i64 0]⟩),
  (55, ⟨.ptr, 1, 8, [.undef]⟩),
  (58, ⟨.struct [(0, 30), (6, 39)], 7, 136, [.bool false, .int .i64 0, .nil, .nil, .nil, .nil, .nil]⟩),
  (59, ⟨.fn, 1, 8, [.undef]⟩),
  (60, ⟨.arr 4 59, 4, 32, [.undef, .undef, .undef, .undef]⟩),
  (61, ⟨.fn, 1, 8, [.undef]⟩),
  (63, ⟨.struct [(0, 3), (1, 4), (2, 3)], 3, 24, [.int .i64 0, .bool false, .int .i64 0]⟩),
  (84, ⟨.fn, 1, 8, [.undef]⟩),
  (88, ⟨.ptr, 1, 8, [.undef]⟩),
  (93, ⟨.ptr, 1, 8, [.undef]⟩),
  (94, ⟨.ptr, 1, 8, [.undef]⟩),
  (109, ⟨.fn, 1, 8, [.undef]⟩),
  (116, ⟨.fn, 1, 8, [.undef]⟩),
  (118, ⟨.struct [(0, 3)], 1, 8, [.int .i64 0]⟩),
  (121, ⟨.int .u64, 1, 8, [.int .u64 0]⟩),
  (123, ⟨.ptr, 1, 8, [.undef]⟩)]
def TT : Tab := fun t => match tab.find? (fun p => p.1 == t) with
  | some p => p.2
  | none => ⟨.other, 0, 0, []⟩
@[simp] theorem TT3 : TT 3 = ⟨.int .i64, 1, 8, [.int .i64 0]⟩ := by kernel_rfl
@[simp] theorem TT4 : TT 4 = ⟨.bool, 1, 1, [.bool false]⟩ := by kernel_rfl
@[simp] theorem TT23 : TT 23 = ⟨.slice 54, 1, 24, [.nil]⟩ := by kernel_rfl
@[simp] theorem TT24 : TT 24 = ⟨.slice 3, 1, 24, [.nil]⟩ := by kernel_rfl
@[simp] theorem TT26 : TT 26 = ⟨.struct [(0, 3), (1, 23), (2, 24)], 3, 56, [.int .i64 0, .nil, .nil]⟩ := by kernel_rfl
@[simp] theorem TT27 : TT 27 = ⟨.slice 35, 1, 24, [.nil]⟩ := by kernel_rfl
@[simp] theorem TT28 : TT 28 = ⟨.slice 63, 1, 24, [.nil]⟩ := by kernel_rfl
@[simp] theorem TT30 : TT 30 = ⟨.struct [(0, 4), (1, 26), (4, 27), (5, 28)], 6, 112, [.bool false, .int .i64 0, .nil, .nil, .nil, .nil]⟩ := by kernel_rfl
@[simp] theorem TT33 : TT 33 = ⟨.struct [(0, 3), (1, 3)], 2, 16, [.int .i64 0, .int .i64 0]⟩ := by kernel_rfl
@[simp] theorem TT35 : TT 35 = ⟨.struct [(0, 3), (1, 33), (3, 3), (4, 4)], 5, 40, [.int .i64 0, .int .i64 0, .int .i64 0, .int .i64 0, .bool false]⟩ := by kernel_rfl
@[simp] theorem TT38 : TT 38 = ⟨.struct [(0, 3), (1, 3), (2, 3), (3, 24), (4, 3), (5, 35), (10, 4)], 11, 104, [.int .i64 0, .int .i64 0, .int .i64 0, .nil, .int .i64 0, .int .i64 0, .int .i64 0, .int .i64 0, .int .i64 0, .bool false, .bool false]⟩ := by kernel_rfl
@[simp] theorem TT39 : TT 39 = ⟨.slice 38, 1, 24, [.nil]⟩ := by kernel_rfl
@[simp] theorem TT40 : TT 40 = ⟨.int .i64, 1, 8, [.int .i64 0]⟩ := by kernel_rfl
@[simp] theorem TT54 : TT 54 = ⟨.struct [(0, 3), (1, 3)], 2, 16, [.int .i64 0, .int .i64 0]⟩ := by kernel_rfl
@[simp] theorem TT55 : TT 55 = ⟨.ptr, 1, 8, [.undef]⟩ := by kernel_rfl
@[simp] theorem TT58 : TT 58 = ⟨.struct [(0, 30), (6, 39)], 7, 136, [.bool false, .int .i64 0, .nil, .nil, .nil, .nil, .nil]⟩ := by kernel_rfl
@[simp] theorem TT59 : TT 59 = ⟨.fn, 1, 8, [.undef]⟩ := by kernel_rfl
@[simp] theorem TT60 : TT 60 = ⟨.arr 4 59, 4, 32, [.undef, .undef, .undef, .undef]⟩ := by kernel_rfl
@[simp] theorem TT61 : TT 61 = ⟨.fn, 1, 8, [.undef]⟩ := by kernel_rfl
@[simp] theorem TT63 : TT 63 = ⟨.struct [(0, 3), (1, 4), (2, 3)], 3, 24, [.int .i64 0, .bool false, .int .i64 0]⟩ := by kernel_rfl
@[simp] theorem TT84 : TT 84 = ⟨.fn, 1, 8, [.undef]⟩ := by kernel_rfl
@[simp] theorem TT88 : TT 88 = ⟨.ptr, 1, 8, [.undef]⟩ := by kernel_rfl
@[simp] theorem TT93 : TT 93 = ⟨.ptr, 1, 8, [.undef]⟩ := by kernel_rfl
@[simp] theorem TT94 : TT 94 = ⟨.ptr, 1, 8, [.undef]⟩ := by kernel_rfl
@[simp] theorem TT109 : TT 109 = ⟨.fn, 1, 8, [.undef]⟩ := by kernel_rfl
@[simp] theorem TT116 : TT 116 = ⟨.fn, 1, 8, [.undef]⟩ := by kernel_rfl
@[simp] theorem TT118 : TT 118 = ⟨.struct [(0, 3)], 1, 8, [.int .i64 0]⟩ := by kernel_rfl
@[simp] theorem TT121 : TT 121 = ⟨.int .u64, 1, 8, [.int .u64 0]⟩ := by kernel_rfl
@[simp] theorem TT123 : TT 123 = ⟨.ptr, 1, 8, [.undef]⟩ := by kernel_rfl
@[simp] theorem TT0 : TT 0 = ⟨.other, 0, 0, []⟩ := by kernel_rfl
@[simp] theorem TT41 : TT 41 = ⟨.other, 0, 0, []⟩ := by kernel_rfl
@[simp] theorem TT73 : TT 73 = ⟨.other, 0, 0, []⟩ := by kernel_rfl
@[simp] theorem TT75 : TT 75 = ⟨.other, 0, 0, []⟩ := by kernel_rfl
@[simp] theorem TT77 : TT 77 = ⟨.other, 0, 0, []⟩ := by kernel_rfl
@[simp] theorem TT90 : TT 90 = ⟨.other, 0, 0, []⟩ := by kernel_rfl
@[simp] theorem TT95 : TT 95 = ⟨.other, 0, 0, []⟩ := by kernel_rfl
@[simp] theorem TT102 : TT 102 = ⟨.other, 0, 0, []⟩ := by kernel_rfl
@[simp] theorem TT104 : TT 104 = ⟨.other, 0, 0, []⟩ := by kernel_rfl
@[simp] theorem TT106 : TT 106 = ⟨.other, 0, 0, []⟩ := by kernel_rfl
@[simp] theorem TT110 : TT 110 = ⟨.other, 0, 0, []⟩ := by kernel_rfl
@[simp] theorem TT126 : TT 126 = ⟨.other, 0, 0, []⟩ := by kernel_rfl
noncomputable abbrev PP : Program := Proofs.Try.prog
theorem ty3 : TyOk PP 3 ⟨.int .i64, 1, 8, [.int .i64 0]⟩ := ⟨⟨Proofs.Try.t3, _, by kernel_rfl, rfl, rfl, rfl, by kernel_rfl, by kernel_rfl, by kernel_rfl⟩, ⟨_, (by kernel_rfl : PP.underlying 3 = some (TypeDesc.int IntKind.i64)), by simp [descOk]⟩⟩
theorem ty4 : TyOk PP 4 ⟨.bool, 1, 1, [.bool false]⟩ := ⟨⟨Proofs.Try.t4, _, by kernel_rfl, rfl, rfl, rfl, by kernel_rfl, by kernel_rfl, by kernel_rfl⟩, ⟨_, (by kernel_rfl : PP.underlying 4 = some TypeDesc.bool), by simp [descOk]⟩⟩
theorem ty23 : TyOk PP 23 ⟨.slice 54, 1, 24, [.nil]⟩ := ⟨⟨Proofs.Try.t23, _, by kernel_rfl, rfl, rfl, rfl, by kernel_rfl, by kernel_rfl, by kernel_rfl⟩, ⟨_, (by kernel_rfl : PP.underlying 23 = some (TypeDesc.slice 54)), by simp [descOk]⟩⟩
theorem ty24 : TyOk PP 24 ⟨.slice 3, 1, 24, [.nil]⟩ := ⟨⟨Proofs.Try.t24, _, by kernel_rfl, rfl, rfl, rfl, by kernel_rfl, by kernel_rfl, by kernel_rfl⟩, ⟨_, (by kernel_rfl : PP.underlying 24 = some (TypeDesc.slice 3)), by simp [descOk]⟩⟩
theorem ty26 : TyOk PP 26 ⟨.struct [(0, 3), (1, 23), (2, 24)], 3, 56, [.int .i64 0, .nil, .nil]⟩ := ⟨⟨Proofs.Try.t26, _, by kernel_rfl, rfl, rfl, rfl, by kernel_rfl, by kernel_rfl, by kernel_rfl⟩, ⟨_, (by kernel_rfl : PP.underlying 26 = some (TypeDesc.struct #[{ name := "Id", type := 3, offset := 0, embedded := false, tag := "", pkgPath := "", byteOffset := 0 }, { name := "Peers", type := 23, offset := 1, embedded := false, tag := "", pkgPath := "", byteOffset := 8 }, { name := "Passive", type := 24, offset := 2, embedded := false, tag := "", pkgPath := "", byteOffset := 32 }])), by simp [descOk]⟩⟩
theorem ty27 : TyOk PP 27 ⟨.slice 35, 1, 24, [.nil]⟩ := ⟨⟨Proofs.Try.t27, _, by kernel_rfl, rfl, rfl, rfl, by kernel_rfl, by kernel_rfl, by kernel_rfl⟩, ⟨_, (by kernel_rfl : PP.underlying 27 = some (TypeDesc.slice 35)), by simp [descOk]⟩⟩
theorem ty28 : TyOk PP 28 ⟨.slice 63, 1, 24, [.nil]⟩ := ⟨⟨Proofs.Try.t28, _, by kernel_rfl, rfl, rfl, rfl, by kernel_rfl, by kernel_rfl, by kernel_rfl⟩, ⟨_, (by kernel_rfl : PP.underlying 28 = some (TypeDesc.slice 63)), by simp [descOk]⟩⟩
theorem ty30 : TyOk PP 30 ⟨.struct [(0, 4), (1, 26), (4, 27), (5, 28)], 6, 112, [.bool false, .int .i64 0, .nil, .nil, .nil, .nil]⟩ := ⟨⟨Proofs.Try.t30, _, by kernel_rfl, rfl, rfl, rfl, by kernel_rfl, by kernel_rfl, by kernel_rfl⟩, ⟨_, (by kernel_rfl : PP.underlying 30 = some (TypeDesc.struct #[{ name := "Up", type := 4, offset := 0, embedded := false, tag := "", pkgPath := "", byteOffset := 0 }, { name := "View", type := 26, offset := 1, embedded := false, tag := "", pkgPath := "", byteOffset := 8 }, { name := "Items", type := 27, offset := 4, embedded := false, tag := "", pkgPath := "", byteOffset := 64 }, { name := "Log", type := 28, offset := 5, embedded := false, tag := "", pkgPath := "", byteOffset := 88 }])), by simp [descOk]⟩⟩
theorem ty33 : TyOk PP 33 ⟨.struct [(0, 3), (1, 3)], 2, 16, [.int .i64 0, .int .i64 0]⟩ := ⟨⟨Proofs.Try.t33, _, by kernel_rfl, rfl, rfl, rfl, by kernel_rfl, by kernel_rfl, by kernel_rfl⟩, ⟨_, (by kernel_rfl : PP.underlying 33 = some (TypeDesc.struct #[{ name := "Count", type := 3, offset := 0, embedded := false, tag := "", pkgPath := "", byteOffset := 0 }, { name := "Writer", type := 3, offset := 1, embedded := false, tag := "", pkgPath := "", byteOffset := 8 }])), by simp [descOk]⟩⟩
theorem ty35 : TyOk PP 35 ⟨.struct [(0, 3), (1, 33), (3, 3), (4, 4)], 5, 40, [.int .i64 0, .int .i64 0, .int .i64 0, .int .i64 0, .bool false]⟩ := ⟨⟨Proofs.Try.t35, _, by kernel_rfl, rfl, rfl, rfl, by kernel_rfl, by kernel_rfl, by kernel_rfl⟩, ⟨_, (by kernel_rfl : PP.underlying 35 = some (TypeDesc.struct #[{ name := "Key", type := 3, offset := 0, embedded := false, tag := "", pkgPath := "", byteOffset := 0 }, { name := "Version", type := 33, offset := 1, embedded := false, tag := "", pkgPath := "", byteOffset := 8 }, { name := "Value", type := 3, offset := 3, embedded := false, tag := "", pkgPath := "", byteOffset := 24 }, { name := "Gone", type := 4, offset := 4, embedded := false, tag := "", pkgPath := "", byteOffset := 32 }])), by simp [descOk]⟩⟩
theorem ty38 : TyOk PP 38 ⟨.struct [(0, 3), (1, 3), (2, 3), (3, 24), (4, 3), (5, 35), (10, 4)], 11, 104, [.int .i64 0, .int .i64 0, .int .i64 0, .nil, .int .i64 0, .int .i64 0, .int .i64 0, .int .i64 0, .int .i64 0, .bool false, .bool false]⟩ := ⟨⟨Proofs.Try.t38, _, by kernel_rfl, rfl, rfl, rfl, by kernel_rfl, by kernel_rfl, by kernel_rfl⟩, ⟨_, (by kernel_rfl : PP.underlying 38 = some (TypeDesc.struct #[{ name := "Kind", type := 3, offset := 0, embedded := false, tag := "", pkgPath := "", byteOffset := 0 }, { name := "From", type := 3, offset := 1, embedded := false, tag := "", pkgPath := "", byteOffset := 8 }, { name := "To", type := 3, offset := 2, embedded := false, tag := "", pkgPath := "", byteOffset := 16 }, { name := "Ids", type := 24, offset := 3, embedded := false, tag := "", pkgPath := "", byteOffset := 24 }, { name := "Key", type := 3, offset := 4, embedded := false, tag := "", pkgPath := "", byteOffset := 48 }, { name := "Item", type := 35, offset := 5, embedded := false, tag := "", pkgPath := "", byteOffset := 56 }, { name := "Has", type := 4, offset := 10, embedded := false, tag := "", pkgPath := "", byteOffset := 96 }])), by simp [descOk]⟩⟩
theorem ty39 : TyOk PP 39 ⟨.slice 38, 1, 24, [.nil]⟩ := ⟨⟨Proofs.Try.t39, _, by kernel_rfl, rfl, rfl, rfl, by kernel_rfl, by kernel_rfl, by kernel_rfl⟩, ⟨_, (by kernel_rfl : PP.underlying 39 = some (TypeDesc.slice 38)), by simp [descOk]⟩⟩
theorem ty40 : TyOk PP 40 ⟨.int .i64, 1, 8, [.int .i64 0]⟩ := ⟨⟨Proofs.Try.t40, _, by kernel_rfl, rfl, rfl, rfl, by kernel_rfl, by kernel_rfl, by kernel_rfl⟩, ⟨_, (by kernel_rfl : PP.underlying 40 = some (TypeDesc.int IntKind.i64)), by simp [descOk]⟩⟩
theorem ty54 : TyOk PP 54 ⟨.struct [(0, 3), (1, 3)], 2, 16, [.int .i64 0, .int .i64 0]⟩ := ⟨⟨Proofs.Try.t54, _, by kernel_rfl, rfl, rfl, rfl, by kernel_rfl, by kernel_rfl, by kernel_rfl⟩, ⟨_, (by kernel_rfl : PP.underlying 54 = some (TypeDesc.struct #[{ name := "Id", type := 3, offset := 0, embedded := false, tag := "", pkgPath := "", byteOffset := 0 }, { name := "Missed", type := 3, offset := 1, embedded := false, tag := "", pkgPath := "", byteOffset := 8 }])), by simp [descOk]⟩⟩
theorem ty55 : TyOk PP 55 ⟨.ptr, 1, 8, [.undef]⟩ := ⟨⟨Proofs.Try.t55, _, by kernel_rfl, rfl, rfl, rfl, by kernel_rfl, by kernel_rfl, by kernel_rfl⟩, ⟨_, (by kernel_rfl : PP.underlying 55 = some (TypeDesc.pointer 58)), by simp [descOk]⟩⟩
theorem ty58 : TyOk PP 58 ⟨.struct [(0, 30), (6, 39)], 7, 136, [.bool false, .int .i64 0, .nil, .nil, .nil, .nil, .nil]⟩ := ⟨⟨Proofs.Try.t58, _, by kernel_rfl, rfl, rfl, rfl, by kernel_rfl, by kernel_rfl, by kernel_rfl⟩, ⟨_, (by kernel_rfl : PP.underlying 58 = some (TypeDesc.struct #[{ name := "Node", type := 30, offset := 0, embedded := true, tag := "", pkgPath := "", byteOffset := 0 }, { name := "sent", type := 39, offset := 6, embedded := false, tag := "", pkgPath := "gimmal/handle", byteOffset := 112 }])), by simp [descOk]⟩⟩
theorem ty59 : TyOk PP 59 ⟨.fn, 1, 8, [.undef]⟩ := ⟨⟨Proofs.Try.t59, _, by kernel_rfl, rfl, rfl, rfl, by kernel_rfl, by kernel_rfl, by kernel_rfl⟩, ⟨_, (by kernel_rfl : PP.underlying 59 = some (TypeDesc.func #[38] #[] false)), by simp [descOk]⟩⟩
theorem ty60 : TyOk PP 60 ⟨.arr 4 59, 4, 32, [.undef, .undef, .undef, .undef]⟩ := ⟨⟨Proofs.Try.t60, _, by kernel_rfl, rfl, rfl, rfl, by kernel_rfl, by kernel_rfl, by kernel_rfl⟩, ⟨_, (by kernel_rfl : PP.underlying 60 = some (TypeDesc.array 4 59)), by simp [descOk]⟩⟩
theorem ty61 : TyOk PP 61 ⟨.fn, 1, 8, [.undef]⟩ := ⟨⟨Proofs.Try.t61, _, by kernel_rfl, rfl, rfl, rfl, by kernel_rfl, by kernel_rfl, by kernel_rfl⟩, ⟨_, (by kernel_rfl : PP.underlying 61 = some (TypeDesc.func #[3] #[4] false)), by simp [descOk]⟩⟩
theorem ty63 : TyOk PP 63 ⟨.struct [(0, 3), (1, 4), (2, 3)], 3, 24, [.int .i64 0, .bool false, .int .i64 0]⟩ := ⟨⟨Proofs.Try.t63, _, by kernel_rfl, rfl, rfl, rfl, by kernel_rfl, by kernel_rfl, by kernel_rfl⟩, ⟨_, (by kernel_rfl : PP.underlying 63 = some (TypeDesc.struct #[{ name := "Key", type := 3, offset := 0, embedded := false, tag := "", pkgPath := "", byteOffset := 0 }, { name := "Has", type := 4, offset := 1, embedded := false, tag := "", pkgPath := "", byteOffset := 8 }, { name := "Value", type := 3, offset := 2, embedded := false, tag := "", pkgPath := "", byteOffset := 16 }])), by simp [descOk]⟩⟩
theorem ty84 : TyOk PP 84 ⟨.fn, 1, 8, [.undef]⟩ := ⟨⟨Proofs.Try.t84, _, by kernel_rfl, rfl, rfl, rfl, by kernel_rfl, by kernel_rfl, by kernel_rfl⟩, ⟨_, (by kernel_rfl : PP.underlying 84 = some (TypeDesc.func #[63] #[4] false)), by simp [descOk]⟩⟩
theorem ty88 : TyOk PP 88 ⟨.ptr, 1, 8, [.undef]⟩ := ⟨⟨Proofs.Try.t88, _, by kernel_rfl, rfl, rfl, rfl, by kernel_rfl, by kernel_rfl, by kernel_rfl⟩, ⟨_, (by kernel_rfl : PP.underlying 88 = some (TypeDesc.pointer 26)), by simp [descOk]⟩⟩
theorem ty93 : TyOk PP 93 ⟨.ptr, 1, 8, [.undef]⟩ := ⟨⟨Proofs.Try.t93, _, by kernel_rfl, rfl, rfl, rfl, by kernel_rfl, by kernel_rfl, by kernel_rfl⟩, ⟨_, (by kernel_rfl : PP.underlying 93 = some (TypeDesc.pointer 30)), by simp [descOk]⟩⟩
theorem ty94 : TyOk PP 94 ⟨.ptr, 1, 8, [.undef]⟩ := ⟨⟨Proofs.Try.t94, _, by kernel_rfl, rfl, rfl, rfl, by kernel_rfl, by kernel_rfl, by kernel_rfl⟩, ⟨_, (by kernel_rfl : PP.underlying 94 = some (TypeDesc.pointer 38)), by simp [descOk]⟩⟩
theorem ty109 : TyOk PP 109 ⟨.fn, 1, 8, [.undef]⟩ := ⟨⟨Proofs.Try.t109, _, by kernel_rfl, rfl, rfl, rfl, by kernel_rfl, by kernel_rfl, by kernel_rfl⟩, ⟨_, (by kernel_rfl : PP.underlying 109 = some (TypeDesc.func #[35, 3] #[3] false)), by simp [descOk]⟩⟩
theorem ty116 : TyOk PP 116 ⟨.fn, 1, 8, [.undef]⟩ := ⟨⟨Proofs.Try.t116, _, by kernel_rfl, rfl, rfl, rfl, by kernel_rfl, by kernel_rfl, by kernel_rfl⟩, ⟨_, (by kernel_rfl : PP.underlying 116 = some (TypeDesc.func #[54, 3] #[3] false)), by simp [descOk]⟩⟩
theorem ty118 : TyOk PP 118 ⟨.struct [(0, 3)], 1, 8, [.int .i64 0]⟩ := ⟨⟨Proofs.Try.t118, _, by kernel_rfl, rfl, rfl, rfl, by kernel_rfl, by kernel_rfl, by kernel_rfl⟩, ⟨_, (by kernel_rfl : PP.underlying 118 = some (TypeDesc.struct #[{ name := "base", type := 3, offset := 0, embedded := false, tag := "", pkgPath := "gimmal/peers", byteOffset := 0 }])), by simp [descOk]⟩⟩
theorem ty121 : TyOk PP 121 ⟨.int .u64, 1, 8, [.int .u64 0]⟩ := ⟨⟨Proofs.Try.t121, _, by kernel_rfl, rfl, rfl, rfl, by kernel_rfl, by kernel_rfl, by kernel_rfl⟩, ⟨_, (by kernel_rfl : PP.underlying 121 = some (TypeDesc.int IntKind.u64)), by simp [descOk]⟩⟩
theorem ty123 : TyOk PP 123 ⟨.ptr, 1, 8, [.undef]⟩ := ⟨⟨Proofs.Try.t123, _, by kernel_rfl, rfl, rfl, rfl, by kernel_rfl, by kernel_rfl, by kernel_rfl⟩, ⟨_, (by kernel_rfl : PP.underlying 123 = some (TypeDesc.pointer 35)), by simp [descOk]⟩⟩
theorem tyAll : ∀ p ∈ tab, TyOk PP p.1 p.2 := by
  intro p hp
  simp only [tab, List.mem_cons, List.not_mem_nil, or_false] at hp
  rcases hp with rfl | rfl | rfl | rfl | rfl | rfl | rfl | rfl | rfl | rfl | rfl | rfl | rfl | rfl | rfl | rfl | rfl | rfl | rfl | rfl | rfl | rfl | rfl | rfl | rfl | rfl | rfl | rfl | rfl
  · exact ty3
  · exact ty4
  · exact ty23
  · exact ty24
  · exact ty26
  · exact ty27
  · exact ty28
  · exact ty30
  · exact ty33
  · exact ty35
  · exact ty38
  · exact ty39
  · exact ty40
  · exact ty54
  · exact ty55
  · exact ty58
  · exact ty59
  · exact ty60
  · exact ty61
  · exact ty63
  · exact ty84
  · exact ty88
  · exact ty93
  · exact ty94
  · exact ty109
  · exact ty116
  · exact ty118
  · exact ty121
  · exact ty123
theorem TT_find {t : Nat} (h : (TT t).d.known = true) : (t, TT t) ∈ tab := by
  unfold TT at h ⊢
  split
  · rename_i p hp
    have h1 := List.find?_some hp
    have h2 := List.mem_of_find?_eq_some hp
    have : p.1 = t := by simpa using h1
    rw [← this]
    exact h2
  · rename_i hp
    rw [hp] at h
    cases h
theorem kidsAll : (tab.all fun p => p.2.d.kids.all fun k => (TT k).d.known) = true := by kernel_rfl
theorem tabOk0 : TabOk PP TT [] := by
  refine ⟨fun t h => tyAll _ (TT_find h), fun t k hk => ?_, ?_⟩
  · have h : (TT t).d.known = true := by
      generalize TT t = x at hk
      obtain ⟨d, _, _, _⟩ := x
      cases d <;> first | rfl | (simp [TD.kids] at hk)
    have := List.all_eq_true.1 kidsAll _ (TT_find h)
    exact List.all_eq_true.1 this k hk
  · intro t h
    simp at h
theorem eq33 : EqOk PP TT 33 := eqOk_of tabOk0 5 (by omega) (by kernel_rfl) (by kernel_rfl) (by kernel_rfl) (by kernel_rfl)
theorem eq35 : EqOk PP TT 35 := eqOk_of tabOk0 5 (by omega) (by kernel_rfl) (by kernel_rfl) (by kernel_rfl) (by kernel_rfl)
theorem eq54 : EqOk PP TT 54 := eqOk_of tabOk0 5 (by omega) (by kernel_rfl) (by kernel_rfl) (by kernel_rfl) (by kernel_rfl)
theorem eq63 : EqOk PP TT 63 := eqOk_of tabOk0 5 (by omega) (by kernel_rfl) (by kernel_rfl) (by kernel_rfl) (by kernel_rfl)
theorem eq118 : EqOk PP TT 118 := eqOk_of tabOk0 5 (by omega) (by kernel_rfl) (by kernel_rfl) (by kernel_rfl) (by kernel_rfl)
def EQS : List Nat := [33, 35, 54, 63, 118]
theorem tabOk : TabOk PP TT EQS := by
  refine ⟨tabOk0.ty, tabOk0.kids, ?_⟩
  intro t h
  simp only [EQS, List.mem_cons, List.not_mem_nil, or_false] at h
  rcases h with rfl | rfl | rfl | rfl | rfl
  · exact eq33
  · exact eq35
  · exact eq54
  · exact eq63
  · exact eq118
noncomputable def cfx (n0 : Nat) (own lend give full ovl : List Nat) : Cfg := ⟨TT, EQS, n0, own, lend, Den PP, full, give, DenF PP [0], ovl⟩
noncomputable abbrev cf (n0 : Nat) (own lend : List Nat) : Cfg := cfx n0 own lend [] [] []
section
variable (n0 : Nat) (own lend give full ovl : List Nat)
@[simp] theorem cf_T : (cfx n0 own lend give full ovl).T = TT := rfl
@[simp] theorem cf_eqs : (cfx n0 own lend give full ovl).eqs = EQS := rfl
@[simp] theorem cf_n0 : (cfx n0 own lend give full ovl).n0 = n0 := rfl
@[simp] theorem cf_own : (cfx n0 own lend give full ovl).own = own := rfl
@[simp] theorem cf_lendT : (cfx n0 own lend give full ovl).lendT = lend := rfl
@[simp] theorem cf_C : (cfx n0 own lend give full ovl).C = Den PP := rfl
@[simp] theorem cf_giveT : (cfx n0 own lend give full ovl).giveT = give := rfl
@[simp] theorem cf_full : (cfx n0 own lend give full ovl).full = full := rfl
@[simp] theorem cf_G : (cfx n0 own lend give full ovl).G = DenF PP [0] := rfl
@[simp] theorem cf_ovl : (cfx n0 own lend give full ovl).ovl = ovl := rfl
end
theorem den_ofG {f : Nat} {F : SF} {args : List D} {bs : List Blk} {r : D} {bs' : List Blk} (own lend give ovl : List Nat) (hO : ∀ f ∈ ovl, OvlOk PP TT f) (hF : ∀ c : Cfg, c.lendT = lend → isF PP c f F) (h : sFun (cfx bs.length own lend give [] ovl) F args bs r bs') : Den PP f args bs r bs' :=
  sFun_sound (c := cfx bs.length own lend give [] ovl) (by kernel_rfl) tabOk (fun _ _ _ _ _ h => h) (fun _ _ _ _ _ h => h) hO rfl (hF _ rfl) rfl h
theorem den_of {f : Nat} {F : SF} {args : List D} {bs : List Blk} {r : D} {bs' : List Blk} (own lend : List Nat) (hF : ∀ c : Cfg, c.lendT = lend → isF PP c f F) (h : sFun (cf bs.length own lend) F args bs r bs') : Den PP f args bs r bs' :=
  den_ofG own lend [] [] (fun _ h => absurd h List.not_mem_nil) hF h
theorem denF_of {f : Nat} {F : SF} {args : List D} {bs : List Blk} {r : D} {bs' : List Blk} (own lend give ovl : List Nat) (hb : 0 < bs.length) (hO : ∀ f ∈ ovl, OvlOk PP TT f) (hF : ∀ c : Cfg, c.lendT = lend → isF PP c f F) (h : sFun (cfx bs.length own lend give [0] ovl) F args bs r bs') : DenF PP [0] f args bs r bs' :=
  sFun_soundF (c := cfx bs.length own lend give [0] ovl) (by kernel_rfl) tabOk (fun _ _ _ _ _ h => h) (fun _ _ _ _ _ h => h) hO (by intro b hb'; simp at hb'; subst hb'; exact hb) (hF _ rfl) rfl h
theorem ovl91 : OvlOk PP TT 91 := ⟨Proofs.Try.f91, 27, 35, by kernel_rfl, by kernel_rfl, by kernel_rfl, by kernel_rfl, by kernel_rfl, by kernel_rfl, by simp, by simp⟩
theorem ovls91 : ∀ f ∈ [91], OvlOk PP TT f := fun f h => by rw [List.mem_singleton.1 h]; exact ovl91
theorem ovl93 : OvlOk PP TT 93 := ⟨Proofs.Try.f93, 23, 54, by kernel_rfl, by kernel_rfl, by kernel_rfl, by kernel_rfl, by kernel_rfl, by kernel_rfl, by simp, by simp⟩
theorem ovls93 : ∀ f ∈ [93], OvlOk PP TT f := fun f h => by rw [List.mem_singleton.1 h]; exact ovl93
end Go.AM
/- AM: this seat's functions in short. -/
namespace Go.AM
set_option linter.unusedSimpArgs false
set_option linter.unusedVariables false
def c_gimmallaw22_HandleKnows_L0 : SC := (.seq (.seq (.ops [⟨some 37, (Op.move (Operand.tmp 9)), 3, none⟩,
    ⟨some 38, (Op.move (Operand.tmp 8)), 24, none⟩,
    ⟨some 39, (Op.call ⟨(Callee.builtin Builtin.len), #[(Operand.tmp 38)], #[24]⟩), 3, none⟩,
    ⟨some 40, (Op.binOp BinOp.lss 3 (Operand.tmp 37) (Operand.tmp 39) 3), 4, none⟩]) (.cond (Operand.tmp 40) .skip (.exit 0))) (.seq (.block 1 (.seq (.ops [⟨some 43, (Op.move (Operand.tmp 8)), 24, none⟩,
    ⟨some 44, (Op.move (Operand.tmp 9)), 3, none⟩,
    ⟨some 45, (Op.indexAddr 24 (Operand.tmp 43) (Operand.tmp 44)), 0, none⟩,
    ⟨some 46, (Op.load 3 (Operand.tmp 45)), 3, none⟩,
    ⟨some 47, (Op.fieldAddr 38 (Operand.tmp 3) 1), 0, none⟩,
    ⟨some 48, (Op.load 3 (Operand.tmp 47)), 3, none⟩,
    ⟨some 49, (Op.binOp BinOp.eql 3 (Operand.tmp 46) (Operand.tmp 48) 3), 4, none⟩]) (.cond (Operand.tmp 49) (.seq (.ops [⟨some 50, (Op.load 30 (Operand.tmp 5)), 30, none⟩,
    ⟨some 51, (Op.call ⟨(Callee.value (Operand.func 13)), #[(Operand.tmp 50)], #[30]⟩), 4, none⟩,
    ⟨some 4, (Op.assign (Operand.tmp 51)), 4, none⟩]) .ret) .skip))) (.ops [⟨some 41, (Op.move (Operand.tmp 9)), 3, none⟩,
    ⟨some 42, (Op.binOp BinOp.add 3 (Operand.tmp 41) (Operand.const (Value.int IntKind.i64 1)) 3), 3, none⟩,
    ⟨some 9, (Op.assign (Operand.tmp 42)), 3, none⟩])))
def c_gimmallaw22_HandleKnows : SF := ⟨62, [(ResultVar.tmp 4)],
  (.seq (.ops [⟨some 2, (Op.box 30 (Operand.tmp 0)), 0, none⟩,
    ⟨some 3, (Op.box 38 (Operand.tmp 1)), 0, none⟩,
    ⟨some 4, (Op.assign (Operand.const (Value.bool false))), 4, none⟩]) (.seq (.seq (.ops [⟨some 10, (Op.call ⟨(Callee.value (Operand.func 7)), #[], #[]⟩), 4, none⟩,
    ⟨some 11, (Op.unOp UnOp.not 4 (Operand.tmp 10)), 4, none⟩]) (.cond (Operand.tmp 11) (.seq (.ops [⟨some 4, (Op.assign (Operand.const (Value.bool false))), 4, none⟩]) .ret) .skip)) (.seq (.ops [⟨some 13, (Op.load 30 (Operand.tmp 2)), 30, none⟩,
    ⟨some 14, (Op.load 38 (Operand.tmp 3)), 38, none⟩,
    ⟨some 15, (Op.call ⟨(Callee.value (Operand.func 10)), #[(Operand.tmp 13), (Operand.tmp 14)], #[30, 38]⟩), 41, none⟩,
    ⟨some 12, (Op.move (Operand.tmp 15)), 41, none⟩,
    ⟨some 16, (Op.extract (Operand.tmp 12) 0), 30, none⟩,
    ⟨some 17, (Op.extract (Operand.tmp 12) 1), 39, none⟩,
    ⟨some 18, (Op.extract (Operand.tmp 12) 2), 40, none⟩,
    ⟨some 5, (Op.alloc 30), 0, none⟩,
    ⟨none, (Op.store 30 (Operand.tmp 5) (Operand.tmp 16)), 0, none⟩,
    ⟨some 6, (Op.assign (Operand.tmp 17)), 39, none⟩,
    ⟨some 7, (Op.assign (Operand.tmp 18)), 40, none⟩]) (.seq (.seq (.ops [⟨some 19, (Op.move (Operand.tmp 7)), 40, none⟩,
    ⟨some 20, (Op.call ⟨(Callee.value (Operand.func 12)), #[(Operand.tmp 19)], #[40]⟩), 3, none⟩,
    ⟨some 21, (Op.binOp BinOp.neq 3 (Operand.tmp 20) (Operand.const (Value.int IntKind.i64 0)) 3), 4, none⟩]) (.cond (Operand.tmp 21) (.seq (.ops [⟨some 22, (Op.load 30 (Operand.tmp 5)), 30, none⟩,
    ⟨some 23, (Op.build 30 #[]), 30, none⟩,
    ⟨some 24, (Op.call ⟨(Callee.value (Operand.func 11)), #[(Operand.tmp 22), (Operand.tmp 23)], #[30, 30]⟩), 4, none⟩,
    ⟨some 4, (Op.assign (Operand.tmp 24)), 4, none⟩]) .ret) .skip)) (.seq (.seq (.ops [⟨some 25, (Op.fieldAddr 38 (Operand.tmp 3) 0), 0, none⟩,
    ⟨some 26, (Op.load 3 (Operand.tmp 25)), 3, none⟩,
    ⟨some 27, (Op.binOp BinOp.neq 3 (Operand.tmp 26) (Operand.const (Value.int IntKind.i64 0)) 3), 4, none⟩]) (.cond (Operand.tmp 27) (.seq (.ops [⟨some 28, (Op.fieldAddr 30 (Operand.tmp 5) 1), 0, none⟩,
    ⟨some 29, (Op.load 26 (Operand.tmp 28)), 26, none⟩,
    ⟨some 30, (Op.fieldAddr 30 (Operand.tmp 2) 1), 0, none⟩,
    ⟨some 31, (Op.load 26 (Operand.tmp 30)), 26, none⟩,
    ⟨some 32, (Op.call ⟨(Callee.value (Operand.func 14)), #[(Operand.tmp 29), (Operand.tmp 31)], #[26, 26]⟩), 4, none⟩,
    ⟨some 4, (Op.assign (Operand.tmp 32)), 4, none⟩]) .ret) .skip)) (.seq (.ops [⟨some 33, (Op.fieldAddr 30 (Operand.tmp 5) 1), 0, none⟩,
    ⟨some 34, (Op.fieldAddr 26 (Operand.tmp 33) 1), 0, none⟩,
    ⟨some 35, (Op.load 23 (Operand.tmp 34)), 23, none⟩,
    ⟨some 36, (Op.call ⟨(Callee.value (Operand.func 18)), #[(Operand.tmp 35)], #[23]⟩), 24, none⟩,
    ⟨some 8, (Op.assign (Operand.tmp 36)), 24, none⟩]) (.seq (.seq (.ops [⟨some 9, (Op.assign (Operand.const (Value.int IntKind.i64 0))), 3, none⟩]) (.block 0 (.loop c_gimmallaw22_HandleKnows_L0))) (.seq (.ops [⟨some 52, (Op.fieldAddr 30 (Operand.tmp 2) 1), 0, none⟩,
    ⟨some 53, (Op.fieldAddr 26 (Operand.tmp 52) 1), 0, none⟩,
    ⟨some 54, (Op.load 23 (Operand.tmp 53)), 23, none⟩,
    ⟨some 55, (Op.call ⟨(Callee.builtin Builtin.len), #[(Operand.tmp 54)], #[23]⟩), 3, none⟩,
    ⟨some 56, (Op.fieldAddr 30 (Operand.tmp 2) 1), 0, none⟩,
    ⟨some 57, (Op.fieldAddr 26 (Operand.tmp 56) 2), 0, none⟩,
    ⟨some 58, (Op.load 24 (Operand.tmp 57)), 24, none⟩,
    ⟨some 59, (Op.call ⟨(Callee.builtin Builtin.len), #[(Operand.tmp 58)], #[24]⟩), 3, none⟩,
    ⟨some 60, (Op.binOp BinOp.add 3 (Operand.tmp 55) (Operand.tmp 59) 3), 3, none⟩,
    ⟨some 61, (Op.binOp BinOp.eql 3 (Operand.tmp 60) (Operand.const (Value.int IntKind.i64 16)) 3), 4, none⟩,
    ⟨some 4, (Op.assign (Operand.tmp 61)), 4, none⟩]) .ret))))))))⟩
theorem is_gimmallaw22_HandleKnows (c : Cfg) (h : c.lendT = []) : isF PP c 6 c_gimmallaw22_HandleKnows := isF_of (fn := Proofs.Try.f6) (by kernel_rfl) (by kernel_rfl) rfl h (by kernel_rfl) rfl rfl (by kernel_rfl)
def c_gimmallaw22_awake : SF := ⟨86, [(ResultVar.tmp 0)],
  (.seq (.ops [⟨some 0, (Op.assign (Operand.const (Value.bool false))), 4, none⟩]) (.seq (.ops [⟨some 11, (Op.call ⟨(Callee.value (Operand.func 8)), #[], #[]⟩), 30, none⟩,
    ⟨some 12, (Op.buildSlice 24 1 #[(0, (Operand.const (Value.int IntKind.i64 30)))]), 24, none⟩,
    ⟨some 13, (Op.build 38 #[(1, (Operand.const (Value.int IntKind.i64 7))), (2, (Operand.const (Value.int IntKind.i64 100))), (3, (Operand.tmp 12))]), 38, none⟩,
    ⟨some 14, (Op.call ⟨(Callee.value (Operand.func 10)), #[(Operand.tmp 11), (Operand.tmp 13)], #[30, 38]⟩), 41, none⟩,
    ⟨some 10, (Op.move (Operand.tmp 14)), 41, none⟩,
    ⟨some 15, (Op.extract (Operand.tmp 10) 0), 30, none⟩,
    ⟨some 16, (Op.extract (Operand.tmp 10) 1), 39, none⟩,
    ⟨some 17, (Op.extract (Operand.tmp 10) 2), 40, none⟩,
    ⟨some 1, (Op.alloc 30), 0, none⟩,
    ⟨none, (Op.store 30 (Operand.tmp 1) (Operand.tmp 15)), 0, none⟩,
    ⟨some 2, (Op.assign (Operand.tmp 16)), 39, none⟩,
    ⟨some 3, (Op.assign (Operand.tmp 17)), 40, none⟩]) (.seq (.ops [⟨some 19, (Op.call ⟨(Callee.value (Operand.func 8)), #[], #[]⟩), 30, none⟩,
    ⟨some 20, (Op.build 38 #[(0, (Operand.const (Value.int IntKind.i64 2))), (1, (Operand.const (Value.int IntKind.i64 7))), (2, (Operand.const (Value.int IntKind.i64 100))), (4, (Operand.const (Value.int IntKind.i64 95)))]), 38, none⟩,
    ⟨some 21, (Op.call ⟨(Callee.value (Operand.func 10)), #[(Operand.tmp 19), (Operand.tmp 20)], #[30, 38]⟩), 41, none⟩,
    ⟨some 18, (Op.move (Operand.tmp 21)), 41, none⟩,
    ⟨some 22, (Op.extract (Operand.tmp 18) 0), 30, none⟩,
    ⟨some 23, (Op.extract (Operand.tmp 18) 1), 39, none⟩,
    ⟨some 24, (Op.extract (Operand.tmp 18) 2), 40, none⟩,
    ⟨some 4, (Op.alloc 30), 0, none⟩,
    ⟨none, (Op.store 30 (Operand.tmp 4) (Operand.tmp 22)), 0, none⟩,
    ⟨some 5, (Op.assign (Operand.tmp 23)), 39, none⟩,
    ⟨some 6, (Op.assign (Operand.tmp 24)), 40, none⟩]) (.seq (.ops [⟨some 26, (Op.call ⟨(Callee.value (Operand.func 8)), #[], #[]⟩), 30, none⟩,
    ⟨some 27, (Op.build 38 #[(1, (Operand.const (Value.int IntKind.i64 7))), (2, (Operand.const (Value.int IntKind.i64 101)))]), 38, none⟩,
    ⟨some 28, (Op.call ⟨(Callee.value (Operand.func 10)), #[(Operand.tmp 26), (Operand.tmp 27)], #[30, 38]⟩), 41, none⟩,
    ⟨some 25, (Op.move (Operand.tmp 28)), 41, none⟩,
    ⟨some 29, (Op.extract (Operand.tmp 25) 0), 30, none⟩,
    ⟨some 30, (Op.extract (Operand.tmp 25) 1), 39, none⟩,
    ⟨some 31, (Op.extract (Operand.tmp 25) 2), 40, none⟩,
    ⟨some 7, (Op.alloc 30), 0, none⟩,
    ⟨none, (Op.store 30 (Operand.tmp 7) (Operand.tmp 29)), 0, none⟩,
    ⟨some 8, (Op.assign (Operand.tmp 30)), 39, none⟩,
    ⟨some 9, (Op.assign (Operand.tmp 31)), 40, none⟩]) (.seq (.seq (.ops [⟨some 32, (Op.move (Operand.tmp 5)), 39, none⟩,
    ⟨some 33, (Op.call ⟨(Callee.builtin Builtin.len), #[(Operand.tmp 32)], #[39]⟩), 3, none⟩,
    ⟨some 34, (Op.binOp BinOp.neq 3 (Operand.tmp 33) (Operand.const (Value.int IntKind.i64 1)) 3), 4, none⟩]) (.cond (Operand.tmp 34) (.seq (.ops [⟨some 0, (Op.assign (Operand.const (Value.bool false))), 4, none⟩]) .ret) .skip)) (.seq (.ops [⟨some 35, (Op.fieldAddr 30 (Operand.tmp 1) 1), 0, none⟩,
    ⟨some 36, (Op.fieldAddr 26 (Operand.tmp 35) 1), 0, none⟩,
    ⟨some 37, (Op.load 23 (Operand.tmp 36)), 23, none⟩,
    ⟨some 38, (Op.call ⟨(Callee.builtin Builtin.len), #[(Operand.tmp 37)], #[23]⟩), 3, none⟩,
    ⟨some 39, (Op.binOp BinOp.eql 3 (Operand.tmp 38) (Operand.const (Value.int IntKind.i64 5)) 3), 4, none⟩,
    ⟨some 40, (Op.move (Operand.tmp 39)), 4, none⟩,
    ⟨some 41, (Op.fieldAddr 30 (Operand.tmp 1) 1), 0, some (40, true)⟩,
    ⟨some 42, (Op.fieldAddr 26 (Operand.tmp 41) 2), 0, some (40, true)⟩,
    ⟨some 43, (Op.load 24 (Operand.tmp 42)), 24, some (40, true)⟩,
    ⟨some 44, (Op.call ⟨(Callee.builtin Builtin.len), #[(Operand.tmp 43)], #[24]⟩), 3, some (40, true)⟩,
    ⟨some 45, (Op.binOp BinOp.eql 3 (Operand.tmp 44) (Operand.const (Value.int IntKind.i64 0)) 3), 4, some (40, true)⟩,
    ⟨some 46, (Op.pick (Operand.tmp 40) (Operand.tmp 45) (Operand.const (Value.bool false))), 4, none⟩,
    ⟨some 47, (Op.move (Operand.tmp 46)), 4, none⟩,
    ⟨some 48, (Op.move (Operand.tmp 2)), 39, some (47, true)⟩,
    ⟨some 49, (Op.call ⟨(Callee.builtin Builtin.len), #[(Operand.tmp 48)], #[39]⟩), 3, some (47, true)⟩,
    ⟨some 50, (Op.binOp BinOp.eql 3 (Operand.tmp 49) (Operand.const (Value.int IntKind.i64 0)) 3), 4, some (47, true)⟩,
    ⟨some 51, (Op.pick (Operand.tmp 47) (Operand.tmp 50) (Operand.const (Value.bool false))), 4, none⟩,
    ⟨some 52, (Op.move (Operand.tmp 51)), 4, none⟩,
    ⟨some 53, (Op.move (Operand.tmp 3)), 40, some (52, true)⟩,
    ⟨some 54, (Op.call ⟨(Callee.value (Operand.func 12)), #[(Operand.tmp 53)], #[40]⟩), 3, some (52, true)⟩,
    ⟨some 55, (Op.binOp BinOp.eql 3 (Operand.tmp 54) (Operand.const (Value.int IntKind.i64 0)) 3), 4, some (52, true)⟩,
    ⟨some 56, (Op.pick (Operand.tmp 52) (Operand.tmp 55) (Operand.const (Value.bool false))), 4, none⟩,
    ⟨some 57, (Op.move (Operand.tmp 56)), 4, none⟩,
    ⟨some 58, (Op.load 30 (Operand.tmp 4)), 30, some (57, true)⟩,
    ⟨some 59, (Op.call ⟨(Callee.value (Operand.func 8)), #[], #[]⟩), 30, some (57, true)⟩,
    ⟨some 60, (Op.call ⟨(Callee.value (Operand.func 11)), #[(Operand.tmp 58), (Operand.tmp 59)], #[30, 30]⟩), 4, some (57, true)⟩,
    ⟨some 61, (Op.pick (Operand.tmp 57) (Operand.tmp 60) (Operand.const (Value.bool false))), 4, none⟩,
    ⟨some 62, (Op.move (Operand.tmp 61)), 4, none⟩,
    ⟨some 63, (Op.move (Operand.tmp 5)), 39, some (62, true)⟩,
    ⟨some 64, (Op.indexAddr 39 (Operand.tmp 63) (Operand.const (Value.int IntKind.i64 0))), 0, some (62, true)⟩,
    ⟨some 65, (Op.fieldAddr 38 (Operand.tmp 64) 0), 0, some (62, true)⟩,
    ⟨some 66, (Op.load 3 (Operand.tmp 65)), 3, some (62, true)⟩,
    ⟨some 67, (Op.binOp BinOp.eql 3 (Operand.tmp 66) (Operand.const (Value.int IntKind.i64 3)) 3), 4, some (62, true)⟩,
    ⟨some 68, (Op.pick (Operand.tmp 62) (Operand.tmp 67) (Operand.const (Value.bool false))), 4, none⟩,
    ⟨some 69, (Op.move (Operand.tmp 68)), 4, none⟩,
    ⟨some 70, (Op.move (Operand.tmp 5)), 39, some (69, true)⟩,
    ⟨some 71, (Op.indexAddr 39 (Operand.tmp 70) (Operand.const (Value.int IntKind.i64 0))), 0, some (69, true)⟩,
    ⟨some 72, (Op.fieldAddr 38 (Operand.tmp 71) 2), 0, some (69, true)⟩,
    ⟨some 73, (Op.load 3 (Operand.tmp 72)), 3, some (69, true)⟩,
    ⟨some 74, (Op.binOp BinOp.eql 3 (Operand.tmp 73) (Operand.const (Value.int IntKind.i64 7)) 3), 4, some (69, true)⟩,
    ⟨some 75, (Op.pick (Operand.tmp 69) (Operand.tmp 74) (Operand.const (Value.bool false))), 4, none⟩,
    ⟨some 76, (Op.move (Operand.tmp 75)), 4, none⟩,
    ⟨some 77, (Op.move (Operand.tmp 6)), 40, some (76, true)⟩,
    ⟨some 78, (Op.call ⟨(Callee.value (Operand.func 12)), #[(Operand.tmp 77)], #[40]⟩), 3, some (76, true)⟩,
    ⟨some 79, (Op.binOp BinOp.eql 3 (Operand.tmp 78) (Operand.const (Value.int IntKind.i64 0)) 3), 4, some (76, true)⟩,
    ⟨some 80, (Op.pick (Operand.tmp 76) (Operand.tmp 79) (Operand.const (Value.bool false))), 4, none⟩,
    ⟨some 81, (Op.move (Operand.tmp 80)), 4, none⟩,
    ⟨some 82, (Op.move (Operand.tmp 9)), 40, some (81, true)⟩,
    ⟨some 83, (Op.call ⟨(Callee.value (Operand.func 12)), #[(Operand.tmp 82)], #[40]⟩), 3, some (81, true)⟩,
    ⟨some 84, (Op.binOp BinOp.eql 3 (Operand.tmp 83) (Operand.const (Value.int IntKind.i64 2200)) 3), 4, some (81, true)⟩,
    ⟨some 85, (Op.pick (Operand.tmp 81) (Operand.tmp 84) (Operand.const (Value.bool false))), 4, none⟩,
    ⟨some 0, (Op.assign (Operand.tmp 85)), 4, none⟩]) .ret))))))⟩
theorem is_gimmallaw22_awake (c : Cfg) (h : c.lendT = []) : isF PP c 7 c_gimmallaw22_awake := isF_of (fn := Proofs.Try.f7) (by kernel_rfl) (by kernel_rfl) rfl h (by kernel_rfl) rfl rfl (by kernel_rfl)
def c_gimmallaw22_node100 : SF := ⟨12, [(ResultVar.cell 0 30)],
  (.seq (.ops [⟨some 0, (Op.alloc 30), 0, none⟩]) (.seq (.ops [⟨some 1, (Op.build 54 #[(0, (Operand.const (Value.int IntKind.i64 101))), (1, (Operand.const (Value.int IntKind.i64 2)))]), 54, none⟩,
    ⟨some 2, (Op.build 54 #[(0, (Operand.const (Value.int IntKind.i64 200)))]), 54, none⟩,
    ⟨some 3, (Op.build 54 #[(0, (Operand.const (Value.int IntKind.i64 90))), (1, (Operand.const (Value.int IntKind.i64 1)))]), 54, none⟩,
    ⟨some 4, (Op.buildSlice 23 3 #[(0, (Operand.tmp 1)), (1, (Operand.tmp 2)), (2, (Operand.tmp 3))]), 23, none⟩,
    ⟨some 5, (Op.buildSlice 24 1 #[(0, (Operand.const (Value.int IntKind.i64 7)))]), 24, none⟩,
    ⟨some 6, (Op.build 26 #[(0, (Operand.const (Value.int IntKind.i64 100))), (1, (Operand.tmp 4)), (2, (Operand.tmp 5))]), 26, none⟩,
    ⟨some 7, (Op.call ⟨(Callee.value (Operand.func 9)), #[(Operand.const (Value.int IntKind.i64 95)), (Operand.const (Value.int IntKind.i64 1))], #[3, 3]⟩), 35, none⟩,
    ⟨some 8, (Op.call ⟨(Callee.value (Operand.func 9)), #[(Operand.const (Value.int IntKind.i64 99)), (Operand.const (Value.int IntKind.i64 3))], #[3, 3]⟩), 35, none⟩,
    ⟨some 9, (Op.call ⟨(Callee.value (Operand.func 9)), #[(Operand.const (Value.int IntKind.i64 250)), (Operand.const (Value.int IntKind.i64 2))], #[3, 3]⟩), 35, none⟩,
    ⟨some 10, (Op.buildSlice 27 3 #[(0, (Operand.tmp 7)), (1, (Operand.tmp 8)), (2, (Operand.tmp 9))]), 27, none⟩,
    ⟨some 11, (Op.build 30 #[(0, (Operand.const (Value.bool true))), (1, (Operand.tmp 6)), (2, (Operand.tmp 10))]), 30, none⟩,
    ⟨none, (Op.store 30 (Operand.tmp 0) (Operand.tmp 11)), 0, none⟩]) .ret))⟩
theorem is_gimmallaw22_node100 (c : Cfg) (h : c.lendT = []) : isF PP c 8 c_gimmallaw22_node100 := isF_of (fn := Proofs.Try.f8) (by kernel_rfl) (by kernel_rfl) rfl h (by kernel_rfl) rfl rfl (by kernel_rfl)
def c_gimmallaw22_it : SF := ⟨11, [(ResultVar.cell 4 35)],
  (.seq (.ops [⟨some 4, (Op.alloc 35), 0, none⟩]) (.seq (.ops [⟨some 5, (Op.move (Operand.tmp 0)), 3, none⟩,
    ⟨some 6, (Op.move (Operand.tmp 1)), 3, none⟩,
    ⟨some 7, (Op.build 33 #[(0, (Operand.tmp 6)), (1, (Operand.const (Value.int IntKind.i64 1)))]), 33, none⟩,
    ⟨some 8, (Op.move (Operand.tmp 1)), 3, none⟩,
    ⟨some 9, (Op.binOp BinOp.and 3 (Operand.tmp 8) (Operand.const (Value.int IntKind.i64 255)) 3), 3, none⟩,
    ⟨some 10, (Op.build 35 #[(0, (Operand.tmp 5)), (1, (Operand.tmp 7)), (2, (Operand.tmp 9))]), 35, none⟩,
    ⟨none, (Op.store 35 (Operand.tmp 4) (Operand.tmp 10)), 0, none⟩]) .ret))⟩
theorem is_gimmallaw22_it (c : Cfg) (h : c.lendT = []) : isF PP c 9 c_gimmallaw22_it := isF_of (fn := Proofs.Try.f9) (by kernel_rfl) (by kernel_rfl) rfl h (by kernel_rfl) rfl rfl (by kernel_rfl)
def c_handle_Do : SF := ⟨53, [(ResultVar.cell 4 30), (ResultVar.tmp 5), (ResultVar.tmp 6)],
  (.seq (.ops [⟨some 2, (Op.box 30 (Operand.tmp 0)), 0, none⟩,
    ⟨some 3, (Op.box 38 (Operand.tmp 1)), 0, none⟩,
    ⟨some 4, (Op.alloc 30), 0, none⟩,
    ⟨some 5, (Op.assign (Operand.const (Value.slice none 0 0))), 39, none⟩,
    ⟨some 6, (Op.assign (Operand.const (Value.int IntKind.i64 0))), 40, none⟩]) (.seq (.seq (.ops [⟨some 9, (Op.load 30 (Operand.tmp 2)), 30, none⟩,
    ⟨some 10, (Op.call ⟨(Callee.value (Operand.func 19)), #[(Operand.tmp 9)], #[30]⟩), 4, none⟩,
    ⟨some 11, (Op.unOp UnOp.not 4 (Operand.tmp 10)), 4, none⟩,
    ⟨some 12, (Op.move (Operand.tmp 11)), 4, none⟩,
    ⟨some 13, (Op.load 38 (Operand.tmp 3)), 38, some (12, false)⟩,
    ⟨some 14, (Op.call ⟨(Callee.value (Operand.func 20)), #[(Operand.tmp 13)], #[38]⟩), 4, some (12, false)⟩,
    ⟨some 15, (Op.unOp UnOp.not 4 (Operand.tmp 14)), 4, some (12, false)⟩,
    ⟨some 16, (Op.pick (Operand.tmp 12) (Operand.const (Value.bool true)) (Operand.tmp 15)), 4, none⟩,
    ⟨some 17, (Op.move (Operand.tmp 16)), 4, none⟩,
    ⟨some 18, (Op.fieldAddr 38 (Operand.tmp 3) 2), 0, some (17, false)⟩,
    ⟨some 19, (Op.load 3 (Operand.tmp 18)), 3, some (17, false)⟩,
    ⟨some 20, (Op.fieldAddr 30 (Operand.tmp 2) 1), 0, some (17, false)⟩,
    ⟨some 21, (Op.fieldAddr 26 (Operand.tmp 20) 0), 0, some (17, false)⟩,
    ⟨some 22, (Op.load 3 (Operand.tmp 21)), 3, some (17, false)⟩,
    ⟨some 23, (Op.binOp BinOp.neq 3 (Operand.tmp 19) (Operand.tmp 22) 3), 4, some (17, false)⟩,
    ⟨some 24, (Op.pick (Operand.tmp 17) (Operand.const (Value.bool true)) (Operand.tmp 23)), 4, none⟩]) (.cond (Operand.tmp 24) (.seq (.ops [⟨some 25, (Op.build 30 #[]), 30, none⟩,
    ⟨none, (Op.store 30 (Operand.tmp 4) (Operand.tmp 25)), 0, none⟩,
    ⟨some 5, (Op.assign (Operand.const (Value.slice none 0 0))), 39, none⟩,
    ⟨some 6, (Op.assign (Operand.const (Value.int IntKind.i64 2200))), 40, none⟩]) .ret) .skip)) (.seq (.ops [⟨some 26, (Op.load 30 (Operand.tmp 2)), 30, none⟩,
    ⟨some 27, (Op.call ⟨(Callee.value (Operand.func 21)), #[(Operand.tmp 26)], #[30]⟩), 30, none⟩,
    ⟨some 28, (Op.build 58 #[(0, (Operand.tmp 27))]), 58, none⟩,
    ⟨some 29, (Op.box 58 (Operand.tmp 28)), 55, none⟩,
    ⟨some 7, (Op.assign (Operand.tmp 29)), 55, none⟩]) (.seq (.ops [⟨some 30, (Op.move (Operand.tmp 7)), 55, none⟩,
    ⟨some 31, (Op.makeFunc (Fn.func 22) #[(Operand.tmp 30)] #[]), 59, none⟩,
    ⟨some 32, (Op.move (Operand.tmp 7)), 55, none⟩,
    ⟨some 33, (Op.makeFunc (Fn.func 23) #[(Operand.tmp 32)] #[]), 59, none⟩,
    ⟨some 34, (Op.move (Operand.tmp 7)), 55, none⟩,
    ⟨some 35, (Op.makeFunc (Fn.func 24) #[(Operand.tmp 34)] #[]), 59, none⟩,
    ⟨some 36, (Op.move (Operand.tmp 7)), 55, none⟩,
    ⟨some 37, (Op.makeFunc (Fn.func 25) #[(Operand.tmp 36)] #[]), 59, none⟩,
    ⟨some 38, (Op.build 60 #[(0, (Operand.tmp 31)), (1, (Operand.tmp 33)), (2, (Operand.tmp 35)), (3, (Operand.tmp 37))]), 60, none⟩,
    ⟨some 8, (Op.alloc 60), 0, none⟩,
    ⟨none, (Op.store 60 (Operand.tmp 8) (Operand.tmp 38)), 0, none⟩]) (.seq (.ops [⟨some 39, (Op.fieldAddr 38 (Operand.tmp 3) 0), 0, none⟩,
    ⟨some 40, (Op.load 3 (Operand.tmp 39)), 3, none⟩,
    ⟨some 41, (Op.indexAddr 60 (Operand.tmp 8) (Operand.tmp 40)), 0, none⟩,
    ⟨some 42, (Op.load 59 (Operand.tmp 41)), 59, none⟩,
    ⟨some 43, (Op.load 38 (Operand.tmp 3)), 38, none⟩,
    ⟨some 44, (Op.call ⟨(Callee.value (Operand.tmp 42)), #[(Operand.tmp 43)], #[38]⟩), 0, none⟩]) (.seq (.alts [[⟨some 45, (Op.move (Operand.tmp 7)), 55, none⟩,
    ⟨some 46, (Op.nilCheck (Operand.tmp 45)), 0, none⟩,
    ⟨some 47, (Op.fieldAddr 58 (Operand.tmp 46) 0), 0, none⟩,
    ⟨some 48, (Op.load 30 (Operand.tmp 47)), 30, none⟩,
    ⟨some 49, (Op.move (Operand.tmp 7)), 55, none⟩,
    ⟨some 50, (Op.nilCheck (Operand.tmp 49)), 0, none⟩,
    ⟨some 51, (Op.fieldAddr 58 (Operand.tmp 50) 1), 0, none⟩,
    ⟨some 52, (Op.load 39 (Operand.tmp 51)), 39, none⟩,
    ⟨none, (Op.store 30 (Operand.tmp 4) (Operand.tmp 48)), 0, none⟩,
    ⟨some 5, (Op.assign (Operand.tmp 52)), 39, none⟩,
    ⟨some 6, (Op.assign (Operand.const (Value.int IntKind.i64 0))), 40, none⟩],
    [⟨some 45, (Op.move (Operand.tmp 7)), 55, none⟩,
    ⟨some 46, (Op.nilCheck (Operand.tmp 45)), 0, none⟩,
    ⟨some 47, (Op.fieldAddr 58 (Operand.tmp 46) 0), 0, none⟩,
    ⟨some 48, (Op.load 30 (Operand.tmp 47)), 30, none⟩,
    ⟨some 49, (Op.move (Operand.tmp 7)), 55, none⟩,
    ⟨some 50, (Op.nilCheck (Operand.tmp 49)), 0, none⟩,
    ⟨some 51, (Op.fieldAddr 58 (Operand.tmp 50) 1), 0, none⟩,
    ⟨none, (Op.store 30 (Operand.tmp 4) (Operand.tmp 48)), 0, none⟩,
    ⟨some 52, (Op.load 39 (Operand.tmp 51)), 39, none⟩,
    ⟨some 5, (Op.assign (Operand.tmp 52)), 39, none⟩,
    ⟨some 6, (Op.assign (Operand.const (Value.int IntKind.i64 0))), 40, none⟩],
    [⟨some 45, (Op.move (Operand.tmp 7)), 55, none⟩,
    ⟨some 46, (Op.nilCheck (Operand.tmp 45)), 0, none⟩,
    ⟨some 47, (Op.fieldAddr 58 (Operand.tmp 46) 0), 0, none⟩,
    ⟨some 48, (Op.load 30 (Operand.tmp 47)), 30, none⟩,
    ⟨some 49, (Op.move (Operand.tmp 7)), 55, none⟩,
    ⟨some 50, (Op.nilCheck (Operand.tmp 49)), 0, none⟩,
    ⟨none, (Op.store 30 (Operand.tmp 4) (Operand.tmp 48)), 0, none⟩,
    ⟨some 51, (Op.fieldAddr 58 (Operand.tmp 50) 1), 0, none⟩,
    ⟨some 52, (Op.load 39 (Operand.tmp 51)), 39, none⟩,
    ⟨some 5, (Op.assign (Operand.tmp 52)), 39, none⟩,
    ⟨some 6, (Op.assign (Operand.const (Value.int IntKind.i64 0))), 40, none⟩],
    [⟨some 45, (Op.move (Operand.tmp 7)), 55, none⟩,
    ⟨some 46, (Op.nilCheck (Operand.tmp 45)), 0, none⟩,
    ⟨some 47, (Op.fieldAddr 58 (Operand.tmp 46) 0), 0, none⟩,
    ⟨some 48, (Op.load 30 (Operand.tmp 47)), 30, none⟩,
    ⟨some 49, (Op.move (Operand.tmp 7)), 55, none⟩,
    ⟨none, (Op.store 30 (Operand.tmp 4) (Operand.tmp 48)), 0, none⟩,
    ⟨some 50, (Op.nilCheck (Operand.tmp 49)), 0, none⟩,
    ⟨some 51, (Op.fieldAddr 58 (Operand.tmp 50) 1), 0, none⟩,
    ⟨some 52, (Op.load 39 (Operand.tmp 51)), 39, none⟩,
    ⟨some 5, (Op.assign (Operand.tmp 52)), 39, none⟩,
    ⟨some 6, (Op.assign (Operand.const (Value.int IntKind.i64 0))), 40, none⟩]]) .ret))))))⟩
theorem is_handle_Do (c : Cfg) (h : c.lendT = [43]) : isF PP c 10 c_handle_Do := isF_of (fn := Proofs.Try.f10) (by kernel_rfl) (by kernel_rfl) rfl h (by kernel_rfl) rfl rfl (by kernel_rfl)
def c_gimmallaw0_SameNode : SF := ⟨31, [(ResultVar.tmp 4)],
  (.seq (.ops [⟨some 2, (Op.box 30 (Operand.tmp 0)), 0, none⟩,
    ⟨some 3, (Op.box 30 (Operand.tmp 1)), 0, none⟩,
    ⟨some 4, (Op.assign (Operand.const (Value.bool false))), 4, none⟩]) (.seq (.ops [⟨some 5, (Op.fieldAddr 30 (Operand.tmp 2) 0), 0, none⟩,
    ⟨some 6, (Op.load 4 (Operand.tmp 5)), 4, none⟩,
    ⟨some 7, (Op.fieldAddr 30 (Operand.tmp 3) 0), 0, none⟩,
    ⟨some 8, (Op.load 4 (Operand.tmp 7)), 4, none⟩,
    ⟨some 9, (Op.binOp BinOp.eql 4 (Operand.tmp 6) (Operand.tmp 8) 4), 4, none⟩,
    ⟨some 10, (Op.move (Operand.tmp 9)), 4, none⟩,
    ⟨some 11, (Op.fieldAddr 30 (Operand.tmp 2) 1), 0, some (10, true)⟩,
    ⟨some 12, (Op.load 26 (Operand.tmp 11)), 26, some (10, true)⟩,
    ⟨some 13, (Op.fieldAddr 30 (Operand.tmp 3) 1), 0, some (10, true)⟩,
    ⟨some 14, (Op.load 26 (Operand.tmp 13)), 26, some (10, true)⟩,
    ⟨some 15, (Op.call ⟨(Callee.value (Operand.func 14)), #[(Operand.tmp 12), (Operand.tmp 14)], #[26, 26]⟩), 4, some (10, true)⟩,
    ⟨some 16, (Op.pick (Operand.tmp 10) (Operand.tmp 15) (Operand.const (Value.bool false))), 4, none⟩,
    ⟨some 17, (Op.move (Operand.tmp 16)), 4, none⟩,
    ⟨some 18, (Op.fieldAddr 30 (Operand.tmp 2) 2), 0, some (17, true)⟩,
    ⟨some 19, (Op.load 27 (Operand.tmp 18)), 27, some (17, true)⟩,
    ⟨some 20, (Op.fieldAddr 30 (Operand.tmp 3) 2), 0, some (17, true)⟩,
    ⟨some 21, (Op.load 27 (Operand.tmp 20)), 27, some (17, true)⟩,
    ⟨some 22, (Op.call ⟨(Callee.value (Operand.func 15)), #[(Operand.tmp 19), (Operand.tmp 21)], #[27, 27]⟩), 4, some (17, true)⟩,
    ⟨some 23, (Op.pick (Operand.tmp 17) (Operand.tmp 22) (Operand.const (Value.bool false))), 4, none⟩,
    ⟨some 24, (Op.move (Operand.tmp 23)), 4, none⟩,
    ⟨some 25, (Op.fieldAddr 30 (Operand.tmp 2) 3), 0, some (24, true)⟩,
    ⟨some 26, (Op.load 28 (Operand.tmp 25)), 28, some (24, true)⟩,
    ⟨some 27, (Op.fieldAddr 30 (Operand.tmp 3) 3), 0, some (24, true)⟩,
    ⟨some 28, (Op.load 28 (Operand.tmp 27)), 28, some (24, true)⟩,
    ⟨some 29, (Op.call ⟨(Callee.value (Operand.func 16)), #[(Operand.tmp 26), (Operand.tmp 28)], #[28, 28]⟩), 4, some (24, true)⟩,
    ⟨some 30, (Op.pick (Operand.tmp 24) (Operand.tmp 29) (Operand.const (Value.bool false))), 4, none⟩,
    ⟨some 4, (Op.assign (Operand.tmp 30)), 4, none⟩]) .ret))⟩
theorem is_gimmallaw0_SameNode (c : Cfg) (h : c.lendT = []) : isF PP c 11 c_gimmallaw0_SameNode := isF_of (fn := Proofs.Try.f11) (by kernel_rfl) (by kernel_rfl) rfl h (by kernel_rfl) rfl rfl (by kernel_rfl)
def c_gimmallaw0_Num : SF := ⟨4, [(ResultVar.tmp 2)],
  (.seq (.ops [⟨some 2, (Op.assign (Operand.const (Value.int IntKind.i64 0))), 3, none⟩]) (.seq (.ops [⟨some 3, (Op.move (Operand.tmp 0)), 40, none⟩,
    ⟨some 2, (Op.assign (Operand.tmp 3)), 3, none⟩]) .ret))⟩
theorem is_gimmallaw0_Num (c : Cfg) (h : c.lendT = []) : isF PP c 12 c_gimmallaw0_Num := isF_of (fn := Proofs.Try.f12) (by kernel_rfl) (by kernel_rfl) rfl h (by kernel_rfl) rfl rfl (by kernel_rfl)
def c_gimmalref16_NodeMay_L0 : SC := (.seq (.seq (.ops [⟨some 32, (Op.move (Operand.tmp 3)), 3, none⟩,
    ⟨some 33, (Op.fieldAddr 30 (Operand.tmp 1) 3), 0, none⟩,
    ⟨some 34, (Op.load 28 (Operand.tmp 33)), 28, none⟩,
    ⟨some 35, (Op.call ⟨(Callee.builtin Builtin.len), #[(Operand.tmp 34)], #[28]⟩), 3, none⟩,
    ⟨some 36, (Op.binOp BinOp.lss 3 (Operand.tmp 32) (Operand.tmp 35) 3), 4, none⟩]) (.cond (Operand.tmp 36) .skip (.exit 0))) (.seq (.block 1 (.seq (.ops [⟨some 39, (Op.fieldAddr 30 (Operand.tmp 1) 3), 0, none⟩,
    ⟨some 40, (Op.load 28 (Operand.tmp 39)), 28, none⟩,
    ⟨some 41, (Op.move (Operand.tmp 3)), 3, none⟩,
    ⟨some 42, (Op.indexAddr 28 (Operand.tmp 40) (Operand.tmp 41)), 0, none⟩,
    ⟨some 43, (Op.load 63 (Operand.tmp 42)), 63, none⟩,
    ⟨some 4, (Op.alloc 63), 0, none⟩,
    ⟨none, (Op.store 63 (Operand.tmp 4) (Operand.tmp 43)), 0, none⟩]) (.seq (.ops [⟨some 44, (Op.fieldAddr 63 (Operand.tmp 4) 0), 0, none⟩,
    ⟨some 45, (Op.load 3 (Operand.tmp 44)), 3, none⟩,
    ⟨some 46, (Op.call ⟨(Callee.value (Operand.func 27)), #[(Operand.tmp 45)], #[3]⟩), 4, none⟩,
    ⟨some 47, (Op.unOp UnOp.not 4 (Operand.tmp 46)), 4, none⟩,
    ⟨some 48, (Op.move (Operand.tmp 47)), 4, none⟩,
    ⟨some 49, (Op.fieldAddr 63 (Operand.tmp 4) 2), 0, some (48, false)⟩,
    ⟨some 50, (Op.load 3 (Operand.tmp 49)), 3, some (48, false)⟩,
    ⟨some 51, (Op.call ⟨(Callee.value (Operand.func 27)), #[(Operand.tmp 50)], #[3]⟩), 4, some (48, false)⟩,
    ⟨some 52, (Op.unOp UnOp.not 4 (Operand.tmp 51)), 4, some (48, false)⟩,
    ⟨some 53, (Op.pick (Operand.tmp 48) (Operand.const (Value.bool true)) (Operand.tmp 52)), 4, none⟩,
    ⟨some 54, (Op.move (Operand.tmp 53)), 4, none⟩,
    ⟨some 55, (Op.fieldAddr 63 (Operand.tmp 4) 1), 0, some (54, false)⟩,
    ⟨some 56, (Op.load 4 (Operand.tmp 55)), 4, some (54, false)⟩,
    ⟨some 57, (Op.unOp UnOp.not 4 (Operand.tmp 56)), 4, some (54, false)⟩,
    ⟨some 58, (Op.move (Operand.tmp 57)), 4, some (54, false)⟩,
    ⟨some 59, (Op.fieldAddr 63 (Operand.tmp 4) 2), 0, some (58, true)⟩,
    ⟨some 60, (Op.load 3 (Operand.tmp 59)), 3, some (58, true)⟩,
    ⟨some 61, (Op.binOp BinOp.neq 3 (Operand.tmp 60) (Operand.const (Value.int IntKind.i64 0)) 3), 4, some (58, true)⟩,
    ⟨some 62, (Op.pick (Operand.tmp 58) (Operand.tmp 61) (Operand.const (Value.bool false))), 4, some (54, false)⟩,
    ⟨some 63, (Op.pick (Operand.tmp 54) (Operand.const (Value.bool true)) (Operand.tmp 62)), 4, none⟩]) (.cond (Operand.tmp 63) (.seq (.ops [⟨some 2, (Op.assign (Operand.const (Value.bool false))), 4, none⟩]) .ret) .skip)))) (.ops [⟨some 37, (Op.move (Operand.tmp 3)), 3, none⟩,
    ⟨some 38, (Op.binOp BinOp.add 3 (Operand.tmp 37) (Operand.const (Value.int IntKind.i64 1)) 3), 3, none⟩,
    ⟨some 3, (Op.assign (Operand.tmp 38)), 3, none⟩])))
def c_gimmalref16_NodeMay : SF := ⟨78, [(ResultVar.tmp 2)],
  (.seq (.ops [⟨some 1, (Op.box 30 (Operand.tmp 0)), 0, none⟩,
    ⟨some 2, (Op.assign (Operand.const (Value.bool false))), 4, none⟩]) (.seq (.seq (.ops [⟨some 5, (Op.fieldAddr 30 (Operand.tmp 1) 0), 0, none⟩,
    ⟨some 6, (Op.load 4 (Operand.tmp 5)), 4, none⟩,
    ⟨some 7, (Op.unOp UnOp.not 4 (Operand.tmp 6)), 4, none⟩]) (.cond (Operand.tmp 7) (.seq (.ops [⟨some 8, (Op.fieldAddr 30 (Operand.tmp 1) 1), 0, none⟩,
    ⟨some 9, (Op.fieldAddr 26 (Operand.tmp 8) 1), 0, none⟩,
    ⟨some 10, (Op.load 23 (Operand.tmp 9)), 23, none⟩,
    ⟨some 11, (Op.call ⟨(Callee.builtin Builtin.len), #[(Operand.tmp 10)], #[23]⟩), 3, none⟩,
    ⟨some 12, (Op.fieldAddr 30 (Operand.tmp 1) 1), 0, none⟩,
    ⟨some 13, (Op.fieldAddr 26 (Operand.tmp 12) 2), 0, none⟩,
    ⟨some 14, (Op.load 24 (Operand.tmp 13)), 24, none⟩,
    ⟨some 15, (Op.call ⟨(Callee.builtin Builtin.len), #[(Operand.tmp 14)], #[24]⟩), 3, none⟩,
    ⟨some 16, (Op.binOp BinOp.add 3 (Operand.tmp 11) (Operand.tmp 15) 3), 3, none⟩,
    ⟨some 17, (Op.fieldAddr 30 (Operand.tmp 1) 2), 0, none⟩,
    ⟨some 18, (Op.load 27 (Operand.tmp 17)), 27, none⟩,
    ⟨some 19, (Op.call ⟨(Callee.builtin Builtin.len), #[(Operand.tmp 18)], #[27]⟩), 3, none⟩,
    ⟨some 20, (Op.binOp BinOp.add 3 (Operand.tmp 16) (Operand.tmp 19) 3), 3, none⟩,
    ⟨some 21, (Op.fieldAddr 30 (Operand.tmp 1) 3), 0, none⟩,
    ⟨some 22, (Op.load 28 (Operand.tmp 21)), 28, none⟩,
    ⟨some 23, (Op.call ⟨(Callee.builtin Builtin.len), #[(Operand.tmp 22)], #[28]⟩), 3, none⟩,
    ⟨some 24, (Op.binOp BinOp.add 3 (Operand.tmp 20) (Operand.tmp 23) 3), 3, none⟩,
    ⟨some 25, (Op.binOp BinOp.eql 3 (Operand.tmp 24) (Operand.const (Value.int IntKind.i64 0)) 3), 4, none⟩,
    ⟨some 26, (Op.move (Operand.tmp 25)), 4, none⟩,
    ⟨some 27, (Op.fieldAddr 30 (Operand.tmp 1) 1), 0, some (26, true)⟩,
    ⟨some 28, (Op.fieldAddr 26 (Operand.tmp 27) 0), 0, some (26, true)⟩,
    ⟨some 29, (Op.load 3 (Operand.tmp 28)), 3, some (26, true)⟩,
    ⟨some 30, (Op.call ⟨(Callee.value (Operand.func 26)), #[(Operand.tmp 29)], #[3]⟩), 4, some (26, true)⟩,
    ⟨some 31, (Op.pick (Operand.tmp 26) (Operand.tmp 30) (Operand.const (Value.bool false))), 4, none⟩,
    ⟨some 2, (Op.assign (Operand.tmp 31)), 4, none⟩]) .ret) .skip)) (.seq (.seq (.ops [⟨some 3, (Op.assign (Operand.const (Value.int IntKind.i64 0))), 3, none⟩]) (.block 0 (.loop c_gimmalref16_NodeMay_L0))) (.seq (.ops [⟨some 64, (Op.fieldAddr 30 (Operand.tmp 1) 1), 0, none⟩,
    ⟨some 65, (Op.load 26 (Operand.tmp 64)), 26, none⟩,
    ⟨some 66, (Op.call ⟨(Callee.value (Operand.func 28)), #[(Operand.tmp 65)], #[26]⟩), 4, none⟩,
    ⟨some 67, (Op.move (Operand.tmp 66)), 4, none⟩,
    ⟨some 68, (Op.fieldAddr 30 (Operand.tmp 1) 2), 0, some (67, true)⟩,
    ⟨some 69, (Op.load 27 (Operand.tmp 68)), 27, some (67, true)⟩,
    ⟨some 70, (Op.call ⟨(Callee.value (Operand.func 29)), #[(Operand.tmp 69)], #[27]⟩), 4, some (67, true)⟩,
    ⟨some 71, (Op.pick (Operand.tmp 67) (Operand.tmp 70) (Operand.const (Value.bool false))), 4, none⟩,
    ⟨some 72, (Op.move (Operand.tmp 71)), 4, none⟩,
    ⟨some 73, (Op.fieldAddr 30 (Operand.tmp 1) 3), 0, some (72, true)⟩,
    ⟨some 74, (Op.load 28 (Operand.tmp 73)), 28, some (72, true)⟩,
    ⟨some 75, (Op.call ⟨(Callee.builtin Builtin.len), #[(Operand.tmp 74)], #[28]⟩), 3, some (72, true)⟩,
    ⟨some 76, (Op.binOp BinOp.leq 3 (Operand.tmp 75) (Operand.const (Value.int IntKind.i64 64)) 3), 4, some (72, true)⟩,
    ⟨some 77, (Op.pick (Operand.tmp 72) (Operand.tmp 76) (Operand.const (Value.bool false))), 4, none⟩,
    ⟨some 2, (Op.assign (Operand.tmp 77)), 4, none⟩]) .ret))))⟩
theorem is_gimmalref16_NodeMay (c : Cfg) (h : c.lendT = []) : isF PP c 13 c_gimmalref16_NodeMay := isF_of (fn := Proofs.Try.f13) (by kernel_rfl) (by kernel_rfl) rfl h (by kernel_rfl) rfl rfl (by kernel_rfl)
def c_gimmallaw0_SameView : SF := ⟨24, [(ResultVar.tmp 4)],
  (.seq (.ops [⟨some 2, (Op.box 26 (Operand.tmp 0)), 0, none⟩,
    ⟨some 3, (Op.box 26 (Operand.tmp 1)), 0, none⟩,
    ⟨some 4, (Op.assign (Operand.const (Value.bool false))), 4, none⟩]) (.seq (.ops [⟨some 5, (Op.fieldAddr 26 (Operand.tmp 2) 0), 0, none⟩,
    ⟨some 6, (Op.load 3 (Operand.tmp 5)), 3, none⟩,
    ⟨some 7, (Op.fieldAddr 26 (Operand.tmp 3) 0), 0, none⟩,
    ⟨some 8, (Op.load 3 (Operand.tmp 7)), 3, none⟩,
    ⟨some 9, (Op.binOp BinOp.eql 3 (Operand.tmp 6) (Operand.tmp 8) 3), 4, none⟩,
    ⟨some 10, (Op.move (Operand.tmp 9)), 4, none⟩,
    ⟨some 11, (Op.fieldAddr 26 (Operand.tmp 2) 1), 0, some (10, true)⟩,
    ⟨some 12, (Op.load 23 (Operand.tmp 11)), 23, some (10, true)⟩,
    ⟨some 13, (Op.fieldAddr 26 (Operand.tmp 3) 1), 0, some (10, true)⟩,
    ⟨some 14, (Op.load 23 (Operand.tmp 13)), 23, some (10, true)⟩,
    ⟨some 15, (Op.call ⟨(Callee.value (Operand.func 30)), #[(Operand.tmp 12), (Operand.tmp 14)], #[23, 23]⟩), 4, some (10, true)⟩,
    ⟨some 16, (Op.pick (Operand.tmp 10) (Operand.tmp 15) (Operand.const (Value.bool false))), 4, none⟩,
    ⟨some 17, (Op.move (Operand.tmp 16)), 4, none⟩,
    ⟨some 18, (Op.fieldAddr 26 (Operand.tmp 2) 2), 0, some (17, true)⟩,
    ⟨some 19, (Op.load 24 (Operand.tmp 18)), 24, some (17, true)⟩,
    ⟨some 20, (Op.fieldAddr 26 (Operand.tmp 3) 2), 0, some (17, true)⟩,
    ⟨some 21, (Op.load 24 (Operand.tmp 20)), 24, some (17, true)⟩,
    ⟨some 22, (Op.call ⟨(Callee.value (Operand.func 31)), #[(Operand.tmp 19), (Operand.tmp 21)], #[24, 24]⟩), 4, some (17, true)⟩,
    ⟨some 23, (Op.pick (Operand.tmp 17) (Operand.tmp 22) (Operand.const (Value.bool false))), 4, none⟩,
    ⟨some 4, (Op.assign (Operand.tmp 23)), 4, none⟩]) .ret))⟩
theorem is_gimmallaw0_SameView (c : Cfg) (h : c.lendT = []) : isF PP c 14 c_gimmallaw0_SameView := isF_of (fn := Proofs.Try.f14) (by kernel_rfl) (by kernel_rfl) rfl h (by kernel_rfl) rfl rfl (by kernel_rfl)
def c_gimmallaw0_SameItems_L0 : SC := (.seq (.seq (.ops [⟨some 11, (Op.move (Operand.tmp 5)), 3, none⟩,
    ⟨some 12, (Op.move (Operand.tmp 0)), 27, none⟩,
    ⟨some 13, (Op.call ⟨(Callee.builtin Builtin.len), #[(Operand.tmp 12)], #[27]⟩), 3, none⟩,
    ⟨some 14, (Op.binOp BinOp.lss 3 (Operand.tmp 11) (Operand.tmp 13) 3), 4, none⟩]) (.cond (Operand.tmp 14) .skip (.exit 0))) (.seq (.block 1 (.seq (.ops [⟨some 17, (Op.move (Operand.tmp 0)), 27, none⟩,
    ⟨some 18, (Op.move (Operand.tmp 5)), 3, none⟩,
    ⟨some 21, (Op.move (Operand.tmp 1)), 27, none⟩,
    ⟨some 22, (Op.move (Operand.tmp 5)), 3, none⟩,
    ⟨some 19, (Op.indexAddr 27 (Operand.tmp 17) (Operand.tmp 18)), 0, none⟩,
    ⟨some 20, (Op.load 35 (Operand.tmp 19)), 35, none⟩,
    ⟨some 23, (Op.indexAddr 27 (Operand.tmp 21) (Operand.tmp 22)), 0, none⟩,
    ⟨some 24, (Op.load 35 (Operand.tmp 23)), 35, none⟩,
    ⟨some 25, (Op.binOp BinOp.neq 35 (Operand.tmp 20) (Operand.tmp 24) 35), 4, none⟩]) (.cond (Operand.tmp 25) (.seq (.ops [⟨some 4, (Op.assign (Operand.const (Value.bool false))), 4, none⟩]) .ret) .skip))) (.ops [⟨some 15, (Op.move (Operand.tmp 5)), 3, none⟩,
    ⟨some 16, (Op.binOp BinOp.add 3 (Operand.tmp 15) (Operand.const (Value.int IntKind.i64 1)) 3), 3, none⟩,
    ⟨some 5, (Op.assign (Operand.tmp 16)), 3, none⟩])))
def c_gimmallaw0_SameItems : SF := ⟨26, [(ResultVar.tmp 4)],
  (.seq (.ops [⟨some 4, (Op.assign (Operand.const (Value.bool false))), 4, none⟩]) (.seq (.seq (.ops [⟨some 6, (Op.move (Operand.tmp 0)), 27, none⟩,
    ⟨some 7, (Op.call ⟨(Callee.builtin Builtin.len), #[(Operand.tmp 6)], #[27]⟩), 3, none⟩,
    ⟨some 8, (Op.move (Operand.tmp 1)), 27, none⟩,
    ⟨some 9, (Op.call ⟨(Callee.builtin Builtin.len), #[(Operand.tmp 8)], #[27]⟩), 3, none⟩,
    ⟨some 10, (Op.binOp BinOp.neq 3 (Operand.tmp 7) (Operand.tmp 9) 3), 4, none⟩]) (.cond (Operand.tmp 10) (.seq (.ops [⟨some 4, (Op.assign (Operand.const (Value.bool false))), 4, none⟩]) .ret) .skip)) (.seq (.seq (.ops [⟨some 5, (Op.assign (Operand.const (Value.int IntKind.i64 0))), 3, none⟩]) (.block 0 (.loop c_gimmallaw0_SameItems_L0))) (.seq (.ops [⟨some 4, (Op.assign (Operand.const (Value.bool true))), 4, none⟩]) .ret))))⟩
theorem is_gimmallaw0_SameItems (c : Cfg) (h : c.lendT = []) : isF PP c 15 c_gimmallaw0_SameItems := isF_of (fn := Proofs.Try.f15) (by kernel_rfl) (by kernel_rfl) rfl h (by kernel_rfl) rfl rfl (by kernel_rfl)
def c_gimmallaw0_SameTolds_L0 : SC := (.seq (.seq (.ops [⟨some 11, (Op.move (Operand.tmp 5)), 3, none⟩,
    ⟨some 12, (Op.move (Operand.tmp 0)), 28, none⟩,
    ⟨some 13, (Op.call ⟨(Callee.builtin Builtin.len), #[(Operand.tmp 12)], #[28]⟩), 3, none⟩,
    ⟨some 14, (Op.binOp BinOp.lss 3 (Operand.tmp 11) (Operand.tmp 13) 3), 4, none⟩]) (.cond (Operand.tmp 14) .skip (.exit 0))) (.seq (.block 1 (.seq (.ops [⟨some 17, (Op.move (Operand.tmp 0)), 28, none⟩,
    ⟨some 18, (Op.move (Operand.tmp 5)), 3, none⟩,
    ⟨some 21, (Op.move (Operand.tmp 1)), 28, none⟩,
    ⟨some 22, (Op.move (Operand.tmp 5)), 3, none⟩,
    ⟨some 19, (Op.indexAddr 28 (Operand.tmp 17) (Operand.tmp 18)), 0, none⟩,
    ⟨some 20, (Op.load 63 (Operand.tmp 19)), 63, none⟩,
    ⟨some 23, (Op.indexAddr 28 (Operand.tmp 21) (Operand.tmp 22)), 0, none⟩,
    ⟨some 24, (Op.load 63 (Operand.tmp 23)), 63, none⟩,
    ⟨some 25, (Op.binOp BinOp.neq 63 (Operand.tmp 20) (Operand.tmp 24) 63), 4, none⟩]) (.cond (Operand.tmp 25) (.seq (.ops [⟨some 4, (Op.assign (Operand.const (Value.bool false))), 4, none⟩]) .ret) .skip))) (.ops [⟨some 15, (Op.move (Operand.tmp 5)), 3, none⟩,
    ⟨some 16, (Op.binOp BinOp.add 3 (Operand.tmp 15) (Operand.const (Value.int IntKind.i64 1)) 3), 3, none⟩,
    ⟨some 5, (Op.assign (Operand.tmp 16)), 3, none⟩])))
def c_gimmallaw0_SameTolds : SF := ⟨26, [(ResultVar.tmp 4)],
  (.seq (.ops [⟨some 4, (Op.assign (Operand.const (Value.bool false))), 4, none⟩]) (.seq (.seq (.ops [⟨some 6, (Op.move (Operand.tmp 0)), 28, none⟩,
    ⟨some 7, (Op.call ⟨(Callee.builtin Builtin.len), #[(Operand.tmp 6)], #[28]⟩), 3, none⟩,
    ⟨some 8, (Op.move (Operand.tmp 1)), 28, none⟩,
    ⟨some 9, (Op.call ⟨(Callee.builtin Builtin.len), #[(Operand.tmp 8)], #[28]⟩), 3, none⟩,
    ⟨some 10, (Op.binOp BinOp.neq 3 (Operand.tmp 7) (Operand.tmp 9) 3), 4, none⟩]) (.cond (Operand.tmp 10) (.seq (.ops [⟨some 4, (Op.assign (Operand.const (Value.bool false))), 4, none⟩]) .ret) .skip)) (.seq (.seq (.ops [⟨some 5, (Op.assign (Operand.const (Value.int IntKind.i64 0))), 3, none⟩]) (.block 0 (.loop c_gimmallaw0_SameTolds_L0))) (.seq (.ops [⟨some 4, (Op.assign (Operand.const (Value.bool true))), 4, none⟩]) .ret))))⟩
theorem is_gimmallaw0_SameTolds (c : Cfg) (h : c.lendT = []) : isF PP c 16 c_gimmallaw0_SameTolds := isF_of (fn := Proofs.Try.f16) (by kernel_rfl) (by kernel_rfl) rfl h (by kernel_rfl) rfl rfl (by kernel_rfl)
def c_gimmalref1_Names_L0 : SC := (.seq (.seq (.ops [⟨some 5, (Op.move (Operand.tmp 4)), 3, none⟩,
    ⟨some 6, (Op.move (Operand.tmp 0)), 23, none⟩,
    ⟨some 7, (Op.call ⟨(Callee.builtin Builtin.len), #[(Operand.tmp 6)], #[23]⟩), 3, none⟩,
    ⟨some 8, (Op.binOp BinOp.lss 3 (Operand.tmp 5) (Operand.tmp 7) 3), 4, none⟩]) (.cond (Operand.tmp 8) .skip (.exit 0))) (.seq (.block 1 (.ops [⟨some 11, (Op.move (Operand.tmp 3)), 24, none⟩,
    ⟨some 12, (Op.move (Operand.tmp 0)), 23, none⟩,
    ⟨some 13, (Op.move (Operand.tmp 4)), 3, none⟩,
    ⟨some 14, (Op.indexAddr 23 (Operand.tmp 12) (Operand.tmp 13)), 0, none⟩,
    ⟨some 15, (Op.fieldAddr 54 (Operand.tmp 14) 0), 0, none⟩,
    ⟨some 16, (Op.load 3 (Operand.tmp 15)), 3, none⟩,
    ⟨some 17, (Op.buildSlice 24 1 #[(0, (Operand.tmp 16))]), 24, none⟩,
    ⟨some 18, (Op.call ⟨(Callee.builtin Builtin.append), #[(Operand.tmp 11), (Operand.tmp 17)], #[24, 24]⟩), 24, none⟩,
    ⟨some 3, (Op.assign (Operand.tmp 18)), 24, none⟩])) (.ops [⟨some 9, (Op.move (Operand.tmp 4)), 3, none⟩,
    ⟨some 10, (Op.binOp BinOp.add 3 (Operand.tmp 9) (Operand.const (Value.int IntKind.i64 1)) 3), 3, none⟩,
    ⟨some 4, (Op.assign (Operand.tmp 10)), 3, none⟩])))
def c_gimmalref1_Names : SF := ⟨20, [(ResultVar.tmp 2)],
  (.seq (.ops [⟨some 2, (Op.assign (Operand.const (Value.slice none 0 0))), 24, none⟩]) (.seq (.ops [⟨some 3, (Op.assign (Operand.const (Value.slice none 0 0))), 24, none⟩]) (.seq (.seq (.ops [⟨some 4, (Op.assign (Operand.const (Value.int IntKind.i64 0))), 3, none⟩]) (.block 0 (.loop c_gimmalref1_Names_L0))) (.seq (.ops [⟨some 19, (Op.move (Operand.tmp 3)), 24, none⟩,
    ⟨some 2, (Op.assign (Operand.tmp 19)), 24, none⟩]) .ret))))⟩
theorem is_gimmalref1_Names (c : Cfg) (h : c.lendT = []) : isF PP c 18 c_gimmalref1_Names := isF_of (fn := Proofs.Try.f18) (by kernel_rfl) (by kernel_rfl) rfl h (by kernel_rfl) rfl rfl (by kernel_rfl)
def c_node_Up : SF := ⟨9, [(ResultVar.tmp 2)],
  (.seq (.ops [⟨some 1, (Op.box 30 (Operand.tmp 0)), 0, none⟩,
    ⟨some 2, (Op.assign (Operand.const (Value.bool false))), 4, none⟩]) (.seq (.ops [⟨some 3, (Op.fieldAddr 30 (Operand.tmp 1) 0), 0, none⟩,
    ⟨some 4, (Op.load 4 (Operand.tmp 3)), 4, none⟩,
    ⟨some 5, (Op.move (Operand.tmp 4)), 4, none⟩,
    ⟨some 6, (Op.load 30 (Operand.tmp 1)), 30, some (5, true)⟩,
    ⟨some 7, (Op.call ⟨(Callee.value (Operand.func 34)), #[(Operand.tmp 6)], #[30]⟩), 4, some (5, true)⟩,
    ⟨some 8, (Op.pick (Operand.tmp 5) (Operand.tmp 7) (Operand.const (Value.bool false))), 4, none⟩,
    ⟨some 2, (Op.assign (Operand.tmp 8)), 4, none⟩]) .ret))⟩
theorem is_node_Up (c : Cfg) (h : c.lendT = []) : isF PP c 19 c_node_Up := isF_of (fn := Proofs.Try.f19) (by kernel_rfl) (by kernel_rfl) rfl h (by kernel_rfl) rfl rfl (by kernel_rfl)
def c_msg_May : SF := ⟨94, [(ResultVar.tmp 2)],
  (.seq (.ops [⟨some 1, (Op.box 38 (Operand.tmp 0)), 0, none⟩,
    ⟨some 2, (Op.assign (Operand.const (Value.bool false))), 4, none⟩]) (.seq (.seq (.ops [⟨some 4, (Op.fieldAddr 38 (Operand.tmp 1) 1), 0, none⟩,
    ⟨some 5, (Op.load 3 (Operand.tmp 4)), 3, none⟩,
    ⟨some 6, (Op.call ⟨(Callee.value (Operand.func 35)), #[(Operand.tmp 5)], #[3]⟩), 4, none⟩,
    ⟨some 7, (Op.unOp UnOp.not 4 (Operand.tmp 6)), 4, none⟩,
    ⟨some 8, (Op.move (Operand.tmp 7)), 4, none⟩,
    ⟨some 9, (Op.fieldAddr 38 (Operand.tmp 1) 2), 0, some (8, false)⟩,
    ⟨some 10, (Op.load 3 (Operand.tmp 9)), 3, some (8, false)⟩,
    ⟨some 11, (Op.call ⟨(Callee.value (Operand.func 35)), #[(Operand.tmp 10)], #[3]⟩), 4, some (8, false)⟩,
    ⟨some 12, (Op.unOp UnOp.not 4 (Operand.tmp 11)), 4, some (8, false)⟩,
    ⟨some 13, (Op.pick (Operand.tmp 8) (Operand.const (Value.bool true)) (Operand.tmp 12)), 4, none⟩,
    ⟨some 14, (Op.move (Operand.tmp 13)), 4, none⟩,
    ⟨some 15, (Op.fieldAddr 38 (Operand.tmp 1) 1), 0, some (14, false)⟩,
    ⟨some 16, (Op.load 3 (Operand.tmp 15)), 3, some (14, false)⟩,
    ⟨some 17, (Op.fieldAddr 38 (Operand.tmp 1) 2), 0, some (14, false)⟩,
    ⟨some 18, (Op.load 3 (Operand.tmp 17)), 3, some (14, false)⟩,
    ⟨some 19, (Op.binOp BinOp.eql 3 (Operand.tmp 16) (Operand.tmp 18) 3), 4, some (14, false)⟩,
    ⟨some 20, (Op.pick (Operand.tmp 14) (Operand.const (Value.bool true)) (Operand.tmp 19)), 4, none⟩]) (.cond (Operand.tmp 20) (.seq (.ops [⟨some 2, (Op.assign (Operand.const (Value.bool false))), 4, none⟩]) .ret) .skip)) (.seq (.ops [⟨some 21, (Op.load 38 (Operand.tmp 1)), 38, none⟩,
    ⟨some 3, (Op.alloc 38), 0, none⟩,
    ⟨none, (Op.store 38 (Operand.tmp 3) (Operand.tmp 21)), 0, none⟩]) (.seq (.seq (.ops [⟨some 22, (Op.fieldAddr 38 (Operand.tmp 1) 0), 0, none⟩,
    ⟨some 23, (Op.load 3 (Operand.tmp 22)), 3, none⟩]) (.block 0 (.seq (.ops [⟨some 25, (Op.binOp BinOp.eql 3 (Operand.tmp 23) (Operand.const (Value.int IntKind.i64 0)) 3), 4, none⟩,
    ⟨some 24, (Op.assign (Operand.tmp 25)), 4, none⟩]) (.cond (Operand.tmp 24) (.seq (.ops [⟨some 26, (Op.fieldAddr 38 (Operand.tmp 3) 3), 0, none⟩,
    ⟨none, (Op.store 24 (Operand.tmp 26) (Operand.const (Value.slice none 0 0))), 0, none⟩]) (.seq (.ops [⟨some 27, (Op.load 38 (Operand.tmp 3)), 38, none⟩,
    ⟨some 28, (Op.call ⟨(Callee.value (Operand.func 36)), #[(Operand.tmp 27)], #[38]⟩), 4, none⟩,
    ⟨some 29, (Op.move (Operand.tmp 28)), 4, none⟩,
    ⟨some 30, (Op.fieldAddr 38 (Operand.tmp 1) 3), 0, some (29, true)⟩,
    ⟨some 31, (Op.load 24 (Operand.tmp 30)), 24, some (29, true)⟩,
    ⟨some 32, (Op.call ⟨(Callee.builtin Builtin.len), #[(Operand.tmp 31)], #[24]⟩), 3, some (29, true)⟩,
    ⟨some 33, (Op.binOp BinOp.leq 3 (Operand.tmp 32) (Operand.const (Value.int IntKind.i64 16)) 3), 4, some (29, true)⟩,
    ⟨some 34, (Op.pick (Operand.tmp 29) (Operand.tmp 33) (Operand.const (Value.bool false))), 4, none⟩,
    ⟨some 35, (Op.move (Operand.tmp 34)), 4, none⟩,
    ⟨some 36, (Op.fieldAddr 38 (Operand.tmp 1) 3), 0, some (35, true)⟩,
    ⟨some 37, (Op.load 24 (Operand.tmp 36)), 24, some (35, true)⟩,
    ⟨some 38, (Op.call ⟨(Callee.value (Operand.func 37)), #[(Operand.tmp 37)], #[24]⟩), 4, some (35, true)⟩,
    ⟨some 39, (Op.pick (Operand.tmp 35) (Operand.tmp 38) (Operand.const (Value.bool false))), 4, none⟩,
    ⟨some 2, (Op.assign (Operand.tmp 39)), 4, none⟩]) .ret)) (.seq (.ops [⟨some 41, (Op.binOp BinOp.eql 3 (Operand.tmp 23) (Operand.const (Value.int IntKind.i64 1)) 3), 4, none⟩,
    ⟨some 40, (Op.assign (Operand.tmp 41)), 4, none⟩]) (.cond (Operand.tmp 40) (.seq (.ops [⟨some 42, (Op.build 35 #[]), 35, none⟩,
    ⟨some 43, (Op.fieldAddr 38 (Operand.tmp 3) 5), 0, none⟩,
    ⟨none, (Op.store 35 (Operand.tmp 43) (Operand.tmp 42)), 0, none⟩]) (.seq (.ops [⟨some 44, (Op.load 38 (Operand.tmp 3)), 38, none⟩,
    ⟨some 45, (Op.call ⟨(Callee.value (Operand.func 36)), #[(Operand.tmp 44)], #[38]⟩), 4, none⟩,
    ⟨some 46, (Op.move (Operand.tmp 45)), 4, none⟩,
    ⟨some 47, (Op.fieldAddr 38 (Operand.tmp 1) 5), 0, some (46, true)⟩,
    ⟨some 48, (Op.load 35 (Operand.tmp 47)), 35, some (46, true)⟩,
    ⟨some 49, (Op.call ⟨(Callee.value (Operand.func 38)), #[(Operand.tmp 48)], #[35]⟩), 4, some (46, true)⟩,
    ⟨some 50, (Op.pick (Operand.tmp 46) (Operand.tmp 49) (Operand.const (Value.bool false))), 4, none⟩,
    ⟨some 2, (Op.assign (Operand.tmp 50)), 4, none⟩]) .ret)) (.seq (.ops [⟨some 52, (Op.binOp BinOp.eql 3 (Operand.tmp 23) (Operand.const (Value.int IntKind.i64 2)) 3), 4, none⟩,
    ⟨some 51, (Op.assign (Operand.tmp 52)), 4, none⟩]) (.cond (Operand.tmp 51) (.seq (.ops [⟨some 53, (Op.fieldAddr 38 (Operand.tmp 3) 4), 0, none⟩,
    ⟨none, (Op.store 3 (Operand.tmp 53) (Operand.const (Value.int IntKind.i64 0))), 0, none⟩]) (.seq (.ops [⟨some 54, (Op.load 38 (Operand.tmp 3)), 38, none⟩,
    ⟨some 55, (Op.call ⟨(Callee.value (Operand.func 36)), #[(Operand.tmp 54)], #[38]⟩), 4, none⟩,
    ⟨some 56, (Op.move (Operand.tmp 55)), 4, none⟩,
    ⟨some 57, (Op.fieldAddr 38 (Operand.tmp 1) 4), 0, some (56, true)⟩,
    ⟨some 58, (Op.load 3 (Operand.tmp 57)), 3, some (56, true)⟩,
    ⟨some 59, (Op.call ⟨(Callee.value (Operand.func 35)), #[(Operand.tmp 58)], #[3]⟩), 4, some (56, true)⟩,
    ⟨some 60, (Op.pick (Operand.tmp 56) (Operand.tmp 59) (Operand.const (Value.bool false))), 4, none⟩,
    ⟨some 2, (Op.assign (Operand.tmp 60)), 4, none⟩]) .ret)) (.seq (.ops [⟨some 62, (Op.binOp BinOp.eql 3 (Operand.tmp 23) (Operand.const (Value.int IntKind.i64 3)) 3), 4, none⟩,
    ⟨some 61, (Op.assign (Operand.tmp 62)), 4, none⟩]) (.cond (Operand.tmp 61) (.seq (.seq (.ops [⟨some 63, (Op.fieldAddr 38 (Operand.tmp 3) 4), 0, none⟩,
    ⟨none, (Op.store 3 (Operand.tmp 63) (Operand.const (Value.int IntKind.i64 0))), 0, none⟩,
    ⟨some 64, (Op.fieldAddr 38 (Operand.tmp 3) 6), 0, none⟩,
    ⟨none, (Op.store 4 (Operand.tmp 64) (Operand.const (Value.bool false))), 0, none⟩]) (.seq (.ops [⟨some 65, (Op.fieldAddr 38 (Operand.tmp 1) 6), 0, none⟩,
    ⟨some 66, (Op.load 4 (Operand.tmp 65)), 4, none⟩]) (.cond (Operand.tmp 66) (.ops [⟨some 67, (Op.build 35 #[]), 35, none⟩,
    ⟨some 68, (Op.fieldAddr 38 (Operand.tmp 3) 5), 0, none⟩,
    ⟨none, (Op.store 35 (Operand.tmp 68) (Operand.tmp 67)), 0, none⟩]) .skip))) (.seq (.ops [⟨some 69, (Op.load 38 (Operand.tmp 3)), 38, none⟩,
    ⟨some 70, (Op.call ⟨(Callee.value (Operand.func 36)), #[(Operand.tmp 69)], #[38]⟩), 4, none⟩,
    ⟨some 71, (Op.move (Operand.tmp 70)), 4, none⟩,
    ⟨some 72, (Op.fieldAddr 38 (Operand.tmp 1) 4), 0, some (71, true)⟩,
    ⟨some 73, (Op.load 3 (Operand.tmp 72)), 3, some (71, true)⟩,
    ⟨some 74, (Op.call ⟨(Callee.value (Operand.func 35)), #[(Operand.tmp 73)], #[3]⟩), 4, some (71, true)⟩,
    ⟨some 75, (Op.pick (Operand.tmp 71) (Operand.tmp 74) (Operand.const (Value.bool false))), 4, none⟩,
    ⟨some 76, (Op.move (Operand.tmp 75)), 4, none⟩,
    ⟨some 77, (Op.fieldAddr 38 (Operand.tmp 1) 6), 0, some (76, true)⟩,
    ⟨some 78, (Op.load 4 (Operand.tmp 77)), 4, some (76, true)⟩,
    ⟨some 79, (Op.unOp UnOp.not 4 (Operand.tmp 78)), 4, some (76, true)⟩,
    ⟨some 80, (Op.move (Operand.tmp 79)), 4, some (76, true)⟩,
    ⟨some 81, (Op.fieldAddr 38 (Operand.tmp 1) 5), 0, some (80, false)⟩,
    ⟨some 82, (Op.load 35 (Operand.tmp 81)), 35, some (80, false)⟩,
    ⟨some 83, (Op.call ⟨(Callee.value (Operand.func 38)), #[(Operand.tmp 82)], #[35]⟩), 4, some (80, false)⟩,
    ⟨some 84, (Op.move (Operand.tmp 83)), 4, some (80, false)⟩,
    ⟨some 85, (Op.fieldAddr 38 (Operand.tmp 1) 5), 0, some (84, true)⟩,
    ⟨some 86, (Op.fieldAddr 35 (Operand.tmp 85) 0), 0, some (84, true)⟩,
    ⟨some 87, (Op.load 3 (Operand.tmp 86)), 3, some (84, true)⟩,
    ⟨some 88, (Op.fieldAddr 38 (Operand.tmp 1) 4), 0, some (84, true)⟩,
    ⟨some 89, (Op.load 3 (Operand.tmp 88)), 3, some (84, true)⟩,
    ⟨some 90, (Op.binOp BinOp.eql 3 (Operand.tmp 87) (Operand.tmp 89) 3), 4, some (84, true)⟩,
    ⟨some 91, (Op.pick (Operand.tmp 84) (Operand.tmp 90) (Operand.const (Value.bool false))), 4, some (80, false)⟩,
    ⟨some 92, (Op.pick (Operand.tmp 80) (Operand.const (Value.bool true)) (Operand.tmp 91)), 4, some (76, true)⟩,
    ⟨some 93, (Op.pick (Operand.tmp 76) (Operand.tmp 92) (Operand.const (Value.bool false))), 4, none⟩,
    ⟨some 2, (Op.assign (Operand.tmp 93)), 4, none⟩]) .ret)) .skip)))))))))) (.seq (.ops [⟨some 2, (Op.assign (Operand.const (Value.bool false))), 4, none⟩]) .ret)))))⟩
theorem is_msg_May (c : Cfg) (h : c.lendT = []) : isF PP c 20 c_msg_May := isF_of (fn := Proofs.Try.f20) (by kernel_rfl) (by kernel_rfl) rfl h (by kernel_rfl) rfl rfl (by kernel_rfl)
def c_node_Copy : SF := ⟨16, [(ResultVar.cell 2 30)],
  (.seq (.ops [⟨some 1, (Op.box 30 (Operand.tmp 0)), 0, none⟩,
    ⟨some 2, (Op.alloc 30), 0, none⟩]) (.seq (.ops [⟨some 3, (Op.fieldAddr 30 (Operand.tmp 1) 1), 0, none⟩,
    ⟨some 4, (Op.load 26 (Operand.tmp 3)), 26, none⟩,
    ⟨some 5, (Op.call ⟨(Callee.value (Operand.func 39)), #[(Operand.tmp 4)], #[26]⟩), 26, none⟩,
    ⟨some 6, (Op.fieldAddr 30 (Operand.tmp 1) 2), 0, none⟩,
    ⟨some 7, (Op.load 27 (Operand.tmp 6)), 27, none⟩,
    ⟨some 8, (Op.call ⟨(Callee.value (Operand.func 40)), #[(Operand.tmp 7)], #[27]⟩), 27, none⟩,
    ⟨some 9, (Op.fieldAddr 30 (Operand.tmp 1) 3), 0, none⟩,
    ⟨some 10, (Op.load 28 (Operand.tmp 9)), 28, none⟩,
    ⟨some 11, (Op.call ⟨(Callee.value (Operand.func 41)), #[(Operand.tmp 10)], #[28]⟩), 28, none⟩,
    ⟨some 12, (Op.fieldAddr 30 (Operand.tmp 1) 1), 0, none⟩,
    ⟨none, (Op.store 26 (Operand.tmp 12) (Operand.tmp 5)), 0, none⟩,
    ⟨some 13, (Op.fieldAddr 30 (Operand.tmp 1) 2), 0, none⟩,
    ⟨none, (Op.store 27 (Operand.tmp 13) (Operand.tmp 8)), 0, none⟩,
    ⟨some 14, (Op.fieldAddr 30 (Operand.tmp 1) 3), 0, none⟩,
    ⟨none, (Op.store 28 (Operand.tmp 14) (Operand.tmp 11)), 0, none⟩]) (.seq (.ops [⟨some 15, (Op.load 30 (Operand.tmp 1)), 30, none⟩,
    ⟨none, (Op.store 30 (Operand.tmp 2) (Operand.tmp 15)), 0, none⟩]) .ret)))⟩
theorem is_node_Copy (c : Cfg) (h : c.lendT = []) : isF PP c 21 c_node_Copy := isF_of (fn := Proofs.Try.f21) (by kernel_rfl) (by kernel_rfl) rfl h (by kernel_rfl) rfl rfl (by kernel_rfl)
def c_handle_handler_hello : SF := ⟨21, [],
  (.seq (.ops [⟨some 3, (Op.box 38 (Operand.tmp 1)), 0, none⟩]) (.ops [⟨some 5, (Op.move (Operand.tmp 0)), 55, none⟩,
    ⟨some 6, (Op.move (Operand.tmp 0)), 55, none⟩,
    ⟨some 7, (Op.nilCheck (Operand.tmp 6)), 0, none⟩,
    ⟨some 8, (Op.fieldAddr 58 (Operand.tmp 7) 0), 0, none⟩,
    ⟨some 9, (Op.fieldAddr 30 (Operand.tmp 8) 1), 0, none⟩,
    ⟨some 10, (Op.load 26 (Operand.tmp 9)), 26, none⟩,
    ⟨some 11, (Op.fieldAddr 38 (Operand.tmp 3) 1), 0, none⟩,
    ⟨some 12, (Op.load 3 (Operand.tmp 11)), 3, none⟩,
    ⟨some 13, (Op.fieldAddr 38 (Operand.tmp 3) 3), 0, none⟩,
    ⟨some 14, (Op.load 24 (Operand.tmp 13)), 24, none⟩,
    ⟨some 15, (Op.call ⟨(Callee.value (Operand.func 42)), #[(Operand.tmp 10), (Operand.tmp 12), (Operand.tmp 14)], #[26, 3, 24]⟩), 73, none⟩,
    ⟨some 4, (Op.move (Operand.tmp 15)), 73, none⟩,
    ⟨some 16, (Op.extract (Operand.tmp 4) 0), 26, none⟩,
    ⟨some 17, (Op.extract (Operand.tmp 4) 1), 40, none⟩,
    ⟨some 18, (Op.nilCheck (Operand.tmp 5)), 0, none⟩,
    ⟨some 19, (Op.fieldAddr 58 (Operand.tmp 18) 0), 0, none⟩,
    ⟨some 20, (Op.fieldAddr 30 (Operand.tmp 19) 1), 0, none⟩,
    ⟨none, (Op.store 26 (Operand.tmp 20) (Operand.tmp 16)), 0, none⟩]))⟩
theorem is_handle_handler_hello (c : Cfg) (h : c.lendT = []) : isF PP c 22 c_handle_handler_hello := isF_of (fn := Proofs.Try.f22) (by kernel_rfl) (by kernel_rfl) rfl h (by kernel_rfl) rfl rfl (by kernel_rfl)
def c_handle_handler_item : SF := ⟨17, [],
  (.seq (.ops [⟨some 3, (Op.box 38 (Operand.tmp 1)), 0, none⟩]) (.ops [⟨some 5, (Op.move (Operand.tmp 0)), 55, none⟩,
    ⟨some 6, (Op.move (Operand.tmp 0)), 55, none⟩,
    ⟨some 7, (Op.nilCheck (Operand.tmp 6)), 0, none⟩,
    ⟨some 8, (Op.fieldAddr 58 (Operand.tmp 7) 0), 0, none⟩,
    ⟨some 9, (Op.load 30 (Operand.tmp 8)), 30, none⟩,
    ⟨some 10, (Op.fieldAddr 38 (Operand.tmp 3) 5), 0, none⟩,
    ⟨some 11, (Op.load 35 (Operand.tmp 10)), 35, none⟩,
    ⟨some 12, (Op.call ⟨(Callee.value (Operand.func 43)), #[(Operand.tmp 9), (Operand.tmp 11)], #[30, 35]⟩), 75, none⟩,
    ⟨some 4, (Op.move (Operand.tmp 12)), 75, none⟩,
    ⟨some 13, (Op.extract (Operand.tmp 4) 0), 30, none⟩,
    ⟨some 14, (Op.extract (Operand.tmp 4) 1), 40, none⟩,
    ⟨some 15, (Op.nilCheck (Operand.tmp 5)), 0, none⟩,
    ⟨some 16, (Op.fieldAddr 58 (Operand.tmp 15) 0), 0, none⟩,
    ⟨none, (Op.store 30 (Operand.tmp 16) (Operand.tmp 13)), 0, none⟩]))⟩
theorem is_handle_handler_item (c : Cfg) (h : c.lendT = []) : isF PP c 23 c_handle_handler_item := isF_of (fn := Proofs.Try.f23) (by kernel_rfl) (by kernel_rfl) rfl h (by kernel_rfl) rfl rfl (by kernel_rfl)
def c_handle_handler_ask : SF := ⟨16, [],
  (.seq (.ops [⟨some 3, (Op.box 38 (Operand.tmp 1)), 0, none⟩]) (.ops [⟨some 5, (Op.move (Operand.tmp 0)), 55, none⟩,
    ⟨some 6, (Op.move (Operand.tmp 0)), 55, none⟩,
    ⟨some 7, (Op.nilCheck (Operand.tmp 6)), 0, none⟩,
    ⟨some 8, (Op.fieldAddr 58 (Operand.tmp 7) 0), 0, none⟩,
    ⟨some 9, (Op.load 30 (Operand.tmp 8)), 30, none⟩,
    ⟨some 10, (Op.load 38 (Operand.tmp 3)), 38, none⟩,
    ⟨some 11, (Op.call ⟨(Callee.value (Operand.func 44)), #[(Operand.tmp 9), (Operand.tmp 10)], #[30, 38]⟩), 77, none⟩,
    ⟨some 4, (Op.move (Operand.tmp 11)), 77, none⟩,
    ⟨some 12, (Op.extract (Operand.tmp 4) 0), 39, none⟩,
    ⟨some 13, (Op.extract (Operand.tmp 4) 1), 40, none⟩,
    ⟨some 14, (Op.nilCheck (Operand.tmp 5)), 0, none⟩,
    ⟨some 15, (Op.fieldAddr 58 (Operand.tmp 14) 1), 0, none⟩,
    ⟨none, (Op.store 39 (Operand.tmp 15) (Operand.tmp 12)), 0, none⟩]))⟩
theorem is_handle_handler_ask (c : Cfg) (h : c.lendT = []) : isF PP c 24 c_handle_handler_ask := isF_of (fn := Proofs.Try.f24) (by kernel_rfl) (by kernel_rfl) rfl h (by kernel_rfl) rfl rfl (by kernel_rfl)
def c_handle_handler_tell : SF := ⟨16, [],
  (.seq (.ops [⟨some 3, (Op.box 38 (Operand.tmp 1)), 0, none⟩]) (.ops [⟨some 5, (Op.move (Operand.tmp 0)), 55, none⟩,
    ⟨some 6, (Op.move (Operand.tmp 0)), 55, none⟩,
    ⟨some 7, (Op.nilCheck (Operand.tmp 6)), 0, none⟩,
    ⟨some 8, (Op.fieldAddr 58 (Operand.tmp 7) 0), 0, none⟩,
    ⟨some 9, (Op.load 30 (Operand.tmp 8)), 30, none⟩,
    ⟨some 10, (Op.load 38 (Operand.tmp 3)), 38, none⟩,
    ⟨some 11, (Op.call ⟨(Callee.value (Operand.func 45)), #[(Operand.tmp 9), (Operand.tmp 10)], #[30, 38]⟩), 75, none⟩,
    ⟨some 4, (Op.move (Operand.tmp 11)), 75, none⟩,
    ⟨some 12, (Op.extract (Operand.tmp 4) 0), 30, none⟩,
    ⟨some 13, (Op.extract (Operand.tmp 4) 1), 40, none⟩,
    ⟨some 14, (Op.nilCheck (Operand.tmp 5)), 0, none⟩,
    ⟨some 15, (Op.fieldAddr 58 (Operand.tmp 14) 0), 0, none⟩,
    ⟨none, (Op.store 30 (Operand.tmp 15) (Operand.tmp 12)), 0, none⟩]))⟩
theorem is_handle_handler_tell (c : Cfg) (h : c.lendT = []) : isF PP c 25 c_handle_handler_tell := isF_of (fn := Proofs.Try.f25) (by kernel_rfl) (by kernel_rfl) rfl h (by kernel_rfl) rfl rfl (by kernel_rfl)
def c_gimmalref1_PlaceMay : SF := ⟨9, [(ResultVar.tmp 2)],
  (.seq (.ops [⟨some 2, (Op.assign (Operand.const (Value.bool false))), 4, none⟩]) (.seq (.ops [⟨some 3, (Op.move (Operand.tmp 0)), 3, none⟩,
    ⟨some 4, (Op.binOp BinOp.geq 3 (Operand.tmp 3) (Operand.const (Value.int IntKind.i64 0)) 3), 4, none⟩,
    ⟨some 5, (Op.move (Operand.tmp 4)), 4, none⟩,
    ⟨some 6, (Op.move (Operand.tmp 0)), 3, some (5, true)⟩,
    ⟨some 7, (Op.binOp BinOp.lss 3 (Operand.tmp 6) (Operand.const (Value.int IntKind.i64 256)) 3), 4, some (5, true)⟩,
    ⟨some 8, (Op.pick (Operand.tmp 5) (Operand.tmp 7) (Operand.const (Value.bool false))), 4, none⟩,
    ⟨some 2, (Op.assign (Operand.tmp 8)), 4, none⟩]) .ret))⟩
theorem is_gimmalref1_PlaceMay (c : Cfg) (h : c.lendT = []) : isF PP c 26 c_gimmalref1_PlaceMay := isF_of (fn := Proofs.Try.f26) (by kernel_rfl) (by kernel_rfl) rfl h (by kernel_rfl) rfl rfl (by kernel_rfl)
def c_gimmalref16_byteMay : SF := ⟨9, [(ResultVar.tmp 2)],
  (.seq (.ops [⟨some 2, (Op.assign (Operand.const (Value.bool false))), 4, none⟩]) (.seq (.ops [⟨some 3, (Op.move (Operand.tmp 0)), 3, none⟩,
    ⟨some 4, (Op.binOp BinOp.geq 3 (Operand.tmp 3) (Operand.const (Value.int IntKind.i64 0)) 3), 4, none⟩,
    ⟨some 5, (Op.move (Operand.tmp 4)), 4, none⟩,
    ⟨some 6, (Op.move (Operand.tmp 0)), 3, some (5, true)⟩,
    ⟨some 7, (Op.binOp BinOp.leq 3 (Operand.tmp 6) (Operand.const (Value.int IntKind.i64 255)) 3), 4, some (5, true)⟩,
    ⟨some 8, (Op.pick (Operand.tmp 5) (Operand.tmp 7) (Operand.const (Value.bool false))), 4, none⟩,
    ⟨some 2, (Op.assign (Operand.tmp 8)), 4, none⟩]) .ret))⟩
theorem is_gimmalref16_byteMay (c : Cfg) (h : c.lendT = []) : isF PP c 27 c_gimmalref16_byteMay := isF_of (fn := Proofs.Try.f27) (by kernel_rfl) (by kernel_rfl) rfl h (by kernel_rfl) rfl rfl (by kernel_rfl)
def c_gimmalref1_ViewMay_L0 : SC := (.seq (.seq (.ops [⟨some 8, (Op.move (Operand.tmp 4)), 3, none⟩,
    ⟨some 9, (Op.fieldAddr 26 (Operand.tmp 1) 2), 0, none⟩,
    ⟨some 10, (Op.load 24 (Operand.tmp 9)), 24, none⟩,
    ⟨some 11, (Op.call ⟨(Callee.builtin Builtin.len), #[(Operand.tmp 10)], #[24]⟩), 3, none⟩,
    ⟨some 12, (Op.binOp BinOp.lss 3 (Operand.tmp 8) (Operand.tmp 11) 3), 4, none⟩]) (.cond (Operand.tmp 12) .skip (.exit 0))) (.seq (.block 1 (.seq (.ops [⟨some 17, (Op.move (Operand.tmp 4)), 3, none⟩,
    ⟨some 15, (Op.fieldAddr 26 (Operand.tmp 1) 2), 0, none⟩,
    ⟨some 16, (Op.load 24 (Operand.tmp 15)), 24, none⟩,
    ⟨some 18, (Op.indexAddr 24 (Operand.tmp 16) (Operand.tmp 17)), 0, none⟩,
    ⟨some 19, (Op.load 3 (Operand.tmp 18)), 3, none⟩,
    ⟨some 20, (Op.fieldAddr 26 (Operand.tmp 1) 0), 0, none⟩,
    ⟨some 21, (Op.load 3 (Operand.tmp 20)), 3, none⟩,
    ⟨some 22, (Op.binOp BinOp.eql 3 (Operand.tmp 19) (Operand.tmp 21) 3), 4, none⟩,
    ⟨some 23, (Op.move (Operand.tmp 22)), 4, none⟩,
    ⟨some 24, (Op.move (Operand.tmp 3)), 24, some (23, false)⟩,
    ⟨some 25, (Op.fieldAddr 26 (Operand.tmp 1) 2), 0, some (23, false)⟩,
    ⟨some 26, (Op.load 24 (Operand.tmp 25)), 24, some (23, false)⟩,
    ⟨some 27, (Op.move (Operand.tmp 4)), 3, some (23, false)⟩,
    ⟨some 28, (Op.indexAddr 24 (Operand.tmp 26) (Operand.tmp 27)), 0, some (23, false)⟩,
    ⟨some 29, (Op.load 3 (Operand.tmp 28)), 3, some (23, false)⟩,
    ⟨some 30, (Op.call ⟨(Callee.value (Operand.func 46)), #[(Operand.tmp 24), (Operand.tmp 29)], #[24, 3]⟩), 4, some (23, false)⟩,
    ⟨some 31, (Op.pick (Operand.tmp 23) (Operand.const (Value.bool true)) (Operand.tmp 30)), 4, none⟩]) (.cond (Operand.tmp 31) (.seq (.ops [⟨some 2, (Op.assign (Operand.const (Value.bool false))), 4, none⟩]) .ret) .skip))) (.ops [⟨some 13, (Op.move (Operand.tmp 4)), 3, none⟩,
    ⟨some 14, (Op.binOp BinOp.add 3 (Operand.tmp 13) (Operand.const (Value.int IntKind.i64 1)) 3), 3, none⟩,
    ⟨some 4, (Op.assign (Operand.tmp 14)), 3, none⟩])))
def c_gimmalref1_ViewMay : SF := ⟨52, [(ResultVar.tmp 2)],
  (.seq (.ops [⟨some 1, (Op.box 26 (Operand.tmp 0)), 0, none⟩,
    ⟨some 2, (Op.assign (Operand.const (Value.bool false))), 4, none⟩]) (.seq (.ops [⟨some 5, (Op.fieldAddr 26 (Operand.tmp 1) 1), 0, none⟩,
    ⟨some 6, (Op.load 23 (Operand.tmp 5)), 23, none⟩,
    ⟨some 7, (Op.call ⟨(Callee.value (Operand.func 18)), #[(Operand.tmp 6)], #[23]⟩), 24, none⟩,
    ⟨some 3, (Op.assign (Operand.tmp 7)), 24, none⟩]) (.seq (.seq (.ops [⟨some 4, (Op.assign (Operand.const (Value.int IntKind.i64 0))), 3, none⟩]) (.block 0 (.loop c_gimmalref1_ViewMay_L0))) (.seq (.ops [⟨some 32, (Op.fieldAddr 26 (Operand.tmp 1) 0), 0, none⟩,
    ⟨some 33, (Op.load 3 (Operand.tmp 32)), 3, none⟩,
    ⟨some 34, (Op.fieldAddr 26 (Operand.tmp 1) 1), 0, none⟩,
    ⟨some 35, (Op.load 23 (Operand.tmp 34)), 23, none⟩,
    ⟨some 36, (Op.call ⟨(Callee.value (Operand.func 47)), #[(Operand.tmp 33), (Operand.tmp 35)], #[3, 23]⟩), 4, none⟩,
    ⟨some 37, (Op.move (Operand.tmp 36)), 4, none⟩,
    ⟨some 38, (Op.fieldAddr 26 (Operand.tmp 1) 2), 0, some (37, true)⟩,
    ⟨some 39, (Op.load 24 (Operand.tmp 38)), 24, some (37, true)⟩,
    ⟨some 40, (Op.call ⟨(Callee.value (Operand.func 48)), #[(Operand.tmp 39)], #[24]⟩), 4, some (37, true)⟩,
    ⟨some 41, (Op.pick (Operand.tmp 37) (Operand.tmp 40) (Operand.const (Value.bool false))), 4, none⟩,
    ⟨some 42, (Op.move (Operand.tmp 41)), 4, none⟩,
    ⟨some 43, (Op.fieldAddr 26 (Operand.tmp 1) 1), 0, some (42, true)⟩,
    ⟨some 44, (Op.load 23 (Operand.tmp 43)), 23, some (42, true)⟩,
    ⟨some 45, (Op.call ⟨(Callee.builtin Builtin.len), #[(Operand.tmp 44)], #[23]⟩), 3, some (42, true)⟩,
    ⟨some 46, (Op.fieldAddr 26 (Operand.tmp 1) 2), 0, some (42, true)⟩,
    ⟨some 47, (Op.load 24 (Operand.tmp 46)), 24, some (42, true)⟩,
    ⟨some 48, (Op.call ⟨(Callee.builtin Builtin.len), #[(Operand.tmp 47)], #[24]⟩), 3, some (42, true)⟩,
    ⟨some 49, (Op.binOp BinOp.add 3 (Operand.tmp 45) (Operand.tmp 48) 3), 3, some (42, true)⟩,
    ⟨some 50, (Op.binOp BinOp.leq 3 (Operand.tmp 49) (Operand.const (Value.int IntKind.i64 16)) 3), 4, some (42, true)⟩,
    ⟨some 51, (Op.pick (Operand.tmp 42) (Operand.tmp 50) (Operand.const (Value.bool false))), 4, none⟩,
    ⟨some 2, (Op.assign (Operand.tmp 51)), 4, none⟩]) .ret))))⟩
theorem is_gimmalref1_ViewMay (c : Cfg) (h : c.lendT = []) : isF PP c 28 c_gimmalref1_ViewMay := isF_of (fn := Proofs.Try.f28) (by kernel_rfl) (by kernel_rfl) rfl h (by kernel_rfl) rfl rfl (by kernel_rfl)
def c_gimmalref1_StoreMay_L0 : SC := (.seq (.seq (.ops [⟨some 4, (Op.move (Operand.tmp 3)), 3, none⟩,
    ⟨some 5, (Op.move (Operand.tmp 0)), 27, none⟩,
    ⟨some 6, (Op.call ⟨(Callee.builtin Builtin.len), #[(Operand.tmp 5)], #[27]⟩), 3, none⟩,
    ⟨some 7, (Op.binOp BinOp.lss 3 (Operand.tmp 4) (Operand.tmp 6) 3), 4, none⟩]) (.cond (Operand.tmp 7) .skip (.exit 0))) (.seq (.block 1 (.seq (.ops [⟨some 10, (Op.move (Operand.tmp 0)), 27, none⟩,
    ⟨some 11, (Op.move (Operand.tmp 3)), 3, none⟩,
    ⟨some 12, (Op.indexAddr 27 (Operand.tmp 10) (Operand.tmp 11)), 0, none⟩,
    ⟨some 13, (Op.load 35 (Operand.tmp 12)), 35, none⟩,
    ⟨some 14, (Op.call ⟨(Callee.value (Operand.func 33)), #[(Operand.tmp 13)], #[35]⟩), 4, none⟩,
    ⟨some 15, (Op.unOp UnOp.not 4 (Operand.tmp 14)), 4, none⟩,
    ⟨some 16, (Op.move (Operand.tmp 15)), 4, none⟩,
    ⟨some 17, (Op.move (Operand.tmp 3)), 3, some (16, false)⟩,
    ⟨some 18, (Op.binOp BinOp.gtr 3 (Operand.tmp 17) (Operand.const (Value.int IntKind.i64 0)) 3), 4, some (16, false)⟩,
    ⟨some 19, (Op.move (Operand.tmp 18)), 4, some (16, false)⟩,
    ⟨some 20, (Op.move (Operand.tmp 0)), 27, some (19, true)⟩,
    ⟨some 21, (Op.move (Operand.tmp 3)), 3, some (19, true)⟩,
    ⟨some 22, (Op.binOp BinOp.sub 3 (Operand.tmp 21) (Operand.const (Value.int IntKind.i64 1)) 3), 3, some (19, true)⟩,
    ⟨some 23, (Op.indexAddr 27 (Operand.tmp 20) (Operand.tmp 22)), 0, some (19, true)⟩,
    ⟨some 24, (Op.fieldAddr 35 (Operand.tmp 23) 0), 0, some (19, true)⟩,
    ⟨some 25, (Op.load 3 (Operand.tmp 24)), 3, some (19, true)⟩,
    ⟨some 26, (Op.move (Operand.tmp 0)), 27, some (19, true)⟩,
    ⟨some 27, (Op.move (Operand.tmp 3)), 3, some (19, true)⟩,
    ⟨some 28, (Op.indexAddr 27 (Operand.tmp 26) (Operand.tmp 27)), 0, some (19, true)⟩,
    ⟨some 29, (Op.fieldAddr 35 (Operand.tmp 28) 0), 0, some (19, true)⟩,
    ⟨some 30, (Op.load 3 (Operand.tmp 29)), 3, some (19, true)⟩,
    ⟨some 31, (Op.binOp BinOp.geq 3 (Operand.tmp 25) (Operand.tmp 30) 3), 4, some (19, true)⟩,
    ⟨some 32, (Op.pick (Operand.tmp 19) (Operand.tmp 31) (Operand.const (Value.bool false))), 4, some (16, false)⟩,
    ⟨some 33, (Op.pick (Operand.tmp 16) (Operand.const (Value.bool true)) (Operand.tmp 32)), 4, none⟩]) (.cond (Operand.tmp 33) (.seq (.ops [⟨some 2, (Op.assign (Operand.const (Value.bool false))), 4, none⟩]) .ret) .skip))) (.ops [⟨some 8, (Op.move (Operand.tmp 3)), 3, none⟩,
    ⟨some 9, (Op.binOp BinOp.add 3 (Operand.tmp 8) (Operand.const (Value.int IntKind.i64 1)) 3), 3, none⟩,
    ⟨some 3, (Op.assign (Operand.tmp 9)), 3, none⟩])))
def c_gimmalref1_StoreMay : SF := ⟨37, [(ResultVar.tmp 2)],
  (.seq (.ops [⟨some 2, (Op.assign (Operand.const (Value.bool false))), 4, none⟩]) (.seq (.seq (.ops [⟨some 3, (Op.assign (Operand.const (Value.int IntKind.i64 0))), 3, none⟩]) (.block 0 (.loop c_gimmalref1_StoreMay_L0))) (.seq (.ops [⟨some 34, (Op.move (Operand.tmp 0)), 27, none⟩,
    ⟨some 35, (Op.call ⟨(Callee.builtin Builtin.len), #[(Operand.tmp 34)], #[27]⟩), 3, none⟩,
    ⟨some 36, (Op.binOp BinOp.leq 3 (Operand.tmp 35) (Operand.const (Value.int IntKind.i64 16)) 3), 4, none⟩,
    ⟨some 2, (Op.assign (Operand.tmp 36)), 4, none⟩]) .ret)))⟩
theorem is_gimmalref1_StoreMay (c : Cfg) (h : c.lendT = []) : isF PP c 29 c_gimmalref1_StoreMay := isF_of (fn := Proofs.Try.f29) (by kernel_rfl) (by kernel_rfl) rfl h (by kernel_rfl) rfl rfl (by kernel_rfl)
def c_gimmallaw0_SamePeers_L0 : SC := (.seq (.seq (.ops [⟨some 11, (Op.move (Operand.tmp 5)), 3, none⟩,
    ⟨some 12, (Op.move (Operand.tmp 0)), 23, none⟩,
    ⟨some 13, (Op.call ⟨(Callee.builtin Builtin.len), #[(Operand.tmp 12)], #[23]⟩), 3, none⟩,
    ⟨some 14, (Op.binOp BinOp.lss 3 (Operand.tmp 11) (Operand.tmp 13) 3), 4, none⟩]) (.cond (Operand.tmp 14) .skip (.exit 0))) (.seq (.block 1 (.seq (.ops [⟨some 17, (Op.move (Operand.tmp 0)), 23, none⟩,
    ⟨some 18, (Op.move (Operand.tmp 5)), 3, none⟩,
    ⟨some 21, (Op.move (Operand.tmp 1)), 23, none⟩,
    ⟨some 22, (Op.move (Operand.tmp 5)), 3, none⟩,
    ⟨some 19, (Op.indexAddr 23 (Operand.tmp 17) (Operand.tmp 18)), 0, none⟩,
    ⟨some 20, (Op.load 54 (Operand.tmp 19)), 54, none⟩,
    ⟨some 23, (Op.indexAddr 23 (Operand.tmp 21) (Operand.tmp 22)), 0, none⟩,
    ⟨some 24, (Op.load 54 (Operand.tmp 23)), 54, none⟩,
    ⟨some 25, (Op.binOp BinOp.neq 54 (Operand.tmp 20) (Operand.tmp 24) 54), 4, none⟩]) (.cond (Operand.tmp 25) (.seq (.ops [⟨some 4, (Op.assign (Operand.const (Value.bool false))), 4, none⟩]) .ret) .skip))) (.ops [⟨some 15, (Op.move (Operand.tmp 5)), 3, none⟩,
    ⟨some 16, (Op.binOp BinOp.add 3 (Operand.tmp 15) (Operand.const (Value.int IntKind.i64 1)) 3), 3, none⟩,
    ⟨some 5, (Op.assign (Operand.tmp 16)), 3, none⟩])))
def c_gimmallaw0_SamePeers : SF := ⟨26, [(ResultVar.tmp 4)],
  (.seq (.ops [⟨some 4, (Op.assign (Operand.const (Value.bool false))), 4, none⟩]) (.seq (.seq (.ops [⟨some 6, (Op.move (Operand.tmp 0)), 23, none⟩,
    ⟨some 7, (Op.call ⟨(Callee.builtin Builtin.len), #[(Operand.tmp 6)], #[23]⟩), 3, none⟩,
    ⟨some 8, (Op.move (Operand.tmp 1)), 23, none⟩,
    ⟨some 9, (Op.call ⟨(Callee.builtin Builtin.len), #[(Operand.tmp 8)], #[23]⟩), 3, none⟩,
    ⟨some 10, (Op.binOp BinOp.neq 3 (Operand.tmp 7) (Operand.tmp 9) 3), 4, none⟩]) (.cond (Operand.tmp 10) (.seq (.ops [⟨some 4, (Op.assign (Operand.const (Value.bool false))), 4, none⟩]) .ret) .skip)) (.seq (.seq (.ops [⟨some 5, (Op.assign (Operand.const (Value.int IntKind.i64 0))), 3, none⟩]) (.block 0 (.loop c_gimmallaw0_SamePeers_L0))) (.seq (.ops [⟨some 4, (Op.assign (Operand.const (Value.bool true))), 4, none⟩]) .ret))))⟩
theorem is_gimmallaw0_SamePeers (c : Cfg) (h : c.lendT = []) : isF PP c 30 c_gimmallaw0_SamePeers := isF_of (fn := Proofs.Try.f30) (by kernel_rfl) (by kernel_rfl) rfl h (by kernel_rfl) rfl rfl (by kernel_rfl)
def c_gimmallaw0_SameInts_L0 : SC := (.seq (.seq (.ops [⟨some 11, (Op.move (Operand.tmp 5)), 3, none⟩,
    ⟨some 12, (Op.move (Operand.tmp 0)), 24, none⟩,
    ⟨some 13, (Op.call ⟨(Callee.builtin Builtin.len), #[(Operand.tmp 12)], #[24]⟩), 3, none⟩,
    ⟨some 14, (Op.binOp BinOp.lss 3 (Operand.tmp 11) (Operand.tmp 13) 3), 4, none⟩]) (.cond (Operand.tmp 14) .skip (.exit 0))) (.seq (.block 1 (.seq (.ops [⟨some 17, (Op.move (Operand.tmp 0)), 24, none⟩,
    ⟨some 18, (Op.move (Operand.tmp 5)), 3, none⟩,
    ⟨some 21, (Op.move (Operand.tmp 1)), 24, none⟩,
    ⟨some 22, (Op.move (Operand.tmp 5)), 3, none⟩,
    ⟨some 19, (Op.indexAddr 24 (Operand.tmp 17) (Operand.tmp 18)), 0, none⟩,
    ⟨some 20, (Op.load 3 (Operand.tmp 19)), 3, none⟩,
    ⟨some 23, (Op.indexAddr 24 (Operand.tmp 21) (Operand.tmp 22)), 0, none⟩,
    ⟨some 24, (Op.load 3 (Operand.tmp 23)), 3, none⟩,
    ⟨some 25, (Op.binOp BinOp.neq 3 (Operand.tmp 20) (Operand.tmp 24) 3), 4, none⟩]) (.cond (Operand.tmp 25) (.seq (.ops [⟨some 4, (Op.assign (Operand.const (Value.bool false))), 4, none⟩]) .ret) .skip))) (.ops [⟨some 15, (Op.move (Operand.tmp 5)), 3, none⟩,
    ⟨some 16, (Op.binOp BinOp.add 3 (Operand.tmp 15) (Operand.const (Value.int IntKind.i64 1)) 3), 3, none⟩,
    ⟨some 5, (Op.assign (Operand.tmp 16)), 3, none⟩])))
def c_gimmallaw0_SameInts : SF := ⟨26, [(ResultVar.tmp 4)],
  (.seq (.ops [⟨some 4, (Op.assign (Operand.const (Value.bool false))), 4, none⟩]) (.seq (.seq (.ops [⟨some 6, (Op.move (Operand.tmp 0)), 24, none⟩,
    ⟨some 7, (Op.call ⟨(Callee.builtin Builtin.len), #[(Operand.tmp 6)], #[24]⟩), 3, none⟩,
    ⟨some 8, (Op.move (Operand.tmp 1)), 24, none⟩,
    ⟨some 9, (Op.call ⟨(Callee.builtin Builtin.len), #[(Operand.tmp 8)], #[24]⟩), 3, none⟩,
    ⟨some 10, (Op.binOp BinOp.neq 3 (Operand.tmp 7) (Operand.tmp 9) 3), 4, none⟩]) (.cond (Operand.tmp 10) (.seq (.ops [⟨some 4, (Op.assign (Operand.const (Value.bool false))), 4, none⟩]) .ret) .skip)) (.seq (.seq (.ops [⟨some 5, (Op.assign (Operand.const (Value.int IntKind.i64 0))), 3, none⟩]) (.block 0 (.loop c_gimmallaw0_SameInts_L0))) (.seq (.ops [⟨some 4, (Op.assign (Operand.const (Value.bool true))), 4, none⟩]) .ret))))⟩
theorem is_gimmallaw0_SameInts (c : Cfg) (h : c.lendT = []) : isF PP c 31 c_gimmallaw0_SameInts := isF_of (fn := Proofs.Try.f31) (by kernel_rfl) (by kernel_rfl) rfl h (by kernel_rfl) rfl rfl (by kernel_rfl)
def c_gimmalref1_placesMay_L0 : SC := (.seq (.seq (.ops [⟨some 4, (Op.move (Operand.tmp 3)), 3, none⟩,
    ⟨some 5, (Op.move (Operand.tmp 0)), 24, none⟩,
    ⟨some 6, (Op.call ⟨(Callee.builtin Builtin.len), #[(Operand.tmp 5)], #[24]⟩), 3, none⟩,
    ⟨some 7, (Op.binOp BinOp.lss 3 (Operand.tmp 4) (Operand.tmp 6) 3), 4, none⟩]) (.cond (Operand.tmp 7) .skip (.exit 0))) (.seq (.block 1 (.seq (.ops [⟨some 10, (Op.move (Operand.tmp 0)), 24, none⟩,
    ⟨some 11, (Op.move (Operand.tmp 3)), 3, none⟩,
    ⟨some 12, (Op.indexAddr 24 (Operand.tmp 10) (Operand.tmp 11)), 0, none⟩,
    ⟨some 13, (Op.load 3 (Operand.tmp 12)), 3, none⟩,
    ⟨some 14, (Op.call ⟨(Callee.value (Operand.func 26)), #[(Operand.tmp 13)], #[3]⟩), 4, none⟩,
    ⟨some 15, (Op.unOp UnOp.not 4 (Operand.tmp 14)), 4, none⟩]) (.cond (Operand.tmp 15) (.seq (.ops [⟨some 2, (Op.assign (Operand.const (Value.bool false))), 4, none⟩]) .ret) .skip))) (.ops [⟨some 8, (Op.move (Operand.tmp 3)), 3, none⟩,
    ⟨some 9, (Op.binOp BinOp.add 3 (Operand.tmp 8) (Operand.const (Value.int IntKind.i64 1)) 3), 3, none⟩,
    ⟨some 3, (Op.assign (Operand.tmp 9)), 3, none⟩])))
def c_gimmalref1_placesMay : SF := ⟨16, [(ResultVar.tmp 2)],
  (.seq (.ops [⟨some 2, (Op.assign (Operand.const (Value.bool false))), 4, none⟩]) (.seq (.seq (.ops [⟨some 3, (Op.assign (Operand.const (Value.int IntKind.i64 0))), 3, none⟩]) (.block 0 (.loop c_gimmalref1_placesMay_L0))) (.seq (.ops [⟨some 2, (Op.assign (Operand.const (Value.bool true))), 4, none⟩]) .ret)))⟩
theorem is_gimmalref1_placesMay (c : Cfg) (h : c.lendT = []) : isF PP c 32 c_gimmalref1_placesMay := isF_of (fn := Proofs.Try.f32) (by kernel_rfl) (by kernel_rfl) rfl h (by kernel_rfl) rfl rfl (by kernel_rfl)
def c_gimmalref1_ItemMay : SF := ⟨26, [(ResultVar.tmp 2)],
  (.seq (.ops [⟨some 1, (Op.box 35 (Operand.tmp 0)), 0, none⟩,
    ⟨some 2, (Op.assign (Operand.const (Value.bool false))), 4, none⟩]) (.seq (.ops [⟨some 3, (Op.fieldAddr 35 (Operand.tmp 1) 0), 0, none⟩,
    ⟨some 4, (Op.load 3 (Operand.tmp 3)), 3, none⟩,
    ⟨some 5, (Op.call ⟨(Callee.value (Operand.func 49)), #[(Operand.tmp 4)], #[3]⟩), 4, none⟩,
    ⟨some 6, (Op.move (Operand.tmp 5)), 4, none⟩,
    ⟨some 7, (Op.fieldAddr 35 (Operand.tmp 1) 2), 0, some (6, true)⟩,
    ⟨some 8, (Op.load 3 (Operand.tmp 7)), 3, some (6, true)⟩,
    ⟨some 9, (Op.call ⟨(Callee.value (Operand.func 49)), #[(Operand.tmp 8)], #[3]⟩), 4, some (6, true)⟩,
    ⟨some 10, (Op.pick (Operand.tmp 6) (Operand.tmp 9) (Operand.const (Value.bool false))), 4, none⟩,
    ⟨some 11, (Op.move (Operand.tmp 10)), 4, none⟩,
    ⟨some 12, (Op.fieldAddr 35 (Operand.tmp 1) 1), 0, some (11, true)⟩,
    ⟨some 13, (Op.load 33 (Operand.tmp 12)), 33, some (11, true)⟩,
    ⟨some 14, (Op.call ⟨(Callee.value (Operand.func 50)), #[(Operand.tmp 13)], #[33]⟩), 4, some (11, true)⟩,
    ⟨some 15, (Op.pick (Operand.tmp 11) (Operand.tmp 14) (Operand.const (Value.bool false))), 4, none⟩,
    ⟨some 16, (Op.move (Operand.tmp 15)), 4, none⟩,
    ⟨some 17, (Op.fieldAddr 35 (Operand.tmp 1) 3), 0, some (16, true)⟩,
    ⟨some 18, (Op.load 4 (Operand.tmp 17)), 4, some (16, true)⟩,
    ⟨some 19, (Op.unOp UnOp.not 4 (Operand.tmp 18)), 4, some (16, true)⟩,
    ⟨some 20, (Op.move (Operand.tmp 19)), 4, some (16, true)⟩,
    ⟨some 21, (Op.fieldAddr 35 (Operand.tmp 1) 2), 0, some (20, false)⟩,
    ⟨some 22, (Op.load 3 (Operand.tmp 21)), 3, some (20, false)⟩,
    ⟨some 23, (Op.binOp BinOp.eql 3 (Operand.tmp 22) (Operand.const (Value.int IntKind.i64 0)) 3), 4, some (20, false)⟩,
    ⟨some 24, (Op.pick (Operand.tmp 20) (Operand.const (Value.bool true)) (Operand.tmp 23)), 4, some (16, true)⟩,
    ⟨some 25, (Op.pick (Operand.tmp 16) (Operand.tmp 24) (Operand.const (Value.bool false))), 4, none⟩,
    ⟨some 2, (Op.assign (Operand.tmp 25)), 4, none⟩]) .ret))⟩
theorem is_gimmalref1_ItemMay (c : Cfg) (h : c.lendT = []) : isF PP c 33 c_gimmalref1_ItemMay := isF_of (fn := Proofs.Try.f33) (by kernel_rfl) (by kernel_rfl) rfl h (by kernel_rfl) rfl rfl (by kernel_rfl)
def c_node_May : SF := ⟨46, [(ResultVar.tmp 2)],
  (.seq (.ops [⟨some 1, (Op.box 30 (Operand.tmp 0)), 0, none⟩,
    ⟨some 2, (Op.assign (Operand.const (Value.bool false))), 4, none⟩]) (.seq (.seq (.ops [⟨some 3, (Op.fieldAddr 30 (Operand.tmp 1) 0), 0, none⟩,
    ⟨some 4, (Op.load 4 (Operand.tmp 3)), 4, none⟩,
    ⟨some 5, (Op.unOp UnOp.not 4 (Operand.tmp 4)), 4, none⟩,
    ⟨some 6, (Op.move (Operand.tmp 5)), 4, none⟩,
    ⟨some 7, (Op.fieldAddr 30 (Operand.tmp 1) 1), 0, some (6, true)⟩,
    ⟨some 8, (Op.fieldAddr 26 (Operand.tmp 7) 1), 0, some (6, true)⟩,
    ⟨some 9, (Op.load 23 (Operand.tmp 8)), 23, some (6, true)⟩,
    ⟨some 10, (Op.call ⟨(Callee.builtin Builtin.len), #[(Operand.tmp 9)], #[23]⟩), 3, some (6, true)⟩,
    ⟨some 11, (Op.fieldAddr 30 (Operand.tmp 1) 1), 0, some (6, true)⟩,
    ⟨some 12, (Op.fieldAddr 26 (Operand.tmp 11) 2), 0, some (6, true)⟩,
    ⟨some 13, (Op.load 24 (Operand.tmp 12)), 24, some (6, true)⟩,
    ⟨some 14, (Op.call ⟨(Callee.builtin Builtin.len), #[(Operand.tmp 13)], #[24]⟩), 3, some (6, true)⟩,
    ⟨some 15, (Op.binOp BinOp.add 3 (Operand.tmp 10) (Operand.tmp 14) 3), 3, some (6, true)⟩,
    ⟨some 16, (Op.fieldAddr 30 (Operand.tmp 1) 2), 0, some (6, true)⟩,
    ⟨some 17, (Op.load 27 (Operand.tmp 16)), 27, some (6, true)⟩,
    ⟨some 18, (Op.call ⟨(Callee.builtin Builtin.len), #[(Operand.tmp 17)], #[27]⟩), 3, some (6, true)⟩,
    ⟨some 19, (Op.binOp BinOp.add 3 (Operand.tmp 15) (Operand.tmp 18) 3), 3, some (6, true)⟩,
    ⟨some 20, (Op.fieldAddr 30 (Operand.tmp 1) 3), 0, some (6, true)⟩,
    ⟨some 21, (Op.load 28 (Operand.tmp 20)), 28, some (6, true)⟩,
    ⟨some 22, (Op.call ⟨(Callee.builtin Builtin.len), #[(Operand.tmp 21)], #[28]⟩), 3, some (6, true)⟩,
    ⟨some 23, (Op.binOp BinOp.add 3 (Operand.tmp 19) (Operand.tmp 22) 3), 3, some (6, true)⟩,
    ⟨some 24, (Op.binOp BinOp.gtr 3 (Operand.tmp 23) (Operand.const (Value.int IntKind.i64 0)) 3), 4, some (6, true)⟩,
    ⟨some 25, (Op.pick (Operand.tmp 6) (Operand.tmp 24) (Operand.const (Value.bool false))), 4, none⟩]) (.cond (Operand.tmp 25) (.seq (.ops [⟨some 2, (Op.assign (Operand.const (Value.bool false))), 4, none⟩]) .ret) .skip)) (.seq (.ops [⟨some 26, (Op.fieldAddr 30 (Operand.tmp 1) 1), 0, none⟩,
    ⟨some 27, (Op.load 26 (Operand.tmp 26)), 26, none⟩,
    ⟨some 28, (Op.call ⟨(Callee.value (Operand.func 51)), #[(Operand.tmp 27)], #[26]⟩), 4, none⟩,
    ⟨some 29, (Op.move (Operand.tmp 28)), 4, none⟩,
    ⟨some 30, (Op.fieldAddr 30 (Operand.tmp 1) 2), 0, some (29, true)⟩,
    ⟨some 31, (Op.load 27 (Operand.tmp 30)), 27, some (29, true)⟩,
    ⟨some 32, (Op.call ⟨(Callee.value (Operand.func 52)), #[(Operand.tmp 31)], #[27]⟩), 4, some (29, true)⟩,
    ⟨some 33, (Op.pick (Operand.tmp 29) (Operand.tmp 32) (Operand.const (Value.bool false))), 4, none⟩,
    ⟨some 34, (Op.move (Operand.tmp 33)), 4, none⟩,
    ⟨some 35, (Op.fieldAddr 30 (Operand.tmp 1) 3), 0, some (34, true)⟩,
    ⟨some 36, (Op.load 28 (Operand.tmp 35)), 28, some (34, true)⟩,
    ⟨some 37, (Op.call ⟨(Callee.builtin Builtin.len), #[(Operand.tmp 36)], #[28]⟩), 3, some (34, true)⟩,
    ⟨some 38, (Op.binOp BinOp.leq 3 (Operand.tmp 37) (Operand.const (Value.int IntKind.i64 64)) 3), 4, some (34, true)⟩,
    ⟨some 39, (Op.pick (Operand.tmp 34) (Operand.tmp 38) (Operand.const (Value.bool false))), 4, none⟩,
    ⟨some 40, (Op.move (Operand.tmp 39)), 4, none⟩,
    ⟨some 41, (Op.fieldAddr 30 (Operand.tmp 1) 3), 0, some (40, true)⟩,
    ⟨some 42, (Op.load 28 (Operand.tmp 41)), 28, some (40, true)⟩,
    ⟨some 43, (Op.call ⟨(Callee.value (Operand.func 53)), #[(Operand.tmp 42), (Operand.func 54)], #[28, 84]⟩), 4, some (40, true)⟩,
    ⟨some 44, (Op.unOp UnOp.not 4 (Operand.tmp 43)), 4, some (40, true)⟩,
    ⟨some 45, (Op.pick (Operand.tmp 40) (Operand.tmp 44) (Operand.const (Value.bool false))), 4, none⟩,
    ⟨some 2, (Op.assign (Operand.tmp 45)), 4, none⟩]) .ret)))⟩
theorem is_node_May (c : Cfg) (h : c.lendT = []) : isF PP c 34 c_node_May := isF_of (fn := Proofs.Try.f34) (by kernel_rfl) (by kernel_rfl) rfl h (by kernel_rfl) rfl rfl (by kernel_rfl)
def c_ring_Place : SF := ⟨9, [(ResultVar.tmp 2)],
  (.seq (.ops [⟨some 2, (Op.assign (Operand.const (Value.bool false))), 4, none⟩]) (.seq (.ops [⟨some 3, (Op.move (Operand.tmp 0)), 3, none⟩,
    ⟨some 4, (Op.binOp BinOp.geq 3 (Operand.tmp 3) (Operand.const (Value.int IntKind.i64 0)) 3), 4, none⟩,
    ⟨some 5, (Op.move (Operand.tmp 4)), 4, none⟩,
    ⟨some 6, (Op.move (Operand.tmp 0)), 3, some (5, true)⟩,
    ⟨some 7, (Op.binOp BinOp.lss 3 (Operand.tmp 6) (Operand.const (Value.int IntKind.i64 256)) 3), 4, some (5, true)⟩,
    ⟨some 8, (Op.pick (Operand.tmp 5) (Operand.tmp 7) (Operand.const (Value.bool false))), 4, none⟩,
    ⟨some 2, (Op.assign (Operand.tmp 8)), 4, none⟩]) .ret))⟩
theorem is_ring_Place (c : Cfg) (h : c.lendT = []) : isF PP c 35 c_ring_Place := isF_of (fn := Proofs.Try.f35) (by kernel_rfl) (by kernel_rfl) rfl h (by kernel_rfl) rfl rfl (by kernel_rfl)
def c_msg_none : SF := ⟨23, [(ResultVar.tmp 2)],
  (.seq (.ops [⟨some 1, (Op.box 38 (Operand.tmp 0)), 0, none⟩,
    ⟨some 2, (Op.assign (Operand.const (Value.bool false))), 4, none⟩]) (.seq (.ops [⟨some 3, (Op.fieldAddr 38 (Operand.tmp 1) 3), 0, none⟩,
    ⟨some 4, (Op.load 24 (Operand.tmp 3)), 24, none⟩,
    ⟨some 5, (Op.call ⟨(Callee.builtin Builtin.len), #[(Operand.tmp 4)], #[24]⟩), 3, none⟩,
    ⟨some 6, (Op.binOp BinOp.eql 3 (Operand.tmp 5) (Operand.const (Value.int IntKind.i64 0)) 3), 4, none⟩,
    ⟨some 7, (Op.move (Operand.tmp 6)), 4, none⟩,
    ⟨some 8, (Op.fieldAddr 38 (Operand.tmp 1) 4), 0, some (7, true)⟩,
    ⟨some 9, (Op.load 3 (Operand.tmp 8)), 3, some (7, true)⟩,
    ⟨some 10, (Op.binOp BinOp.eql 3 (Operand.tmp 9) (Operand.const (Value.int IntKind.i64 0)) 3), 4, some (7, true)⟩,
    ⟨some 11, (Op.pick (Operand.tmp 7) (Operand.tmp 10) (Operand.const (Value.bool false))), 4, none⟩,
    ⟨some 12, (Op.move (Operand.tmp 11)), 4, none⟩,
    ⟨some 13, (Op.fieldAddr 38 (Operand.tmp 1) 5), 0, some (12, true)⟩,
    ⟨some 14, (Op.load 35 (Operand.tmp 13)), 35, some (12, true)⟩,
    ⟨some 15, (Op.build 35 #[]), 35, some (12, true)⟩,
    ⟨some 16, (Op.binOp BinOp.eql 35 (Operand.tmp 14) (Operand.tmp 15) 35), 4, some (12, true)⟩,
    ⟨some 17, (Op.pick (Operand.tmp 12) (Operand.tmp 16) (Operand.const (Value.bool false))), 4, none⟩,
    ⟨some 18, (Op.move (Operand.tmp 17)), 4, none⟩,
    ⟨some 19, (Op.fieldAddr 38 (Operand.tmp 1) 6), 0, some (18, true)⟩,
    ⟨some 20, (Op.load 4 (Operand.tmp 19)), 4, some (18, true)⟩,
    ⟨some 21, (Op.unOp UnOp.not 4 (Operand.tmp 20)), 4, some (18, true)⟩,
    ⟨some 22, (Op.pick (Operand.tmp 18) (Operand.tmp 21) (Operand.const (Value.bool false))), 4, none⟩,
    ⟨some 2, (Op.assign (Operand.tmp 22)), 4, none⟩]) .ret))⟩
theorem is_msg_none (c : Cfg) (h : c.lendT = []) : isF PP c 36 c_msg_none := isF_of (fn := Proofs.Try.f36) (by kernel_rfl) (by kernel_rfl) rfl h (by kernel_rfl) rfl rfl (by kernel_rfl)
def c_ring_Places_L0 : SC := (.seq (.ops [⟨some 8, (Op.binOp BinOp.lss 3 (Operand.tmp 7) (Operand.tmp 6) 3), 0, none⟩]) (.seq (.cond (Operand.tmp 8) .skip (.exit 0)) (.seq (.block 1 (.seq (.ops [⟨some 9, (Op.indexAddr 24 (Operand.tmp 5) (Operand.tmp 7)), 0, none⟩,
    ⟨some 10, (Op.load 3 (Operand.tmp 9)), 3, none⟩,
    ⟨some 4, (Op.assign (Operand.tmp 10)), 3, none⟩]) (.seq (.ops [⟨some 11, (Op.move (Operand.tmp 4)), 3, none⟩,
    ⟨some 12, (Op.call ⟨(Callee.value (Operand.func 35)), #[(Operand.tmp 11)], #[3]⟩), 4, none⟩,
    ⟨some 13, (Op.unOp UnOp.not 4 (Operand.tmp 12)), 4, none⟩]) (.cond (Operand.tmp 13) (.seq (.ops [⟨some 2, (Op.assign (Operand.const (Value.bool false))), 4, none⟩]) .ret) .skip)))) (.ops [⟨some 14, (Op.binOp BinOp.add 3 (Operand.tmp 7) (Operand.const (Value.int IntKind.i64 1)) 3), 3, none⟩,
    ⟨some 7, (Op.move (Operand.tmp 14)), 3, none⟩]))))
def c_ring_Places : SF := ⟨15, [(ResultVar.tmp 2)],
  (.seq (.ops [⟨some 2, (Op.assign (Operand.const (Value.bool false))), 4, none⟩]) (.seq (.seq (.ops [⟨some 5, (Op.move (Operand.tmp 0)), 24, none⟩,
    ⟨some 6, (Op.call ⟨(Callee.builtin Builtin.len), #[(Operand.tmp 5)], #[24]⟩), 3, none⟩,
    ⟨some 7, (Op.move (Operand.const (Value.int IntKind.i64 0))), 3, none⟩]) (.block 0 (.loop c_ring_Places_L0))) (.seq (.ops [⟨some 2, (Op.assign (Operand.const (Value.bool true))), 4, none⟩]) .ret)))⟩
theorem is_ring_Places (c : Cfg) (h : c.lendT = []) : isF PP c 37 c_ring_Places := isF_of (fn := Proofs.Try.f37) (by kernel_rfl) (by kernel_rfl) rfl h (by kernel_rfl) rfl rfl (by kernel_rfl)
end Go.AM
/- AM: this seat's functions in short. -/
namespace Go.AM
set_option linter.unusedSimpArgs false
set_option linter.unusedVariables false
def c_item_May : SF := ⟨26, [(ResultVar.tmp 2)],
  (.seq (.ops [⟨some 1, (Op.box 35 (Operand.tmp 0)), 0, none⟩,
    ⟨some 2, (Op.assign (Operand.const (Value.bool false))), 4, none⟩]) (.seq (.ops [⟨some 3, (Op.fieldAddr 35 (Operand.tmp 1) 0), 0, none⟩,
    ⟨some 4, (Op.load 3 (Operand.tmp 3)), 3, none⟩,
    ⟨some 5, (Op.call ⟨(Callee.value (Operand.func 55)), #[(Operand.tmp 4)], #[3]⟩), 4, none⟩,
    ⟨some 6, (Op.move (Operand.tmp 5)), 4, none⟩,
    ⟨some 7, (Op.fieldAddr 35 (Operand.tmp 1) 2), 0, some (6, true)⟩,
    ⟨some 8, (Op.load 3 (Operand.tmp 7)), 3, some (6, true)⟩,
    ⟨some 9, (Op.call ⟨(Callee.value (Operand.func 55)), #[(Operand.tmp 8)], #[3]⟩), 4, some (6, true)⟩,
    ⟨some 10, (Op.pick (Operand.tmp 6) (Operand.tmp 9) (Operand.const (Value.bool false))), 4, none⟩,
    ⟨some 11, (Op.move (Operand.tmp 10)), 4, none⟩,
    ⟨some 12, (Op.fieldAddr 35 (Operand.tmp 1) 1), 0, some (11, true)⟩,
    ⟨some 13, (Op.load 33 (Operand.tmp 12)), 33, some (11, true)⟩,
    ⟨some 14, (Op.call ⟨(Callee.value (Operand.func 56)), #[(Operand.tmp 13)], #[33]⟩), 4, some (11, true)⟩,
    ⟨some 15, (Op.pick (Operand.tmp 11) (Operand.tmp 14) (Operand.const (Value.bool false))), 4, none⟩,
    ⟨some 16, (Op.move (Operand.tmp 15)), 4, none⟩,
    ⟨some 17, (Op.fieldAddr 35 (Operand.tmp 1) 3), 0, some (16, true)⟩,
    ⟨some 18, (Op.load 4 (Operand.tmp 17)), 4, some (16, true)⟩,
    ⟨some 19, (Op.unOp UnOp.not 4 (Operand.tmp 18)), 4, some (16, true)⟩,
    ⟨some 20, (Op.move (Operand.tmp 19)), 4, some (16, true)⟩,
    ⟨some 21, (Op.fieldAddr 35 (Operand.tmp 1) 2), 0, some (20, false)⟩,
    ⟨some 22, (Op.load 3 (Operand.tmp 21)), 3, some (20, false)⟩,
    ⟨some 23, (Op.binOp BinOp.eql 3 (Operand.tmp 22) (Operand.const (Value.int IntKind.i64 0)) 3), 4, some (20, false)⟩,
    ⟨some 24, (Op.pick (Operand.tmp 20) (Operand.const (Value.bool true)) (Operand.tmp 23)), 4, some (16, true)⟩,
    ⟨some 25, (Op.pick (Operand.tmp 16) (Operand.tmp 24) (Operand.const (Value.bool false))), 4, none⟩,
    ⟨some 2, (Op.assign (Operand.tmp 25)), 4, none⟩]) .ret))⟩
theorem is_item_May (c : Cfg) (h : c.lendT = []) : isF PP c 38 c_item_May := isF_of (fn := Proofs.Try.f38) (by kernel_rfl) (by kernel_rfl) rfl h (by kernel_rfl) rfl rfl (by kernel_rfl)
def c_view_Copy : SF := ⟨12, [(ResultVar.cell 2 26)],
  (.seq (.ops [⟨some 1, (Op.box 26 (Operand.tmp 0)), 0, none⟩,
    ⟨some 2, (Op.alloc 26), 0, none⟩]) (.seq (.ops [⟨some 3, (Op.fieldAddr 26 (Operand.tmp 1) 1), 0, none⟩,
    ⟨some 4, (Op.load 23 (Operand.tmp 3)), 23, none⟩,
    ⟨some 5, (Op.call ⟨(Callee.value (Operand.func 57)), #[(Operand.tmp 4)], #[23]⟩), 23, none⟩,
    ⟨some 6, (Op.fieldAddr 26 (Operand.tmp 1) 2), 0, none⟩,
    ⟨some 7, (Op.load 24 (Operand.tmp 6)), 24, none⟩,
    ⟨some 8, (Op.call ⟨(Callee.value (Operand.func 58)), #[(Operand.tmp 7)], #[24]⟩), 24, none⟩,
    ⟨some 9, (Op.fieldAddr 26 (Operand.tmp 1) 1), 0, none⟩,
    ⟨none, (Op.store 23 (Operand.tmp 9) (Operand.tmp 5)), 0, none⟩,
    ⟨some 10, (Op.fieldAddr 26 (Operand.tmp 1) 2), 0, none⟩,
    ⟨none, (Op.store 24 (Operand.tmp 10) (Operand.tmp 8)), 0, none⟩]) (.seq (.ops [⟨some 11, (Op.load 26 (Operand.tmp 1)), 26, none⟩,
    ⟨none, (Op.store 26 (Operand.tmp 2) (Operand.tmp 11)), 0, none⟩]) .ret)))⟩
theorem is_view_Copy (c : Cfg) (h : c.lendT = []) : isF PP c 39 c_view_Copy := isF_of (fn := Proofs.Try.f39) (by kernel_rfl) (by kernel_rfl) rfl h (by kernel_rfl) rfl rfl (by kernel_rfl)
def c_slices_Clone_api_Item_api_Item : SF := ⟨8, [(ResultVar.tmp 2)],
  (.seq (.ops [⟨some 2, (Op.assign (Operand.const (Value.slice none 0 0))), 27, none⟩]) (.seq (.seq (.ops [⟨some 3, (Op.move (Operand.tmp 0)), 27, none⟩,
    ⟨some 4, (Op.binOp BinOp.eql 27 (Operand.tmp 3) (Operand.const (Value.slice none 0 0)) 27), 4, none⟩]) (.cond (Operand.tmp 4) (.seq (.ops [⟨some 2, (Op.assign (Operand.const (Value.slice none 0 0))), 27, none⟩]) .ret) .skip)) (.seq (.ops [⟨some 5, (Op.buildSlice 27 0 #[]), 27, none⟩,
    ⟨some 6, (Op.move (Operand.tmp 0)), 27, none⟩,
    ⟨some 7, (Op.call ⟨(Callee.builtin Builtin.append), #[(Operand.tmp 5), (Operand.tmp 6)], #[27, 27]⟩), 27, none⟩,
    ⟨some 2, (Op.assign (Operand.tmp 7)), 27, none⟩]) .ret)))⟩
theorem is_slices_Clone_api_Item_api_Item (c : Cfg) (h : c.lendT = []) : isF PP c 40 c_slices_Clone_api_Item_api_Item := isF_of (fn := Proofs.Try.f40) (by kernel_rfl) (by kernel_rfl) rfl h (by kernel_rfl) rfl rfl (by kernel_rfl)
def c_slices_Clone_api_Told_api_Told : SF := ⟨8, [(ResultVar.tmp 2)],
  (.seq (.ops [⟨some 2, (Op.assign (Operand.const (Value.slice none 0 0))), 28, none⟩]) (.seq (.seq (.ops [⟨some 3, (Op.move (Operand.tmp 0)), 28, none⟩,
    ⟨some 4, (Op.binOp BinOp.eql 28 (Operand.tmp 3) (Operand.const (Value.slice none 0 0)) 28), 4, none⟩]) (.cond (Operand.tmp 4) (.seq (.ops [⟨some 2, (Op.assign (Operand.const (Value.slice none 0 0))), 28, none⟩]) .ret) .skip)) (.seq (.ops [⟨some 5, (Op.buildSlice 28 0 #[]), 28, none⟩,
    ⟨some 6, (Op.move (Operand.tmp 0)), 28, none⟩,
    ⟨some 7, (Op.call ⟨(Callee.builtin Builtin.append), #[(Operand.tmp 5), (Operand.tmp 6)], #[28, 28]⟩), 28, none⟩,
    ⟨some 2, (Op.assign (Operand.tmp 7)), 28, none⟩]) .ret)))⟩
theorem is_slices_Clone_api_Told_api_Told (c : Cfg) (h : c.lendT = []) : isF PP c 41 c_slices_Clone_api_Told_api_Told := isF_of (fn := Proofs.Try.f41) (by kernel_rfl) (by kernel_rfl) rfl h (by kernel_rfl) rfl rfl (by kernel_rfl)
def c_hello_Take_L0 : SC := (.seq (.ops [⟨some 43, (Op.binOp BinOp.lss 3 (Operand.tmp 42) (Operand.tmp 41) 3), 0, none⟩]) (.seq (.cond (Operand.tmp 43) .skip (.exit 0)) (.seq (.block 1 (.seq (.ops [⟨some 44, (Op.indexAddr 24 (Operand.tmp 40) (Operand.tmp 42)), 0, none⟩,
    ⟨some 45, (Op.load 3 (Operand.tmp 44)), 3, none⟩,
    ⟨some 10, (Op.assign (Operand.tmp 45)), 3, none⟩]) (.seq (.ops [⟨some 46, (Op.move (Operand.tmp 10)), 3, none⟩,
    ⟨some 47, (Op.fieldAddr 26 (Operand.tmp 8) 0), 0, none⟩,
    ⟨some 48, (Op.load 3 (Operand.tmp 47)), 3, none⟩,
    ⟨some 49, (Op.binOp BinOp.neq 3 (Operand.tmp 46) (Operand.tmp 48) 3), 4, none⟩,
    ⟨some 50, (Op.move (Operand.tmp 49)), 4, none⟩,
    ⟨some 51, (Op.move (Operand.tmp 10)), 3, some (50, true)⟩,
    ⟨some 52, (Op.call ⟨(Callee.value (Operand.func 60)), #[(Operand.tmp 8), (Operand.tmp 51)], #[88, 3]⟩), 4, some (50, true)⟩,
    ⟨some 53, (Op.unOp UnOp.not 4 (Operand.tmp 52)), 4, some (50, true)⟩,
    ⟨some 54, (Op.pick (Operand.tmp 50) (Operand.tmp 53) (Operand.const (Value.bool false))), 4, none⟩,
    ⟨some 55, (Op.move (Operand.tmp 54)), 4, none⟩,
    ⟨some 56, (Op.move (Operand.tmp 10)), 3, some (55, true)⟩,
    ⟨some 57, (Op.call ⟨(Callee.value (Operand.func 61)), #[(Operand.tmp 8), (Operand.tmp 56)], #[88, 3]⟩), 4, some (55, true)⟩,
    ⟨some 58, (Op.unOp UnOp.not 4 (Operand.tmp 57)), 4, some (55, true)⟩,
    ⟨some 59, (Op.pick (Operand.tmp 55) (Operand.tmp 58) (Operand.const (Value.bool false))), 4, none⟩]) (.cond (Operand.tmp 59) (.ops [⟨some 60, (Op.move (Operand.tmp 10)), 3, none⟩,
    ⟨some 61, (Op.call ⟨(Callee.value (Operand.func 59)), #[(Operand.tmp 8), (Operand.tmp 60)], #[88, 3]⟩), 0, none⟩]) .skip)))) (.ops [⟨some 62, (Op.binOp BinOp.add 3 (Operand.tmp 42) (Operand.const (Value.int IntKind.i64 1)) 3), 3, none⟩,
    ⟨some 42, (Op.move (Operand.tmp 62)), 3, none⟩]))))
def c_hello_Take : SF := ⟨64, [(ResultVar.cell 6 26), (ResultVar.tmp 7)],
  (.seq (.ops [⟨some 3, (Op.box 26 (Operand.tmp 0)), 0, none⟩,
    ⟨some 6, (Op.alloc 26), 0, none⟩,
    ⟨some 7, (Op.assign (Operand.const (Value.int IntKind.i64 0))), 40, none⟩]) (.seq (.seq (.ops [⟨some 11, (Op.load 26 (Operand.tmp 3)), 26, none⟩,
    ⟨some 12, (Op.call ⟨(Callee.value (Operand.func 51)), #[(Operand.tmp 11)], #[26]⟩), 4, none⟩,
    ⟨some 13, (Op.unOp UnOp.not 4 (Operand.tmp 12)), 4, none⟩,
    ⟨some 14, (Op.move (Operand.tmp 13)), 4, none⟩,
    ⟨some 15, (Op.move (Operand.tmp 1)), 3, some (14, false)⟩,
    ⟨some 16, (Op.call ⟨(Callee.value (Operand.func 35)), #[(Operand.tmp 15)], #[3]⟩), 4, some (14, false)⟩,
    ⟨some 17, (Op.unOp UnOp.not 4 (Operand.tmp 16)), 4, some (14, false)⟩,
    ⟨some 18, (Op.pick (Operand.tmp 14) (Operand.const (Value.bool true)) (Operand.tmp 17)), 4, none⟩,
    ⟨some 19, (Op.move (Operand.tmp 18)), 4, none⟩,
    ⟨some 20, (Op.move (Operand.tmp 1)), 3, some (19, false)⟩,
    ⟨some 21, (Op.fieldAddr 26 (Operand.tmp 3) 0), 0, some (19, false)⟩,
    ⟨some 22, (Op.load 3 (Operand.tmp 21)), 3, some (19, false)⟩,
    ⟨some 23, (Op.binOp BinOp.eql 3 (Operand.tmp 20) (Operand.tmp 22) 3), 4, some (19, false)⟩,
    ⟨some 24, (Op.pick (Operand.tmp 19) (Operand.const (Value.bool true)) (Operand.tmp 23)), 4, none⟩,
    ⟨some 25, (Op.move (Operand.tmp 24)), 4, none⟩,
    ⟨some 26, (Op.move (Operand.tmp 2)), 24, some (25, false)⟩,
    ⟨some 27, (Op.call ⟨(Callee.builtin Builtin.len), #[(Operand.tmp 26)], #[24]⟩), 3, some (25, false)⟩,
    ⟨some 28, (Op.binOp BinOp.gtr 3 (Operand.tmp 27) (Operand.const (Value.int IntKind.i64 16)) 3), 4, some (25, false)⟩,
    ⟨some 29, (Op.pick (Operand.tmp 25) (Operand.const (Value.bool true)) (Operand.tmp 28)), 4, none⟩,
    ⟨some 30, (Op.move (Operand.tmp 29)), 4, none⟩,
    ⟨some 31, (Op.move (Operand.tmp 2)), 24, some (30, false)⟩,
    ⟨some 32, (Op.call ⟨(Callee.value (Operand.func 37)), #[(Operand.tmp 31)], #[24]⟩), 4, some (30, false)⟩,
    ⟨some 33, (Op.unOp UnOp.not 4 (Operand.tmp 32)), 4, some (30, false)⟩,
    ⟨some 34, (Op.pick (Operand.tmp 30) (Operand.const (Value.bool true)) (Operand.tmp 33)), 4, none⟩]) (.cond (Operand.tmp 34) (.seq (.ops [⟨some 35, (Op.build 26 #[]), 26, none⟩,
    ⟨none, (Op.store 26 (Operand.tmp 6) (Operand.tmp 35)), 0, none⟩,
    ⟨some 7, (Op.assign (Operand.const (Value.int IntKind.i64 1000))), 40, none⟩]) .ret) .skip)) (.seq (.ops [⟨some 36, (Op.load 26 (Operand.tmp 3)), 26, none⟩,
    ⟨some 37, (Op.call ⟨(Callee.value (Operand.func 39)), #[(Operand.tmp 36)], #[26]⟩), 26, none⟩,
    ⟨some 8, (Op.alloc 26), 0, none⟩,
    ⟨none, (Op.store 26 (Operand.tmp 8) (Operand.tmp 37)), 0, none⟩]) (.seq (.ops [⟨some 38, (Op.move (Operand.tmp 1)), 3, none⟩,
    ⟨some 39, (Op.call ⟨(Callee.value (Operand.func 59)), #[(Operand.tmp 8), (Operand.tmp 38)], #[88, 3]⟩), 0, none⟩]) (.seq (.seq (.ops [⟨some 40, (Op.move (Operand.tmp 2)), 24, none⟩,
    ⟨some 41, (Op.call ⟨(Callee.builtin Builtin.len), #[(Operand.tmp 40)], #[24]⟩), 3, none⟩,
    ⟨some 42, (Op.move (Operand.const (Value.int IntKind.i64 0))), 3, none⟩]) (.block 0 (.loop c_hello_Take_L0))) (.seq (.ops [⟨some 63, (Op.load 26 (Operand.tmp 8)), 26, none⟩,
    ⟨none, (Op.store 26 (Operand.tmp 6) (Operand.tmp 63)), 0, none⟩,
    ⟨some 7, (Op.assign (Operand.const (Value.int IntKind.i64 0))), 40, none⟩]) .ret))))))⟩
theorem is_hello_Take (c : Cfg) (h : c.lendT = [38, 60]) : isF PP c 42 c_hello_Take := isF_of (fn := Proofs.Try.f42) (by kernel_rfl) (by kernel_rfl) rfl h (by kernel_rfl) rfl rfl (by kernel_rfl)
def c_take_Item : SF := ⟨32, [(ResultVar.cell 4 30), (ResultVar.tmp 5)],
  (.seq (.ops [⟨some 2, (Op.box 30 (Operand.tmp 0)), 0, none⟩,
    ⟨some 3, (Op.box 35 (Operand.tmp 1)), 0, none⟩,
    ⟨some 4, (Op.alloc 30), 0, none⟩,
    ⟨some 5, (Op.assign (Operand.const (Value.int IntKind.i64 0))), 40, none⟩]) (.seq (.seq (.ops [⟨some 9, (Op.load 30 (Operand.tmp 2)), 30, none⟩,
    ⟨some 10, (Op.call ⟨(Callee.value (Operand.func 19)), #[(Operand.tmp 9)], #[30]⟩), 4, none⟩,
    ⟨some 11, (Op.unOp UnOp.not 4 (Operand.tmp 10)), 4, none⟩,
    ⟨some 12, (Op.move (Operand.tmp 11)), 4, none⟩,
    ⟨some 13, (Op.load 35 (Operand.tmp 3)), 35, some (12, false)⟩,
    ⟨some 14, (Op.call ⟨(Callee.value (Operand.func 38)), #[(Operand.tmp 13)], #[35]⟩), 4, some (12, false)⟩,
    ⟨some 15, (Op.unOp UnOp.not 4 (Operand.tmp 14)), 4, some (12, false)⟩,
    ⟨some 16, (Op.pick (Operand.tmp 12) (Operand.const (Value.bool true)) (Operand.tmp 15)), 4, none⟩]) (.cond (Operand.tmp 16) (.seq (.ops [⟨some 17, (Op.build 30 #[]), 30, none⟩,
    ⟨none, (Op.store 30 (Operand.tmp 4) (Operand.tmp 17)), 0, none⟩,
    ⟨some 5, (Op.assign (Operand.const (Value.int IntKind.i64 2000))), 40, none⟩]) .ret) .skip)) (.seq (.ops [⟨some 18, (Op.load 30 (Operand.tmp 2)), 30, none⟩,
    ⟨some 19, (Op.call ⟨(Callee.value (Operand.func 21)), #[(Operand.tmp 18)], #[30]⟩), 30, none⟩,
    ⟨some 6, (Op.alloc 30), 0, none⟩,
    ⟨none, (Op.store 30 (Operand.tmp 6) (Operand.tmp 19)), 0, none⟩]) (.seq (.seq (.ops [⟨some 21, (Op.fieldAddr 30 (Operand.tmp 2) 2), 0, none⟩,
    ⟨some 22, (Op.load 27 (Operand.tmp 21)), 27, none⟩,
    ⟨some 23, (Op.load 35 (Operand.tmp 3)), 35, none⟩,
    ⟨some 24, (Op.call ⟨(Callee.value (Operand.func 62)), #[(Operand.tmp 22), (Operand.tmp 23)], #[27, 35]⟩), 90, none⟩,
    ⟨some 20, (Op.move (Operand.tmp 24)), 90, none⟩,
    ⟨some 25, (Op.extract (Operand.tmp 20) 0), 27, none⟩,
    ⟨some 26, (Op.extract (Operand.tmp 20) 1), 40, none⟩,
    ⟨some 7, (Op.assign (Operand.tmp 25)), 27, none⟩,
    ⟨some 8, (Op.assign (Operand.tmp 26)), 40, none⟩]) (.seq (.ops [⟨some 27, (Op.move (Operand.tmp 8)), 40, none⟩,
    ⟨some 28, (Op.binOp BinOp.eql 40 (Operand.tmp 27) (Operand.const (Value.int IntKind.i64 0)) 40), 4, none⟩]) (.cond (Operand.tmp 28) (.ops [⟨some 29, (Op.move (Operand.tmp 7)), 27, none⟩,
    ⟨some 30, (Op.fieldAddr 30 (Operand.tmp 6) 2), 0, none⟩,
    ⟨none, (Op.store 27 (Operand.tmp 30) (Operand.tmp 29)), 0, none⟩]) .skip))) (.seq (.ops [⟨some 31, (Op.load 30 (Operand.tmp 6)), 30, none⟩,
    ⟨none, (Op.store 30 (Operand.tmp 4) (Operand.tmp 31)), 0, none⟩,
    ⟨some 5, (Op.assign (Operand.const (Value.int IntKind.i64 0))), 40, none⟩]) .ret)))))⟩
theorem is_take_Item (c : Cfg) (h : c.lendT = []) : isF PP c 43 c_take_Item := isF_of (fn := Proofs.Try.f43) (by kernel_rfl) (by kernel_rfl) rfl h (by kernel_rfl) rfl rfl (by kernel_rfl)
def c_ask_Answer : SF := ⟨29, [(ResultVar.tmp 4), (ResultVar.tmp 5)],
  (.seq (.ops [⟨some 2, (Op.box 30 (Operand.tmp 0)), 0, none⟩,
    ⟨some 3, (Op.box 38 (Operand.tmp 1)), 0, none⟩,
    ⟨some 4, (Op.assign (Operand.const (Value.slice none 0 0))), 39, none⟩,
    ⟨some 5, (Op.assign (Operand.const (Value.int IntKind.i64 0))), 40, none⟩]) (.seq (.seq (.ops [⟨some 8, (Op.call ⟨(Callee.value (Operand.func 63)), #[(Operand.tmp 2), (Operand.tmp 3), (Operand.const (Value.int IntKind.i64 2))], #[93, 94, 3]⟩), 4, none⟩,
    ⟨some 9, (Op.unOp UnOp.not 4 (Operand.tmp 8)), 4, none⟩]) (.cond (Operand.tmp 9) (.seq (.ops [⟨some 4, (Op.assign (Operand.const (Value.slice none 0 0))), 39, none⟩,
    ⟨some 5, (Op.assign (Operand.const (Value.int IntKind.i64 2100))), 40, none⟩]) .ret) .skip)) (.seq (.ops [⟨some 11, (Op.fieldAddr 30 (Operand.tmp 2) 2), 0, none⟩,
    ⟨some 12, (Op.load 27 (Operand.tmp 11)), 27, none⟩,
    ⟨some 13, (Op.fieldAddr 38 (Operand.tmp 3) 4), 0, none⟩,
    ⟨some 14, (Op.load 3 (Operand.tmp 13)), 3, none⟩,
    ⟨some 15, (Op.call ⟨(Callee.value (Operand.func 64)), #[(Operand.tmp 12), (Operand.tmp 14)], #[27, 3]⟩), 95, none⟩,
    ⟨some 10, (Op.move (Operand.tmp 15)), 95, none⟩,
    ⟨some 16, (Op.extract (Operand.tmp 10) 0), 35, none⟩,
    ⟨some 17, (Op.extract (Operand.tmp 10) 1), 4, none⟩,
    ⟨some 6, (Op.alloc 35), 0, none⟩,
    ⟨none, (Op.store 35 (Operand.tmp 6) (Operand.tmp 16)), 0, none⟩,
    ⟨some 7, (Op.assign (Operand.tmp 17)), 4, none⟩]) (.seq (.ops [⟨some 18, (Op.fieldAddr 30 (Operand.tmp 2) 1), 0, none⟩,
    ⟨some 19, (Op.fieldAddr 26 (Operand.tmp 18) 0), 0, none⟩,
    ⟨some 20, (Op.load 3 (Operand.tmp 19)), 3, none⟩,
    ⟨some 21, (Op.fieldAddr 38 (Operand.tmp 3) 1), 0, none⟩,
    ⟨some 22, (Op.load 3 (Operand.tmp 21)), 3, none⟩,
    ⟨some 23, (Op.fieldAddr 38 (Operand.tmp 3) 4), 0, none⟩,
    ⟨some 24, (Op.load 3 (Operand.tmp 23)), 3, none⟩,
    ⟨some 25, (Op.load 35 (Operand.tmp 6)), 35, none⟩,
    ⟨some 26, (Op.move (Operand.tmp 7)), 4, none⟩,
    ⟨some 27, (Op.build 38 #[(0, (Operand.const (Value.int IntKind.i64 3))), (1, (Operand.tmp 20)), (2, (Operand.tmp 22)), (4, (Operand.tmp 24)), (5, (Operand.tmp 25)), (6, (Operand.tmp 26))]), 38, none⟩,
    ⟨some 28, (Op.buildSlice 39 1 #[(0, (Operand.tmp 27))]), 39, none⟩,
    ⟨some 4, (Op.assign (Operand.tmp 28)), 39, none⟩,
    ⟨some 5, (Op.assign (Operand.const (Value.int IntKind.i64 0))), 40, none⟩]) .ret))))⟩
theorem is_ask_Answer (c : Cfg) (h : c.lendT = []) : isF PP c 44 c_ask_Answer := isF_of (fn := Proofs.Try.f44) (by kernel_rfl) (by kernel_rfl) rfl h (by kernel_rfl) rfl rfl (by kernel_rfl)
def c_ask_Told : SF := ⟨17, [(ResultVar.cell 4 30), (ResultVar.tmp 5)],
  (.seq (.ops [⟨some 2, (Op.box 30 (Operand.tmp 0)), 0, none⟩,
    ⟨some 3, (Op.box 38 (Operand.tmp 1)), 0, none⟩,
    ⟨some 4, (Op.alloc 30), 0, none⟩,
    ⟨some 5, (Op.assign (Operand.const (Value.int IntKind.i64 0))), 40, none⟩]) (.seq (.seq (.ops [⟨some 6, (Op.call ⟨(Callee.value (Operand.func 63)), #[(Operand.tmp 2), (Operand.tmp 3), (Operand.const (Value.int IntKind.i64 3))], #[93, 94, 3]⟩), 4, none⟩,
    ⟨some 7, (Op.unOp UnOp.not 4 (Operand.tmp 6)), 4, none⟩]) (.cond (Operand.tmp 7) (.seq (.ops [⟨some 8, (Op.build 30 #[]), 30, none⟩,
    ⟨none, (Op.store 30 (Operand.tmp 4) (Operand.tmp 8)), 0, none⟩,
    ⟨some 5, (Op.assign (Operand.const (Value.int IntKind.i64 2100))), 40, none⟩]) .ret) .skip)) (.seq (.ops [⟨some 9, (Op.load 30 (Operand.tmp 2)), 30, none⟩,
    ⟨some 10, (Op.fieldAddr 38 (Operand.tmp 3) 4), 0, none⟩,
    ⟨some 11, (Op.load 3 (Operand.tmp 10)), 3, none⟩,
    ⟨some 12, (Op.fieldAddr 38 (Operand.tmp 3) 5), 0, none⟩,
    ⟨some 13, (Op.load 35 (Operand.tmp 12)), 35, none⟩,
    ⟨some 14, (Op.fieldAddr 38 (Operand.tmp 3) 6), 0, none⟩,
    ⟨some 15, (Op.load 4 (Operand.tmp 14)), 4, none⟩,
    ⟨some 16, (Op.call ⟨(Callee.value (Operand.func 65)), #[(Operand.tmp 9), (Operand.tmp 11), (Operand.tmp 13), (Operand.tmp 15)], #[30, 3, 35, 4]⟩), 30, none⟩,
    ⟨none, (Op.store 30 (Operand.tmp 4) (Operand.tmp 16)), 0, none⟩,
    ⟨some 5, (Op.assign (Operand.const (Value.int IntKind.i64 0))), 40, none⟩]) .ret)))⟩
theorem is_ask_Told (c : Cfg) (h : c.lendT = []) : isF PP c 45 c_ask_Told := isF_of (fn := Proofs.Try.f45) (by kernel_rfl) (by kernel_rfl) rfl h (by kernel_rfl) rfl rfl (by kernel_rfl)
def c_gimmalref1_has_L0 : SC := (.seq (.seq (.ops [⟨some 6, (Op.move (Operand.tmp 5)), 3, none⟩,
    ⟨some 7, (Op.move (Operand.tmp 0)), 24, none⟩,
    ⟨some 8, (Op.call ⟨(Callee.builtin Builtin.len), #[(Operand.tmp 7)], #[24]⟩), 3, none⟩,
    ⟨some 9, (Op.binOp BinOp.lss 3 (Operand.tmp 6) (Operand.tmp 8) 3), 4, none⟩]) (.cond (Operand.tmp 9) .skip (.exit 0))) (.seq (.block 1 (.seq (.ops [⟨some 12, (Op.move (Operand.tmp 0)), 24, none⟩,
    ⟨some 13, (Op.move (Operand.tmp 5)), 3, none⟩,
    ⟨some 14, (Op.indexAddr 24 (Operand.tmp 12) (Operand.tmp 13)), 0, none⟩,
    ⟨some 15, (Op.load 3 (Operand.tmp 14)), 3, none⟩,
    ⟨some 16, (Op.move (Operand.tmp 1)), 3, none⟩,
    ⟨some 17, (Op.binOp BinOp.eql 3 (Operand.tmp 15) (Operand.tmp 16) 3), 4, none⟩]) (.cond (Operand.tmp 17) (.seq (.ops [⟨some 4, (Op.assign (Operand.const (Value.bool true))), 4, none⟩]) .ret) .skip))) (.ops [⟨some 10, (Op.move (Operand.tmp 5)), 3, none⟩,
    ⟨some 11, (Op.binOp BinOp.add 3 (Operand.tmp 10) (Operand.const (Value.int IntKind.i64 1)) 3), 3, none⟩,
    ⟨some 5, (Op.assign (Operand.tmp 11)), 3, none⟩])))
def c_gimmalref1_has : SF := ⟨18, [(ResultVar.tmp 4)],
  (.seq (.ops [⟨some 4, (Op.assign (Operand.const (Value.bool false))), 4, none⟩]) (.seq (.seq (.ops [⟨some 5, (Op.assign (Operand.const (Value.int IntKind.i64 0))), 3, none⟩]) (.block 0 (.loop c_gimmalref1_has_L0))) (.seq (.ops [⟨some 4, (Op.assign (Operand.const (Value.bool false))), 4, none⟩]) .ret)))⟩
theorem is_gimmalref1_has (c : Cfg) (h : c.lendT = []) : isF PP c 46 c_gimmalref1_has := isF_of (fn := Proofs.Try.f46) (by kernel_rfl) (by kernel_rfl) rfl h (by kernel_rfl) rfl rfl (by kernel_rfl)
def c_gimmalref1_PeersMay_L0 : SC := (.seq (.seq (.ops [⟨some 6, (Op.move (Operand.tmp 5)), 3, none⟩,
    ⟨some 7, (Op.move (Operand.tmp 1)), 23, none⟩,
    ⟨some 8, (Op.call ⟨(Callee.builtin Builtin.len), #[(Operand.tmp 7)], #[23]⟩), 3, none⟩,
    ⟨some 9, (Op.binOp BinOp.lss 3 (Operand.tmp 6) (Operand.tmp 8) 3), 4, none⟩]) (.cond (Operand.tmp 9) .skip (.exit 0))) (.seq (.block 1 (.seq (.ops [⟨some 12, (Op.move (Operand.tmp 1)), 23, none⟩,
    ⟨some 13, (Op.move (Operand.tmp 5)), 3, none⟩,
    ⟨some 14, (Op.indexAddr 23 (Operand.tmp 12) (Operand.tmp 13)), 0, none⟩,
    ⟨some 15, (Op.fieldAddr 54 (Operand.tmp 14) 0), 0, none⟩,
    ⟨some 16, (Op.load 3 (Operand.tmp 15)), 3, none⟩,
    ⟨some 17, (Op.call ⟨(Callee.value (Operand.func 26)), #[(Operand.tmp 16)], #[3]⟩), 4, none⟩,
    ⟨some 18, (Op.unOp UnOp.not 4 (Operand.tmp 17)), 4, none⟩,
    ⟨some 19, (Op.move (Operand.tmp 18)), 4, none⟩,
    ⟨some 20, (Op.move (Operand.tmp 1)), 23, some (19, false)⟩,
    ⟨some 21, (Op.move (Operand.tmp 5)), 3, some (19, false)⟩,
    ⟨some 22, (Op.indexAddr 23 (Operand.tmp 20) (Operand.tmp 21)), 0, some (19, false)⟩,
    ⟨some 23, (Op.fieldAddr 54 (Operand.tmp 22) 0), 0, some (19, false)⟩,
    ⟨some 24, (Op.load 3 (Operand.tmp 23)), 3, some (19, false)⟩,
    ⟨some 25, (Op.move (Operand.tmp 0)), 3, some (19, false)⟩,
    ⟨some 26, (Op.binOp BinOp.eql 3 (Operand.tmp 24) (Operand.tmp 25) 3), 4, some (19, false)⟩,
    ⟨some 27, (Op.pick (Operand.tmp 19) (Operand.const (Value.bool true)) (Operand.tmp 26)), 4, none⟩,
    ⟨some 28, (Op.move (Operand.tmp 27)), 4, none⟩,
    ⟨some 29, (Op.move (Operand.tmp 1)), 23, some (28, false)⟩,
    ⟨some 30, (Op.move (Operand.tmp 5)), 3, some (28, false)⟩,
    ⟨some 31, (Op.indexAddr 23 (Operand.tmp 29) (Operand.tmp 30)), 0, some (28, false)⟩,
    ⟨some 32, (Op.fieldAddr 54 (Operand.tmp 31) 1), 0, some (28, false)⟩,
    ⟨some 33, (Op.load 3 (Operand.tmp 32)), 3, some (28, false)⟩,
    ⟨some 34, (Op.binOp BinOp.lss 3 (Operand.tmp 33) (Operand.const (Value.int IntKind.i64 0)) 3), 4, some (28, false)⟩,
    ⟨some 35, (Op.pick (Operand.tmp 28) (Operand.const (Value.bool true)) (Operand.tmp 34)), 4, none⟩,
    ⟨some 36, (Op.move (Operand.tmp 35)), 4, none⟩,
    ⟨some 37, (Op.move (Operand.tmp 1)), 23, some (36, false)⟩,
    ⟨some 38, (Op.move (Operand.tmp 5)), 3, some (36, false)⟩,
    ⟨some 39, (Op.indexAddr 23 (Operand.tmp 37) (Operand.tmp 38)), 0, some (36, false)⟩,
    ⟨some 40, (Op.fieldAddr 54 (Operand.tmp 39) 1), 0, some (36, false)⟩,
    ⟨some 41, (Op.load 3 (Operand.tmp 40)), 3, some (36, false)⟩,
    ⟨some 42, (Op.binOp BinOp.geq 3 (Operand.tmp 41) (Operand.const (Value.int IntKind.i64 3)) 3), 4, some (36, false)⟩,
    ⟨some 43, (Op.pick (Operand.tmp 36) (Operand.const (Value.bool true)) (Operand.tmp 42)), 4, none⟩,
    ⟨some 44, (Op.move (Operand.tmp 43)), 4, none⟩,
    ⟨some 45, (Op.move (Operand.tmp 5)), 3, some (44, false)⟩,
    ⟨some 46, (Op.binOp BinOp.gtr 3 (Operand.tmp 45) (Operand.const (Value.int IntKind.i64 0)) 3), 4, some (44, false)⟩,
    ⟨some 47, (Op.move (Operand.tmp 46)), 4, some (44, false)⟩,
    ⟨some 48, (Op.move (Operand.tmp 0)), 3, some (47, true)⟩,
    ⟨some 49, (Op.move (Operand.tmp 1)), 23, some (47, true)⟩,
    ⟨some 50, (Op.move (Operand.tmp 5)), 3, some (47, true)⟩,
    ⟨some 51, (Op.binOp BinOp.sub 3 (Operand.tmp 50) (Operand.const (Value.int IntKind.i64 1)) 3), 3, some (47, true)⟩,
    ⟨some 52, (Op.indexAddr 23 (Operand.tmp 49) (Operand.tmp 51)), 0, some (47, true)⟩,
    ⟨some 53, (Op.fieldAddr 54 (Operand.tmp 52) 0), 0, some (47, true)⟩,
    ⟨some 54, (Op.load 3 (Operand.tmp 53)), 3, some (47, true)⟩,
    ⟨some 55, (Op.call ⟨(Callee.value (Operand.func 66)), #[(Operand.tmp 48), (Operand.tmp 54)], #[3, 3]⟩), 3, some (47, true)⟩,
    ⟨some 56, (Op.move (Operand.tmp 0)), 3, some (47, true)⟩,
    ⟨some 57, (Op.move (Operand.tmp 1)), 23, some (47, true)⟩,
    ⟨some 58, (Op.move (Operand.tmp 5)), 3, some (47, true)⟩,
    ⟨some 59, (Op.indexAddr 23 (Operand.tmp 57) (Operand.tmp 58)), 0, some (47, true)⟩,
    ⟨some 60, (Op.fieldAddr 54 (Operand.tmp 59) 0), 0, some (47, true)⟩,
    ⟨some 61, (Op.load 3 (Operand.tmp 60)), 3, some (47, true)⟩,
    ⟨some 62, (Op.call ⟨(Callee.value (Operand.func 66)), #[(Operand.tmp 56), (Operand.tmp 61)], #[3, 3]⟩), 3, some (47, true)⟩,
    ⟨some 63, (Op.binOp BinOp.geq 3 (Operand.tmp 55) (Operand.tmp 62) 3), 4, some (47, true)⟩,
    ⟨some 64, (Op.pick (Operand.tmp 47) (Operand.tmp 63) (Operand.const (Value.bool false))), 4, some (44, false)⟩,
    ⟨some 65, (Op.pick (Operand.tmp 44) (Operand.const (Value.bool true)) (Operand.tmp 64)), 4, none⟩]) (.cond (Operand.tmp 65) (.seq (.ops [⟨some 4, (Op.assign (Operand.const (Value.bool false))), 4, none⟩]) .ret) .skip))) (.ops [⟨some 10, (Op.move (Operand.tmp 5)), 3, none⟩,
    ⟨some 11, (Op.binOp BinOp.add 3 (Operand.tmp 10) (Operand.const (Value.int IntKind.i64 1)) 3), 3, none⟩,
    ⟨some 5, (Op.assign (Operand.tmp 11)), 3, none⟩])))
def c_gimmalref1_PeersMay : SF := ⟨73, [(ResultVar.tmp 4)],
  (.seq (.ops [⟨some 4, (Op.assign (Operand.const (Value.bool false))), 4, none⟩]) (.seq (.seq (.ops [⟨some 5, (Op.assign (Operand.const (Value.int IntKind.i64 0))), 3, none⟩]) (.block 0 (.loop c_gimmalref1_PeersMay_L0))) (.seq (.ops [⟨some 66, (Op.move (Operand.tmp 0)), 3, none⟩,
    ⟨some 67, (Op.call ⟨(Callee.value (Operand.func 26)), #[(Operand.tmp 66)], #[3]⟩), 4, none⟩,
    ⟨some 68, (Op.move (Operand.tmp 67)), 4, none⟩,
    ⟨some 69, (Op.move (Operand.tmp 1)), 23, some (68, true)⟩,
    ⟨some 70, (Op.call ⟨(Callee.builtin Builtin.len), #[(Operand.tmp 69)], #[23]⟩), 3, some (68, true)⟩,
    ⟨some 71, (Op.binOp BinOp.leq 3 (Operand.tmp 70) (Operand.const (Value.int IntKind.i64 16)) 3), 4, some (68, true)⟩,
    ⟨some 72, (Op.pick (Operand.tmp 68) (Operand.tmp 71) (Operand.const (Value.bool false))), 4, none⟩,
    ⟨some 4, (Op.assign (Operand.tmp 72)), 4, none⟩]) .ret)))⟩
theorem is_gimmalref1_PeersMay (c : Cfg) (h : c.lendT = []) : isF PP c 47 c_gimmalref1_PeersMay := isF_of (fn := Proofs.Try.f47) (by kernel_rfl) (by kernel_rfl) rfl h (by kernel_rfl) rfl rfl (by kernel_rfl)
def c_gimmalref1_PassiveMay_L0 : SC := (.seq (.seq (.ops [⟨some 4, (Op.move (Operand.tmp 3)), 3, none⟩,
    ⟨some 5, (Op.move (Operand.tmp 0)), 24, none⟩,
    ⟨some 6, (Op.call ⟨(Callee.builtin Builtin.len), #[(Operand.tmp 5)], #[24]⟩), 3, none⟩,
    ⟨some 7, (Op.binOp BinOp.lss 3 (Operand.tmp 4) (Operand.tmp 6) 3), 4, none⟩]) (.cond (Operand.tmp 7) .skip (.exit 0))) (.seq (.block 1 (.seq (.ops [⟨some 10, (Op.move (Operand.tmp 0)), 24, none⟩,
    ⟨some 11, (Op.move (Operand.tmp 3)), 3, none⟩,
    ⟨some 15, (Op.move (Operand.tmp 0)), 24, none⟩,
    ⟨some 16, (Op.move (Operand.tmp 3)), 3, none⟩,
    ⟨some 12, (Op.binOp BinOp.sub 3 (Operand.tmp 11) (Operand.const (Value.int IntKind.i64 1)) 3), 3, none⟩,
    ⟨some 13, (Op.indexAddr 24 (Operand.tmp 10) (Operand.tmp 12)), 0, none⟩,
    ⟨some 14, (Op.load 3 (Operand.tmp 13)), 3, none⟩,
    ⟨some 17, (Op.indexAddr 24 (Operand.tmp 15) (Operand.tmp 16)), 0, none⟩,
    ⟨some 18, (Op.load 3 (Operand.tmp 17)), 3, none⟩,
    ⟨some 19, (Op.binOp BinOp.geq 3 (Operand.tmp 14) (Operand.tmp 18) 3), 4, none⟩]) (.cond (Operand.tmp 19) (.seq (.ops [⟨some 2, (Op.assign (Operand.const (Value.bool false))), 4, none⟩]) .ret) .skip))) (.ops [⟨some 8, (Op.move (Operand.tmp 3)), 3, none⟩,
    ⟨some 9, (Op.binOp BinOp.add 3 (Operand.tmp 8) (Operand.const (Value.int IntKind.i64 1)) 3), 3, none⟩,
    ⟨some 3, (Op.assign (Operand.tmp 9)), 3, none⟩])))
def c_gimmalref1_PassiveMay : SF := ⟨27, [(ResultVar.tmp 2)],
  (.seq (.ops [⟨some 2, (Op.assign (Operand.const (Value.bool false))), 4, none⟩]) (.seq (.seq (.ops [⟨some 3, (Op.assign (Operand.const (Value.int IntKind.i64 1))), 3, none⟩]) (.block 0 (.loop c_gimmalref1_PassiveMay_L0))) (.seq (.ops [⟨some 20, (Op.move (Operand.tmp 0)), 24, none⟩,
    ⟨some 21, (Op.call ⟨(Callee.value (Operand.func 32)), #[(Operand.tmp 20)], #[24]⟩), 4, none⟩,
    ⟨some 22, (Op.move (Operand.tmp 21)), 4, none⟩,
    ⟨some 23, (Op.move (Operand.tmp 0)), 24, some (22, true)⟩,
    ⟨some 24, (Op.call ⟨(Callee.builtin Builtin.len), #[(Operand.tmp 23)], #[24]⟩), 3, some (22, true)⟩,
    ⟨some 25, (Op.binOp BinOp.leq 3 (Operand.tmp 24) (Operand.const (Value.int IntKind.i64 16)) 3), 4, some (22, true)⟩,
    ⟨some 26, (Op.pick (Operand.tmp 22) (Operand.tmp 25) (Operand.const (Value.bool false))), 4, none⟩,
    ⟨some 2, (Op.assign (Operand.tmp 26)), 4, none⟩]) .ret)))⟩
theorem is_gimmalref1_PassiveMay (c : Cfg) (h : c.lendT = []) : isF PP c 48 c_gimmalref1_PassiveMay := isF_of (fn := Proofs.Try.f48) (by kernel_rfl) (by kernel_rfl) rfl h (by kernel_rfl) rfl rfl (by kernel_rfl)
def c_gimmalref1_byteMay : SF := ⟨9, [(ResultVar.tmp 2)],
  (.seq (.ops [⟨some 2, (Op.assign (Operand.const (Value.bool false))), 4, none⟩]) (.seq (.ops [⟨some 3, (Op.move (Operand.tmp 0)), 3, none⟩,
    ⟨some 4, (Op.binOp BinOp.geq 3 (Operand.tmp 3) (Operand.const (Value.int IntKind.i64 0)) 3), 4, none⟩,
    ⟨some 5, (Op.move (Operand.tmp 4)), 4, none⟩,
    ⟨some 6, (Op.move (Operand.tmp 0)), 3, some (5, true)⟩,
    ⟨some 7, (Op.binOp BinOp.leq 3 (Operand.tmp 6) (Operand.const (Value.int IntKind.i64 255)) 3), 4, some (5, true)⟩,
    ⟨some 8, (Op.pick (Operand.tmp 5) (Operand.tmp 7) (Operand.const (Value.bool false))), 4, none⟩,
    ⟨some 2, (Op.assign (Operand.tmp 8)), 4, none⟩]) .ret))⟩
theorem is_gimmalref1_byteMay (c : Cfg) (h : c.lendT = []) : isF PP c 49 c_gimmalref1_byteMay := isF_of (fn := Proofs.Try.f49) (by kernel_rfl) (by kernel_rfl) rfl h (by kernel_rfl) rfl rfl (by kernel_rfl)
def c_gimmalref1_VersionMay : SF := ⟨16, [(ResultVar.tmp 2)],
  (.seq (.ops [⟨some 1, (Op.box 33 (Operand.tmp 0)), 0, none⟩,
    ⟨some 2, (Op.assign (Operand.const (Value.bool false))), 4, none⟩]) (.seq (.ops [⟨some 3, (Op.fieldAddr 33 (Operand.tmp 1) 0), 0, none⟩,
    ⟨some 4, (Op.load 3 (Operand.tmp 3)), 3, none⟩,
    ⟨some 5, (Op.binOp BinOp.geq 3 (Operand.tmp 4) (Operand.const (Value.int IntKind.i64 1)) 3), 4, none⟩,
    ⟨some 6, (Op.move (Operand.tmp 5)), 4, none⟩,
    ⟨some 7, (Op.fieldAddr 33 (Operand.tmp 1) 0), 0, some (6, true)⟩,
    ⟨some 8, (Op.load 3 (Operand.tmp 7)), 3, some (6, true)⟩,
    ⟨some 9, (Op.binOp BinOp.leq 3 (Operand.tmp 8) (Operand.const (Value.int IntKind.i64 65535)) 3), 4, some (6, true)⟩,
    ⟨some 10, (Op.pick (Operand.tmp 6) (Operand.tmp 9) (Operand.const (Value.bool false))), 4, none⟩,
    ⟨some 11, (Op.move (Operand.tmp 10)), 4, none⟩,
    ⟨some 12, (Op.fieldAddr 33 (Operand.tmp 1) 1), 0, some (11, true)⟩,
    ⟨some 13, (Op.load 3 (Operand.tmp 12)), 3, some (11, true)⟩,
    ⟨some 14, (Op.call ⟨(Callee.value (Operand.func 26)), #[(Operand.tmp 13)], #[3]⟩), 4, some (11, true)⟩,
    ⟨some 15, (Op.pick (Operand.tmp 11) (Operand.tmp 14) (Operand.const (Value.bool false))), 4, none⟩,
    ⟨some 2, (Op.assign (Operand.tmp 15)), 4, none⟩]) .ret))⟩
theorem is_gimmalref1_VersionMay (c : Cfg) (h : c.lendT = []) : isF PP c 50 c_gimmalref1_VersionMay := isF_of (fn := Proofs.Try.f50) (by kernel_rfl) (by kernel_rfl) rfl h (by kernel_rfl) rfl rfl (by kernel_rfl)
def c_view_May : SF := ⟨32, [(ResultVar.tmp 2)],
  (.seq (.ops [⟨some 1, (Op.box 26 (Operand.tmp 0)), 0, none⟩,
    ⟨some 2, (Op.assign (Operand.const (Value.bool false))), 4, none⟩]) (.seq (.seq (.ops [⟨some 4, (Op.fieldAddr 26 (Operand.tmp 1) 0), 0, none⟩,
    ⟨some 5, (Op.load 3 (Operand.tmp 4)), 3, none⟩,
    ⟨some 6, (Op.fieldAddr 26 (Operand.tmp 1) 1), 0, none⟩,
    ⟨some 7, (Op.load 23 (Operand.tmp 6)), 23, none⟩,
    ⟨some 8, (Op.call ⟨(Callee.value (Operand.func 67)), #[(Operand.tmp 5), (Operand.tmp 7)], #[3, 23]⟩), 4, none⟩,
    ⟨some 9, (Op.unOp UnOp.not 4 (Operand.tmp 8)), 4, none⟩,
    ⟨some 10, (Op.move (Operand.tmp 9)), 4, none⟩,
    ⟨some 11, (Op.fieldAddr 26 (Operand.tmp 1) 2), 0, some (10, false)⟩,
    ⟨some 12, (Op.load 24 (Operand.tmp 11)), 24, some (10, false)⟩,
    ⟨some 13, (Op.call ⟨(Callee.value (Operand.func 68)), #[(Operand.tmp 12)], #[24]⟩), 4, some (10, false)⟩,
    ⟨some 14, (Op.unOp UnOp.not 4 (Operand.tmp 13)), 4, some (10, false)⟩,
    ⟨some 15, (Op.pick (Operand.tmp 10) (Operand.const (Value.bool true)) (Operand.tmp 14)), 4, none⟩,
    ⟨some 16, (Op.move (Operand.tmp 15)), 4, none⟩,
    ⟨some 17, (Op.fieldAddr 26 (Operand.tmp 1) 1), 0, some (16, false)⟩,
    ⟨some 18, (Op.load 23 (Operand.tmp 17)), 23, some (16, false)⟩,
    ⟨some 19, (Op.call ⟨(Callee.builtin Builtin.len), #[(Operand.tmp 18)], #[23]⟩), 3, some (16, false)⟩,
    ⟨some 20, (Op.fieldAddr 26 (Operand.tmp 1) 2), 0, some (16, false)⟩,
    ⟨some 21, (Op.load 24 (Operand.tmp 20)), 24, some (16, false)⟩,
    ⟨some 22, (Op.call ⟨(Callee.builtin Builtin.len), #[(Operand.tmp 21)], #[24]⟩), 3, some (16, false)⟩,
    ⟨some 23, (Op.binOp BinOp.add 3 (Operand.tmp 19) (Operand.tmp 22) 3), 3, some (16, false)⟩,
    ⟨some 24, (Op.binOp BinOp.gtr 3 (Operand.tmp 23) (Operand.const (Value.int IntKind.i64 16)) 3), 4, some (16, false)⟩,
    ⟨some 25, (Op.pick (Operand.tmp 16) (Operand.const (Value.bool true)) (Operand.tmp 24)), 4, none⟩]) (.cond (Operand.tmp 25) (.seq (.ops [⟨some 2, (Op.assign (Operand.const (Value.bool false))), 4, none⟩]) .ret) .skip)) (.seq (.ops [⟨some 26, (Op.makeFunc (Fn.func 69) #[] #[(Operand.tmp 1)]), 61, none⟩,
    ⟨some 3, (Op.assign (Operand.tmp 26)), 61, none⟩]) (.seq (.ops [⟨some 27, (Op.fieldAddr 26 (Operand.tmp 1) 2), 0, none⟩,
    ⟨some 28, (Op.load 24 (Operand.tmp 27)), 24, none⟩,
    ⟨some 29, (Op.move (Operand.tmp 3)), 61, none⟩,
    ⟨some 30, (Op.call ⟨(Callee.value (Operand.func 70)), #[(Operand.tmp 28), (Operand.tmp 29)], #[24, 61]⟩), 4, none⟩,
    ⟨some 31, (Op.unOp UnOp.not 4 (Operand.tmp 30)), 4, none⟩,
    ⟨some 2, (Op.assign (Operand.tmp 31)), 4, none⟩]) .ret))))⟩
theorem is_view_May (c : Cfg) (h : c.lendT = []) : isF PP c 51 c_view_May := isF_of (fn := Proofs.Try.f51) (by kernel_rfl) (by kernel_rfl) rfl h (by kernel_rfl) rfl rfl (by kernel_rfl)
def c_store_May_L0 : SC := (.seq (.ops [⟨some 8, (Op.binOp BinOp.lss 3 (Operand.tmp 7) (Operand.tmp 6) 3), 0, none⟩]) (.seq (.cond (Operand.tmp 8) .skip (.exit 0)) (.seq (.block 1 (.seq (.ops [⟨some 9, (Op.move (Operand.tmp 7)), 3, none⟩,
    ⟨some 10, (Op.indexAddr 27 (Operand.tmp 5) (Operand.tmp 7)), 0, none⟩,
    ⟨some 11, (Op.load 35 (Operand.tmp 10)), 35, none⟩,
    ⟨some 4, (Op.alloc 35), 0, none⟩,
    ⟨some 3, (Op.assign (Operand.tmp 9)), 3, none⟩,
    ⟨none, (Op.store 35 (Operand.tmp 4) (Operand.tmp 11)), 0, none⟩]) (.seq (.ops [⟨some 12, (Op.load 35 (Operand.tmp 4)), 35, none⟩,
    ⟨some 13, (Op.call ⟨(Callee.value (Operand.func 38)), #[(Operand.tmp 12)], #[35]⟩), 4, none⟩,
    ⟨some 14, (Op.unOp UnOp.not 4 (Operand.tmp 13)), 4, none⟩,
    ⟨some 15, (Op.move (Operand.tmp 14)), 4, none⟩,
    ⟨some 16, (Op.move (Operand.tmp 3)), 3, some (15, false)⟩,
    ⟨some 17, (Op.binOp BinOp.gtr 3 (Operand.tmp 16) (Operand.const (Value.int IntKind.i64 0)) 3), 4, some (15, false)⟩,
    ⟨some 18, (Op.move (Operand.tmp 17)), 4, some (15, false)⟩,
    ⟨some 19, (Op.move (Operand.tmp 0)), 27, some (18, true)⟩,
    ⟨some 20, (Op.move (Operand.tmp 3)), 3, some (18, true)⟩,
    ⟨some 21, (Op.binOp BinOp.sub 3 (Operand.tmp 20) (Operand.const (Value.int IntKind.i64 1)) 3), 3, some (18, true)⟩,
    ⟨some 22, (Op.indexAddr 27 (Operand.tmp 19) (Operand.tmp 21)), 0, some (18, true)⟩,
    ⟨some 23, (Op.fieldAddr 35 (Operand.tmp 22) 0), 0, some (18, true)⟩,
    ⟨some 24, (Op.load 3 (Operand.tmp 23)), 3, some (18, true)⟩,
    ⟨some 25, (Op.fieldAddr 35 (Operand.tmp 4) 0), 0, some (18, true)⟩,
    ⟨some 26, (Op.load 3 (Operand.tmp 25)), 3, some (18, true)⟩,
    ⟨some 27, (Op.binOp BinOp.geq 3 (Operand.tmp 24) (Operand.tmp 26) 3), 4, some (18, true)⟩,
    ⟨some 28, (Op.pick (Operand.tmp 18) (Operand.tmp 27) (Operand.const (Value.bool false))), 4, some (15, false)⟩,
    ⟨some 29, (Op.pick (Operand.tmp 15) (Operand.const (Value.bool true)) (Operand.tmp 28)), 4, none⟩]) (.cond (Operand.tmp 29) (.seq (.ops [⟨some 2, (Op.assign (Operand.const (Value.bool false))), 4, none⟩]) .ret) .skip)))) (.ops [⟨some 30, (Op.binOp BinOp.add 3 (Operand.tmp 7) (Operand.const (Value.int IntKind.i64 1)) 3), 3, none⟩,
    ⟨some 7, (Op.move (Operand.tmp 30)), 3, none⟩]))))
def c_store_May : SF := ⟨34, [(ResultVar.tmp 2)],
  (.seq (.ops [⟨some 2, (Op.assign (Operand.const (Value.bool false))), 4, none⟩]) (.seq (.seq (.ops [⟨some 5, (Op.move (Operand.tmp 0)), 27, none⟩,
    ⟨some 6, (Op.call ⟨(Callee.builtin Builtin.len), #[(Operand.tmp 5)], #[27]⟩), 3, none⟩,
    ⟨some 7, (Op.move (Operand.const (Value.int IntKind.i64 0))), 3, none⟩]) (.block 0 (.loop c_store_May_L0))) (.seq (.ops [⟨some 31, (Op.move (Operand.tmp 0)), 27, none⟩,
    ⟨some 32, (Op.call ⟨(Callee.builtin Builtin.len), #[(Operand.tmp 31)], #[27]⟩), 3, none⟩,
    ⟨some 33, (Op.binOp BinOp.leq 3 (Operand.tmp 32) (Operand.const (Value.int IntKind.i64 16)) 3), 4, none⟩,
    ⟨some 2, (Op.assign (Operand.tmp 33)), 4, none⟩]) .ret)))⟩
theorem is_store_May (c : Cfg) (h : c.lendT = []) : isF PP c 52 c_store_May := isF_of (fn := Proofs.Try.f52) (by kernel_rfl) (by kernel_rfl) rfl h (by kernel_rfl) rfl rfl (by kernel_rfl)
def c_slices_ContainsFunc_api_Told_api_Told : SF := ⟨9, [(ResultVar.tmp 4)],
  (.seq (.ops [⟨some 4, (Op.assign (Operand.const (Value.bool false))), 4, none⟩]) (.seq (.ops [⟨some 5, (Op.move (Operand.tmp 0)), 28, none⟩,
    ⟨some 6, (Op.move (Operand.tmp 1)), 84, none⟩,
    ⟨some 7, (Op.call ⟨(Callee.value (Operand.func 71)), #[(Operand.tmp 5), (Operand.tmp 6)], #[28, 84]⟩), 3, none⟩,
    ⟨some 8, (Op.binOp BinOp.geq 3 (Operand.tmp 7) (Operand.const (Value.int IntKind.i64 0)) 3), 4, none⟩,
    ⟨some 4, (Op.assign (Operand.tmp 8)), 4, none⟩]) .ret))⟩
theorem is_slices_ContainsFunc_api_Told_api_Told (c : Cfg) (h : c.lendT = []) : isF PP c 53 c_slices_ContainsFunc_api_Told_api_Told := isF_of (fn := Proofs.Try.f53) (by kernel_rfl) (by kernel_rfl) rfl h (by kernel_rfl) rfl rfl (by kernel_rfl)
def c_node_odd : SF := ⟨23, [(ResultVar.tmp 2)],
  (.seq (.ops [⟨some 1, (Op.box 63 (Operand.tmp 0)), 0, none⟩,
    ⟨some 2, (Op.assign (Operand.const (Value.bool false))), 4, none⟩]) (.seq (.ops [⟨some 3, (Op.fieldAddr 63 (Operand.tmp 1) 0), 0, none⟩,
    ⟨some 4, (Op.load 3 (Operand.tmp 3)), 3, none⟩,
    ⟨some 5, (Op.call ⟨(Callee.value (Operand.func 55)), #[(Operand.tmp 4)], #[3]⟩), 4, none⟩,
    ⟨some 6, (Op.unOp UnOp.not 4 (Operand.tmp 5)), 4, none⟩,
    ⟨some 7, (Op.move (Operand.tmp 6)), 4, none⟩,
    ⟨some 8, (Op.fieldAddr 63 (Operand.tmp 1) 2), 0, some (7, false)⟩,
    ⟨some 9, (Op.load 3 (Operand.tmp 8)), 3, some (7, false)⟩,
    ⟨some 10, (Op.call ⟨(Callee.value (Operand.func 55)), #[(Operand.tmp 9)], #[3]⟩), 4, some (7, false)⟩,
    ⟨some 11, (Op.unOp UnOp.not 4 (Operand.tmp 10)), 4, some (7, false)⟩,
    ⟨some 12, (Op.pick (Operand.tmp 7) (Operand.const (Value.bool true)) (Operand.tmp 11)), 4, none⟩,
    ⟨some 13, (Op.move (Operand.tmp 12)), 4, none⟩,
    ⟨some 14, (Op.fieldAddr 63 (Operand.tmp 1) 1), 0, some (13, false)⟩,
    ⟨some 15, (Op.load 4 (Operand.tmp 14)), 4, some (13, false)⟩,
    ⟨some 16, (Op.unOp UnOp.not 4 (Operand.tmp 15)), 4, some (13, false)⟩,
    ⟨some 17, (Op.move (Operand.tmp 16)), 4, some (13, false)⟩,
    ⟨some 18, (Op.fieldAddr 63 (Operand.tmp 1) 2), 0, some (17, true)⟩,
    ⟨some 19, (Op.load 3 (Operand.tmp 18)), 3, some (17, true)⟩,
    ⟨some 20, (Op.binOp BinOp.neq 3 (Operand.tmp 19) (Operand.const (Value.int IntKind.i64 0)) 3), 4, some (17, true)⟩,
    ⟨some 21, (Op.pick (Operand.tmp 17) (Operand.tmp 20) (Operand.const (Value.bool false))), 4, some (13, false)⟩,
    ⟨some 22, (Op.pick (Operand.tmp 13) (Operand.const (Value.bool true)) (Operand.tmp 21)), 4, none⟩,
    ⟨some 2, (Op.assign (Operand.tmp 22)), 4, none⟩]) .ret))⟩
theorem is_node_odd (c : Cfg) (h : c.lendT = []) : isF PP c 54 c_node_odd := isF_of (fn := Proofs.Try.f54) (by kernel_rfl) (by kernel_rfl) rfl h (by kernel_rfl) rfl rfl (by kernel_rfl)
def c_item_Byte : SF := ⟨9, [(ResultVar.tmp 2)],
  (.seq (.ops [⟨some 2, (Op.assign (Operand.const (Value.bool false))), 4, none⟩]) (.seq (.ops [⟨some 3, (Op.move (Operand.tmp 0)), 3, none⟩,
    ⟨some 4, (Op.binOp BinOp.geq 3 (Operand.tmp 3) (Operand.const (Value.int IntKind.i64 0)) 3), 4, none⟩,
    ⟨some 5, (Op.move (Operand.tmp 4)), 4, none⟩,
    ⟨some 6, (Op.move (Operand.tmp 0)), 3, some (5, true)⟩,
    ⟨some 7, (Op.binOp BinOp.lss 3 (Operand.tmp 6) (Operand.const (Value.int IntKind.i64 256)) 3), 4, some (5, true)⟩,
    ⟨some 8, (Op.pick (Operand.tmp 5) (Operand.tmp 7) (Operand.const (Value.bool false))), 4, none⟩,
    ⟨some 2, (Op.assign (Operand.tmp 8)), 4, none⟩]) .ret))⟩
theorem is_item_Byte (c : Cfg) (h : c.lendT = []) : isF PP c 55 c_item_Byte := isF_of (fn := Proofs.Try.f55) (by kernel_rfl) (by kernel_rfl) rfl h (by kernel_rfl) rfl rfl (by kernel_rfl)
def c_version_May : SF := ⟨16, [(ResultVar.tmp 2)],
  (.seq (.ops [⟨some 1, (Op.box 33 (Operand.tmp 0)), 0, none⟩,
    ⟨some 2, (Op.assign (Operand.const (Value.bool false))), 4, none⟩]) (.seq (.ops [⟨some 3, (Op.fieldAddr 33 (Operand.tmp 1) 0), 0, none⟩,
    ⟨some 4, (Op.load 3 (Operand.tmp 3)), 3, none⟩,
    ⟨some 5, (Op.binOp BinOp.geq 3 (Operand.tmp 4) (Operand.const (Value.int IntKind.i64 1)) 3), 4, none⟩,
    ⟨some 6, (Op.move (Operand.tmp 5)), 4, none⟩,
    ⟨some 7, (Op.fieldAddr 33 (Operand.tmp 1) 0), 0, some (6, true)⟩,
    ⟨some 8, (Op.load 3 (Operand.tmp 7)), 3, some (6, true)⟩,
    ⟨some 9, (Op.binOp BinOp.leq 3 (Operand.tmp 8) (Operand.const (Value.int IntKind.i64 65535)) 3), 4, some (6, true)⟩,
    ⟨some 10, (Op.pick (Operand.tmp 6) (Operand.tmp 9) (Operand.const (Value.bool false))), 4, none⟩,
    ⟨some 11, (Op.move (Operand.tmp 10)), 4, none⟩,
    ⟨some 12, (Op.fieldAddr 33 (Operand.tmp 1) 1), 0, some (11, true)⟩,
    ⟨some 13, (Op.load 3 (Operand.tmp 12)), 3, some (11, true)⟩,
    ⟨some 14, (Op.call ⟨(Callee.value (Operand.func 35)), #[(Operand.tmp 13)], #[3]⟩), 4, some (11, true)⟩,
    ⟨some 15, (Op.pick (Operand.tmp 11) (Operand.tmp 14) (Operand.const (Value.bool false))), 4, none⟩,
    ⟨some 2, (Op.assign (Operand.tmp 15)), 4, none⟩]) .ret))⟩
theorem is_version_May (c : Cfg) (h : c.lendT = []) : isF PP c 56 c_version_May := isF_of (fn := Proofs.Try.f56) (by kernel_rfl) (by kernel_rfl) rfl h (by kernel_rfl) rfl rfl (by kernel_rfl)
def c_slices_Clone_api_Peer_api_Peer : SF := ⟨8, [(ResultVar.tmp 2)],
  (.seq (.ops [⟨some 2, (Op.assign (Operand.const (Value.slice none 0 0))), 23, none⟩]) (.seq (.seq (.ops [⟨some 3, (Op.move (Operand.tmp 0)), 23, none⟩,
    ⟨some 4, (Op.binOp BinOp.eql 23 (Operand.tmp 3) (Operand.const (Value.slice none 0 0)) 23), 4, none⟩]) (.cond (Operand.tmp 4) (.seq (.ops [⟨some 2, (Op.assign (Operand.const (Value.slice none 0 0))), 23, none⟩]) .ret) .skip)) (.seq (.ops [⟨some 5, (Op.buildSlice 23 0 #[]), 23, none⟩,
    ⟨some 6, (Op.move (Operand.tmp 0)), 23, none⟩,
    ⟨some 7, (Op.call ⟨(Callee.builtin Builtin.append), #[(Operand.tmp 5), (Operand.tmp 6)], #[23, 23]⟩), 23, none⟩,
    ⟨some 2, (Op.assign (Operand.tmp 7)), 23, none⟩]) .ret)))⟩
theorem is_slices_Clone_api_Peer_api_Peer (c : Cfg) (h : c.lendT = []) : isF PP c 57 c_slices_Clone_api_Peer_api_Peer := isF_of (fn := Proofs.Try.f57) (by kernel_rfl) (by kernel_rfl) rfl h (by kernel_rfl) rfl rfl (by kernel_rfl)
def c_slices_Clone_int_int : SF := ⟨8, [(ResultVar.tmp 2)],
  (.seq (.ops [⟨some 2, (Op.assign (Operand.const (Value.slice none 0 0))), 24, none⟩]) (.seq (.seq (.ops [⟨some 3, (Op.move (Operand.tmp 0)), 24, none⟩,
    ⟨some 4, (Op.binOp BinOp.eql 24 (Operand.tmp 3) (Operand.const (Value.slice none 0 0)) 24), 4, none⟩]) (.cond (Operand.tmp 4) (.seq (.ops [⟨some 2, (Op.assign (Operand.const (Value.slice none 0 0))), 24, none⟩]) .ret) .skip)) (.seq (.ops [⟨some 5, (Op.buildSlice 24 0 #[]), 24, none⟩,
    ⟨some 6, (Op.move (Operand.tmp 0)), 24, none⟩,
    ⟨some 7, (Op.call ⟨(Callee.builtin Builtin.append), #[(Operand.tmp 5), (Operand.tmp 6)], #[24, 24]⟩), 24, none⟩,
    ⟨some 2, (Op.assign (Operand.tmp 7)), 24, none⟩]) .ret)))⟩
theorem is_slices_Clone_int_int (c : Cfg) (h : c.lendT = []) : isF PP c 58 c_slices_Clone_int_int := isF_of (fn := Proofs.Try.f58) (by kernel_rfl) (by kernel_rfl) rfl h (by kernel_rfl) rfl rfl (by kernel_rfl)
def c_hello_heard : SF := ⟨48, [],
  (.seq (.ops [⟨some 5, (Op.move (Operand.tmp 0)), 88, none⟩,
    ⟨some 6, (Op.move (Operand.tmp 1)), 3, none⟩,
    ⟨some 7, (Op.call ⟨(Callee.value (Operand.func 60)), #[(Operand.tmp 5), (Operand.tmp 6)], #[88, 3]⟩), 4, none⟩,
    ⟨some 8, (Op.move (Operand.tmp 7)), 4, none⟩,
    ⟨some 9, (Op.move (Operand.tmp 0)), 88, some (8, false)⟩,
    ⟨some 10, (Op.move (Operand.tmp 1)), 3, some (8, false)⟩,
    ⟨some 11, (Op.call ⟨(Callee.value (Operand.func 61)), #[(Operand.tmp 9), (Operand.tmp 10)], #[88, 3]⟩), 4, some (8, false)⟩,
    ⟨some 12, (Op.pick (Operand.tmp 8) (Operand.const (Value.bool true)) (Operand.tmp 11)), 4, none⟩,
    ⟨some 4, (Op.assign (Operand.tmp 12)), 4, none⟩]) (.seq (.seq (.ops [⟨some 13, (Op.move (Operand.tmp 4)), 4, none⟩,
    ⟨some 14, (Op.unOp UnOp.not 4 (Operand.tmp 13)), 4, none⟩,
    ⟨some 15, (Op.move (Operand.tmp 14)), 4, none⟩,
    ⟨some 16, (Op.move (Operand.tmp 0)), 88, some (15, true)⟩,
    ⟨some 17, (Op.call ⟨(Callee.value (Operand.func 72)), #[(Operand.tmp 16)], #[88]⟩), 4, some (15, true)⟩,
    ⟨some 18, (Op.unOp UnOp.not 4 (Operand.tmp 17)), 4, some (15, true)⟩,
    ⟨some 19, (Op.pick (Operand.tmp 15) (Operand.tmp 18) (Operand.const (Value.bool false))), 4, none⟩]) (.cond (Operand.tmp 19) .ret .skip)) (.seq (.ops [⟨some 21, (Op.move (Operand.tmp 0)), 88, none⟩,
    ⟨some 22, (Op.move (Operand.tmp 0)), 88, none⟩,
    ⟨some 23, (Op.nilCheck (Operand.tmp 22)), 0, none⟩,
    ⟨some 24, (Op.fieldAddr 26 (Operand.tmp 23) 2), 0, none⟩,
    ⟨some 25, (Op.load 24 (Operand.tmp 24)), 24, none⟩,
    ⟨some 26, (Op.move (Operand.tmp 1)), 3, none⟩,
    ⟨some 27, (Op.call ⟨(Callee.value (Operand.func 73)), #[(Operand.tmp 25), (Operand.tmp 26)], #[24, 3]⟩), 102, none⟩,
    ⟨some 20, (Op.move (Operand.tmp 27)), 102, none⟩,
    ⟨some 28, (Op.extract (Operand.tmp 20) 0), 24, none⟩,
    ⟨some 29, (Op.extract (Operand.tmp 20) 1), 40, none⟩,
    ⟨some 30, (Op.nilCheck (Operand.tmp 21)), 0, none⟩,
    ⟨some 31, (Op.fieldAddr 26 (Operand.tmp 30) 2), 0, none⟩,
    ⟨none, (Op.store 24 (Operand.tmp 31) (Operand.tmp 28)), 0, none⟩]) (.ops [⟨some 33, (Op.move (Operand.tmp 0)), 88, none⟩,
    ⟨some 34, (Op.move (Operand.tmp 0)), 88, none⟩,
    ⟨some 38, (Op.move (Operand.tmp 0)), 88, none⟩,
    ⟨some 42, (Op.move (Operand.tmp 1)), 3, none⟩,
    ⟨some 35, (Op.nilCheck (Operand.tmp 34)), 0, none⟩,
    ⟨some 36, (Op.fieldAddr 26 (Operand.tmp 35) 0), 0, none⟩,
    ⟨some 37, (Op.load 3 (Operand.tmp 36)), 3, none⟩,
    ⟨some 39, (Op.nilCheck (Operand.tmp 38)), 0, none⟩,
    ⟨some 40, (Op.fieldAddr 26 (Operand.tmp 39) 1), 0, none⟩,
    ⟨some 41, (Op.load 23 (Operand.tmp 40)), 23, none⟩,
    ⟨some 43, (Op.call ⟨(Callee.value (Operand.func 74)), #[(Operand.tmp 37), (Operand.tmp 41), (Operand.tmp 42)], #[3, 23, 3]⟩), 104, none⟩,
    ⟨some 32, (Op.move (Operand.tmp 43)), 104, none⟩,
    ⟨some 44, (Op.extract (Operand.tmp 32) 0), 23, none⟩,
    ⟨some 45, (Op.extract (Operand.tmp 32) 1), 40, none⟩,
    ⟨some 46, (Op.nilCheck (Operand.tmp 33)), 0, none⟩,
    ⟨some 47, (Op.fieldAddr 26 (Operand.tmp 46) 1), 0, none⟩,
    ⟨none, (Op.store 23 (Operand.tmp 47) (Operand.tmp 44)), 0, none⟩]))))⟩
theorem is_hello_heard (c : Cfg) (h : c.lendT = []) : isF PP c 59 c_hello_heard := isF_of (fn := Proofs.Try.f59) (by kernel_rfl) (by kernel_rfl) rfl h (by kernel_rfl) rfl rfl (by kernel_rfl)
def c_view_Peer : SF := ⟨21, [(ResultVar.tmp 4)],
  (.seq (.ops [⟨some 4, (Op.assign (Operand.const (Value.bool false))), 4, none⟩]) (.seq (.ops [⟨some 8, (Op.move (Operand.tmp 0)), 88, none⟩,
    ⟨some 12, (Op.move (Operand.tmp 0)), 88, none⟩,
    ⟨some 16, (Op.move (Operand.tmp 1)), 3, none⟩,
    ⟨some 9, (Op.nilCheck (Operand.tmp 8)), 0, none⟩,
    ⟨some 10, (Op.fieldAddr 26 (Operand.tmp 9) 0), 0, none⟩,
    ⟨some 11, (Op.load 3 (Operand.tmp 10)), 3, none⟩,
    ⟨some 13, (Op.nilCheck (Operand.tmp 12)), 0, none⟩,
    ⟨some 14, (Op.fieldAddr 26 (Operand.tmp 13) 1), 0, none⟩,
    ⟨some 15, (Op.load 23 (Operand.tmp 14)), 23, none⟩,
    ⟨some 17, (Op.call ⟨(Callee.value (Operand.func 75)), #[(Operand.tmp 11), (Operand.tmp 15), (Operand.tmp 16)], #[3, 23, 3]⟩), 106, none⟩,
    ⟨some 7, (Op.move (Operand.tmp 17)), 106, none⟩,
    ⟨some 18, (Op.extract (Operand.tmp 7) 0), 3, none⟩,
    ⟨some 19, (Op.extract (Operand.tmp 7) 1), 4, none⟩,
    ⟨some 5, (Op.assign (Operand.tmp 18)), 3, none⟩,
    ⟨some 6, (Op.assign (Operand.tmp 19)), 4, none⟩]) (.seq (.ops [⟨some 20, (Op.move (Operand.tmp 6)), 4, none⟩,
    ⟨some 4, (Op.assign (Operand.tmp 20)), 4, none⟩]) .ret)))⟩
theorem is_view_Peer (c : Cfg) (h : c.lendT = []) : isF PP c 60 c_view_Peer := isF_of (fn := Proofs.Try.f60) (by kernel_rfl) (by kernel_rfl) rfl h (by kernel_rfl) rfl rfl (by kernel_rfl)
def c_view_Passive : SF := ⟨11, [(ResultVar.tmp 4)],
  (.seq (.ops [⟨some 4, (Op.assign (Operand.const (Value.bool false))), 4, none⟩]) (.seq (.ops [⟨some 5, (Op.move (Operand.tmp 0)), 88, none⟩,
    ⟨some 6, (Op.nilCheck (Operand.tmp 5)), 0, none⟩,
    ⟨some 7, (Op.fieldAddr 26 (Operand.tmp 6) 2), 0, none⟩,
    ⟨some 8, (Op.load 24 (Operand.tmp 7)), 24, none⟩,
    ⟨some 9, (Op.move (Operand.tmp 1)), 3, none⟩,
    ⟨some 10, (Op.call ⟨(Callee.value (Operand.func 76)), #[(Operand.tmp 8), (Operand.tmp 9)], #[24, 3]⟩), 4, none⟩,
    ⟨some 4, (Op.assign (Operand.tmp 10)), 4, none⟩]) .ret))⟩
theorem is_view_Passive (c : Cfg) (h : c.lendT = []) : isF PP c 61 c_view_Passive := isF_of (fn := Proofs.Try.f61) (by kernel_rfl) (by kernel_rfl) rfl h (by kernel_rfl) rfl rfl (by kernel_rfl)
def c_store_Put : SF := ⟨50, [(ResultVar.tmp 4), (ResultVar.tmp 5)],
  (.seq (.ops [⟨some 3, (Op.box 35 (Operand.tmp 1)), 0, none⟩,
    ⟨some 4, (Op.assign (Operand.const (Value.slice none 0 0))), 27, none⟩,
    ⟨some 5, (Op.assign (Operand.const (Value.int IntKind.i64 0))), 40, none⟩]) (.seq (.seq (.ops [⟨some 9, (Op.move (Operand.tmp 0)), 27, none⟩,
    ⟨some 10, (Op.call ⟨(Callee.value (Operand.func 52)), #[(Operand.tmp 9)], #[27]⟩), 4, none⟩,
    ⟨some 11, (Op.unOp UnOp.not 4 (Operand.tmp 10)), 4, none⟩,
    ⟨some 12, (Op.move (Operand.tmp 11)), 4, none⟩,
    ⟨some 13, (Op.load 35 (Operand.tmp 3)), 35, some (12, false)⟩,
    ⟨some 14, (Op.call ⟨(Callee.value (Operand.func 38)), #[(Operand.tmp 13)], #[35]⟩), 4, some (12, false)⟩,
    ⟨some 15, (Op.unOp UnOp.not 4 (Operand.tmp 14)), 4, some (12, false)⟩,
    ⟨some 16, (Op.pick (Operand.tmp 12) (Operand.const (Value.bool true)) (Operand.tmp 15)), 4, none⟩]) (.cond (Operand.tmp 16) (.seq (.ops [⟨some 4, (Op.assign (Operand.const (Value.slice none 0 0))), 27, none⟩,
    ⟨some 5, (Op.assign (Operand.const (Value.int IntKind.i64 500))), 40, none⟩]) .ret) .skip)) (.seq (.ops [⟨some 17, (Op.move (Operand.tmp 0)), 27, none⟩,
    ⟨some 18, (Op.call ⟨(Callee.value (Operand.func 40)), #[(Operand.tmp 17)], #[27]⟩), 27, none⟩,
    ⟨some 6, (Op.assign (Operand.tmp 18)), 27, none⟩]) (.seq (.ops [⟨some 20, (Op.move (Operand.tmp 6)), 27, none⟩,
    ⟨some 21, (Op.fieldAddr 35 (Operand.tmp 3) 0), 0, none⟩,
    ⟨some 22, (Op.load 3 (Operand.tmp 21)), 3, none⟩,
    ⟨some 23, (Op.call ⟨(Callee.value (Operand.func 77)), #[(Operand.tmp 20), (Operand.tmp 22), (Operand.func 78)], #[27, 3, 109]⟩), 106, none⟩,
    ⟨some 19, (Op.move (Operand.tmp 23)), 106, none⟩,
    ⟨some 24, (Op.extract (Operand.tmp 19) 0), 3, none⟩,
    ⟨some 25, (Op.extract (Operand.tmp 19) 1), 4, none⟩,
    ⟨some 7, (Op.assign (Operand.tmp 24)), 3, none⟩,
    ⟨some 8, (Op.assign (Operand.tmp 25)), 4, none⟩]) (.seq (.block 0 (.seq (.ops [⟨some 32, (Op.move (Operand.tmp 8)), 4, none⟩,
    ⟨some 31, (Op.assign (Operand.tmp 32)), 4, none⟩]) (.cond (Operand.tmp 31) (.ops [⟨some 34, (Op.move (Operand.tmp 6)), 27, none⟩,
    ⟨some 35, (Op.move (Operand.tmp 7)), 3, none⟩,
    ⟨some 36, (Op.move (Operand.tmp 6)), 27, none⟩,
    ⟨some 37, (Op.move (Operand.tmp 7)), 3, none⟩,
    ⟨some 38, (Op.indexAddr 27 (Operand.tmp 36) (Operand.tmp 37)), 0, none⟩,
    ⟨some 39, (Op.load 35 (Operand.tmp 38)), 35, none⟩,
    ⟨some 40, (Op.load 35 (Operand.tmp 3)), 35, none⟩,
    ⟨some 41, (Op.call ⟨(Callee.value (Operand.func 79)), #[(Operand.tmp 39), (Operand.tmp 40)], #[35, 35]⟩), 110, none⟩,
    ⟨some 33, (Op.move (Operand.tmp 41)), 110, none⟩,
    ⟨some 42, (Op.extract (Operand.tmp 33) 0), 35, none⟩,
    ⟨some 43, (Op.extract (Operand.tmp 33) 1), 40, none⟩,
    ⟨some 44, (Op.indexAddr 27 (Operand.tmp 34) (Operand.tmp 35)), 0, none⟩,
    ⟨none, (Op.store 35 (Operand.tmp 44) (Operand.tmp 42)), 0, none⟩]) (.seq (.ops [⟨some 46, (Op.move (Operand.tmp 6)), 27, none⟩,
    ⟨some 47, (Op.call ⟨(Callee.builtin Builtin.len), #[(Operand.tmp 46)], #[27]⟩), 3, none⟩,
    ⟨some 48, (Op.binOp BinOp.eql 3 (Operand.tmp 47) (Operand.const (Value.int IntKind.i64 16)) 3), 4, none⟩,
    ⟨some 45, (Op.assign (Operand.tmp 48)), 4, none⟩]) (.cond (Operand.tmp 45) (.seq (.ops [⟨some 4, (Op.assign (Operand.const (Value.slice none 0 0))), 27, none⟩,
    ⟨some 5, (Op.assign (Operand.const (Value.int IntKind.i64 501))), 40, none⟩]) .ret) (.ops [⟨some 26, (Op.move (Operand.tmp 6)), 27, none⟩,
    ⟨some 27, (Op.move (Operand.tmp 7)), 3, none⟩,
    ⟨some 28, (Op.load 35 (Operand.tmp 3)), 35, none⟩,
    ⟨some 29, (Op.buildSlice 27 1 #[(0, (Operand.tmp 28))]), 27, none⟩,
    ⟨some 30, (Op.call ⟨(Callee.value (Operand.func 80)), #[(Operand.tmp 26), (Operand.tmp 27), (Operand.tmp 29)], #[27, 3, 27]⟩), 27, none⟩,
    ⟨some 6, (Op.assign (Operand.tmp 30)), 27, none⟩])))))) (.seq (.ops [⟨some 49, (Op.move (Operand.tmp 6)), 27, none⟩,
    ⟨some 4, (Op.assign (Operand.tmp 49)), 27, none⟩,
    ⟨some 5, (Op.assign (Operand.const (Value.int IntKind.i64 0))), 40, none⟩]) .ret))))))⟩
theorem is_store_Put (c : Cfg) (h : c.lendT = [26]) : isF PP c 62 c_store_Put := isF_of (fn := Proofs.Try.f62) (by kernel_rfl) (by kernel_rfl) rfl h (by kernel_rfl) rfl rfl (by kernel_rfl)
def c_ask_to : SF := ⟨37, [(ResultVar.tmp 6)],
  (.seq (.ops [⟨some 6, (Op.assign (Operand.const (Value.bool false))), 4, none⟩]) (.seq (.ops [⟨some 7, (Op.move (Operand.tmp 0)), 93, none⟩,
    ⟨some 8, (Op.nilCheck (Operand.tmp 7)), 0, none⟩,
    ⟨some 9, (Op.load 30 (Operand.tmp 8)), 30, none⟩,
    ⟨some 10, (Op.call ⟨(Callee.value (Operand.func 19)), #[(Operand.tmp 9)], #[30]⟩), 4, none⟩,
    ⟨some 11, (Op.move (Operand.tmp 10)), 4, none⟩,
    ⟨some 12, (Op.move (Operand.tmp 1)), 94, some (11, true)⟩,
    ⟨some 13, (Op.nilCheck (Operand.tmp 12)), 0, some (11, true)⟩,
    ⟨some 14, (Op.load 38 (Operand.tmp 13)), 38, some (11, true)⟩,
    ⟨some 15, (Op.call ⟨(Callee.value (Operand.func 20)), #[(Operand.tmp 14)], #[38]⟩), 4, some (11, true)⟩,
    ⟨some 16, (Op.pick (Operand.tmp 11) (Operand.tmp 15) (Operand.const (Value.bool false))), 4, none⟩,
    ⟨some 17, (Op.move (Operand.tmp 16)), 4, none⟩,
    ⟨some 18, (Op.move (Operand.tmp 1)), 94, some (17, true)⟩,
    ⟨some 19, (Op.nilCheck (Operand.tmp 18)), 0, some (17, true)⟩,
    ⟨some 20, (Op.fieldAddr 38 (Operand.tmp 19) 0), 0, some (17, true)⟩,
    ⟨some 21, (Op.load 3 (Operand.tmp 20)), 3, some (17, true)⟩,
    ⟨some 22, (Op.move (Operand.tmp 2)), 3, some (17, true)⟩,
    ⟨some 23, (Op.binOp BinOp.eql 3 (Operand.tmp 21) (Operand.tmp 22) 3), 4, some (17, true)⟩,
    ⟨some 24, (Op.pick (Operand.tmp 17) (Operand.tmp 23) (Operand.const (Value.bool false))), 4, none⟩,
    ⟨some 25, (Op.move (Operand.tmp 24)), 4, none⟩,
    ⟨some 26, (Op.move (Operand.tmp 1)), 94, some (25, true)⟩,
    ⟨some 27, (Op.nilCheck (Operand.tmp 26)), 0, some (25, true)⟩,
    ⟨some 28, (Op.fieldAddr 38 (Operand.tmp 27) 2), 0, some (25, true)⟩,
    ⟨some 29, (Op.load 3 (Operand.tmp 28)), 3, some (25, true)⟩,
    ⟨some 30, (Op.move (Operand.tmp 0)), 93, some (25, true)⟩,
    ⟨some 31, (Op.nilCheck (Operand.tmp 30)), 0, some (25, true)⟩,
    ⟨some 32, (Op.fieldAddr 30 (Operand.tmp 31) 1), 0, some (25, true)⟩,
    ⟨some 33, (Op.fieldAddr 26 (Operand.tmp 32) 0), 0, some (25, true)⟩,
    ⟨some 34, (Op.load 3 (Operand.tmp 33)), 3, some (25, true)⟩,
    ⟨some 35, (Op.binOp BinOp.eql 3 (Operand.tmp 29) (Operand.tmp 34) 3), 4, some (25, true)⟩,
    ⟨some 36, (Op.pick (Operand.tmp 25) (Operand.tmp 35) (Operand.const (Value.bool false))), 4, none⟩,
    ⟨some 6, (Op.assign (Operand.tmp 36)), 4, none⟩]) .ret))⟩
theorem is_ask_to (c : Cfg) (h : c.lendT = []) : isF PP c 63 c_ask_to := isF_of (fn := Proofs.Try.f63) (by kernel_rfl) (by kernel_rfl) rfl h (by kernel_rfl) rfl rfl (by kernel_rfl)
def c_store_Get : SF := ⟨25, [(ResultVar.cell 4 35), (ResultVar.tmp 5)],
  (.seq (.ops [⟨some 4, (Op.alloc 35), 0, none⟩,
    ⟨some 5, (Op.assign (Operand.const (Value.bool false))), 4, none⟩]) (.seq (.seq (.ops [⟨some 8, (Op.move (Operand.tmp 0)), 27, none⟩,
    ⟨some 9, (Op.call ⟨(Callee.value (Operand.func 52)), #[(Operand.tmp 8)], #[27]⟩), 4, none⟩,
    ⟨some 10, (Op.unOp UnOp.not 4 (Operand.tmp 9)), 4, none⟩]) (.cond (Operand.tmp 10) (.seq (.ops [⟨some 11, (Op.build 35 #[]), 35, none⟩,
    ⟨none, (Op.store 35 (Operand.tmp 4) (Operand.tmp 11)), 0, none⟩,
    ⟨some 5, (Op.assign (Operand.const (Value.bool false))), 4, none⟩]) .ret) .skip)) (.seq (.ops [⟨some 13, (Op.move (Operand.tmp 0)), 27, none⟩,
    ⟨some 14, (Op.move (Operand.tmp 1)), 3, none⟩,
    ⟨some 15, (Op.call ⟨(Callee.value (Operand.func 77)), #[(Operand.tmp 13), (Operand.tmp 14), (Operand.func 78)], #[27, 3, 109]⟩), 106, none⟩,
    ⟨some 12, (Op.move (Operand.tmp 15)), 106, none⟩,
    ⟨some 16, (Op.extract (Operand.tmp 12) 0), 3, none⟩,
    ⟨some 17, (Op.extract (Operand.tmp 12) 1), 4, none⟩,
    ⟨some 6, (Op.assign (Operand.tmp 16)), 3, none⟩,
    ⟨some 7, (Op.assign (Operand.tmp 17)), 4, none⟩]) (.seq (.seq (.ops [⟨some 18, (Op.move (Operand.tmp 7)), 4, none⟩,
    ⟨some 19, (Op.unOp UnOp.not 4 (Operand.tmp 18)), 4, none⟩]) (.cond (Operand.tmp 19) (.seq (.ops [⟨some 20, (Op.build 35 #[]), 35, none⟩,
    ⟨none, (Op.store 35 (Operand.tmp 4) (Operand.tmp 20)), 0, none⟩,
    ⟨some 5, (Op.assign (Operand.const (Value.bool false))), 4, none⟩]) .ret) .skip)) (.seq (.ops [⟨some 21, (Op.move (Operand.tmp 0)), 27, none⟩,
    ⟨some 22, (Op.move (Operand.tmp 6)), 3, none⟩,
    ⟨some 23, (Op.indexAddr 27 (Operand.tmp 21) (Operand.tmp 22)), 0, none⟩,
    ⟨some 24, (Op.load 35 (Operand.tmp 23)), 35, none⟩,
    ⟨none, (Op.store 35 (Operand.tmp 4) (Operand.tmp 24)), 0, none⟩,
    ⟨some 5, (Op.assign (Operand.const (Value.bool true))), 4, none⟩]) .ret)))))⟩
theorem is_store_Get (c : Cfg) (h : c.lendT = []) : isF PP c 64 c_store_Get := isF_of (fn := Proofs.Try.f64) (by kernel_rfl) (by kernel_rfl) rfl h (by kernel_rfl) rfl rfl (by kernel_rfl)
def c_ask_note : SF := ⟨41, [(ResultVar.cell 8 30)],
  (.seq (.ops [⟨some 4, (Op.box 30 (Operand.tmp 0)), 0, none⟩,
    ⟨some 6, (Op.box 35 (Operand.tmp 2)), 0, none⟩,
    ⟨some 8, (Op.alloc 30), 0, none⟩]) (.seq (.ops [⟨some 11, (Op.load 30 (Operand.tmp 4)), 30, none⟩,
    ⟨some 12, (Op.call ⟨(Callee.value (Operand.func 21)), #[(Operand.tmp 11)], #[30]⟩), 30, none⟩,
    ⟨some 9, (Op.alloc 30), 0, none⟩,
    ⟨none, (Op.store 30 (Operand.tmp 9) (Operand.tmp 12)), 0, none⟩]) (.seq (.ops [⟨some 13, (Op.move (Operand.tmp 1)), 3, none⟩,
    ⟨some 14, (Op.build 63 #[(0, (Operand.tmp 13))]), 63, none⟩,
    ⟨some 10, (Op.alloc 63), 0, none⟩,
    ⟨none, (Op.store 63 (Operand.tmp 10) (Operand.tmp 14)), 0, none⟩]) (.seq (.seq (.ops [⟨some 15, (Op.move (Operand.tmp 3)), 4, none⟩,
    ⟨some 16, (Op.move (Operand.tmp 15)), 4, none⟩,
    ⟨some 17, (Op.fieldAddr 35 (Operand.tmp 6) 3), 0, some (16, true)⟩,
    ⟨some 18, (Op.load 4 (Operand.tmp 17)), 4, some (16, true)⟩,
    ⟨some 19, (Op.unOp UnOp.not 4 (Operand.tmp 18)), 4, some (16, true)⟩,
    ⟨some 20, (Op.pick (Operand.tmp 16) (Operand.tmp 19) (Operand.const (Value.bool false))), 4, none⟩]) (.cond (Operand.tmp 20) (.alts [[⟨some 21, (Op.fieldAddr 35 (Operand.tmp 6) 2), 0, none⟩,
    ⟨some 22, (Op.load 3 (Operand.tmp 21)), 3, none⟩,
    ⟨some 23, (Op.fieldAddr 63 (Operand.tmp 10) 1), 0, none⟩,
    ⟨none, (Op.store 4 (Operand.tmp 23) (Operand.const (Value.bool true))), 0, none⟩,
    ⟨some 24, (Op.fieldAddr 63 (Operand.tmp 10) 2), 0, none⟩,
    ⟨none, (Op.store 3 (Operand.tmp 24) (Operand.tmp 22)), 0, none⟩],
    [⟨some 21, (Op.fieldAddr 35 (Operand.tmp 6) 2), 0, none⟩,
    ⟨some 23, (Op.fieldAddr 63 (Operand.tmp 10) 1), 0, none⟩,
    ⟨none, (Op.store 4 (Operand.tmp 23) (Operand.const (Value.bool true))), 0, none⟩,
    ⟨some 22, (Op.load 3 (Operand.tmp 21)), 3, none⟩,
    ⟨some 24, (Op.fieldAddr 63 (Operand.tmp 10) 2), 0, none⟩,
    ⟨none, (Op.store 3 (Operand.tmp 24) (Operand.tmp 22)), 0, none⟩],
    [⟨some 23, (Op.fieldAddr 63 (Operand.tmp 10) 1), 0, none⟩,
    ⟨none, (Op.store 4 (Operand.tmp 23) (Operand.const (Value.bool true))), 0, none⟩,
    ⟨some 21, (Op.fieldAddr 35 (Operand.tmp 6) 2), 0, none⟩,
    ⟨some 22, (Op.load 3 (Operand.tmp 21)), 3, none⟩,
    ⟨some 24, (Op.fieldAddr 63 (Operand.tmp 10) 2), 0, none⟩,
    ⟨none, (Op.store 3 (Operand.tmp 24) (Operand.tmp 22)), 0, none⟩]]) .skip)) (.seq (.ops [⟨some 25, (Op.fieldAddr 30 (Operand.tmp 9) 3), 0, none⟩,
    ⟨some 26, (Op.load 28 (Operand.tmp 25)), 28, none⟩,
    ⟨some 27, (Op.load 63 (Operand.tmp 10)), 63, none⟩,
    ⟨some 28, (Op.buildSlice 28 1 #[(0, (Operand.tmp 27))]), 28, none⟩,
    ⟨some 29, (Op.call ⟨(Callee.builtin Builtin.append), #[(Operand.tmp 26), (Operand.tmp 28)], #[28, 28]⟩), 28, none⟩,
    ⟨some 30, (Op.fieldAddr 30 (Operand.tmp 9) 3), 0, none⟩,
    ⟨none, (Op.store 28 (Operand.tmp 30) (Operand.tmp 29)), 0, none⟩]) (.seq (.ops [⟨some 31, (Op.fieldAddr 30 (Operand.tmp 9) 3), 0, none⟩,
    ⟨some 32, (Op.load 28 (Operand.tmp 31)), 28, none⟩,
    ⟨some 33, (Op.fieldAddr 30 (Operand.tmp 9) 3), 0, none⟩,
    ⟨some 34, (Op.load 28 (Operand.tmp 33)), 28, none⟩,
    ⟨some 35, (Op.call ⟨(Callee.builtin Builtin.len), #[(Operand.tmp 34)], #[28]⟩), 3, none⟩,
    ⟨some 36, (Op.binOp BinOp.sub 3 (Operand.tmp 35) (Operand.const (Value.int IntKind.i64 64)) 3), 3, none⟩,
    ⟨some 37, (Op.call ⟨(Callee.builtin Builtin.max), #[(Operand.tmp 36), (Operand.const (Value.int IntKind.i64 0))], #[3, 3]⟩), 3, none⟩,
    ⟨some 38, (Op.slice 28 (Operand.tmp 32) (some (Operand.tmp 37)) none none), 28, none⟩,
    ⟨some 39, (Op.fieldAddr 30 (Operand.tmp 9) 3), 0, none⟩,
    ⟨none, (Op.store 28 (Operand.tmp 39) (Operand.tmp 38)), 0, none⟩]) (.seq (.ops [⟨some 40, (Op.load 30 (Operand.tmp 9)), 30, none⟩,
    ⟨none, (Op.store 30 (Operand.tmp 8) (Operand.tmp 40)), 0, none⟩]) .ret)))))))⟩
theorem is_ask_note (c : Cfg) (h : c.lendT = []) : isF PP c 65 c_ask_note := isF_of (fn := Proofs.Try.f65) (by kernel_rfl) (by kernel_rfl) rfl h (by kernel_rfl) rfl rfl (by kernel_rfl)
def c_gimmalref1_far : SF := ⟨10, [(ResultVar.tmp 4)],
  (.seq (.ops [⟨some 4, (Op.assign (Operand.const (Value.int IntKind.i64 0))), 3, none⟩]) (.seq (.ops [⟨some 5, (Op.move (Operand.tmp 1)), 3, none⟩,
    ⟨some 6, (Op.move (Operand.tmp 0)), 3, none⟩,
    ⟨some 7, (Op.binOp BinOp.sub 3 (Operand.tmp 5) (Operand.tmp 6) 3), 3, none⟩,
    ⟨some 8, (Op.binOp BinOp.add 3 (Operand.tmp 7) (Operand.const (Value.int IntKind.i64 256)) 3), 3, none⟩,
    ⟨some 9, (Op.binOp BinOp.rem 3 (Operand.tmp 8) (Operand.const (Value.int IntKind.i64 256)) 3), 3, none⟩,
    ⟨some 4, (Op.assign (Operand.tmp 9)), 3, none⟩]) .ret))⟩
theorem is_gimmalref1_far (c : Cfg) (h : c.lendT = []) : isF PP c 66 c_gimmalref1_far := isF_of (fn := Proofs.Try.f66) (by kernel_rfl) (by kernel_rfl) rfl h (by kernel_rfl) rfl rfl (by kernel_rfl)
def c_peers_May_L0 : SC := (.seq (.ops [⟨some 19, (Op.binOp BinOp.lss 3 (Operand.tmp 18) (Operand.tmp 17) 3), 0, none⟩]) (.seq (.cond (Operand.tmp 19) .skip (.exit 0)) (.seq (.block 1 (.seq (.ops [⟨some 20, (Op.indexAddr 23 (Operand.tmp 16) (Operand.tmp 18)), 0, none⟩,
    ⟨some 21, (Op.load 54 (Operand.tmp 20)), 54, none⟩,
    ⟨some 7, (Op.alloc 54), 0, none⟩,
    ⟨none, (Op.store 54 (Operand.tmp 7) (Operand.tmp 21)), 0, none⟩]) (.seq (.seq (.ops [⟨some 22, (Op.fieldAddr 54 (Operand.tmp 7) 0), 0, none⟩,
    ⟨some 23, (Op.load 3 (Operand.tmp 22)), 3, none⟩,
    ⟨some 24, (Op.call ⟨(Callee.value (Operand.func 35)), #[(Operand.tmp 23)], #[3]⟩), 4, none⟩,
    ⟨some 25, (Op.unOp UnOp.not 4 (Operand.tmp 24)), 4, none⟩,
    ⟨some 26, (Op.move (Operand.tmp 25)), 4, none⟩,
    ⟨some 27, (Op.fieldAddr 54 (Operand.tmp 7) 1), 0, some (26, false)⟩,
    ⟨some 28, (Op.load 3 (Operand.tmp 27)), 3, some (26, false)⟩,
    ⟨some 29, (Op.binOp BinOp.lss 3 (Operand.tmp 28) (Operand.const (Value.int IntKind.i64 0)) 3), 4, some (26, false)⟩,
    ⟨some 30, (Op.pick (Operand.tmp 26) (Operand.const (Value.bool true)) (Operand.tmp 29)), 4, none⟩,
    ⟨some 31, (Op.move (Operand.tmp 30)), 4, none⟩,
    ⟨some 32, (Op.fieldAddr 54 (Operand.tmp 7) 1), 0, some (31, false)⟩,
    ⟨some 33, (Op.load 3 (Operand.tmp 32)), 3, some (31, false)⟩,
    ⟨some 34, (Op.binOp BinOp.geq 3 (Operand.tmp 33) (Operand.const (Value.int IntKind.i64 3)) 3), 4, some (31, false)⟩,
    ⟨some 35, (Op.pick (Operand.tmp 31) (Operand.const (Value.bool true)) (Operand.tmp 34)), 4, none⟩,
    ⟨some 36, (Op.move (Operand.tmp 35)), 4, none⟩,
    ⟨some 37, (Op.move (Operand.tmp 0)), 3, some (36, false)⟩,
    ⟨some 38, (Op.fieldAddr 54 (Operand.tmp 7) 0), 0, some (36, false)⟩,
    ⟨some 39, (Op.load 3 (Operand.tmp 38)), 3, some (36, false)⟩,
    ⟨some 40, (Op.call ⟨(Callee.value (Operand.func 81)), #[(Operand.tmp 37), (Operand.tmp 39)], #[3, 3]⟩), 3, some (36, false)⟩,
    ⟨some 41, (Op.move (Operand.tmp 5)), 3, some (36, false)⟩,
    ⟨some 42, (Op.binOp BinOp.leq 3 (Operand.tmp 40) (Operand.tmp 41) 3), 4, some (36, false)⟩,
    ⟨some 43, (Op.pick (Operand.tmp 36) (Operand.const (Value.bool true)) (Operand.tmp 42)), 4, none⟩]) (.cond (Operand.tmp 43) (.seq (.ops [⟨some 4, (Op.assign (Operand.const (Value.bool false))), 4, none⟩]) .ret) .skip)) (.ops [⟨some 44, (Op.move (Operand.tmp 0)), 3, none⟩,
    ⟨some 45, (Op.fieldAddr 54 (Operand.tmp 7) 0), 0, none⟩,
    ⟨some 46, (Op.load 3 (Operand.tmp 45)), 3, none⟩,
    ⟨some 47, (Op.call ⟨(Callee.value (Operand.func 81)), #[(Operand.tmp 44), (Operand.tmp 46)], #[3, 3]⟩), 3, none⟩,
    ⟨some 5, (Op.assign (Operand.tmp 47)), 3, none⟩])))) (.ops [⟨some 48, (Op.binOp BinOp.add 3 (Operand.tmp 18) (Operand.const (Value.int IntKind.i64 1)) 3), 3, none⟩,
    ⟨some 18, (Op.move (Operand.tmp 48)), 3, none⟩]))))
def c_peers_May : SF := ⟨49, [(ResultVar.tmp 4)],
  (.seq (.ops [⟨some 4, (Op.assign (Operand.const (Value.bool false))), 4, none⟩]) (.seq (.seq (.ops [⟨some 8, (Op.move (Operand.tmp 0)), 3, none⟩,
    ⟨some 9, (Op.call ⟨(Callee.value (Operand.func 35)), #[(Operand.tmp 8)], #[3]⟩), 4, none⟩,
    ⟨some 10, (Op.unOp UnOp.not 4 (Operand.tmp 9)), 4, none⟩,
    ⟨some 11, (Op.move (Operand.tmp 10)), 4, none⟩,
    ⟨some 12, (Op.move (Operand.tmp 1)), 23, some (11, false)⟩,
    ⟨some 13, (Op.call ⟨(Callee.builtin Builtin.len), #[(Operand.tmp 12)], #[23]⟩), 3, some (11, false)⟩,
    ⟨some 14, (Op.binOp BinOp.gtr 3 (Operand.tmp 13) (Operand.const (Value.int IntKind.i64 16)) 3), 4, some (11, false)⟩,
    ⟨some 15, (Op.pick (Operand.tmp 11) (Operand.const (Value.bool true)) (Operand.tmp 14)), 4, none⟩]) (.cond (Operand.tmp 15) (.seq (.ops [⟨some 4, (Op.assign (Operand.const (Value.bool false))), 4, none⟩]) .ret) .skip)) (.seq (.ops [⟨some 5, (Op.assign (Operand.const (Value.int IntKind.i64 0))), 3, none⟩]) (.seq (.seq (.ops [⟨some 16, (Op.move (Operand.tmp 1)), 23, none⟩,
    ⟨some 17, (Op.call ⟨(Callee.builtin Builtin.len), #[(Operand.tmp 16)], #[23]⟩), 3, none⟩,
    ⟨some 18, (Op.move (Operand.const (Value.int IntKind.i64 0))), 3, none⟩]) (.block 0 (.loop c_peers_May_L0))) (.seq (.ops [⟨some 4, (Op.assign (Operand.const (Value.bool true))), 4, none⟩]) .ret)))))⟩
theorem is_peers_May (c : Cfg) (h : c.lendT = []) : isF PP c 67 c_peers_May := isF_of (fn := Proofs.Try.f67) (by kernel_rfl) (by kernel_rfl) rfl h (by kernel_rfl) rfl rfl (by kernel_rfl)
def c_passive_May_L0 : SC := (.seq (.ops [⟨some 8, (Op.binOp BinOp.lss 3 (Operand.tmp 7) (Operand.tmp 6) 3), 0, none⟩]) (.seq (.cond (Operand.tmp 8) .skip (.exit 0)) (.seq (.block 1 (.seq (.ops [⟨some 9, (Op.move (Operand.tmp 7)), 3, none⟩,
    ⟨some 10, (Op.indexAddr 24 (Operand.tmp 5) (Operand.tmp 7)), 0, none⟩,
    ⟨some 11, (Op.load 3 (Operand.tmp 10)), 3, none⟩,
    ⟨some 3, (Op.assign (Operand.tmp 9)), 3, none⟩,
    ⟨some 4, (Op.assign (Operand.tmp 11)), 3, none⟩]) (.seq (.ops [⟨some 12, (Op.move (Operand.tmp 4)), 3, none⟩,
    ⟨some 13, (Op.call ⟨(Callee.value (Operand.func 35)), #[(Operand.tmp 12)], #[3]⟩), 4, none⟩,
    ⟨some 14, (Op.unOp UnOp.not 4 (Operand.tmp 13)), 4, none⟩,
    ⟨some 15, (Op.move (Operand.tmp 14)), 4, none⟩,
    ⟨some 16, (Op.move (Operand.tmp 3)), 3, some (15, false)⟩,
    ⟨some 17, (Op.binOp BinOp.gtr 3 (Operand.tmp 16) (Operand.const (Value.int IntKind.i64 0)) 3), 4, some (15, false)⟩,
    ⟨some 18, (Op.move (Operand.tmp 17)), 4, some (15, false)⟩,
    ⟨some 19, (Op.move (Operand.tmp 0)), 24, some (18, true)⟩,
    ⟨some 20, (Op.move (Operand.tmp 3)), 3, some (18, true)⟩,
    ⟨some 21, (Op.binOp BinOp.sub 3 (Operand.tmp 20) (Operand.const (Value.int IntKind.i64 1)) 3), 3, some (18, true)⟩,
    ⟨some 22, (Op.indexAddr 24 (Operand.tmp 19) (Operand.tmp 21)), 0, some (18, true)⟩,
    ⟨some 23, (Op.load 3 (Operand.tmp 22)), 3, some (18, true)⟩,
    ⟨some 24, (Op.move (Operand.tmp 4)), 3, some (18, true)⟩,
    ⟨some 25, (Op.binOp BinOp.geq 3 (Operand.tmp 23) (Operand.tmp 24) 3), 4, some (18, true)⟩,
    ⟨some 26, (Op.pick (Operand.tmp 18) (Operand.tmp 25) (Operand.const (Value.bool false))), 4, some (15, false)⟩,
    ⟨some 27, (Op.pick (Operand.tmp 15) (Operand.const (Value.bool true)) (Operand.tmp 26)), 4, none⟩]) (.cond (Operand.tmp 27) (.seq (.ops [⟨some 2, (Op.assign (Operand.const (Value.bool false))), 4, none⟩]) .ret) .skip)))) (.ops [⟨some 28, (Op.binOp BinOp.add 3 (Operand.tmp 7) (Operand.const (Value.int IntKind.i64 1)) 3), 3, none⟩,
    ⟨some 7, (Op.move (Operand.tmp 28)), 3, none⟩]))))
def c_passive_May : SF := ⟨32, [(ResultVar.tmp 2)],
  (.seq (.ops [⟨some 2, (Op.assign (Operand.const (Value.bool false))), 4, none⟩]) (.seq (.seq (.ops [⟨some 5, (Op.move (Operand.tmp 0)), 24, none⟩,
    ⟨some 6, (Op.call ⟨(Callee.builtin Builtin.len), #[(Operand.tmp 5)], #[24]⟩), 3, none⟩,
    ⟨some 7, (Op.move (Operand.const (Value.int IntKind.i64 0))), 3, none⟩]) (.block 0 (.loop c_passive_May_L0))) (.seq (.ops [⟨some 29, (Op.move (Operand.tmp 0)), 24, none⟩,
    ⟨some 30, (Op.call ⟨(Callee.builtin Builtin.len), #[(Operand.tmp 29)], #[24]⟩), 3, none⟩,
    ⟨some 31, (Op.binOp BinOp.leq 3 (Operand.tmp 30) (Operand.const (Value.int IntKind.i64 16)) 3), 4, none⟩,
    ⟨some 2, (Op.assign (Operand.tmp 31)), 4, none⟩]) .ret)))⟩
theorem is_passive_May (c : Cfg) (h : c.lendT = []) : isF PP c 68 c_passive_May := isF_of (fn := Proofs.Try.f68) (by kernel_rfl) (by kernel_rfl) rfl h (by kernel_rfl) rfl rfl (by kernel_rfl)
def c_view_May_1 : SF := ⟨12, [(ResultVar.tmp 3)],
  (.seq (.ops [⟨some 3, (Op.assign (Operand.const (Value.bool false))), 4, none⟩]) (.seq (.ops [⟨some 4, (Op.move (Operand.tmp 0)), 3, none⟩,
    ⟨some 5, (Op.fieldAddr 26 (Operand.tmp 1) 0), 0, none⟩,
    ⟨some 6, (Op.load 3 (Operand.tmp 5)), 3, none⟩,
    ⟨some 7, (Op.binOp BinOp.eql 3 (Operand.tmp 4) (Operand.tmp 6) 3), 4, none⟩,
    ⟨some 8, (Op.move (Operand.tmp 7)), 4, none⟩,
    ⟨some 9, (Op.move (Operand.tmp 0)), 3, some (8, false)⟩,
    ⟨some 10, (Op.call ⟨(Callee.value (Operand.func 60)), #[(Operand.tmp 1), (Operand.tmp 9)], #[88, 3]⟩), 4, some (8, false)⟩,
    ⟨some 11, (Op.pick (Operand.tmp 8) (Operand.const (Value.bool true)) (Operand.tmp 10)), 4, none⟩,
    ⟨some 3, (Op.assign (Operand.tmp 11)), 4, none⟩]) .ret))⟩
theorem is_view_May_1 (c : Cfg) (h : c.lendT = []) : isF PP c 69 c_view_May_1 := isF_of (fn := Proofs.Try.f69) (by kernel_rfl) (by kernel_rfl) rfl h (by kernel_rfl) rfl rfl (by kernel_rfl)
def c_slices_ContainsFunc_int_int : SF := ⟨9, [(ResultVar.tmp 4)],
  (.seq (.ops [⟨some 4, (Op.assign (Operand.const (Value.bool false))), 4, none⟩]) (.seq (.ops [⟨some 5, (Op.move (Operand.tmp 0)), 24, none⟩,
    ⟨some 6, (Op.move (Operand.tmp 1)), 61, none⟩,
    ⟨some 7, (Op.call ⟨(Callee.value (Operand.func 82)), #[(Operand.tmp 5), (Operand.tmp 6)], #[24, 61]⟩), 3, none⟩,
    ⟨some 8, (Op.binOp BinOp.geq 3 (Operand.tmp 7) (Operand.const (Value.int IntKind.i64 0)) 3), 4, none⟩,
    ⟨some 4, (Op.assign (Operand.tmp 8)), 4, none⟩]) .ret))⟩
theorem is_slices_ContainsFunc_int_int (c : Cfg) (h : c.lendT = []) : isF PP c 70 c_slices_ContainsFunc_int_int := isF_of (fn := Proofs.Try.f70) (by kernel_rfl) (by kernel_rfl) rfl h (by kernel_rfl) rfl rfl (by kernel_rfl)
def c_slices_IndexFunc_api_Told_api_Told_L0 : SC := (.seq (.ops [⟨some 9, (Op.binOp BinOp.lss 3 (Operand.tmp 8) (Operand.tmp 7) 3), 0, none⟩]) (.seq (.cond (Operand.tmp 9) .skip (.exit 0)) (.seq (.block 1 (.seq (.ops [⟨some 10, (Op.move (Operand.tmp 8)), 3, none⟩,
    ⟨some 5, (Op.assign (Operand.tmp 10)), 3, none⟩]) (.seq (.ops [⟨some 11, (Op.move (Operand.tmp 1)), 84, none⟩,
    ⟨some 12, (Op.move (Operand.tmp 0)), 28, none⟩,
    ⟨some 13, (Op.move (Operand.tmp 5)), 3, none⟩,
    ⟨some 14, (Op.indexAddr 28 (Operand.tmp 12) (Operand.tmp 13)), 0, none⟩,
    ⟨some 15, (Op.load 63 (Operand.tmp 14)), 63, none⟩,
    ⟨some 16, (Op.call ⟨(Callee.value (Operand.tmp 11)), #[(Operand.tmp 15)], #[63]⟩), 4, none⟩]) (.cond (Operand.tmp 16) (.seq (.ops [⟨some 17, (Op.move (Operand.tmp 5)), 3, none⟩,
    ⟨some 4, (Op.assign (Operand.tmp 17)), 3, none⟩]) .ret) .skip)))) (.ops [⟨some 18, (Op.binOp BinOp.add 3 (Operand.tmp 8) (Operand.const (Value.int IntKind.i64 1)) 3), 3, none⟩,
    ⟨some 8, (Op.move (Operand.tmp 18)), 3, none⟩]))))
def c_slices_IndexFunc_api_Told_api_Told : SF := ⟨19, [(ResultVar.tmp 4)],
  (.seq (.ops [⟨some 4, (Op.assign (Operand.const (Value.int IntKind.i64 0))), 3, none⟩]) (.seq (.seq (.ops [⟨some 6, (Op.move (Operand.tmp 0)), 28, none⟩,
    ⟨some 7, (Op.call ⟨(Callee.builtin Builtin.len), #[(Operand.tmp 6)], #[28]⟩), 3, none⟩,
    ⟨some 8, (Op.move (Operand.const (Value.int IntKind.i64 0))), 3, none⟩]) (.block 0 (.loop c_slices_IndexFunc_api_Told_api_Told_L0))) (.seq (.ops [⟨some 4, (Op.assign (Operand.const (Value.int IntKind.i64 (-1)))), 3, none⟩]) .ret)))⟩
theorem is_slices_IndexFunc_api_Told_api_Told (c : Cfg) (h : c.lendT = []) : isF PP c 71 c_slices_IndexFunc_api_Told_api_Told := isF_of (fn := Proofs.Try.f71) (by kernel_rfl) (by kernel_rfl) rfl h (by kernel_rfl) rfl rfl (by kernel_rfl)
def c_hello_room : SF := ⟨15, [(ResultVar.tmp 2)],
  (.seq (.ops [⟨some 2, (Op.assign (Operand.const (Value.bool false))), 4, none⟩]) (.seq (.ops [⟨some 3, (Op.move (Operand.tmp 0)), 88, none⟩,
    ⟨some 8, (Op.move (Operand.tmp 0)), 88, none⟩,
    ⟨some 4, (Op.nilCheck (Operand.tmp 3)), 0, none⟩,
    ⟨some 5, (Op.fieldAddr 26 (Operand.tmp 4) 1), 0, none⟩,
    ⟨some 6, (Op.load 23 (Operand.tmp 5)), 23, none⟩,
    ⟨some 7, (Op.call ⟨(Callee.builtin Builtin.len), #[(Operand.tmp 6)], #[23]⟩), 3, none⟩,
    ⟨some 9, (Op.nilCheck (Operand.tmp 8)), 0, none⟩,
    ⟨some 10, (Op.fieldAddr 26 (Operand.tmp 9) 2), 0, none⟩,
    ⟨some 11, (Op.load 24 (Operand.tmp 10)), 24, none⟩,
    ⟨some 12, (Op.call ⟨(Callee.builtin Builtin.len), #[(Operand.tmp 11)], #[24]⟩), 3, none⟩,
    ⟨some 13, (Op.binOp BinOp.add 3 (Operand.tmp 7) (Operand.tmp 12) 3), 3, none⟩,
    ⟨some 14, (Op.binOp BinOp.lss 3 (Operand.tmp 13) (Operand.const (Value.int IntKind.i64 16)) 3), 4, none⟩,
    ⟨some 2, (Op.assign (Operand.tmp 14)), 4, none⟩]) .ret))⟩
theorem is_hello_room (c : Cfg) (h : c.lendT = []) : isF PP c 72 c_hello_room := isF_of (fn := Proofs.Try.f72) (by kernel_rfl) (by kernel_rfl) rfl h (by kernel_rfl) rfl rfl (by kernel_rfl)
def c_passive_Without : SF := ⟨20, [(ResultVar.tmp 4), (ResultVar.tmp 5)],
  (.seq (.ops [⟨some 3, (Op.box 3 (Operand.tmp 1)), 0, none⟩,
    ⟨some 4, (Op.assign (Operand.const (Value.slice none 0 0))), 24, none⟩,
    ⟨some 5, (Op.assign (Operand.const (Value.int IntKind.i64 0))), 40, none⟩]) (.seq (.seq (.ops [⟨some 7, (Op.move (Operand.tmp 0)), 24, none⟩,
    ⟨some 8, (Op.call ⟨(Callee.value (Operand.func 68)), #[(Operand.tmp 7)], #[24]⟩), 4, none⟩,
    ⟨some 9, (Op.unOp UnOp.not 4 (Operand.tmp 8)), 4, none⟩,
    ⟨some 10, (Op.move (Operand.tmp 9)), 4, none⟩,
    ⟨some 11, (Op.load 3 (Operand.tmp 3)), 3, some (10, false)⟩,
    ⟨some 12, (Op.call ⟨(Callee.value (Operand.func 35)), #[(Operand.tmp 11)], #[3]⟩), 4, some (10, false)⟩,
    ⟨some 13, (Op.unOp UnOp.not 4 (Operand.tmp 12)), 4, some (10, false)⟩,
    ⟨some 14, (Op.pick (Operand.tmp 10) (Operand.const (Value.bool true)) (Operand.tmp 13)), 4, none⟩]) (.cond (Operand.tmp 14) (.seq (.ops [⟨some 4, (Op.assign (Operand.const (Value.slice none 0 0))), 24, none⟩,
    ⟨some 5, (Op.assign (Operand.const (Value.int IntKind.i64 800))), 40, none⟩]) .ret) .skip)) (.seq (.ops [⟨some 15, (Op.makeFunc (Fn.func 83) #[] #[(Operand.tmp 3)]), 61, none⟩,
    ⟨some 6, (Op.assign (Operand.tmp 15)), 61, none⟩]) (.seq (.ops [⟨some 16, (Op.move (Operand.tmp 0)), 24, none⟩,
    ⟨some 17, (Op.call ⟨(Callee.value (Operand.func 58)), #[(Operand.tmp 16)], #[24]⟩), 24, none⟩,
    ⟨some 18, (Op.move (Operand.tmp 6)), 61, none⟩,
    ⟨some 19, (Op.call ⟨(Callee.value (Operand.func 84)), #[(Operand.tmp 17), (Operand.tmp 18)], #[24, 61]⟩), 24, none⟩,
    ⟨some 4, (Op.assign (Operand.tmp 19)), 24, none⟩,
    ⟨some 5, (Op.assign (Operand.const (Value.int IntKind.i64 0))), 40, none⟩]) .ret))))⟩
theorem is_passive_Without (c : Cfg) (h : c.lendT = [17]) : isF PP c 73 c_passive_Without := isF_of (fn := Proofs.Try.f73) (by kernel_rfl) (by kernel_rfl) rfl h (by kernel_rfl) rfl rfl (by kernel_rfl)
def c_peers_Heard : SF := ⟨51, [(ResultVar.tmp 6), (ResultVar.tmp 7)],
  (.seq (.ops [⟨some 6, (Op.assign (Operand.const (Value.slice none 0 0))), 23, none⟩,
    ⟨some 7, (Op.assign (Operand.const (Value.int IntKind.i64 0))), 40, none⟩]) (.seq (.seq (.ops [⟨some 11, (Op.move (Operand.tmp 0)), 3, none⟩,
    ⟨some 12, (Op.move (Operand.tmp 1)), 23, none⟩,
    ⟨some 13, (Op.call ⟨(Callee.value (Operand.func 67)), #[(Operand.tmp 11), (Operand.tmp 12)], #[3, 23]⟩), 4, none⟩,
    ⟨some 14, (Op.unOp UnOp.not 4 (Operand.tmp 13)), 4, none⟩,
    ⟨some 15, (Op.move (Operand.tmp 14)), 4, none⟩,
    ⟨some 16, (Op.move (Operand.tmp 2)), 3, some (15, false)⟩,
    ⟨some 17, (Op.call ⟨(Callee.value (Operand.func 35)), #[(Operand.tmp 16)], #[3]⟩), 4, some (15, false)⟩,
    ⟨some 18, (Op.unOp UnOp.not 4 (Operand.tmp 17)), 4, some (15, false)⟩,
    ⟨some 19, (Op.pick (Operand.tmp 15) (Operand.const (Value.bool true)) (Operand.tmp 18)), 4, none⟩,
    ⟨some 20, (Op.move (Operand.tmp 19)), 4, none⟩,
    ⟨some 21, (Op.move (Operand.tmp 2)), 3, some (20, false)⟩,
    ⟨some 22, (Op.move (Operand.tmp 0)), 3, some (20, false)⟩,
    ⟨some 23, (Op.binOp BinOp.eql 3 (Operand.tmp 21) (Operand.tmp 22) 3), 4, some (20, false)⟩,
    ⟨some 24, (Op.pick (Operand.tmp 20) (Operand.const (Value.bool true)) (Operand.tmp 23)), 4, none⟩]) (.cond (Operand.tmp 24) (.seq (.ops [⟨some 6, (Op.assign (Operand.const (Value.slice none 0 0))), 23, none⟩,
    ⟨some 7, (Op.assign (Operand.const (Value.int IntKind.i64 700))), 40, none⟩]) .ret) .skip)) (.seq (.ops [⟨some 25, (Op.move (Operand.tmp 1)), 23, none⟩,
    ⟨some 26, (Op.call ⟨(Callee.value (Operand.func 57)), #[(Operand.tmp 25)], #[23]⟩), 23, none⟩,
    ⟨some 8, (Op.assign (Operand.tmp 26)), 23, none⟩]) (.seq (.ops [⟨some 28, (Op.move (Operand.tmp 0)), 3, none⟩,
    ⟨some 29, (Op.move (Operand.tmp 8)), 23, none⟩,
    ⟨some 30, (Op.move (Operand.tmp 2)), 3, none⟩,
    ⟨some 31, (Op.call ⟨(Callee.value (Operand.func 75)), #[(Operand.tmp 28), (Operand.tmp 29), (Operand.tmp 30)], #[3, 23, 3]⟩), 106, none⟩,
    ⟨some 27, (Op.move (Operand.tmp 31)), 106, none⟩,
    ⟨some 32, (Op.extract (Operand.tmp 27) 0), 3, none⟩,
    ⟨some 33, (Op.extract (Operand.tmp 27) 1), 4, none⟩,
    ⟨some 9, (Op.assign (Operand.tmp 32)), 3, none⟩,
    ⟨some 10, (Op.assign (Operand.tmp 33)), 4, none⟩]) (.seq (.block 0 (.seq (.ops [⟨some 41, (Op.move (Operand.tmp 10)), 4, none⟩,
    ⟨some 40, (Op.assign (Operand.tmp 41)), 4, none⟩]) (.cond (Operand.tmp 40) (.ops [⟨some 42, (Op.move (Operand.tmp 8)), 23, none⟩,
    ⟨some 43, (Op.move (Operand.tmp 9)), 3, none⟩,
    ⟨some 44, (Op.indexAddr 23 (Operand.tmp 42) (Operand.tmp 43)), 0, none⟩,
    ⟨some 45, (Op.fieldAddr 54 (Operand.tmp 44) 1), 0, none⟩,
    ⟨none, (Op.store 3 (Operand.tmp 45) (Operand.const (Value.int IntKind.i64 0))), 0, none⟩]) (.seq (.ops [⟨some 47, (Op.move (Operand.tmp 8)), 23, none⟩,
    ⟨some 48, (Op.call ⟨(Callee.builtin Builtin.len), #[(Operand.tmp 47)], #[23]⟩), 3, none⟩,
    ⟨some 49, (Op.binOp BinOp.eql 3 (Operand.tmp 48) (Operand.const (Value.int IntKind.i64 16)) 3), 4, none⟩,
    ⟨some 46, (Op.assign (Operand.tmp 49)), 4, none⟩]) (.cond (Operand.tmp 46) (.seq (.ops [⟨some 6, (Op.assign (Operand.const (Value.slice none 0 0))), 23, none⟩,
    ⟨some 7, (Op.assign (Operand.const (Value.int IntKind.i64 701))), 40, none⟩]) .ret) (.ops [⟨some 34, (Op.move (Operand.tmp 8)), 23, none⟩,
    ⟨some 35, (Op.move (Operand.tmp 9)), 3, none⟩,
    ⟨some 36, (Op.move (Operand.tmp 2)), 3, none⟩,
    ⟨some 37, (Op.build 54 #[(0, (Operand.tmp 36))]), 54, none⟩,
    ⟨some 38, (Op.buildSlice 23 1 #[(0, (Operand.tmp 37))]), 23, none⟩,
    ⟨some 39, (Op.call ⟨(Callee.value (Operand.func 85)), #[(Operand.tmp 34), (Operand.tmp 35), (Operand.tmp 38)], #[23, 3, 23]⟩), 23, none⟩,
    ⟨some 8, (Op.assign (Operand.tmp 39)), 23, none⟩])))))) (.seq (.ops [⟨some 50, (Op.move (Operand.tmp 8)), 23, none⟩,
    ⟨some 6, (Op.assign (Operand.tmp 50)), 23, none⟩,
    ⟨some 7, (Op.assign (Operand.const (Value.int IntKind.i64 0))), 40, none⟩]) .ret))))))⟩
theorem is_peers_Heard (c : Cfg) (h : c.lendT = [34]) : isF PP c 74 c_peers_Heard := isF_of (fn := Proofs.Try.f74) (by kernel_rfl) (by kernel_rfl) rfl h (by kernel_rfl) rfl rfl (by kernel_rfl)
def c_peers_Find : SF := ⟨18, [(ResultVar.tmp 6), (ResultVar.tmp 7)],
  (.seq (.ops [⟨some 6, (Op.assign (Operand.const (Value.int IntKind.i64 0))), 3, none⟩,
    ⟨some 7, (Op.assign (Operand.const (Value.bool false))), 4, none⟩]) (.seq (.ops [⟨some 9, (Op.move (Operand.tmp 0)), 3, none⟩,
    ⟨some 10, (Op.build 118 #[(0, (Operand.tmp 9))]), 118, none⟩,
    ⟨some 11, (Op.makeFunc (Fn.func 86) #[(Operand.tmp 10)] #[]), 116, none⟩,
    ⟨some 8, (Op.assign (Operand.tmp 11)), 116, none⟩]) (.seq (.ops [⟨some 12, (Op.move (Operand.tmp 1)), 23, none⟩,
    ⟨some 13, (Op.move (Operand.tmp 2)), 3, none⟩,
    ⟨some 14, (Op.move (Operand.tmp 8)), 116, none⟩,
    ⟨some 15, (Op.call ⟨(Callee.value (Operand.func 87)), #[(Operand.tmp 12), (Operand.tmp 13), (Operand.tmp 14)], #[23, 3, 116]⟩), 106, none⟩,
    ⟨some 16, (Op.extract (Operand.tmp 15) 0), 3, none⟩,
    ⟨some 17, (Op.extract (Operand.tmp 15) 1), 4, none⟩,
    ⟨some 6, (Op.assign (Operand.tmp 16)), 3, none⟩,
    ⟨some 7, (Op.assign (Operand.tmp 17)), 4, none⟩]) .ret)))⟩
theorem is_peers_Find (c : Cfg) (h : c.lendT = []) : isF PP c 75 c_peers_Find := isF_of (fn := Proofs.Try.f75) (by kernel_rfl) (by kernel_rfl) rfl h (by kernel_rfl) rfl rfl (by kernel_rfl)
def c_slices_Contains_int_int : SF := ⟨9, [(ResultVar.tmp 4)],
  (.seq (.ops [⟨some 4, (Op.assign (Operand.const (Value.bool false))), 4, none⟩]) (.seq (.ops [⟨some 5, (Op.move (Operand.tmp 0)), 24, none⟩,
    ⟨some 6, (Op.move (Operand.tmp 1)), 3, none⟩,
    ⟨some 7, (Op.call ⟨(Callee.value (Operand.func 88)), #[(Operand.tmp 5), (Operand.tmp 6)], #[24, 3]⟩), 3, none⟩,
    ⟨some 8, (Op.binOp BinOp.geq 3 (Operand.tmp 7) (Operand.const (Value.int IntKind.i64 0)) 3), 4, none⟩,
    ⟨some 4, (Op.assign (Operand.tmp 8)), 4, none⟩]) .ret))⟩
theorem is_slices_Contains_int_int (c : Cfg) (h : c.lendT = []) : isF PP c 76 c_slices_Contains_int_int := isF_of (fn := Proofs.Try.f76) (by kernel_rfl) (by kernel_rfl) rfl h (by kernel_rfl) rfl rfl (by kernel_rfl)
def c_slices_BinarySearchFunc_api_Item_api_Item_int_L0 : SC := (.seq (.seq (.ops [⟨some 15, (Op.move (Operand.tmp 9)), 3, none⟩,
    ⟨some 16, (Op.move (Operand.tmp 10)), 3, none⟩,
    ⟨some 17, (Op.binOp BinOp.lss 3 (Operand.tmp 15) (Operand.tmp 16) 3), 4, none⟩]) (.cond (Operand.tmp 17) .skip (.exit 0))) (.block 1 (.seq (.ops [⟨some 18, (Op.move (Operand.tmp 9)), 3, none⟩,
    ⟨some 19, (Op.move (Operand.tmp 10)), 3, none⟩,
    ⟨some 20, (Op.binOp BinOp.add 3 (Operand.tmp 18) (Operand.tmp 19) 3), 3, none⟩,
    ⟨some 21, (Op.convert 3 121 (Operand.tmp 20)), 121, none⟩,
    ⟨some 22, (Op.binOp BinOp.shr 121 (Operand.tmp 21) (Operand.const (Value.int IntKind.u64 1)) 121), 121, none⟩,
    ⟨some 23, (Op.convert 121 3 (Operand.tmp 22)), 3, none⟩,
    ⟨some 11, (Op.assign (Operand.tmp 23)), 3, none⟩]) (.seq (.ops [⟨some 24, (Op.move (Operand.tmp 2)), 109, none⟩,
    ⟨some 25, (Op.move (Operand.tmp 0)), 27, none⟩,
    ⟨some 26, (Op.move (Operand.tmp 11)), 3, none⟩,
    ⟨some 27, (Op.indexAddr 27 (Operand.tmp 25) (Operand.tmp 26)), 0, none⟩,
    ⟨some 28, (Op.load 35 (Operand.tmp 27)), 35, none⟩,
    ⟨some 29, (Op.move (Operand.tmp 1)), 3, none⟩,
    ⟨some 30, (Op.call ⟨(Callee.value (Operand.tmp 24)), #[(Operand.tmp 28), (Operand.tmp 29)], #[35, 3]⟩), 3, none⟩,
    ⟨some 31, (Op.binOp BinOp.lss 3 (Operand.tmp 30) (Operand.const (Value.int IntKind.i64 0)) 3), 4, none⟩]) (.cond (Operand.tmp 31) (.ops [⟨some 32, (Op.move (Operand.tmp 11)), 3, none⟩,
    ⟨some 33, (Op.binOp BinOp.add 3 (Operand.tmp 32) (Operand.const (Value.int IntKind.i64 1)) 3), 3, none⟩,
    ⟨some 9, (Op.assign (Operand.tmp 33)), 3, none⟩]) (.ops [⟨some 34, (Op.move (Operand.tmp 11)), 3, none⟩,
    ⟨some 10, (Op.assign (Operand.tmp 34)), 3, none⟩]))))))
def c_slices_BinarySearchFunc_api_Item_api_Item_int : SF := ⟨49, [(ResultVar.tmp 6), (ResultVar.tmp 7)],
  (.seq (.ops [⟨some 6, (Op.assign (Operand.const (Value.int IntKind.i64 0))), 3, none⟩,
    ⟨some 7, (Op.assign (Operand.const (Value.bool false))), 4, none⟩]) (.seq (.ops [⟨some 12, (Op.move (Operand.tmp 0)), 27, none⟩,
    ⟨some 13, (Op.call ⟨(Callee.builtin Builtin.len), #[(Operand.tmp 12)], #[27]⟩), 3, none⟩,
    ⟨some 8, (Op.assign (Operand.tmp 13)), 3, none⟩]) (.seq (.ops [⟨some 14, (Op.move (Operand.tmp 8)), 3, none⟩,
    ⟨some 9, (Op.assign (Operand.const (Value.int IntKind.i64 0))), 3, none⟩,
    ⟨some 10, (Op.assign (Operand.tmp 14)), 3, none⟩]) (.seq (.block 0 (.loop c_slices_BinarySearchFunc_api_Item_api_Item_int_L0)) (.seq (.ops [⟨some 35, (Op.move (Operand.tmp 9)), 3, none⟩,
    ⟨some 36, (Op.move (Operand.tmp 9)), 3, none⟩,
    ⟨some 37, (Op.move (Operand.tmp 8)), 3, none⟩,
    ⟨some 38, (Op.binOp BinOp.lss 3 (Operand.tmp 36) (Operand.tmp 37) 3), 4, none⟩,
    ⟨some 39, (Op.move (Operand.tmp 38)), 4, none⟩,
    ⟨some 40, (Op.move (Operand.tmp 2)), 109, some (39, true)⟩,
    ⟨some 41, (Op.move (Operand.tmp 0)), 27, some (39, true)⟩,
    ⟨some 42, (Op.move (Operand.tmp 9)), 3, some (39, true)⟩,
    ⟨some 43, (Op.indexAddr 27 (Operand.tmp 41) (Operand.tmp 42)), 0, some (39, true)⟩,
    ⟨some 44, (Op.load 35 (Operand.tmp 43)), 35, some (39, true)⟩,
    ⟨some 45, (Op.move (Operand.tmp 1)), 3, some (39, true)⟩,
    ⟨some 46, (Op.call ⟨(Callee.value (Operand.tmp 40)), #[(Operand.tmp 44), (Operand.tmp 45)], #[35, 3]⟩), 3, some (39, true)⟩,
    ⟨some 47, (Op.binOp BinOp.eql 3 (Operand.tmp 46) (Operand.const (Value.int IntKind.i64 0)) 3), 4, some (39, true)⟩,
    ⟨some 48, (Op.pick (Operand.tmp 39) (Operand.tmp 47) (Operand.const (Value.bool false))), 4, none⟩,
    ⟨some 6, (Op.assign (Operand.tmp 35)), 3, none⟩,
    ⟨some 7, (Op.assign (Operand.tmp 48)), 4, none⟩]) .ret)))))⟩
theorem is_slices_BinarySearchFunc_api_Item_api_Item_int (c : Cfg) (h : c.lendT = []) : isF PP c 77 c_slices_BinarySearchFunc_api_Item_api_Item_int := isF_of (fn := Proofs.Try.f77) (by kernel_rfl) (by kernel_rfl) rfl h (by kernel_rfl) rfl rfl (by kernel_rfl)
def c_store_byKey : SF := ⟨9, [(ResultVar.tmp 4)],
  (.seq (.ops [⟨some 2, (Op.box 35 (Operand.tmp 0)), 0, none⟩,
    ⟨some 4, (Op.assign (Operand.const (Value.int IntKind.i64 0))), 3, none⟩]) (.seq (.ops [⟨some 5, (Op.fieldAddr 35 (Operand.tmp 2) 0), 0, none⟩,
    ⟨some 6, (Op.load 3 (Operand.tmp 5)), 3, none⟩,
    ⟨some 7, (Op.move (Operand.tmp 1)), 3, none⟩,
    ⟨some 8, (Op.call ⟨(Callee.value (Operand.func 89)), #[(Operand.tmp 6), (Operand.tmp 7)], #[3, 3]⟩), 3, none⟩,
    ⟨some 4, (Op.assign (Operand.tmp 8)), 3, none⟩]) .ret))⟩
theorem is_store_byKey (c : Cfg) (h : c.lendT = []) : isF PP c 78 c_store_byKey := isF_of (fn := Proofs.Try.f78) (by kernel_rfl) (by kernel_rfl) rfl h (by kernel_rfl) rfl rfl (by kernel_rfl)
def c_item_Best : SF := ⟨25, [(ResultVar.cell 4 35), (ResultVar.tmp 5)],
  (.seq (.ops [⟨some 2, (Op.box 35 (Operand.tmp 0)), 0, none⟩,
    ⟨some 3, (Op.box 35 (Operand.tmp 1)), 0, none⟩,
    ⟨some 4, (Op.alloc 35), 0, none⟩,
    ⟨some 5, (Op.assign (Operand.const (Value.int IntKind.i64 0))), 40, none⟩]) (.seq (.seq (.ops [⟨some 6, (Op.load 35 (Operand.tmp 2)), 35, none⟩,
    ⟨some 7, (Op.call ⟨(Callee.value (Operand.func 38)), #[(Operand.tmp 6)], #[35]⟩), 4, none⟩,
    ⟨some 8, (Op.unOp UnOp.not 4 (Operand.tmp 7)), 4, none⟩,
    ⟨some 9, (Op.move (Operand.tmp 8)), 4, none⟩,
    ⟨some 10, (Op.load 35 (Operand.tmp 3)), 35, some (9, false)⟩,
    ⟨some 11, (Op.call ⟨(Callee.value (Operand.func 38)), #[(Operand.tmp 10)], #[35]⟩), 4, some (9, false)⟩,
    ⟨some 12, (Op.unOp UnOp.not 4 (Operand.tmp 11)), 4, some (9, false)⟩,
    ⟨some 13, (Op.pick (Operand.tmp 9) (Operand.const (Value.bool true)) (Operand.tmp 12)), 4, none⟩,
    ⟨some 14, (Op.move (Operand.tmp 13)), 4, none⟩,
    ⟨some 15, (Op.fieldAddr 35 (Operand.tmp 2) 0), 0, some (14, false)⟩,
    ⟨some 16, (Op.load 3 (Operand.tmp 15)), 3, some (14, false)⟩,
    ⟨some 17, (Op.fieldAddr 35 (Operand.tmp 3) 0), 0, some (14, false)⟩,
    ⟨some 18, (Op.load 3 (Operand.tmp 17)), 3, some (14, false)⟩,
    ⟨some 19, (Op.binOp BinOp.neq 3 (Operand.tmp 16) (Operand.tmp 18) 3), 4, some (14, false)⟩,
    ⟨some 20, (Op.pick (Operand.tmp 14) (Operand.const (Value.bool true)) (Operand.tmp 19)), 4, none⟩]) (.cond (Operand.tmp 20) (.seq (.ops [⟨some 21, (Op.build 35 #[]), 35, none⟩,
    ⟨none, (Op.store 35 (Operand.tmp 4) (Operand.tmp 21)), 0, none⟩,
    ⟨some 5, (Op.assign (Operand.const (Value.int IntKind.i64 400))), 40, none⟩]) .ret) .skip)) (.seq (.seq (.ops [⟨some 22, (Op.call ⟨(Callee.value (Operand.func 90)), #[(Operand.tmp 2), (Operand.tmp 3)], #[123, 123]⟩), 4, none⟩]) (.cond (Operand.tmp 22) (.seq (.ops [⟨some 23, (Op.load 35 (Operand.tmp 2)), 35, none⟩,
    ⟨none, (Op.store 35 (Operand.tmp 4) (Operand.tmp 23)), 0, none⟩,
    ⟨some 5, (Op.assign (Operand.const (Value.int IntKind.i64 0))), 40, none⟩]) .ret) .skip)) (.seq (.ops [⟨some 24, (Op.load 35 (Operand.tmp 3)), 35, none⟩,
    ⟨none, (Op.store 35 (Operand.tmp 4) (Operand.tmp 24)), 0, none⟩,
    ⟨some 5, (Op.assign (Operand.const (Value.int IntKind.i64 0))), 40, none⟩]) .ret))))⟩
theorem is_item_Best (c : Cfg) (h : c.lendT = []) : isF PP c 79 c_item_Best := isF_of (fn := Proofs.Try.f79) (by kernel_rfl) (by kernel_rfl) rfl h (by kernel_rfl) rfl rfl (by kernel_rfl)
def c_slices_Insert_api_Item_api_Item : SF := ⟨95, [(ResultVar.tmp 6)],
  (.seq (.ops [⟨some 6, (Op.assign (Operand.const (Value.slice none 0 0))), 27, none⟩]) (.seq (.ops [⟨some 10, (Op.move (Operand.tmp 0)), 27, none⟩,
    ⟨some 11, (Op.move (Operand.tmp 1)), 3, none⟩,
    ⟨some 12, (Op.slice 27 (Operand.tmp 10) (some (Operand.tmp 11)) none none), 27, none⟩]) (.seq (.ops [⟨some 13, (Op.move (Operand.tmp 2)), 27, none⟩,
    ⟨some 14, (Op.call ⟨(Callee.builtin Builtin.len), #[(Operand.tmp 13)], #[27]⟩), 3, none⟩,
    ⟨some 7, (Op.assign (Operand.tmp 14)), 3, none⟩]) (.seq (.seq (.ops [⟨some 15, (Op.move (Operand.tmp 7)), 3, none⟩,
    ⟨some 16, (Op.binOp BinOp.eql 3 (Operand.tmp 15) (Operand.const (Value.int IntKind.i64 0)) 3), 4, none⟩]) (.cond (Operand.tmp 16) (.seq (.ops [⟨some 17, (Op.move (Operand.tmp 0)), 27, none⟩,
    ⟨some 6, (Op.assign (Operand.tmp 17)), 27, none⟩]) .ret) .skip)) (.seq (.ops [⟨some 18, (Op.move (Operand.tmp 0)), 27, none⟩,
    ⟨some 19, (Op.call ⟨(Callee.builtin Builtin.len), #[(Operand.tmp 18)], #[27]⟩), 3, none⟩,
    ⟨some 8, (Op.assign (Operand.tmp 19)), 3, none⟩]) (.seq (.seq (.ops [⟨some 20, (Op.move (Operand.tmp 1)), 3, none⟩,
    ⟨some 21, (Op.move (Operand.tmp 8)), 3, none⟩,
    ⟨some 22, (Op.binOp BinOp.eql 3 (Operand.tmp 20) (Operand.tmp 21) 3), 4, none⟩]) (.cond (Operand.tmp 22) (.seq (.ops [⟨some 23, (Op.move (Operand.tmp 0)), 27, none⟩,
    ⟨some 24, (Op.move (Operand.tmp 2)), 27, none⟩,
    ⟨some 25, (Op.call ⟨(Callee.builtin Builtin.append), #[(Operand.tmp 23), (Operand.tmp 24)], #[27, 27]⟩), 27, none⟩,
    ⟨some 6, (Op.assign (Operand.tmp 25)), 27, none⟩]) .ret) .skip)) (.seq (.seq (.ops [⟨some 26, (Op.move (Operand.tmp 8)), 3, none⟩,
    ⟨some 27, (Op.move (Operand.tmp 7)), 3, none⟩,
    ⟨some 28, (Op.binOp BinOp.add 3 (Operand.tmp 26) (Operand.tmp 27) 3), 3, none⟩,
    ⟨some 29, (Op.move (Operand.tmp 0)), 27, none⟩,
    ⟨some 30, (Op.call ⟨(Callee.builtin Builtin.cap), #[(Operand.tmp 29)], #[27]⟩), 3, none⟩,
    ⟨some 31, (Op.binOp BinOp.gtr 3 (Operand.tmp 28) (Operand.tmp 30) 3), 4, none⟩]) (.cond (Operand.tmp 31) (.seq (.ops [⟨some 32, (Op.move (Operand.tmp 0)), 27, none⟩,
    ⟨some 33, (Op.move (Operand.tmp 1)), 3, none⟩,
    ⟨some 34, (Op.slice 27 (Operand.tmp 32) none (some (Operand.tmp 33)) none), 27, none⟩,
    ⟨some 35, (Op.move (Operand.tmp 8)), 3, none⟩,
    ⟨some 36, (Op.move (Operand.tmp 7)), 3, none⟩,
    ⟨some 37, (Op.binOp BinOp.add 3 (Operand.tmp 35) (Operand.tmp 36) 3), 3, none⟩,
    ⟨some 38, (Op.move (Operand.tmp 1)), 3, none⟩,
    ⟨some 39, (Op.binOp BinOp.sub 3 (Operand.tmp 37) (Operand.tmp 38) 3), 3, none⟩,
    ⟨some 40, (Op.call ⟨(Callee.builtin Builtin.append), #[(Operand.tmp 34), (Operand.tmp 39)], #[27, 3]⟩), 27, none⟩,
    ⟨some 9, (Op.assign (Operand.tmp 40)), 27, none⟩]) (.seq (.ops [⟨some 41, (Op.move (Operand.tmp 9)), 27, none⟩,
    ⟨some 42, (Op.move (Operand.tmp 1)), 3, none⟩,
    ⟨some 43, (Op.slice 27 (Operand.tmp 41) (some (Operand.tmp 42)) none none), 27, none⟩,
    ⟨some 44, (Op.move (Operand.tmp 2)), 27, none⟩,
    ⟨some 45, (Op.call ⟨(Callee.builtin Builtin.copy), #[(Operand.tmp 43), (Operand.tmp 44)], #[27, 27]⟩), 3, none⟩]) (.seq (.ops [⟨some 46, (Op.move (Operand.tmp 9)), 27, none⟩,
    ⟨some 47, (Op.move (Operand.tmp 1)), 3, none⟩,
    ⟨some 48, (Op.move (Operand.tmp 7)), 3, none⟩,
    ⟨some 51, (Op.move (Operand.tmp 0)), 27, none⟩,
    ⟨some 52, (Op.move (Operand.tmp 1)), 3, none⟩,
    ⟨some 49, (Op.binOp BinOp.add 3 (Operand.tmp 47) (Operand.tmp 48) 3), 3, none⟩,
    ⟨some 50, (Op.slice 27 (Operand.tmp 46) (some (Operand.tmp 49)) none none), 27, none⟩,
    ⟨some 53, (Op.slice 27 (Operand.tmp 51) (some (Operand.tmp 52)) none none), 27, none⟩,
    ⟨some 54, (Op.call ⟨(Callee.builtin Builtin.copy), #[(Operand.tmp 50), (Operand.tmp 53)], #[27, 27]⟩), 3, none⟩]) (.seq (.ops [⟨some 55, (Op.move (Operand.tmp 9)), 27, none⟩,
    ⟨some 6, (Op.assign (Operand.tmp 55)), 27, none⟩]) .ret)))) .skip)) (.seq (.ops [⟨some 56, (Op.move (Operand.tmp 0)), 27, none⟩,
    ⟨some 57, (Op.move (Operand.tmp 8)), 3, none⟩,
    ⟨some 58, (Op.move (Operand.tmp 7)), 3, none⟩,
    ⟨some 59, (Op.binOp BinOp.add 3 (Operand.tmp 57) (Operand.tmp 58) 3), 3, none⟩,
    ⟨some 60, (Op.slice 27 (Operand.tmp 56) none (some (Operand.tmp 59)) none), 27, none⟩,
    ⟨some 0, (Op.assign (Operand.tmp 60)), 27, none⟩]) (.seq (.seq (.ops [⟨some 61, (Op.move (Operand.tmp 2)), 27, none⟩,
    ⟨some 62, (Op.move (Operand.tmp 0)), 27, none⟩,
    ⟨some 63, (Op.move (Operand.tmp 1)), 3, none⟩,
    ⟨some 64, (Op.move (Operand.tmp 7)), 3, none⟩,
    ⟨some 65, (Op.binOp BinOp.add 3 (Operand.tmp 63) (Operand.tmp 64) 3), 3, none⟩,
    ⟨some 66, (Op.slice 27 (Operand.tmp 62) (some (Operand.tmp 65)) none none), 27, none⟩,
    ⟨some 67, (Op.call ⟨(Callee.value (Operand.func 91)), #[(Operand.tmp 61), (Operand.tmp 66)], #[27, 27]⟩), 4, none⟩,
    ⟨some 68, (Op.unOp UnOp.not 4 (Operand.tmp 67)), 4, none⟩]) (.cond (Operand.tmp 68) (.seq (.ops [⟨some 69, (Op.move (Operand.tmp 0)), 27, none⟩,
    ⟨some 70, (Op.move (Operand.tmp 1)), 3, none⟩,
    ⟨some 71, (Op.move (Operand.tmp 7)), 3, none⟩,
    ⟨some 74, (Op.move (Operand.tmp 0)), 27, none⟩,
    ⟨some 75, (Op.move (Operand.tmp 1)), 3, none⟩,
    ⟨some 72, (Op.binOp BinOp.add 3 (Operand.tmp 70) (Operand.tmp 71) 3), 3, none⟩,
    ⟨some 73, (Op.slice 27 (Operand.tmp 69) (some (Operand.tmp 72)) none none), 27, none⟩,
    ⟨some 76, (Op.slice 27 (Operand.tmp 74) (some (Operand.tmp 75)) none none), 27, none⟩,
    ⟨some 77, (Op.call ⟨(Callee.builtin Builtin.copy), #[(Operand.tmp 73), (Operand.tmp 76)], #[27, 27]⟩), 3, none⟩]) (.seq (.ops [⟨some 78, (Op.move (Operand.tmp 0)), 27, none⟩,
    ⟨some 79, (Op.move (Operand.tmp 1)), 3, none⟩,
    ⟨some 80, (Op.slice 27 (Operand.tmp 78) (some (Operand.tmp 79)) none none), 27, none⟩,
    ⟨some 81, (Op.move (Operand.tmp 2)), 27, none⟩,
    ⟨some 82, (Op.call ⟨(Callee.builtin Builtin.copy), #[(Operand.tmp 80), (Operand.tmp 81)], #[27, 27]⟩), 3, none⟩]) (.seq (.ops [⟨some 83, (Op.move (Operand.tmp 0)), 27, none⟩,
    ⟨some 6, (Op.assign (Operand.tmp 83)), 27, none⟩]) .ret))) .skip)) (.seq (.ops [⟨some 84, (Op.move (Operand.tmp 0)), 27, none⟩,
    ⟨some 85, (Op.move (Operand.tmp 8)), 3, none⟩,
    ⟨some 86, (Op.slice 27 (Operand.tmp 84) (some (Operand.tmp 85)) none none), 27, none⟩,
    ⟨some 87, (Op.move (Operand.tmp 2)), 27, none⟩,
    ⟨some 88, (Op.call ⟨(Callee.builtin Builtin.copy), #[(Operand.tmp 86), (Operand.tmp 87)], #[27, 27]⟩), 3, none⟩]) (.seq (.ops [⟨some 89, (Op.move (Operand.tmp 0)), 27, none⟩,
    ⟨some 90, (Op.move (Operand.tmp 1)), 3, none⟩,
    ⟨some 91, (Op.slice 27 (Operand.tmp 89) (some (Operand.tmp 90)) none none), 27, none⟩,
    ⟨some 92, (Op.move (Operand.tmp 7)), 3, none⟩,
    ⟨some 93, (Op.call ⟨(Callee.value (Operand.func 92)), #[(Operand.tmp 91), (Operand.tmp 92)], #[27, 3]⟩), 0, none⟩]) (.seq (.ops [⟨some 94, (Op.move (Operand.tmp 0)), 27, none⟩,
    ⟨some 6, (Op.assign (Operand.tmp 94)), 27, none⟩]) .ret))))))))))))⟩
theorem is_slices_Insert_api_Item_api_Item (c : Cfg) (h : c.lendT = [66]) : isF PP c 80 c_slices_Insert_api_Item_api_Item := isF_of (fn := Proofs.Try.f80) (by kernel_rfl) (by kernel_rfl) rfl h (by kernel_rfl) rfl rfl (by kernel_rfl)
def c_ring_Far : SF := ⟨10, [(ResultVar.tmp 4)],
  (.seq (.ops [⟨some 4, (Op.assign (Operand.const (Value.int IntKind.i64 0))), 3, none⟩]) (.seq (.ops [⟨some 5, (Op.move (Operand.tmp 1)), 3, none⟩,
    ⟨some 6, (Op.move (Operand.tmp 0)), 3, none⟩,
    ⟨some 7, (Op.binOp BinOp.sub 3 (Operand.tmp 5) (Operand.tmp 6) 3), 3, none⟩,
    ⟨some 8, (Op.binOp BinOp.add 3 (Operand.tmp 7) (Operand.const (Value.int IntKind.i64 256)) 3), 3, none⟩,
    ⟨some 9, (Op.binOp BinOp.rem 3 (Operand.tmp 8) (Operand.const (Value.int IntKind.i64 256)) 3), 3, none⟩,
    ⟨some 4, (Op.assign (Operand.tmp 9)), 3, none⟩]) .ret))⟩
theorem is_ring_Far (c : Cfg) (h : c.lendT = []) : isF PP c 81 c_ring_Far := isF_of (fn := Proofs.Try.f81) (by kernel_rfl) (by kernel_rfl) rfl h (by kernel_rfl) rfl rfl (by kernel_rfl)
def c_slices_IndexFunc_int_int_L0 : SC := (.seq (.ops [⟨some 9, (Op.binOp BinOp.lss 3 (Operand.tmp 8) (Operand.tmp 7) 3), 0, none⟩]) (.seq (.cond (Operand.tmp 9) .skip (.exit 0)) (.seq (.block 1 (.seq (.ops [⟨some 10, (Op.move (Operand.tmp 8)), 3, none⟩,
    ⟨some 5, (Op.assign (Operand.tmp 10)), 3, none⟩]) (.seq (.ops [⟨some 11, (Op.move (Operand.tmp 1)), 61, none⟩,
    ⟨some 12, (Op.move (Operand.tmp 0)), 24, none⟩,
    ⟨some 13, (Op.move (Operand.tmp 5)), 3, none⟩,
    ⟨some 14, (Op.indexAddr 24 (Operand.tmp 12) (Operand.tmp 13)), 0, none⟩,
    ⟨some 15, (Op.load 3 (Operand.tmp 14)), 3, none⟩,
    ⟨some 16, (Op.call ⟨(Callee.value (Operand.tmp 11)), #[(Operand.tmp 15)], #[3]⟩), 4, none⟩]) (.cond (Operand.tmp 16) (.seq (.ops [⟨some 17, (Op.move (Operand.tmp 5)), 3, none⟩,
    ⟨some 4, (Op.assign (Operand.tmp 17)), 3, none⟩]) .ret) .skip)))) (.ops [⟨some 18, (Op.binOp BinOp.add 3 (Operand.tmp 8) (Operand.const (Value.int IntKind.i64 1)) 3), 3, none⟩,
    ⟨some 8, (Op.move (Operand.tmp 18)), 3, none⟩]))))
def c_slices_IndexFunc_int_int : SF := ⟨19, [(ResultVar.tmp 4)],
  (.seq (.ops [⟨some 4, (Op.assign (Operand.const (Value.int IntKind.i64 0))), 3, none⟩]) (.seq (.seq (.ops [⟨some 6, (Op.move (Operand.tmp 0)), 24, none⟩,
    ⟨some 7, (Op.call ⟨(Callee.builtin Builtin.len), #[(Operand.tmp 6)], #[24]⟩), 3, none⟩,
    ⟨some 8, (Op.move (Operand.const (Value.int IntKind.i64 0))), 3, none⟩]) (.block 0 (.loop c_slices_IndexFunc_int_int_L0))) (.seq (.ops [⟨some 4, (Op.assign (Operand.const (Value.int IntKind.i64 (-1)))), 3, none⟩]) .ret)))⟩
theorem is_slices_IndexFunc_int_int (c : Cfg) (h : c.lendT = []) : isF PP c 82 c_slices_IndexFunc_int_int := isF_of (fn := Proofs.Try.f82) (by kernel_rfl) (by kernel_rfl) rfl h (by kernel_rfl) rfl rfl (by kernel_rfl)
def c_passive_Without_1 : SF := ⟨7, [(ResultVar.tmp 3)],
  (.seq (.ops [⟨some 3, (Op.assign (Operand.const (Value.bool false))), 4, none⟩]) (.seq (.ops [⟨some 4, (Op.move (Operand.tmp 0)), 3, none⟩,
    ⟨some 5, (Op.load 3 (Operand.tmp 1)), 3, none⟩,
    ⟨some 6, (Op.binOp BinOp.eql 3 (Operand.tmp 4) (Operand.tmp 5) 3), 4, none⟩,
    ⟨some 3, (Op.assign (Operand.tmp 6)), 4, none⟩]) .ret))⟩
theorem is_passive_Without_1 (c : Cfg) (h : c.lendT = []) : isF PP c 83 c_passive_Without_1 := isF_of (fn := Proofs.Try.f83) (by kernel_rfl) (by kernel_rfl) rfl h (by kernel_rfl) rfl rfl (by kernel_rfl)
def c_slices_DeleteFunc_int_int_L0 : SC := (.seq (.seq (.ops [⟨some 16, (Op.move (Operand.tmp 6)), 3, none⟩,
    ⟨some 17, (Op.move (Operand.tmp 0)), 24, none⟩,
    ⟨some 18, (Op.call ⟨(Callee.builtin Builtin.len), #[(Operand.tmp 17)], #[24]⟩), 3, none⟩,
    ⟨some 19, (Op.binOp BinOp.lss 3 (Operand.tmp 16) (Operand.tmp 18) 3), 4, none⟩]) (.cond (Operand.tmp 19) .skip (.exit 0))) (.seq (.block 1 (.seq (.ops [⟨some 22, (Op.move (Operand.tmp 0)), 24, none⟩,
    ⟨some 23, (Op.move (Operand.tmp 6)), 3, none⟩,
    ⟨some 24, (Op.indexAddr 24 (Operand.tmp 22) (Operand.tmp 23)), 0, none⟩,
    ⟨some 25, (Op.load 3 (Operand.tmp 24)), 3, none⟩,
    ⟨some 7, (Op.assign (Operand.tmp 25)), 3, none⟩]) (.seq (.ops [⟨some 26, (Op.move (Operand.tmp 1)), 61, none⟩,
    ⟨some 27, (Op.move (Operand.tmp 7)), 3, none⟩,
    ⟨some 28, (Op.call ⟨(Callee.value (Operand.tmp 26)), #[(Operand.tmp 27)], #[3]⟩), 4, none⟩,
    ⟨some 29, (Op.unOp UnOp.not 4 (Operand.tmp 28)), 4, none⟩]) (.cond (Operand.tmp 29) (.seq (.ops [⟨some 30, (Op.move (Operand.tmp 0)), 24, none⟩,
    ⟨some 31, (Op.move (Operand.tmp 5)), 3, none⟩,
    ⟨some 32, (Op.move (Operand.tmp 7)), 3, none⟩,
    ⟨some 33, (Op.indexAddr 24 (Operand.tmp 30) (Operand.tmp 31)), 0, none⟩,
    ⟨none, (Op.store 3 (Operand.tmp 33) (Operand.tmp 32)), 0, none⟩]) (.ops [⟨some 34, (Op.move (Operand.tmp 5)), 3, none⟩,
    ⟨some 35, (Op.binOp BinOp.add 3 (Operand.tmp 34) (Operand.const (Value.int IntKind.i64 1)) 3), 3, none⟩,
    ⟨some 5, (Op.assign (Operand.tmp 35)), 3, none⟩])) .skip)))) (.ops [⟨some 20, (Op.move (Operand.tmp 6)), 3, none⟩,
    ⟨some 21, (Op.binOp BinOp.add 3 (Operand.tmp 20) (Operand.const (Value.int IntKind.i64 1)) 3), 3, none⟩,
    ⟨some 6, (Op.assign (Operand.tmp 21)), 3, none⟩])))
def c_slices_DeleteFunc_int_int : SF := ⟨42, [(ResultVar.tmp 4)],
  (.seq (.ops [⟨some 4, (Op.assign (Operand.const (Value.slice none 0 0))), 24, none⟩]) (.seq (.ops [⟨some 8, (Op.move (Operand.tmp 0)), 24, none⟩,
    ⟨some 9, (Op.move (Operand.tmp 1)), 61, none⟩,
    ⟨some 10, (Op.call ⟨(Callee.value (Operand.func 82)), #[(Operand.tmp 8), (Operand.tmp 9)], #[24, 61]⟩), 3, none⟩,
    ⟨some 5, (Op.assign (Operand.tmp 10)), 3, none⟩]) (.seq (.seq (.ops [⟨some 11, (Op.move (Operand.tmp 5)), 3, none⟩,
    ⟨some 12, (Op.binOp BinOp.eql 3 (Operand.tmp 11) (Operand.const (Value.int IntKind.i64 (-1))) 3), 4, none⟩]) (.cond (Operand.tmp 12) (.seq (.ops [⟨some 13, (Op.move (Operand.tmp 0)), 24, none⟩,
    ⟨some 4, (Op.assign (Operand.tmp 13)), 24, none⟩]) .ret) .skip)) (.seq (.seq (.ops [⟨some 14, (Op.move (Operand.tmp 5)), 3, none⟩,
    ⟨some 15, (Op.binOp BinOp.add 3 (Operand.tmp 14) (Operand.const (Value.int IntKind.i64 1)) 3), 3, none⟩,
    ⟨some 6, (Op.assign (Operand.tmp 15)), 3, none⟩]) (.block 0 (.loop c_slices_DeleteFunc_int_int_L0))) (.seq (.ops [⟨some 36, (Op.move (Operand.tmp 0)), 24, none⟩,
    ⟨some 37, (Op.move (Operand.tmp 5)), 3, none⟩,
    ⟨some 38, (Op.slice 24 (Operand.tmp 36) (some (Operand.tmp 37)) none none), 24, none⟩,
    ⟨none, (Op.call ⟨(Callee.builtin Builtin.clear), #[(Operand.tmp 38)], #[24]⟩), 0, none⟩]) (.seq (.ops [⟨some 39, (Op.move (Operand.tmp 0)), 24, none⟩,
    ⟨some 40, (Op.move (Operand.tmp 5)), 3, none⟩,
    ⟨some 41, (Op.slice 24 (Operand.tmp 39) none (some (Operand.tmp 40)) none), 24, none⟩,
    ⟨some 4, (Op.assign (Operand.tmp 41)), 24, none⟩]) .ret))))))⟩
theorem is_slices_DeleteFunc_int_int (c : Cfg) (h : c.lendT = []) : isF PP c 84 c_slices_DeleteFunc_int_int := isF_of (fn := Proofs.Try.f84) (by kernel_rfl) (by kernel_rfl) rfl h (by kernel_rfl) rfl rfl (by kernel_rfl)
def c_slices_Insert_api_Peer_api_Peer : SF := ⟨95, [(ResultVar.tmp 6)],
  (.seq (.ops [⟨some 6, (Op.assign (Operand.const (Value.slice none 0 0))), 23, none⟩]) (.seq (.ops [⟨some 10, (Op.move (Operand.tmp 0)), 23, none⟩,
    ⟨some 11, (Op.move (Operand.tmp 1)), 3, none⟩,
    ⟨some 12, (Op.slice 23 (Operand.tmp 10) (some (Operand.tmp 11)) none none), 23, none⟩]) (.seq (.ops [⟨some 13, (Op.move (Operand.tmp 2)), 23, none⟩,
    ⟨some 14, (Op.call ⟨(Callee.builtin Builtin.len), #[(Operand.tmp 13)], #[23]⟩), 3, none⟩,
    ⟨some 7, (Op.assign (Operand.tmp 14)), 3, none⟩]) (.seq (.seq (.ops [⟨some 15, (Op.move (Operand.tmp 7)), 3, none⟩,
    ⟨some 16, (Op.binOp BinOp.eql 3 (Operand.tmp 15) (Operand.const (Value.int IntKind.i64 0)) 3), 4, none⟩]) (.cond (Operand.tmp 16) (.seq (.ops [⟨some 17, (Op.move (Operand.tmp 0)), 23, none⟩,
    ⟨some 6, (Op.assign (Operand.tmp 17)), 23, none⟩]) .ret) .skip)) (.seq (.ops [⟨some 18, (Op.move (Operand.tmp 0)), 23, none⟩,
    ⟨some 19, (Op.call ⟨(Callee.builtin Builtin.len), #[(Operand.tmp 18)], #[23]⟩), 3, none⟩,
    ⟨some 8, (Op.assign (Operand.tmp 19)), 3, none⟩]) (.seq (.seq (.ops [⟨some 20, (Op.move (Operand.tmp 1)), 3, none⟩,
    ⟨some 21, (Op.move (Operand.tmp 8)), 3, none⟩,
    ⟨some 22, (Op.binOp BinOp.eql 3 (Operand.tmp 20) (Operand.tmp 21) 3), 4, none⟩]) (.cond (Operand.tmp 22) (.seq (.ops [⟨some 23, (Op.move (Operand.tmp 0)), 23, none⟩,
    ⟨some 24, (Op.move (Operand.tmp 2)), 23, none⟩,
    ⟨some 25, (Op.call ⟨(Callee.builtin Builtin.append), #[(Operand.tmp 23), (Operand.tmp 24)], #[23, 23]⟩), 23, none⟩,
    ⟨some 6, (Op.assign (Operand.tmp 25)), 23, none⟩]) .ret) .skip)) (.seq (.seq (.ops [⟨some 26, (Op.move (Operand.tmp 8)), 3, none⟩,
    ⟨some 27, (Op.move (Operand.tmp 7)), 3, none⟩,
    ⟨some 28, (Op.binOp BinOp.add 3 (Operand.tmp 26) (Operand.tmp 27) 3), 3, none⟩,
    ⟨some 29, (Op.move (Operand.tmp 0)), 23, none⟩,
    ⟨some 30, (Op.call ⟨(Callee.builtin Builtin.cap), #[(Operand.tmp 29)], #[23]⟩), 3, none⟩,
    ⟨some 31, (Op.binOp BinOp.gtr 3 (Operand.tmp 28) (Operand.tmp 30) 3), 4, none⟩]) (.cond (Operand.tmp 31) (.seq (.ops [⟨some 32, (Op.move (Operand.tmp 0)), 23, none⟩,
    ⟨some 33, (Op.move (Operand.tmp 1)), 3, none⟩,
    ⟨some 34, (Op.slice 23 (Operand.tmp 32) none (some (Operand.tmp 33)) none), 23, none⟩,
    ⟨some 35, (Op.move (Operand.tmp 8)), 3, none⟩,
    ⟨some 36, (Op.move (Operand.tmp 7)), 3, none⟩,
    ⟨some 37, (Op.binOp BinOp.add 3 (Operand.tmp 35) (Operand.tmp 36) 3), 3, none⟩,
    ⟨some 38, (Op.move (Operand.tmp 1)), 3, none⟩,
    ⟨some 39, (Op.binOp BinOp.sub 3 (Operand.tmp 37) (Operand.tmp 38) 3), 3, none⟩,
    ⟨some 40, (Op.call ⟨(Callee.builtin Builtin.append), #[(Operand.tmp 34), (Operand.tmp 39)], #[23, 3]⟩), 23, none⟩,
    ⟨some 9, (Op.assign (Operand.tmp 40)), 23, none⟩]) (.seq (.ops [⟨some 41, (Op.move (Operand.tmp 9)), 23, none⟩,
    ⟨some 42, (Op.move (Operand.tmp 1)), 3, none⟩,
    ⟨some 43, (Op.slice 23 (Operand.tmp 41) (some (Operand.tmp 42)) none none), 23, none⟩,
    ⟨some 44, (Op.move (Operand.tmp 2)), 23, none⟩,
    ⟨some 45, (Op.call ⟨(Callee.builtin Builtin.copy), #[(Operand.tmp 43), (Operand.tmp 44)], #[23, 23]⟩), 3, none⟩]) (.seq (.ops [⟨some 46, (Op.move (Operand.tmp 9)), 23, none⟩,
    ⟨some 47, (Op.move (Operand.tmp 1)), 3, none⟩,
    ⟨some 48, (Op.move (Operand.tmp 7)), 3, none⟩,
    ⟨some 51, (Op.move (Operand.tmp 0)), 23, none⟩,
    ⟨some 52, (Op.move (Operand.tmp 1)), 3, none⟩,
    ⟨some 49, (Op.binOp BinOp.add 3 (Operand.tmp 47) (Operand.tmp 48) 3), 3, none⟩,
    ⟨some 50, (Op.slice 23 (Operand.tmp 46) (some (Operand.tmp 49)) none none), 23, none⟩,
    ⟨some 53, (Op.slice 23 (Operand.tmp 51) (some (Operand.tmp 52)) none none), 23, none⟩,
    ⟨some 54, (Op.call ⟨(Callee.builtin Builtin.copy), #[(Operand.tmp 50), (Operand.tmp 53)], #[23, 23]⟩), 3, none⟩]) (.seq (.ops [⟨some 55, (Op.move (Operand.tmp 9)), 23, none⟩,
    ⟨some 6, (Op.assign (Operand.tmp 55)), 23, none⟩]) .ret)))) .skip)) (.seq (.ops [⟨some 56, (Op.move (Operand.tmp 0)), 23, none⟩,
    ⟨some 57, (Op.move (Operand.tmp 8)), 3, none⟩,
    ⟨some 58, (Op.move (Operand.tmp 7)), 3, none⟩,
    ⟨some 59, (Op.binOp BinOp.add 3 (Operand.tmp 57) (Operand.tmp 58) 3), 3, none⟩,
    ⟨some 60, (Op.slice 23 (Operand.tmp 56) none (some (Operand.tmp 59)) none), 23, none⟩,
    ⟨some 0, (Op.assign (Operand.tmp 60)), 23, none⟩]) (.seq (.seq (.ops [⟨some 61, (Op.move (Operand.tmp 2)), 23, none⟩,
    ⟨some 62, (Op.move (Operand.tmp 0)), 23, none⟩,
    ⟨some 63, (Op.move (Operand.tmp 1)), 3, none⟩,
    ⟨some 64, (Op.move (Operand.tmp 7)), 3, none⟩,
    ⟨some 65, (Op.binOp BinOp.add 3 (Operand.tmp 63) (Operand.tmp 64) 3), 3, none⟩,
    ⟨some 66, (Op.slice 23 (Operand.tmp 62) (some (Operand.tmp 65)) none none), 23, none⟩,
    ⟨some 67, (Op.call ⟨(Callee.value (Operand.func 93)), #[(Operand.tmp 61), (Operand.tmp 66)], #[23, 23]⟩), 4, none⟩,
    ⟨some 68, (Op.unOp UnOp.not 4 (Operand.tmp 67)), 4, none⟩]) (.cond (Operand.tmp 68) (.seq (.ops [⟨some 69, (Op.move (Operand.tmp 0)), 23, none⟩,
    ⟨some 70, (Op.move (Operand.tmp 1)), 3, none⟩,
    ⟨some 71, (Op.move (Operand.tmp 7)), 3, none⟩,
    ⟨some 74, (Op.move (Operand.tmp 0)), 23, none⟩,
    ⟨some 75, (Op.move (Operand.tmp 1)), 3, none⟩,
    ⟨some 72, (Op.binOp BinOp.add 3 (Operand.tmp 70) (Operand.tmp 71) 3), 3, none⟩,
    ⟨some 73, (Op.slice 23 (Operand.tmp 69) (some (Operand.tmp 72)) none none), 23, none⟩,
    ⟨some 76, (Op.slice 23 (Operand.tmp 74) (some (Operand.tmp 75)) none none), 23, none⟩,
    ⟨some 77, (Op.call ⟨(Callee.builtin Builtin.copy), #[(Operand.tmp 73), (Operand.tmp 76)], #[23, 23]⟩), 3, none⟩]) (.seq (.ops [⟨some 78, (Op.move (Operand.tmp 0)), 23, none⟩,
    ⟨some 79, (Op.move (Operand.tmp 1)), 3, none⟩,
    ⟨some 80, (Op.slice 23 (Operand.tmp 78) (some (Operand.tmp 79)) none none), 23, none⟩,
    ⟨some 81, (Op.move (Operand.tmp 2)), 23, none⟩,
    ⟨some 82, (Op.call ⟨(Callee.builtin Builtin.copy), #[(Operand.tmp 80), (Operand.tmp 81)], #[23, 23]⟩), 3, none⟩]) (.seq (.ops [⟨some 83, (Op.move (Operand.tmp 0)), 23, none⟩,
    ⟨some 6, (Op.assign (Operand.tmp 83)), 23, none⟩]) .ret))) .skip)) (.seq (.ops [⟨some 84, (Op.move (Operand.tmp 0)), 23, none⟩,
    ⟨some 85, (Op.move (Operand.tmp 8)), 3, none⟩,
    ⟨some 86, (Op.slice 23 (Operand.tmp 84) (some (Operand.tmp 85)) none none), 23, none⟩,
    ⟨some 87, (Op.move (Operand.tmp 2)), 23, none⟩,
    ⟨some 88, (Op.call ⟨(Callee.builtin Builtin.copy), #[(Operand.tmp 86), (Operand.tmp 87)], #[23, 23]⟩), 3, none⟩]) (.seq (.ops [⟨some 89, (Op.move (Operand.tmp 0)), 23, none⟩,
    ⟨some 90, (Op.move (Operand.tmp 1)), 3, none⟩,
    ⟨some 91, (Op.slice 23 (Operand.tmp 89) (some (Operand.tmp 90)) none none), 23, none⟩,
    ⟨some 92, (Op.move (Operand.tmp 7)), 3, none⟩,
    ⟨some 93, (Op.call ⟨(Callee.value (Operand.func 94)), #[(Operand.tmp 91), (Operand.tmp 92)], #[23, 3]⟩), 0, none⟩]) (.seq (.ops [⟨some 94, (Op.move (Operand.tmp 0)), 23, none⟩,
    ⟨some 6, (Op.assign (Operand.tmp 94)), 23, none⟩]) .ret))))))))))))⟩
theorem is_slices_Insert_api_Peer_api_Peer (c : Cfg) (h : c.lendT = [66]) : isF PP c 85 c_slices_Insert_api_Peer_api_Peer := isF_of (fn := Proofs.Try.f85) (by kernel_rfl) (by kernel_rfl) rfl h (by kernel_rfl) rfl rfl (by kernel_rfl)
def c_peers_order_find : SF := ⟨17, [(ResultVar.tmp 6)],
  (.seq (.ops [⟨some 3, (Op.box 118 (Operand.tmp 0)), 0, none⟩,
    ⟨some 4, (Op.box 54 (Operand.tmp 1)), 0, none⟩,
    ⟨some 6, (Op.assign (Operand.const (Value.int IntKind.i64 0))), 3, none⟩]) (.seq (.ops [⟨some 14, (Op.move (Operand.tmp 2)), 3, none⟩,
    ⟨some 7, (Op.fieldAddr 118 (Operand.tmp 3) 0), 0, none⟩,
    ⟨some 8, (Op.load 3 (Operand.tmp 7)), 3, none⟩,
    ⟨some 9, (Op.fieldAddr 54 (Operand.tmp 4) 0), 0, none⟩,
    ⟨some 10, (Op.load 3 (Operand.tmp 9)), 3, none⟩,
    ⟨some 11, (Op.call ⟨(Callee.value (Operand.func 81)), #[(Operand.tmp 8), (Operand.tmp 10)], #[3, 3]⟩), 3, none⟩,
    ⟨some 12, (Op.fieldAddr 118 (Operand.tmp 3) 0), 0, none⟩,
    ⟨some 13, (Op.load 3 (Operand.tmp 12)), 3, none⟩,
    ⟨some 15, (Op.call ⟨(Callee.value (Operand.func 81)), #[(Operand.tmp 13), (Operand.tmp 14)], #[3, 3]⟩), 3, none⟩,
    ⟨some 16, (Op.call ⟨(Callee.value (Operand.func 89)), #[(Operand.tmp 11), (Operand.tmp 15)], #[3, 3]⟩), 3, none⟩,
    ⟨some 6, (Op.assign (Operand.tmp 16)), 3, none⟩]) .ret))⟩
theorem is_peers_order_find (c : Cfg) (h : c.lendT = []) : isF PP c 86 c_peers_order_find := isF_of (fn := Proofs.Try.f86) (by kernel_rfl) (by kernel_rfl) rfl h (by kernel_rfl) rfl rfl (by kernel_rfl)
def c_slices_BinarySearchFunc_api_Peer_api_Peer_int_L0 : SC := (.seq (.seq (.ops [⟨some 15, (Op.move (Operand.tmp 9)), 3, none⟩,
    ⟨some 16, (Op.move (Operand.tmp 10)), 3, none⟩,
    ⟨some 17, (Op.binOp BinOp.lss 3 (Operand.tmp 15) (Operand.tmp 16) 3), 4, none⟩]) (.cond (Operand.tmp 17) .skip (.exit 0))) (.block 1 (.seq (.ops [⟨some 18, (Op.move (Operand.tmp 9)), 3, none⟩,
    ⟨some 19, (Op.move (Operand.tmp 10)), 3, none⟩,
    ⟨some 20, (Op.binOp BinOp.add 3 (Operand.tmp 18) (Operand.tmp 19) 3), 3, none⟩,
    ⟨some 21, (Op.convert 3 121 (Operand.tmp 20)), 121, none⟩,
    ⟨some 22, (Op.binOp BinOp.shr 121 (Operand.tmp 21) (Operand.const (Value.int IntKind.u64 1)) 121), 121, none⟩,
    ⟨some 23, (Op.convert 121 3 (Operand.tmp 22)), 3, none⟩,
    ⟨some 11, (Op.assign (Operand.tmp 23)), 3, none⟩]) (.seq (.ops [⟨some 24, (Op.move (Operand.tmp 2)), 116, none⟩,
    ⟨some 25, (Op.move (Operand.tmp 0)), 23, none⟩,
    ⟨some 26, (Op.move (Operand.tmp 11)), 3, none⟩,
    ⟨some 27, (Op.indexAddr 23 (Operand.tmp 25) (Operand.tmp 26)), 0, none⟩,
    ⟨some 28, (Op.load 54 (Operand.tmp 27)), 54, none⟩,
    ⟨some 29, (Op.move (Operand.tmp 1)), 3, none⟩,
    ⟨some 30, (Op.call ⟨(Callee.value (Operand.tmp 24)), #[(Operand.tmp 28), (Operand.tmp 29)], #[54, 3]⟩), 3, none⟩,
    ⟨some 31, (Op.binOp BinOp.lss 3 (Operand.tmp 30) (Operand.const (Value.int IntKind.i64 0)) 3), 4, none⟩]) (.cond (Operand.tmp 31) (.ops [⟨some 32, (Op.move (Operand.tmp 11)), 3, none⟩,
    ⟨some 33, (Op.binOp BinOp.add 3 (Operand.tmp 32) (Operand.const (Value.int IntKind.i64 1)) 3), 3, none⟩,
    ⟨some 9, (Op.assign (Operand.tmp 33)), 3, none⟩]) (.ops [⟨some 34, (Op.move (Operand.tmp 11)), 3, none⟩,
    ⟨some 10, (Op.assign (Operand.tmp 34)), 3, none⟩]))))))
def c_slices_BinarySearchFunc_api_Peer_api_Peer_int : SF := ⟨49, [(ResultVar.tmp 6), (ResultVar.tmp 7)],
  (.seq (.ops [⟨some 6, (Op.assign (Operand.const (Value.int IntKind.i64 0))), 3, none⟩,
    ⟨some 7, (Op.assign (Operand.const (Value.bool false))), 4, none⟩]) (.seq (.ops [⟨some 12, (Op.move (Operand.tmp 0)), 23, none⟩,
    ⟨some 13, (Op.call ⟨(Callee.builtin Builtin.len), #[(Operand.tmp 12)], #[23]⟩), 3, none⟩,
    ⟨some 8, (Op.assign (Operand.tmp 13)), 3, none⟩]) (.seq (.ops [⟨some 14, (Op.move (Operand.tmp 8)), 3, none⟩,
    ⟨some 9, (Op.assign (Operand.const (Value.int IntKind.i64 0))), 3, none⟩,
    ⟨some 10, (Op.assign (Operand.tmp 14)), 3, none⟩]) (.seq (.block 0 (.loop c_slices_BinarySearchFunc_api_Peer_api_Peer_int_L0)) (.seq (.ops [⟨some 35, (Op.move (Operand.tmp 9)), 3, none⟩,
    ⟨some 36, (Op.move (Operand.tmp 9)), 3, none⟩,
    ⟨some 37, (Op.move (Operand.tmp 8)), 3, none⟩,
    ⟨some 38, (Op.binOp BinOp.lss 3 (Operand.tmp 36) (Operand.tmp 37) 3), 4, none⟩,
    ⟨some 39, (Op.move (Operand.tmp 38)), 4, none⟩,
    ⟨some 40, (Op.move (Operand.tmp 2)), 116, some (39, true)⟩,
    ⟨some 41, (Op.move (Operand.tmp 0)), 23, some (39, true)⟩,
    ⟨some 42, (Op.move (Operand.tmp 9)), 3, some (39, true)⟩,
    ⟨some 43, (Op.indexAddr 23 (Operand.tmp 41) (Operand.tmp 42)), 0, some (39, true)⟩,
    ⟨some 44, (Op.load 54 (Operand.tmp 43)), 54, some (39, true)⟩,
    ⟨some 45, (Op.move (Operand.tmp 1)), 3, some (39, true)⟩,
    ⟨some 46, (Op.call ⟨(Callee.value (Operand.tmp 40)), #[(Operand.tmp 44), (Operand.tmp 45)], #[54, 3]⟩), 3, some (39, true)⟩,
    ⟨some 47, (Op.binOp BinOp.eql 3 (Operand.tmp 46) (Operand.const (Value.int IntKind.i64 0)) 3), 4, some (39, true)⟩,
    ⟨some 48, (Op.pick (Operand.tmp 39) (Operand.tmp 47) (Operand.const (Value.bool false))), 4, none⟩,
    ⟨some 6, (Op.assign (Operand.tmp 35)), 3, none⟩,
    ⟨some 7, (Op.assign (Operand.tmp 48)), 4, none⟩]) .ret)))))⟩
theorem is_slices_BinarySearchFunc_api_Peer_api_Peer_int (c : Cfg) (h : c.lendT = []) : isF PP c 87 c_slices_BinarySearchFunc_api_Peer_api_Peer_int := isF_of (fn := Proofs.Try.f87) (by kernel_rfl) (by kernel_rfl) rfl h (by kernel_rfl) rfl rfl (by kernel_rfl)
def c_slices_Index_int_int_L0 : SC := (.seq (.ops [⟨some 9, (Op.binOp BinOp.lss 3 (Operand.tmp 8) (Operand.tmp 7) 3), 0, none⟩]) (.seq (.cond (Operand.tmp 9) .skip (.exit 0)) (.seq (.block 1 (.seq (.ops [⟨some 10, (Op.move (Operand.tmp 8)), 3, none⟩,
    ⟨some 5, (Op.assign (Operand.tmp 10)), 3, none⟩]) (.seq (.ops [⟨some 11, (Op.move (Operand.tmp 1)), 3, none⟩,
    ⟨some 12, (Op.move (Operand.tmp 0)), 24, none⟩,
    ⟨some 13, (Op.move (Operand.tmp 5)), 3, none⟩,
    ⟨some 14, (Op.indexAddr 24 (Operand.tmp 12) (Operand.tmp 13)), 0, none⟩,
    ⟨some 15, (Op.load 3 (Operand.tmp 14)), 3, none⟩,
    ⟨some 16, (Op.binOp BinOp.eql 3 (Operand.tmp 11) (Operand.tmp 15) 3), 4, none⟩]) (.cond (Operand.tmp 16) (.seq (.ops [⟨some 17, (Op.move (Operand.tmp 5)), 3, none⟩,
    ⟨some 4, (Op.assign (Operand.tmp 17)), 3, none⟩]) .ret) .skip)))) (.ops [⟨some 18, (Op.binOp BinOp.add 3 (Operand.tmp 8) (Operand.const (Value.int IntKind.i64 1)) 3), 3, none⟩,
    ⟨some 8, (Op.move (Operand.tmp 18)), 3, none⟩]))))
def c_slices_Index_int_int : SF := ⟨19, [(ResultVar.tmp 4)],
  (.seq (.ops [⟨some 4, (Op.assign (Operand.const (Value.int IntKind.i64 0))), 3, none⟩]) (.seq (.seq (.ops [⟨some 6, (Op.move (Operand.tmp 0)), 24, none⟩,
    ⟨some 7, (Op.call ⟨(Callee.builtin Builtin.len), #[(Operand.tmp 6)], #[24]⟩), 3, none⟩,
    ⟨some 8, (Op.move (Operand.const (Value.int IntKind.i64 0))), 3, none⟩]) (.block 0 (.loop c_slices_Index_int_int_L0))) (.seq (.ops [⟨some 4, (Op.assign (Operand.const (Value.int IntKind.i64 (-1)))), 3, none⟩]) .ret)))⟩
theorem is_slices_Index_int_int (c : Cfg) (h : c.lendT = []) : isF PP c 88 c_slices_Index_int_int := isF_of (fn := Proofs.Try.f88) (by kernel_rfl) (by kernel_rfl) rfl h (by kernel_rfl) rfl rfl (by kernel_rfl)
end Go.AM
/- AM: this seat's functions in short. -/
namespace Go.AM
set_option linter.unusedSimpArgs false
set_option linter.unusedVariables false
def c_cmp_Compare_int : SF := ⟨20, [(ResultVar.tmp 4)],
  (.seq (.ops [⟨some 4, (Op.assign (Operand.const (Value.int IntKind.i64 0))), 3, none⟩]) (.seq (.ops [⟨some 7, (Op.move (Operand.tmp 0)), 3, none⟩,
    ⟨some 8, (Op.call ⟨(Callee.value (Operand.func 95)), #[(Operand.tmp 7)], #[3]⟩), 4, none⟩,
    ⟨some 5, (Op.assign (Operand.tmp 8)), 4, none⟩]) (.seq (.ops [⟨some 9, (Op.move (Operand.tmp 1)), 3, none⟩,
    ⟨some 10, (Op.call ⟨(Callee.value (Operand.func 95)), #[(Operand.tmp 9)], #[3]⟩), 4, none⟩,
    ⟨some 6, (Op.assign (Operand.tmp 10)), 4, none⟩]) (.seq (.seq (.ops [⟨some 11, (Op.move (Operand.tmp 5)), 4, none⟩]) (.cond (Operand.tmp 11) (.seq (.seq (.ops [⟨some 12, (Op.move (Operand.tmp 6)), 4, none⟩]) (.cond (Operand.tmp 12) (.seq (.ops [⟨some 4, (Op.assign (Operand.const (Value.int IntKind.i64 0))), 3, none⟩]) .ret) .skip)) (.seq (.ops [⟨some 4, (Op.assign (Operand.const (Value.int IntKind.i64 (-1)))), 3, none⟩]) .ret)) .skip)) (.seq (.seq (.ops [⟨some 13, (Op.move (Operand.tmp 6)), 4, none⟩]) (.cond (Operand.tmp 13) (.seq (.ops [⟨some 4, (Op.assign (Operand.const (Value.int IntKind.i64 1))), 3, none⟩]) .ret) .skip)) (.seq (.seq (.ops [⟨some 14, (Op.move (Operand.tmp 0)), 3, none⟩,
    ⟨some 15, (Op.move (Operand.tmp 1)), 3, none⟩,
    ⟨some 16, (Op.binOp BinOp.lss 3 (Operand.tmp 14) (Operand.tmp 15) 3), 4, none⟩]) (.cond (Operand.tmp 16) (.seq (.ops [⟨some 4, (Op.assign (Operand.const (Value.int IntKind.i64 (-1)))), 3, none⟩]) .ret) .skip)) (.seq (.seq (.ops [⟨some 17, (Op.move (Operand.tmp 0)), 3, none⟩,
    ⟨some 18, (Op.move (Operand.tmp 1)), 3, none⟩,
    ⟨some 19, (Op.binOp BinOp.gtr 3 (Operand.tmp 17) (Operand.tmp 18) 3), 4, none⟩]) (.cond (Operand.tmp 19) (.seq (.ops [⟨some 4, (Op.assign (Operand.const (Value.int IntKind.i64 1))), 3, none⟩]) .ret) .skip)) (.seq (.ops [⟨some 4, (Op.assign (Operand.const (Value.int IntKind.i64 0))), 3, none⟩]) .ret))))))))⟩
theorem is_cmp_Compare_int (c : Cfg) (h : c.lendT = []) : isF PP c 89 c_cmp_Compare_int := isF_of (fn := Proofs.Try.f89) (by kernel_rfl) (by kernel_rfl) rfl h (by kernel_rfl) rfl rfl (by kernel_rfl)
def c_item_better : SF := ⟨51, [(ResultVar.tmp 4)],
  (.seq (.ops [⟨some 4, (Op.assign (Operand.const (Value.bool false))), 4, none⟩]) (.seq (.seq (.ops [⟨some 7, (Op.move (Operand.tmp 0)), 123, none⟩,
    ⟨some 11, (Op.move (Operand.tmp 1)), 123, none⟩,
    ⟨some 8, (Op.nilCheck (Operand.tmp 7)), 0, none⟩,
    ⟨some 9, (Op.fieldAddr 35 (Operand.tmp 8) 1), 0, none⟩,
    ⟨some 10, (Op.load 33 (Operand.tmp 9)), 33, none⟩,
    ⟨some 12, (Op.nilCheck (Operand.tmp 11)), 0, none⟩,
    ⟨some 13, (Op.fieldAddr 35 (Operand.tmp 12) 1), 0, none⟩,
    ⟨some 14, (Op.load 33 (Operand.tmp 13)), 33, none⟩,
    ⟨some 15, (Op.binOp BinOp.neq 33 (Operand.tmp 10) (Operand.tmp 14) 33), 4, none⟩]) (.cond (Operand.tmp 15) (.seq (.ops [⟨some 17, (Op.move (Operand.tmp 0)), 123, none⟩,
    ⟨some 21, (Op.move (Operand.tmp 1)), 123, none⟩,
    ⟨some 18, (Op.nilCheck (Operand.tmp 17)), 0, none⟩,
    ⟨some 19, (Op.fieldAddr 35 (Operand.tmp 18) 1), 0, none⟩,
    ⟨some 20, (Op.load 33 (Operand.tmp 19)), 33, none⟩,
    ⟨some 22, (Op.nilCheck (Operand.tmp 21)), 0, none⟩,
    ⟨some 23, (Op.fieldAddr 35 (Operand.tmp 22) 1), 0, none⟩,
    ⟨some 24, (Op.load 33 (Operand.tmp 23)), 33, none⟩,
    ⟨some 25, (Op.call ⟨(Callee.value (Operand.func 96)), #[(Operand.tmp 20), (Operand.tmp 24)], #[33, 33]⟩), 126, none⟩,
    ⟨some 16, (Op.move (Operand.tmp 25)), 126, none⟩,
    ⟨some 26, (Op.extract (Operand.tmp 16) 0), 4, none⟩,
    ⟨some 27, (Op.extract (Operand.tmp 16) 1), 40, none⟩,
    ⟨some 5, (Op.assign (Operand.tmp 26)), 4, none⟩,
    ⟨some 6, (Op.assign (Operand.tmp 27)), 40, none⟩]) (.seq (.ops [⟨some 28, (Op.move (Operand.tmp 5)), 4, none⟩,
    ⟨some 4, (Op.assign (Operand.tmp 28)), 4, none⟩]) .ret)) .skip)) (.seq (.seq (.ops [⟨some 29, (Op.move (Operand.tmp 0)), 123, none⟩,
    ⟨some 33, (Op.move (Operand.tmp 1)), 123, none⟩,
    ⟨some 30, (Op.nilCheck (Operand.tmp 29)), 0, none⟩,
    ⟨some 31, (Op.fieldAddr 35 (Operand.tmp 30) 3), 0, none⟩,
    ⟨some 32, (Op.load 4 (Operand.tmp 31)), 4, none⟩,
    ⟨some 34, (Op.nilCheck (Operand.tmp 33)), 0, none⟩,
    ⟨some 35, (Op.fieldAddr 35 (Operand.tmp 34) 3), 0, none⟩,
    ⟨some 36, (Op.load 4 (Operand.tmp 35)), 4, none⟩,
    ⟨some 37, (Op.binOp BinOp.neq 4 (Operand.tmp 32) (Operand.tmp 36) 4), 4, none⟩]) (.cond (Operand.tmp 37) (.seq (.ops [⟨some 38, (Op.move (Operand.tmp 0)), 123, none⟩,
    ⟨some 39, (Op.nilCheck (Operand.tmp 38)), 0, none⟩,
    ⟨some 40, (Op.fieldAddr 35 (Operand.tmp 39) 3), 0, none⟩,
    ⟨some 41, (Op.load 4 (Operand.tmp 40)), 4, none⟩,
    ⟨some 4, (Op.assign (Operand.tmp 41)), 4, none⟩]) .ret) .skip)) (.seq (.ops [⟨some 42, (Op.move (Operand.tmp 0)), 123, none⟩,
    ⟨some 46, (Op.move (Operand.tmp 1)), 123, none⟩,
    ⟨some 43, (Op.nilCheck (Operand.tmp 42)), 0, none⟩,
    ⟨some 44, (Op.fieldAddr 35 (Operand.tmp 43) 2), 0, none⟩,
    ⟨some 45, (Op.load 3 (Operand.tmp 44)), 3, none⟩,
    ⟨some 47, (Op.nilCheck (Operand.tmp 46)), 0, none⟩,
    ⟨some 48, (Op.fieldAddr 35 (Operand.tmp 47) 2), 0, none⟩,
    ⟨some 49, (Op.load 3 (Operand.tmp 48)), 3, none⟩,
    ⟨some 50, (Op.binOp BinOp.gtr 3 (Operand.tmp 45) (Operand.tmp 49) 3), 4, none⟩,
    ⟨some 4, (Op.assign (Operand.tmp 50)), 4, none⟩]) .ret))))⟩
theorem is_item_better (c : Cfg) (h : c.lendT = []) : isF PP c 90 c_item_better := isF_of (fn := Proofs.Try.f90) (by kernel_rfl) (by kernel_rfl) rfl h (by kernel_rfl) rfl rfl (by kernel_rfl)
def c_cmp_isNaN_int : SF := ⟨6, [(ResultVar.tmp 2)],
  (.seq (.ops [⟨some 2, (Op.assign (Operand.const (Value.bool false))), 4, none⟩]) (.seq (.ops [⟨some 3, (Op.move (Operand.tmp 0)), 3, none⟩,
    ⟨some 4, (Op.move (Operand.tmp 0)), 3, none⟩,
    ⟨some 5, (Op.binOp BinOp.neq 3 (Operand.tmp 3) (Operand.tmp 4) 3), 4, none⟩,
    ⟨some 2, (Op.assign (Operand.tmp 5)), 4, none⟩]) .ret))⟩
theorem is_cmp_isNaN_int (c : Cfg) (h : c.lendT = []) : isF PP c 95 c_cmp_isNaN_int := isF_of (fn := Proofs.Try.f95) (by kernel_rfl) (by kernel_rfl) rfl h (by kernel_rfl) rfl rfl (by kernel_rfl)
def c_version_Newer : SF := ⟨33, [(ResultVar.tmp 4), (ResultVar.tmp 5)],
  (.seq (.ops [⟨some 2, (Op.box 33 (Operand.tmp 0)), 0, none⟩,
    ⟨some 3, (Op.box 33 (Operand.tmp 1)), 0, none⟩,
    ⟨some 4, (Op.assign (Operand.const (Value.bool false))), 4, none⟩,
    ⟨some 5, (Op.assign (Operand.const (Value.int IntKind.i64 0))), 40, none⟩]) (.seq (.seq (.ops [⟨some 6, (Op.load 33 (Operand.tmp 2)), 33, none⟩,
    ⟨some 7, (Op.call ⟨(Callee.value (Operand.func 56)), #[(Operand.tmp 6)], #[33]⟩), 4, none⟩,
    ⟨some 8, (Op.unOp UnOp.not 4 (Operand.tmp 7)), 4, none⟩,
    ⟨some 9, (Op.move (Operand.tmp 8)), 4, none⟩,
    ⟨some 10, (Op.load 33 (Operand.tmp 3)), 33, some (9, false)⟩,
    ⟨some 11, (Op.call ⟨(Callee.value (Operand.func 56)), #[(Operand.tmp 10)], #[33]⟩), 4, some (9, false)⟩,
    ⟨some 12, (Op.unOp UnOp.not 4 (Operand.tmp 11)), 4, some (9, false)⟩,
    ⟨some 13, (Op.pick (Operand.tmp 9) (Operand.const (Value.bool true)) (Operand.tmp 12)), 4, none⟩]) (.cond (Operand.tmp 13) (.seq (.ops [⟨some 4, (Op.assign (Operand.const (Value.bool false))), 4, none⟩,
    ⟨some 5, (Op.assign (Operand.const (Value.int IntKind.i64 300))), 40, none⟩]) .ret) .skip)) (.seq (.ops [⟨some 14, (Op.fieldAddr 33 (Operand.tmp 2) 0), 0, none⟩,
    ⟨some 15, (Op.load 3 (Operand.tmp 14)), 3, none⟩,
    ⟨some 16, (Op.fieldAddr 33 (Operand.tmp 3) 0), 0, none⟩,
    ⟨some 17, (Op.load 3 (Operand.tmp 16)), 3, none⟩,
    ⟨some 18, (Op.binOp BinOp.gtr 3 (Operand.tmp 15) (Operand.tmp 17) 3), 4, none⟩,
    ⟨some 19, (Op.move (Operand.tmp 18)), 4, none⟩,
    ⟨some 20, (Op.fieldAddr 33 (Operand.tmp 2) 0), 0, some (19, false)⟩,
    ⟨some 21, (Op.load 3 (Operand.tmp 20)), 3, some (19, false)⟩,
    ⟨some 22, (Op.fieldAddr 33 (Operand.tmp 3) 0), 0, some (19, false)⟩,
    ⟨some 23, (Op.load 3 (Operand.tmp 22)), 3, some (19, false)⟩,
    ⟨some 24, (Op.binOp BinOp.eql 3 (Operand.tmp 21) (Operand.tmp 23) 3), 4, some (19, false)⟩,
    ⟨some 25, (Op.move (Operand.tmp 24)), 4, some (19, false)⟩,
    ⟨some 26, (Op.fieldAddr 33 (Operand.tmp 2) 1), 0, some (25, true)⟩,
    ⟨some 27, (Op.load 3 (Operand.tmp 26)), 3, some (25, true)⟩,
    ⟨some 28, (Op.fieldAddr 33 (Operand.tmp 3) 1), 0, some (25, true)⟩,
    ⟨some 29, (Op.load 3 (Operand.tmp 28)), 3, some (25, true)⟩,
    ⟨some 30, (Op.binOp BinOp.gtr 3 (Operand.tmp 27) (Operand.tmp 29) 3), 4, some (25, true)⟩,
    ⟨some 31, (Op.pick (Operand.tmp 25) (Operand.tmp 30) (Operand.const (Value.bool false))), 4, some (19, false)⟩,
    ⟨some 32, (Op.pick (Operand.tmp 19) (Operand.const (Value.bool true)) (Operand.tmp 31)), 4, none⟩,
    ⟨some 4, (Op.assign (Operand.tmp 32)), 4, none⟩,
    ⟨some 5, (Op.assign (Operand.const (Value.int IntKind.i64 0))), 40, none⟩]) .ret)))⟩
theorem is_version_Newer (c : Cfg) (h : c.lendT = []) : isF PP c 96 c_version_Newer := isF_of (fn := Proofs.Try.f96) (by kernel_rfl) (by kernel_rfl) rfl h (by kernel_rfl) rfl rfl (by kernel_rfl)
end Go.AM
/- AM: this seat's functions in short, all of them. -/
/- AM: contracts: places, peers. -/
namespace Go.AM
set_option linter.unusedSimpArgs false
set_option linter.unusedVariables false
set_option maxRecDepth 8000
set_option maxHeartbeats 0
theorem ring_Far (a b : Int) : Den PP 81 [.int .i64 a, .int .i64 b] [] (.int .i64 (far a b)) [] := by
  refine den_of [] [] is_ring_Far ?_
  simp -implicitDefEqProofs [c_ring_Far, far]

theorem ring_Place (a : Int) : Den PP 35 [.int .i64 a] [] (.bool (place a)) [] := by
  refine den_of [] [] is_ring_Place ?_
  simp -implicitDefEqProofs [c_ring_Place]
  refine gOps_dec (fun h => ?_) (fun h => ?_) <;> simp -implicitDefEqProofs [h, place]

theorem peers_May_loop (base : Int) (ps : List Peer) (hl : ps.length ≤ cap) (Q : Ex → St → Prop) (r : Bool) (hQ1 : ∀ fr, r = true → Q .normal ⟨fr, []⟩) (hQ2 : ∀ fr bs, r = false → fr 4 = .bool false → Q .ret ⟨fr, bs⟩) :
    ∀ (rest : List Peer) (i : Nat) (fr : Nat → D) (last : Int), ps.drop i = rest → i ≤ ps.length → fr 0 = .int .i64 base → fr 5 = .int .i64 last → fr 16 = .sl (ps.map Peer.row) ps.length → fr 17 = .int .i64 ps.length → fr 18 = .int .i64 i →
      peersOk base last rest = r → sLoop (cf 0 [] []) 0 c_peers_May_L0 (blockQ 0 Q) (rest.length + 1) ⟨fr, []⟩ := by
  intro rest
  induction rest with
  | nil =>
    intro i fr last e hi h0 h5 h16 h17 h18 hm
    refine sLoop_body c_peers_May_L0.eq_1 ?_
    have hi' := drop_nil e hi
    simp -implicitDefEqProofs [h0, h5, h16, h17, h18, hi']
    exact hQ1 _ hm.symm
  | cons p rest ih =>
    intro i fr last e hi h0 h5 h16 h17 h18 hm
    refine sLoop_body c_peers_May_L0.eq_1 ?_
    obtain ⟨hlt, hget, hd, hlen⟩ := drop_cons e
    have hlt' : (i : Int) < ps.length := by omega
    simp -implicitDefEqProofs [h0, h5, h16, h17, h18, hlt', hget, Peer.row]
    refine callThen_of (ring_Place p.id) ?_
    simp -implicitDefEqProofs [h0, h5, h16, h17, h18]
    simp only [peersOk] at hm
    refine gOps_split (fun h1 => ?_) (fun h1 => ?_)
    all_goals simp -implicitDefEqProofs [h1, h0, h5, h16, h17, h18]
    rotate_left
    · exact hQ2 _ _ (by rw [← hm, h1]; rfl) (by rfl)
    refine gOps_ndec (fun h2 => ?_) (fun h2 => ?_)
    all_goals simp -implicitDefEqProofs [h2, h0, h5, h16, h17, h18]
    · exact hQ2 _ _ (by rw [← hm]; simp; intros; omega) (by rfl)
    refine gOps_ndec (fun h3 => ?_) (fun h3 => ?_)
    all_goals simp -implicitDefEqProofs [h3, h0, h5, h16, h17, h18]
    · exact hQ2 _ _ (by rw [← hm]; simp; intros; omega) (by rfl)
    refine callThen_of (ring_Far base p.id) ?_
    simp -implicitDefEqProofs [h0, h5, h16, h17, h18]
    refine condC_dec (fun h4 => ?_) (fun h4 => ?_)
    all_goals simp -implicitDefEqProofs [h4, h0, h5, h16, h17, h18]
    · exact hQ2 _ _ (by rw [← hm]; simp; intros; omega) (by rfl)
    refine callThen_of (ring_Far base p.id) ?_
    simp -implicitDefEqProofs [h0, h5, h16, h17, h18, wrap_next (show i ≤ 140737488355328 by unfold cap at hl; omega)]
    exact ih (i + 1) _ (far base p.id) hd (by omega) (by simp [h0, h5, h16, h17, h18]) (by simp) (by simp [h0, h5, h16, h17, h18]) (by simp [h0, h5, h16, h17, h18]) (by simp) (by rw [← hm, h1, decide_eq_true (show 0 ≤ p.missed by omega), decide_eq_true (show p.missed < 3 by omega), decide_eq_true (show last < far base p.id by omega)]; rfl)

theorem peers_May (base : Int) (ps : List Peer) (hl : ps.length ≤ cap) : Den PP 67 [.int .i64 base, .sl (ps.map Peer.row) ps.length] [] (.bool (peersMay base ps)) [] := by
  refine den_of [] [] is_peers_May ?_
  simp -implicitDefEqProofs [c_peers_May]
  refine callThen_of (ring_Place base) ?_
  simp -implicitDefEqProofs
  cases hp : place base
  · simp -implicitDefEqProofs [peersMay, hp]
  simp -implicitDefEqProofs
  refine condC_dec (fun h16 => ?_) (fun h16 => ?_)
  · simp -implicitDefEqProofs [peersMay, hp, h16]
    omega
  simp -implicitDefEqProofs
  refine anyLoop_of (ps.length + 1) ?_
  have hm : peersMay base ps = peersOk base 0 ps := by simp [peersMay, hp]; intro _; omega
  rw [hm]
  refine peers_May_loop base ps hl _ (peersOk base 0 ps) (fun fr h => ?_) (fun fr bs h h4 => ?_) ps 0 _ 0 rfl (Nat.zero_le _) rfl rfl rfl rfl rfl rfl
  all_goals simp -implicitDefEqProofs [h]
  simp -implicitDefEqProofs [h4]
end Go.AM
/- AM: contracts: small parts. -/
namespace Go.AM
set_option linter.unusedSimpArgs false
set_option linter.unusedVariables false
set_option maxRecDepth 8000
set_option maxHeartbeats 0
theorem law_Num (a : Int) : Den PP 12 [.int .i64 a] [] (.int .i64 a) [] := by
  refine den_of [] [] is_gimmallaw0_Num ?_
  simp -implicitDefEqProofs [c_gimmallaw0_Num]

theorem ref_PlaceMay (a : Int) : Den PP 26 [.int .i64 a] [] (.bool (place a)) [] := by
  refine den_of [] [] is_gimmalref1_PlaceMay ?_
  simp -implicitDefEqProofs [c_gimmalref1_PlaceMay]
  refine gOps_dec (fun h => ?_) (fun h => ?_) <;> simp -implicitDefEqProofs [h, place]

theorem ref_far (a b : Int) : Den PP 66 [.int .i64 a, .int .i64 b] [] (.int .i64 (far a b)) [] := by
  refine den_of [] [] is_gimmalref1_far ?_
  simp -implicitDefEqProofs [c_gimmalref1_far, far]

theorem cmp_isNaN (a : Int) : Den PP 95 [.int .i64 a] [] (.bool false) [] := by
  refine den_of [] [] is_cmp_isNaN_int ?_
  simp -implicitDefEqProofs [c_cmp_isNaN_int]

theorem cmp_Compare (a b : Int) : Den PP 89 [.int .i64 a, .int .i64 b] [] (.int .i64 (cmpI a b)) [] := by
  refine den_of [] [] is_cmp_Compare_int ?_
  simp -implicitDefEqProofs [c_cmp_Compare_int]
  refine callThen_of (cmp_isNaN a) ?_
  simp -implicitDefEqProofs
  refine callThen_of (cmp_isNaN b) ?_
  simp -implicitDefEqProofs
  refine condC_dec (fun h => ?_) (fun h => ?_) <;> simp -implicitDefEqProofs [h, cmpI]
  refine condC_dec (fun h2 => ?_) (fun h2 => ?_) <;> simp -implicitDefEqProofs [h2]

theorem peers_order_find (base : Int) (p : Peer) (id : Int) : Den PP 86 [.agg [.int .i64 base], .agg p.row, .int .i64 id] [] (.int .i64 (cmpI (far base p.id) (far base id))) [] := by
  refine den_of [] [] is_peers_order_find ?_
  simp -implicitDefEqProofs [c_peers_order_find, Peer.row]
  refine callThen_of (ring_Far base p.id) ?_
  simp -implicitDefEqProofs
  refine callThen_of (ring_Far base id) ?_
  simp -implicitDefEqProofs
  refine callThen_of (cmp_Compare _ _) ?_
  simp -implicitDefEqProofs
end Go.AM
/- AM: contracts: loops over places. -/
namespace Go.AM
set_option linter.unusedSimpArgs false
set_option linter.unusedVariables false
set_option maxRecDepth 8000
set_option maxHeartbeats 0
theorem ring_Places (xs : List Int) (hl : xs.length ≤ cap) : Den PP 37 [intsD xs] [] (.bool (xs.all place)) [] := by
  refine den_of [] [] is_ring_Places ?_
  simp -implicitDefEqProofs [c_ring_Places, intsD]
  refine anyLoop_of (xs.length + 1) ?_
  have key : ∀ (Q : Ex → St → Prop) (r : Bool) (hQ1 : ∀ fr, r = true → Q .normal ⟨fr, []⟩) (hQ2 : ∀ fr bs, r = false → fr 2 = .bool false → Q .ret ⟨fr, bs⟩) (rest : List Int) (i : Nat) (fr : Nat → D), xs.drop i = rest → i ≤ xs.length →
      fr 0 = intsD xs → fr 5 = intsD xs → fr 6 = .int .i64 xs.length → fr 7 = .int .i64 i → rest.all place = r → sLoop (cf 0 [] []) 0 c_ring_Places_L0 (blockQ 0 Q) (rest.length + 1) ⟨fr, []⟩ := by
    intro Q r hQ1 hQ2 rest
    induction rest with
    | nil =>
      intro i fr e hi h0 h5 h6 h7 hm
      refine sLoop_body c_ring_Places_L0.eq_1 ?_
      have hi' := drop_nil e hi
      simp -implicitDefEqProofs [h0, h5, h6, h7, hi']
      exact hQ1 _ hm.symm
    | cons x rest ih =>
      intro i fr e hi h0 h5 h6 h7 hm
      refine sLoop_body c_ring_Places_L0.eq_1 ?_
      obtain ⟨hlt, hget, hd, hlen⟩ := drop_cons e
      have hlt' : (i : Int) < xs.length := by omega
      simp -implicitDefEqProofs [h0, h5, h6, h7, hlt', hget, intsD, irow]
      refine callThen_of (ring_Place x) ?_
      simp -implicitDefEqProofs
      refine condC_not (fun h1 => ?_) (fun h1 => ?_)
      all_goals simp -implicitDefEqProofs [h1, h0, h5, h6, h7, wrap_next (show i ≤ 140737488355328 by unfold cap at hl; omega)]
      · exact ih (i + 1) _ hd (by omega) (by simp [h0, h5, h6, h7, intsD]) (by simp [h0, h5, h6, h7, intsD]) (by simp [h0, h5, h6, h7]) (by simp) (by rw [← hm]; simp [h1])
      · exact hQ2 _ _ (by rw [← hm]; simp [h1]) (by rfl)
  refine key _ (xs.all place) (fun fr h => ?_) (fun fr bs h h2 => ?_) xs 0 _ rfl (Nat.zero_le _) rfl rfl rfl rfl rfl
  · simp -implicitDefEqProofs [h]
  · simp -implicitDefEqProofs [h, h2]

theorem ref_placesMay (xs : List Int) (hl : xs.length ≤ cap) : Den PP 32 [intsD xs] [] (.bool (xs.all place)) [] := by
  refine den_of [] [] is_gimmalref1_placesMay ?_
  simp -implicitDefEqProofs [c_gimmalref1_placesMay, intsD]
  refine anyLoop_of (xs.length + 1) ?_
  have key : ∀ (Q : Ex → St → Prop) (r : Bool) (hQ1 : ∀ fr, r = true → Q .normal ⟨fr, []⟩) (hQ2 : ∀ fr bs, r = false → fr 2 = .bool false → Q .ret ⟨fr, bs⟩) (rest : List Int) (i : Nat) (fr : Nat → D), xs.drop i = rest → i ≤ xs.length →
      fr 0 = .sl (xs.map irow) xs.length → fr 3 = .int .i64 i → rest.all place = r → sLoop (cf 0 [] []) 0 c_gimmalref1_placesMay_L0 (blockQ 0 Q) (rest.length + 1) ⟨fr, []⟩ := by
    intro Q r hQ1 hQ2 rest
    induction rest with
    | nil =>
      intro i fr e hi h0 h3 hm
      refine sLoop_body c_gimmalref1_placesMay_L0.eq_1 ?_
      have hi' := drop_nil e hi
      simp -implicitDefEqProofs [h0, h3, hi']
      exact hQ1 _ hm.symm
    | cons x rest ih =>
      intro i fr e hi h0 h3 hm
      refine sLoop_body c_gimmalref1_placesMay_L0.eq_1 ?_
      obtain ⟨hlt, hget, hd, hlen⟩ := drop_cons e
      have hlt' : (i : Int) < xs.length := by omega
      simp -implicitDefEqProofs [h0, h3, hlt', hget, irow]
      refine callThen_of (ref_PlaceMay x) ?_
      simp -implicitDefEqProofs
      refine condC_not (fun h1 => ?_) (fun h1 => ?_)
      all_goals simp -implicitDefEqProofs [h1, h0, h3, wrap_next (show i ≤ 140737488355328 by unfold cap at hl; omega)]
      · exact ih (i + 1) _ hd (by omega) (by simp [h0, h3, intsD]) (by simp) (by rw [← hm]; simp [h1])
      · exact hQ2 _ _ (by rw [← hm]; simp [h1]) (by rfl)
  refine key _ (xs.all place) (fun fr h => ?_) (fun fr bs h h2 => ?_) xs 0 _ rfl (Nat.zero_le _) rfl rfl rfl
  · simp -implicitDefEqProofs [h]
  · simp -implicitDefEqProofs [h, h2]

theorem passive_May (xs : List Int) (hl : xs.length ≤ cap) : Den PP 68 [intsD xs] [] (.bool (passiveMay xs)) [] := by
  refine den_of [] [] is_passive_May ?_
  simp -implicitDefEqProofs [c_passive_May, intsD]
  refine anyLoop_of (xs.length + 1) ?_
  have key : ∀ (Q : Ex → St → Prop) (r : Bool) (hQ1 : ∀ fr, r = true → fr 0 = .sl (xs.map irow) xs.length → Q .normal ⟨fr, []⟩) (hQ2 : ∀ fr bs, r = false → fr 2 = .bool false → Q .ret ⟨fr, bs⟩) (rest : List Int) (i : Nat) (fr : Nat → D), xs.drop i = rest → i ≤ xs.length →
      fr 0 = .sl (xs.map irow) xs.length → fr 5 = .sl (xs.map irow) xs.length → fr 6 = .int .i64 xs.length → fr 7 = .int .i64 i → ups (if i = 0 then none else xs[i - 1]?) rest = r → sLoop (cf 0 [] []) 0 c_passive_May_L0 (blockQ 0 Q) (rest.length + 1) ⟨fr, []⟩ := by
    intro Q r hQ1 hQ2 rest
    induction rest with
    | nil =>
      intro i fr e hi h0 h5 h6 h7 hm
      refine sLoop_body c_passive_May_L0.eq_1 ?_
      have hi' := drop_nil e hi
      simp -implicitDefEqProofs [h0, h5, h6, h7, hi']
      exact hQ1 _ hm.symm (by simp [h0, h5, h6, h7])
    | cons x rest ih =>
      intro i fr e hi h0 h5 h6 h7 hm
      refine sLoop_body c_passive_May_L0.eq_1 ?_
      obtain ⟨hlt, hget, hd, hlen⟩ := drop_cons e
      have hlt' : (i : Int) < xs.length := by omega
      have hw := wrap_next (show i ≤ 140737488355328 by unfold cap at hl; omega)
      have hprev : (if i + 1 = 0 then none else xs[i + 1 - 1]?) = some x := by simp [hget]
      simp only [ups] at hm
      simp -implicitDefEqProofs [h0, h5, h6, h7, hlt', hget, irow]
      refine callThen_of (ring_Place x) ?_
      simp -implicitDefEqProofs [h0, h5, h6, h7]
      refine gOps_split (fun h1 => ?_) (fun h1 => ?_)
      rotate_left
      · simp -implicitDefEqProofs [h1, h0, h5, h6, h7]
        exact hQ2 _ _ (by rw [← hm]; simp [h1]) (by rfl)
      simp -implicitDefEqProofs [h1, h0, h5, h6, h7]
      by_cases hi0 : i = 0
      · simp -implicitDefEqProofs [hi0, h0, h5, h6, h7]
        simp -implicitDefEqProofs [hi0] at hw
        simp -implicitDefEqProofs [hw]
        refine ih 1 _ (by rw [← hd, hi0]) (by omega) (by simp [h0, h5, h6, h7]) (by simp [h0, h5, h6, h7]) (by simp [h0, h5, h6, h7]) (by simp) ?_
        rw [hi0] at hprev hm
        rw [← hm]
        simp [h1] at hprev ⊢
        rw [hprev]
      · have hpos : 0 < i := by omega
        have hwp : IntKind.wrap .i64 ((i : Int) - 1) = ((i - 1 : Nat) : Int) := by unfold cap at hl; rw [wrap_in (by omega) (by omega)]; omega
        have hlt2 : ((i - 1 : Nat) : Int) < xs.length := by omega
        obtain ⟨y, hy⟩ : ∃ y, xs[i - 1]? = some y := ⟨xs[i - 1], by simp⟩
        rw [if_neg hi0, hy] at hm
        simp -implicitDefEqProofs [hpos, h0, h5, h6, h7, hwp, hlt2, hy, irow]
        refine condC_dec (fun h2 => ?_) (fun h2 => ?_)
        all_goals simp -implicitDefEqProofs [h2, h0, h5, h6, h7, hw]
        · exact hQ2 _ _ (by rw [← hm]; simp; intros; omega) (by rfl)
        · refine ih (i + 1) _ hd (by omega) (by simp [h0, h5, h6, h7]) (by simp [h0, h5, h6, h7]) (by simp [h0, h5, h6, h7]) (by simp) ?_
          rw [hprev, ← hm, h1]
          simp [show y < x by omega]
  refine key _ (ups none xs) (fun fr h h0 => ?_) (fun fr bs h h2 => ?_) xs 0 _ rfl (Nat.zero_le _) rfl rfl rfl rfl rfl
  · simp -implicitDefEqProofs [h, h0, passiveMay]
    omega
  · simp -implicitDefEqProofs [h, h2, passiveMay]

def TellsI (f : Nat) (caps : List D) (p : Int → Bool) (xs : List Int) : Prop := (∀ bs, caps.map (D.freeze bs) = caps) ∧ (∀ fr fp, mapRL fr fp caps = caps) ∧ ∀ x ∈ xs, Den PP f (.int .i64 x :: caps) [] (.bool (p x)) []
theorem slices_IndexFunc_int (xs : List Int) (hl : xs.length ≤ cap) (f : Nat) (caps : List D) (p : Int → Bool) (hp : TellsI f caps p xs) : Den PP 82 [intsD xs, .fn f [] caps] [] (.int .i64 (fIdx p 0 xs)) [] := by
  refine den_of [] [] is_slices_IndexFunc_int_int ?_
  simp -implicitDefEqProofs [c_slices_IndexFunc_int_int, intsD]
  refine anyLoop_of (xs.length + 1) ?_
  have key : ∀ (Q : Ex → St → Prop) (r : Int) (hQ1 : ∀ fr, r = -1 → Q .normal ⟨fr, []⟩) (hQ2 : ∀ fr bs, fr 4 = .int .i64 r → Q .ret ⟨fr, bs⟩) (rest : List Int) (i : Nat) (fr : Nat → D), xs.drop i = rest → i ≤ xs.length →
      fr 0 = .sl (xs.map irow) xs.length → fr 1 = .fn f [] caps → fr 7 = .int .i64 xs.length → fr 8 = .int .i64 i → fIdx p i rest = r → sLoop (cf 0 [] []) 0 c_slices_IndexFunc_int_int_L0 (blockQ 0 Q) (rest.length + 1) ⟨fr, []⟩ := by
    intro Q r hQ1 hQ2 rest
    induction rest with
    | nil =>
      intro i fr e hi h0 h1 h7 h8 hm
      refine sLoop_body c_slices_IndexFunc_int_int_L0.eq_1 ?_
      have hi' := drop_nil e hi
      simp -implicitDefEqProofs [h0, h1, h7, h8, hi']
      exact hQ1 _ hm.symm
    | cons x rest ih =>
      intro i fr e hi h0 h1 h7 h8 hm
      refine sLoop_body c_slices_IndexFunc_int_int_L0.eq_1 ?_
      obtain ⟨hlt, hget, hd, hlen⟩ := drop_cons e
      have hlt' : (i : Int) < xs.length := by omega
      have hw := wrap_next (show i ≤ 140737488355328 by unfold cap at hl; omega)
      simp -implicitDefEqProofs [h0, h1, h7, h8, hlt', hget, irow, hp.1]
      refine callThen_of (hp.2.2 x (List.mem_of_getElem? hget)) ?_
      simp only [fIdx] at hm
      simp -implicitDefEqProofs
      refine condC_split (fun h2 => ?_) (fun h2 => ?_)
      all_goals simp -implicitDefEqProofs [h2, h0, h1, h7, h8, hw]
      · exact hQ2 _ _ (by rw [← hm, h2]; simp)
      · exact ih (i + 1) _ hd (by omega) (by simp [h0, h1, h7, h8]) (by simp [h0, h1, h7, h8, hp.2.1]) (by simp [h0, h1, h7, h8]) (by simp) (by rw [← hm, h2]; simp)
  refine key _ (fIdx p 0 xs) (fun fr h => ?_) (fun fr bs h => ?_) xs 0 _ rfl (Nat.zero_le _) rfl rfl rfl rfl rfl
  · simp -implicitDefEqProofs [h]
  · simp -implicitDefEqProofs [h]

theorem slices_ContainsFunc_int (xs : List Int) (hl : xs.length ≤ cap) (f : Nat) (caps : List D) (p : Int → Bool) (hp : TellsI f caps p xs) : Den PP 70 [intsD xs, .fn f [] caps] [] (.bool (xs.any p)) [] := by
  refine den_of [] [] is_slices_ContainsFunc_int_int ?_
  simp -implicitDefEqProofs [c_slices_ContainsFunc_int_int, intsD, hp.2.1]
  refine callThen_of (slices_IndexFunc_int xs hl f caps p hp) ?_
  have := fIdx_any p xs 0
  simp -implicitDefEqProofs [← this]

theorem bsearch_Peer (base : Int) (ps : List Peer) (id : Int) (hl : ps.length ≤ cap) (at_ : Nat) (hat : at_ ≤ ps.length)
    (hlo : ∀ i p, i < at_ → ps[i]? = some p → far base p.id < far base id) (hhi : ∀ i p, at_ ≤ i → ps[i]? = some p → far base id ≤ far base p.id) :
    Den PP 87 [peersD ps, .int .i64 id, .fn 86 [.agg [.int .i64 base]] []] [] (.tup [.int .i64 at_, .bool (isFar base id ps[at_]?)]) [] := by
  refine den_of [] [] is_slices_BinarySearchFunc_api_Peer_api_Peer_int ?_
  simp -implicitDefEqProofs [c_slices_BinarySearchFunc_api_Peer_api_Peer_int, peersD]
  refine anyLoop_of (ps.length + 1) ?_
  have key : ∀ (Q : Ex → St → Prop) (hQ1 : ∀ fr, fr 0 = .sl (ps.map Peer.row) ps.length → fr 1 = .int .i64 id → fr 2 = .fn 86 [.agg [.int .i64 base]] [] → fr 8 = .int .i64 ps.length → fr 9 = .int .i64 at_ → Q .normal ⟨fr, []⟩) (d lo hi : Nat) (fr : Nat → D), hi - lo ≤ d → lo ≤ at_ → at_ ≤ hi → hi ≤ ps.length →
      fr 0 = .sl (ps.map Peer.row) ps.length → fr 1 = .int .i64 id → fr 2 = .fn 86 [.agg [.int .i64 base]] [] → fr 8 = .int .i64 ps.length → fr 9 = .int .i64 lo → fr 10 = .int .i64 hi → sLoop (cf 0 [] []) 0 c_slices_BinarySearchFunc_api_Peer_api_Peer_int_L0 (blockQ 0 Q) (d + 1) ⟨fr, []⟩ := by
    intro Q hQ1 d
    induction d with
    | zero =>
      intro lo hi fr hd h3 h4 h5 h0 h1 h2 h8 h9 h10
      refine sLoop_body c_slices_BinarySearchFunc_api_Peer_api_Peer_int_L0.eq_1 ?_
      have e1 : lo = at_ := by omega
      have e2 : hi = at_ := by omega
      simp -implicitDefEqProofs [h0, h1, h2, h8, h9, h10, e1, e2]
      exact hQ1 _ (by simp [h0, h1, h2, h8, h9, h10]) (by simp [h0, h1, h2, h8, h9, h10]) (by simp [h0, h1, h2, h8, h9, h10]) (by simp [h0, h1, h2, h8, h9, h10]) (by simp [h0, h1, h2, h8, h9, h10, e1])
    | succ d ih =>
      intro lo hi fr hd h3 h4 h5 h0 h1 h2 h8 h9 h10
      refine sLoop_body c_slices_BinarySearchFunc_api_Peer_api_Peer_int_L0.eq_1 ?_
      by_cases hlt : lo < hi
      · have hlt' : (lo : Int) < hi := by omega
        have hm := mid_eq (lo := lo) (hi := hi) (by omega) (by omega)
        have hml : (lo + hi) / 2 < ps.length := by omega
        have hml' : (((lo + hi) / 2 : Nat) : Int) < ps.length := by omega
        have hw := wrap_next (n := (lo + hi) / 2) (by unfold cap at hl; omega)
        have hb1 : lo ≤ (lo + hi) / 2 := by omega
        have hb2 : (lo + hi) / 2 < hi := by omega
        generalize (lo + hi) / 2 = mid at *
        simp -implicitDefEqProofs [h0, h1, h2, h8, h9, h10, hlt', hlt, hm, hml, hml', Peer.row]
        refine callThen_of (peers_order_find base ps[mid] id) ?_
        simp -implicitDefEqProofs [cmpI_neg]
        refine condC_dec (fun hc => ?_) (fun hc => ?_)
        all_goals simp -implicitDefEqProofs [h0, h1, h2, h8, h9, h10, hc, hw]
        · have : mid < at_ := by
            apply Classical.byContradiction
            intro hx
            have := hhi mid ps[mid] (by omega) (by simp)
            omega
          refine ih (mid + 1) hi _ (by omega) (by omega) (by omega) (by omega) (by simp [h0, h1, h2, h8, h9, h10]) (by simp [h0, h1, h2, h8, h9, h10]) (by simp [h0, h1, h2, h8, h9, h10]) (by simp [h0, h1, h2, h8, h9, h10]) (by simp) (by simp [h0, h1, h2, h8, h9, h10])
        · have : at_ ≤ mid := by
            apply Classical.byContradiction
            intro hx
            have := hlo mid ps[mid] (by omega) (by simp)
            omega
          refine ih lo mid _ (by omega) (by omega) (by omega) (by omega) (by simp [h0, h1, h2, h8, h9, h10]) (by simp [h0, h1, h2, h8, h9, h10]) (by simp [h0, h1, h2, h8, h9, h10]) (by simp [h0, h1, h2, h8, h9, h10]) (by simp [h0, h1, h2, h8, h9, h10]) (by simp)
      · have e1 : lo = at_ := by omega
        have e2 : hi = at_ := by omega
        simp -implicitDefEqProofs [h0, h1, h2, h8, h9, h10, e1, e2]
        exact hQ1 _ (by simp [h0, h1, h2, h8, h9, h10]) (by simp [h0, h1, h2, h8, h9, h10]) (by simp [h0, h1, h2, h8, h9, h10]) (by simp [h0, h1, h2, h8, h9, h10]) (by simp [h0, h1, h2, h8, h9, h10, e1])
  refine key _ (fun fr h0 h1 h2 h8 h9 => ?_) ps.length 0 ps.length _ (by omega) (by omega) hat (Nat.le_refl _) rfl rfl rfl rfl rfl rfl
  simp -implicitDefEqProofs [h0, h1, h2, h8, h9]
  refine gOps_dec (fun hc => ?_) (fun hc => ?_)
  · simp -implicitDefEqProofs [h0, h1, h2, h8, h9, hc, Peer.row]
    refine callThen_of (peers_order_find base ps[at_] id) ?_
    simp -implicitDefEqProofs [cmpI_beq, cmpI_zero, hc, isFar]
  · have hp : ps[at_]? = none := by rw [List.getElem?_eq_none]; omega
    simp -implicitDefEqProofs [h0, h1, h2, h8, h9, hc, hp, isFar]

theorem peers_Find (base : Int) (ps : List Peer) (id : Int) (hl : ps.length ≤ cap) (hr : Rowed base ps) :
    Den PP 75 [.int .i64 base, peersD ps, .int .i64 id] [] (.tup [.int .i64 (findAt base ps id), .bool (peerIs base ps id)]) [] := by
  refine den_of [] [] is_peers_Find ?_
  simp -implicitDefEqProofs [c_peers_Find, peersD]
  refine callThen_of (bsearch_Peer base ps id hl (findAt base ps id) (findAt_le _ _ _) findAt_lo (findAt_hi hr)) ?_
  simp -implicitDefEqProofs [peerIs]

theorem view_Peer (v : View) (id : Int) (hl : v.peers.length ≤ cap) (hr : Rowed v.id v.peers) : Den PP 60 [.mem v.cells, .int .i64 id] [] (.bool (peerIs v.id v.peers id)) [] := by
  refine den_of [] [] is_view_Peer ?_
  simp -implicitDefEqProofs [c_view_Peer, View.cells, peersD]
  refine callThen_of (peers_Find v.id v.peers id hl hr) ?_
  simp -implicitDefEqProofs

theorem view_May_1 (v : View) (id : Int) (hl : v.peers.length ≤ cap) (hr : Rowed v.id v.peers) : Den PP 69 [.int .i64 id, .mem v.cells] [] (.bool (oddIn v id)) [] := by
  refine den_of [] [] is_view_May_1 ?_
  simp -implicitDefEqProofs [c_view_May_1, View.cells, peersD]
  refine gOps_not (fun h => ?_) (fun h => ?_) <;> simp -implicitDefEqProofs [h, oddIn]
  refine callThen_of (view_Peer v id hl hr) ?_
  simp -implicitDefEqProofs

theorem view_May (v : View) (hs : v.small) : Den PP 51 [viewD v] [] (.bool (viewMay v)) [] := by
  refine den_of [] [] is_view_May ?_
  simp -implicitDefEqProofs [c_view_May, viewD, View.cells, peersD, intsD]
  refine callThen_of (peers_May v.id v.peers (cap_of hs.1)) ?_
  simp -implicitDefEqProofs
  refine gOps_split (fun h1 => ?_) (fun h1 => ?_)
  rotate_left
  · simp -implicitDefEqProofs [h1, viewMay]
  simp -implicitDefEqProofs [h1]
  refine callThen_of (passive_May v.passive hs.2) ?_
  simp -implicitDefEqProofs
  refine gOps_split (fun h2 => ?_) (fun h2 => ?_)
  rotate_left
  · simp -implicitDefEqProofs [h2, h1, viewMay]
  have hw : IntKind.wrap .i64 ((v.peers.length : Int) + v.passive.length) = v.peers.length + v.passive.length := by
    obtain ⟨a, b⟩ := hs
    unfold cap16 at a
    unfold cap at b
    exact wrap_in (by omega) (by omega)
  simp -implicitDefEqProofs [h2, hw]
  refine condC_dec (fun h3 => ?_) (fun h3 => ?_)
  · simp -implicitDefEqProofs [h3, viewMay]
    intros
    omega
  simp -implicitDefEqProofs [h3]
  refine callThen_of (slices_ContainsFunc_int v.passive hs.2 _ _ (oddIn v) ⟨fun bs => rfl, fun fr fp => rfl, fun x _ => view_May_1 v x (cap_of hs.1) (peersMay_rowed h1)⟩) ?_
  simp -implicitDefEqProofs [viewMay, h1, h2]
  intros
  omega
end Go.AM
/- AM: contracts: a view's ends. -/
namespace Go.AM
set_option linter.unusedSimpArgs false
set_option linter.unusedVariables false
set_option maxRecDepth 8000
set_option maxHeartbeats 0
theorem ref_Names (ps : List Peer) (hl : ps.length ≤ cap16) : Den PP 18 [peersD ps] [] (.ref 0 0 ps.length) [⟨ps.map fun p => irow p.id, 1, .mut⟩] := by
  refine den_of [] [] is_gimmalref1_Names ?_
  simp -implicitDefEqProofs [c_gimmalref1_Names, peersD]
  refine anyLoop_of (ps.length + 1) ?_
  have key : ∀ (Q : Ex → St → Prop) (hQ1 : ∀ fr, fr 3 = .ref 1 0 ps.length → Q .normal ⟨fr, [⟨[], 1, .mut⟩, ⟨ps.map fun p => irow p.id, 1, .mut⟩]⟩) (rest : List Peer) (i : Nat) (fr : Nat → D), ps.drop i = rest → i ≤ ps.length →
      fr 3 = .ref 1 0 i → fr 0 = .sl (ps.map Peer.row) ps.length → fr 4 = .int .i64 i → sLoop (cf 0 [] []) 2 c_gimmalref1_Names_L0 (blockQ 0 Q) (rest.length + 1) ⟨fr, [⟨[], 1, .mut⟩, ⟨(ps.map fun p => irow p.id).take i, 1, .mut⟩]⟩ := by
    intro Q hQ1 rest
    induction rest with
    | nil =>
      intro i fr e hi h3 h0 h4
      refine sLoop_body c_gimmalref1_Names_L0.eq_1 ?_
      have hi' := drop_nil e hi
      have hall : (ps.map fun p => irow p.id).take ps.length = ps.map fun p => irow p.id := List.take_of_length_le (by simp)
      simp -implicitDefEqProofs [h0, h3, h4, hi', hall]
      exact hQ1 _ (by simp [h0, h3, h4, hi'])
    | cons p rest ih =>
      intro i fr e hi h3 h0 h4
      refine sLoop_body c_gimmalref1_Names_L0.eq_1 ?_
      obtain ⟨hlt, hget, hd, hlen⟩ := drop_cons e
      have hlt' : (i : Int) < ps.length := by omega
      have hw := wrap_next (n := i) (by unfold cap16 at hl; omega)
      have hb1 : (i + 1) * 8 ≤ 140737488355328 := by unfold cap16 at hl; omega
      have hb2 : i ≤ 9223372036854775806 := by unfold cap16 at hl; omega
      have hmin : min i ps.length = i := Nat.min_eq_left hi
      have htk : (ps.map fun p => irow p.id).take (i + 1) = (ps.map fun p => irow p.id).take i ++ [[.int .i64 p.id]] := by
        rw [List.take_add_one, List.getElem?_map, hget]
        rfl
      have := ih (i + 1)
      rw [htk] at this
      simp -implicitDefEqProofs [h0, h3, h4, hlt', hget, Peer.row, hw, hb1, hb2, hmin, Fits]
      exact this _ hd (by omega) (by simp [h0, h3, h4]) (by simp [h0, h3, h4]) (by simp)
  refine key _ (fun fr h3 => ?_) ps 0 _ rfl (Nat.zero_le _) rfl rfl rfl
  simp -implicitDefEqProofs [h3]

theorem ref_has (xs : List Int) (x : Int) (hl : xs.length ≤ cap) : Den PP 46 [intsD xs, .int .i64 x] [] (.bool (xs.contains x)) [] := by
  refine den_of [] [] is_gimmalref1_has ?_
  simp -implicitDefEqProofs [c_gimmalref1_has, intsD]
  refine anyLoop_of (xs.length + 1) ?_
  have key : ∀ (Q : Ex → St → Prop) (r : Bool) (hQ1 : ∀ fr, r = false → Q .normal ⟨fr, []⟩) (hQ2 : ∀ fr bs, r = true → fr 4 = .bool true → Q .ret ⟨fr, bs⟩) (rest : List Int) (i : Nat) (fr : Nat → D), xs.drop i = rest → i ≤ xs.length →
      fr 0 = .sl (xs.map irow) xs.length → fr 1 = .int .i64 x → fr 5 = .int .i64 i → rest.contains x = r → sLoop (cf 0 [] []) 0 c_gimmalref1_has_L0 (blockQ 0 Q) (rest.length + 1) ⟨fr, []⟩ := by
    intro Q r hQ1 hQ2 rest
    induction rest with
    | nil =>
      intro i fr e hi h0 h1 h5 hm
      refine sLoop_body c_gimmalref1_has_L0.eq_1 ?_
      have hi' := drop_nil e hi
      simp -implicitDefEqProofs [h0, h1, h5, hi']
      exact hQ1 _ hm.symm
    | cons y rest ih =>
      intro i fr e hi h0 h1 h5 hm
      refine sLoop_body c_gimmalref1_has_L0.eq_1 ?_
      obtain ⟨hlt, hget, hd, hlen⟩ := drop_cons e
      have hlt' : (i : Int) < xs.length := by omega
      have hw := wrap_next (n := i) (by unfold cap at hl; omega)
      simp -implicitDefEqProofs [h0, h1, h5, hlt', hget, irow]
      refine condC_split (fun h2 => ?_) (fun h2 => ?_)
      all_goals simp -implicitDefEqProofs [h2, h0, h1, h5, hw]
      · exact hQ2 _ _ (by rw [← hm]; simp at h2; simp [h2]) (by rfl)
      · exact ih (i + 1) _ hd (by omega) (by simp [h0, h1, h5]) (by simp [h0, h1, h5]) (by simp) (by rw [← hm]; simp at h2; simp [Ne.symm h2])
  refine key _ (xs.contains x) (fun fr h => ?_) (fun fr bs h h2 => ?_) xs 0 _ rfl (Nat.zero_le _) rfl rfl rfl rfl
  · simp -implicitDefEqProofs [h]
    simpa using h
  · simp -implicitDefEqProofs [h, h2]
    simpa using h
end Go.AM
