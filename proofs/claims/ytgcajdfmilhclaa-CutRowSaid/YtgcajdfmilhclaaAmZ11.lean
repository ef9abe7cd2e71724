/- What the proof of this claim stands on, part 11. -/
import Derived.Test.YtgcajdfmilhclaaAmZ10
/- AM: this seat's functions in short. -/
namespace Go.AM
set_option linter.unusedSimpArgs false
set_option linter.unusedVariables false
def c_slices_BinarySearchFunc_api_Cut_api_Cut_api_Cut_L0 : SC := (.seq (.seq (.ops [⟨some 15, (Op.move (Operand.tmp 9)), 3, none⟩,
    ⟨some 16, (Op.move (Operand.tmp 10)), 3, none⟩,
    ⟨some 17, (Op.binOp BinOp.lss 3 (Operand.tmp 15) (Operand.tmp 16) 3), 4, none⟩]) (.cond (Operand.tmp 17) .skip (.exit 0))) (.block 1 (.seq (.ops [⟨some 18, (Op.move (Operand.tmp 9)), 3, none⟩,
    ⟨some 19, (Op.move (Operand.tmp 10)), 3, none⟩,
    ⟨some 20, (Op.binOp BinOp.add 3 (Operand.tmp 18) (Operand.tmp 19) 3), 3, none⟩,
    ⟨some 21, (Op.convert 3 44 (Operand.tmp 20)), 44, none⟩,
    ⟨some 22, (Op.binOp BinOp.shr 44 (Operand.tmp 21) (Operand.const (Value.int IntKind.u64 1)) 44), 44, none⟩,
    ⟨some 23, (Op.convert 44 3 (Operand.tmp 22)), 3, none⟩,
    ⟨some 11, (Op.assign (Operand.tmp 23)), 3, none⟩]) (.seq (.ops [⟨some 24, (Op.move (Operand.tmp 2)), 85, none⟩,
    ⟨some 25, (Op.move (Operand.tmp 0)), 48, none⟩,
    ⟨some 26, (Op.move (Operand.tmp 11)), 3, none⟩,
    ⟨some 27, (Op.indexAddr 48 (Operand.tmp 25) (Operand.tmp 26)), 0, none⟩,
    ⟨some 28, (Op.load 63 (Operand.tmp 27)), 63, none⟩,
    ⟨some 29, (Op.load 63 (Operand.tmp 4)), 63, none⟩,
    ⟨some 30, (Op.call ⟨(Callee.value (Operand.tmp 24)), #[(Operand.tmp 28), (Operand.tmp 29)], #[63, 63]⟩), 3, none⟩,
    ⟨some 31, (Op.binOp BinOp.lss 3 (Operand.tmp 30) (Operand.const (Value.int IntKind.i64 0)) 3), 4, none⟩]) (.cond (Operand.tmp 31) (.ops [⟨some 32, (Op.move (Operand.tmp 11)), 3, none⟩,
    ⟨some 33, (Op.binOp BinOp.add 3 (Operand.tmp 32) (Operand.const (Value.int IntKind.i64 1)) 3), 3, none⟩,
    ⟨some 9, (Op.assign (Operand.tmp 33)), 3, none⟩]) (.ops [⟨some 34, (Op.move (Operand.tmp 11)), 3, none⟩,
    ⟨some 10, (Op.assign (Operand.tmp 34)), 3, none⟩]))))))
def c_slices_BinarySearchFunc_api_Cut_api_Cut_api_Cut : SF := ⟨49, [(ResultVar.tmp 6), (ResultVar.tmp 7)],
  (.seq (.ops [⟨some 4, (Op.box 63 (Operand.tmp 1)), 0, none⟩,
    ⟨some 6, (Op.assign (Operand.const (Value.int IntKind.i64 0))), 3, none⟩,
    ⟨some 7, (Op.assign (Operand.const (Value.bool false))), 4, none⟩]) (.seq (.ops [⟨some 12, (Op.move (Operand.tmp 0)), 48, none⟩,
    ⟨some 13, (Op.call ⟨(Callee.builtin Builtin.len), #[(Operand.tmp 12)], #[48]⟩), 3, none⟩,
    ⟨some 8, (Op.assign (Operand.tmp 13)), 3, none⟩]) (.seq (.ops [⟨some 14, (Op.move (Operand.tmp 8)), 3, none⟩,
    ⟨some 9, (Op.assign (Operand.const (Value.int IntKind.i64 0))), 3, none⟩,
    ⟨some 10, (Op.assign (Operand.tmp 14)), 3, none⟩]) (.seq (.block 0 (.loop c_slices_BinarySearchFunc_api_Cut_api_Cut_api_Cut_L0)) (.seq (.ops [⟨some 35, (Op.move (Operand.tmp 9)), 3, none⟩,
    ⟨some 36, (Op.move (Operand.tmp 9)), 3, none⟩,
    ⟨some 37, (Op.move (Operand.tmp 8)), 3, none⟩,
    ⟨some 38, (Op.binOp BinOp.lss 3 (Operand.tmp 36) (Operand.tmp 37) 3), 4, none⟩,
    ⟨some 39, (Op.move (Operand.tmp 38)), 4, none⟩,
    ⟨some 40, (Op.move (Operand.tmp 2)), 85, some (39, true)⟩,
    ⟨some 41, (Op.move (Operand.tmp 0)), 48, some (39, true)⟩,
    ⟨some 42, (Op.move (Operand.tmp 9)), 3, some (39, true)⟩,
    ⟨some 43, (Op.indexAddr 48 (Operand.tmp 41) (Operand.tmp 42)), 0, some (39, true)⟩,
    ⟨some 44, (Op.load 63 (Operand.tmp 43)), 63, some (39, true)⟩,
    ⟨some 45, (Op.load 63 (Operand.tmp 4)), 63, some (39, true)⟩,
    ⟨some 46, (Op.call ⟨(Callee.value (Operand.tmp 40)), #[(Operand.tmp 44), (Operand.tmp 45)], #[63, 63]⟩), 3, some (39, true)⟩,
    ⟨some 47, (Op.binOp BinOp.eql 3 (Operand.tmp 46) (Operand.const (Value.int IntKind.i64 0)) 3), 4, some (39, true)⟩,
    ⟨some 48, (Op.pick (Operand.tmp 39) (Operand.tmp 47) (Operand.const (Value.bool false))), 4, none⟩,
    ⟨some 6, (Op.assign (Operand.tmp 35)), 3, none⟩,
    ⟨some 7, (Op.assign (Operand.tmp 48)), 4, none⟩]) .ret)))))⟩
theorem is_slices_BinarySearchFunc_api_Cut_api_Cut_api_Cut (c : Cfg) (h : c.lendT = []) : isF PP c 64 c_slices_BinarySearchFunc_api_Cut_api_Cut_api_Cut := isF_of (fn := Proofs.Try.f64) (by kernel_rfl) (by kernel_rfl) rfl h (by kernel_rfl) rfl rfl (by kernel_rfl)
def c_slices_Clone_api_Cut_api_Cut : SF := ⟨8, [(ResultVar.tmp 2)],
  (.seq (.ops [⟨some 2, (Op.assign (Operand.const (Value.slice none 0 0))), 48, none⟩]) (.seq (.seq (.ops [⟨some 3, (Op.move (Operand.tmp 0)), 48, none⟩,
    ⟨some 4, (Op.binOp BinOp.eql 48 (Operand.tmp 3) (Operand.const (Value.slice none 0 0)) 48), 4, none⟩]) (.cond (Operand.tmp 4) (.seq (.ops [⟨some 2, (Op.assign (Operand.const (Value.slice none 0 0))), 48, none⟩]) .ret) .skip)) (.seq (.ops [⟨some 5, (Op.buildSlice 48 0 #[]), 48, none⟩,
    ⟨some 6, (Op.move (Operand.tmp 0)), 48, none⟩,
    ⟨some 7, (Op.call ⟨(Callee.builtin Builtin.append), #[(Operand.tmp 5), (Operand.tmp 6)], #[48, 48]⟩), 48, none⟩,
    ⟨some 2, (Op.assign (Operand.tmp 7)), 48, none⟩]) .ret)))⟩
theorem is_slices_Clone_api_Cut_api_Cut (c : Cfg) (h : c.lendT = []) : isF PP c 65 c_slices_Clone_api_Cut_api_Cut := isF_of (fn := Proofs.Try.f65) (by kernel_rfl) (by kernel_rfl) rfl h (by kernel_rfl) rfl rfl (by kernel_rfl)
def c_slices_rotateRight_api_Cut : SF := ⟨10, [],
  (.ops [⟨some 4, (Op.move (Operand.tmp 0)), 48, none⟩,
    ⟨some 5, (Op.move (Operand.tmp 0)), 48, none⟩,
    ⟨some 6, (Op.call ⟨(Callee.builtin Builtin.len), #[(Operand.tmp 5)], #[48]⟩), 3, none⟩,
    ⟨some 7, (Op.move (Operand.tmp 1)), 3, none⟩,
    ⟨some 8, (Op.binOp BinOp.sub 3 (Operand.tmp 6) (Operand.tmp 7) 3), 3, none⟩,
    ⟨some 9, (Op.call ⟨(Callee.value (Operand.func 72)), #[(Operand.tmp 4), (Operand.tmp 8)], #[48, 3]⟩), 0, none⟩])⟩
theorem is_slices_rotateRight_api_Cut (c : Cfg) (h : c.lendT = []) : isF PP c 67 c_slices_rotateRight_api_Cut := isF_of (fn := Proofs.Try.f67) (by kernel_rfl) (by kernel_rfl) rfl h (by kernel_rfl) rfl rfl (by kernel_rfl)
def c_cmp_Or_int_L0 : SC := (.seq (.ops [⟨some 9, (Op.binOp BinOp.lss 3 (Operand.tmp 8) (Operand.tmp 7) 3), 0, none⟩]) (.seq (.cond (Operand.tmp 9) .skip (.exit 0)) (.seq (.block 1 (.seq (.ops [⟨some 10, (Op.indexAddr 65 (Operand.tmp 6) (Operand.tmp 8)), 0, none⟩,
    ⟨some 11, (Op.load 3 (Operand.tmp 10)), 3, none⟩,
    ⟨some 5, (Op.assign (Operand.tmp 11)), 3, none⟩]) (.seq (.ops [⟨some 12, (Op.move (Operand.tmp 5)), 3, none⟩,
    ⟨some 13, (Op.move (Operand.tmp 3)), 3, none⟩,
    ⟨some 14, (Op.binOp BinOp.neq 3 (Operand.tmp 12) (Operand.tmp 13) 3), 4, none⟩]) (.cond (Operand.tmp 14) (.seq (.ops [⟨some 15, (Op.move (Operand.tmp 5)), 3, none⟩,
    ⟨some 2, (Op.assign (Operand.tmp 15)), 3, none⟩]) .ret) .skip)))) (.ops [⟨some 16, (Op.binOp BinOp.add 3 (Operand.tmp 8) (Operand.const (Value.int IntKind.i64 1)) 3), 3, none⟩,
    ⟨some 8, (Op.move (Operand.tmp 16)), 3, none⟩]))))
def c_cmp_Or_int : SF := ⟨18, [(ResultVar.tmp 2)],
  (.seq (.ops [⟨some 2, (Op.assign (Operand.const (Value.int IntKind.i64 0))), 3, none⟩]) (.seq (.ops [⟨some 3, (Op.assign (Operand.const (Value.int IntKind.i64 0))), 3, none⟩]) (.seq (.seq (.ops [⟨some 6, (Op.move (Operand.tmp 0)), 65, none⟩,
    ⟨some 7, (Op.call ⟨(Callee.builtin Builtin.len), #[(Operand.tmp 6)], #[65]⟩), 3, none⟩,
    ⟨some 8, (Op.move (Operand.const (Value.int IntKind.i64 0))), 3, none⟩]) (.block 0 (.loop c_cmp_Or_int_L0))) (.seq (.ops [⟨some 17, (Op.move (Operand.tmp 3)), 3, none⟩,
    ⟨some 2, (Op.assign (Operand.tmp 17)), 3, none⟩]) .ret))))⟩
theorem is_cmp_Or_int (c : Cfg) (h : c.lendT = []) : isF PP c 68 c_cmp_Or_int := isF_of (fn := Proofs.Try.f68) (by kernel_rfl) (by kernel_rfl) rfl h (by kernel_rfl) rfl rfl (by kernel_rfl)
def c_cmp_isNaN_int : SF := ⟨6, [(ResultVar.tmp 2)],
  (.seq (.ops [⟨some 2, (Op.assign (Operand.const (Value.bool false))), 4, none⟩]) (.seq (.ops [⟨some 3, (Op.move (Operand.tmp 0)), 3, none⟩,
    ⟨some 4, (Op.move (Operand.tmp 0)), 3, none⟩,
    ⟨some 5, (Op.binOp BinOp.neq 3 (Operand.tmp 3) (Operand.tmp 4) 3), 4, none⟩,
    ⟨some 2, (Op.assign (Operand.tmp 5)), 4, none⟩]) .ret))⟩
theorem is_cmp_isNaN_int (c : Cfg) (h : c.lendT = []) : isF PP c 69 c_cmp_isNaN_int := isF_of (fn := Proofs.Try.f69) (by kernel_rfl) (by kernel_rfl) rfl h (by kernel_rfl) rfl rfl (by kernel_rfl)
def c_version_Newer : SF := ⟨33, [(ResultVar.tmp 4), (ResultVar.tmp 5)],
  (.seq (.ops [⟨some 2, (Op.box 24 (Operand.tmp 0)), 0, none⟩,
    ⟨some 3, (Op.box 24 (Operand.tmp 1)), 0, none⟩,
    ⟨some 4, (Op.assign (Operand.const (Value.bool false))), 4, none⟩,
    ⟨some 5, (Op.assign (Operand.const (Value.int IntKind.i64 0))), 28, none⟩]) (.seq (.seq (.ops [⟨some 6, (Op.load 24 (Operand.tmp 2)), 24, none⟩,
    ⟨some 7, (Op.call ⟨(Callee.value (Operand.func 58)), #[(Operand.tmp 6)], #[24]⟩), 4, none⟩,
    ⟨some 8, (Op.unOp UnOp.not 4 (Operand.tmp 7)), 4, none⟩,
    ⟨some 9, (Op.move (Operand.tmp 8)), 4, none⟩,
    ⟨some 10, (Op.load 24 (Operand.tmp 3)), 24, some (9, false)⟩,
    ⟨some 11, (Op.call ⟨(Callee.value (Operand.func 58)), #[(Operand.tmp 10)], #[24]⟩), 4, some (9, false)⟩,
    ⟨some 12, (Op.unOp UnOp.not 4 (Operand.tmp 11)), 4, some (9, false)⟩,
    ⟨some 13, (Op.pick (Operand.tmp 9) (Operand.const (Value.bool true)) (Operand.tmp 12)), 4, none⟩]) (.cond (Operand.tmp 13) (.seq (.ops [⟨some 4, (Op.assign (Operand.const (Value.bool false))), 4, none⟩,
    ⟨some 5, (Op.assign (Operand.const (Value.int IntKind.i64 300))), 28, none⟩]) .ret) .skip)) (.seq (.ops [⟨some 14, (Op.fieldAddr 24 (Operand.tmp 2) 0), 0, none⟩,
    ⟨some 15, (Op.load 3 (Operand.tmp 14)), 3, none⟩,
    ⟨some 16, (Op.fieldAddr 24 (Operand.tmp 3) 0), 0, none⟩,
    ⟨some 17, (Op.load 3 (Operand.tmp 16)), 3, none⟩,
    ⟨some 18, (Op.binOp BinOp.gtr 3 (Operand.tmp 15) (Operand.tmp 17) 3), 4, none⟩,
    ⟨some 19, (Op.move (Operand.tmp 18)), 4, none⟩,
    ⟨some 20, (Op.fieldAddr 24 (Operand.tmp 2) 0), 0, some (19, false)⟩,
    ⟨some 21, (Op.load 3 (Operand.tmp 20)), 3, some (19, false)⟩,
    ⟨some 22, (Op.fieldAddr 24 (Operand.tmp 3) 0), 0, some (19, false)⟩,
    ⟨some 23, (Op.load 3 (Operand.tmp 22)), 3, some (19, false)⟩,
    ⟨some 24, (Op.binOp BinOp.eql 3 (Operand.tmp 21) (Operand.tmp 23) 3), 4, some (19, false)⟩,
    ⟨some 25, (Op.move (Operand.tmp 24)), 4, some (19, false)⟩,
    ⟨some 26, (Op.fieldAddr 24 (Operand.tmp 2) 1), 0, some (25, true)⟩,
    ⟨some 27, (Op.load 3 (Operand.tmp 26)), 3, some (25, true)⟩,
    ⟨some 28, (Op.fieldAddr 24 (Operand.tmp 3) 1), 0, some (25, true)⟩,
    ⟨some 29, (Op.load 3 (Operand.tmp 28)), 3, some (25, true)⟩,
    ⟨some 30, (Op.binOp BinOp.gtr 3 (Operand.tmp 27) (Operand.tmp 29) 3), 4, some (25, true)⟩,
    ⟨some 31, (Op.pick (Operand.tmp 25) (Operand.tmp 30) (Operand.const (Value.bool false))), 4, some (19, false)⟩,
    ⟨some 32, (Op.pick (Operand.tmp 19) (Operand.const (Value.bool true)) (Operand.tmp 31)), 4, none⟩,
    ⟨some 4, (Op.assign (Operand.tmp 32)), 4, none⟩,
    ⟨some 5, (Op.assign (Operand.const (Value.int IntKind.i64 0))), 28, none⟩]) .ret)))⟩
theorem is_version_Newer (c : Cfg) (h : c.lendT = []) : isF PP c 70 c_version_Newer := isF_of (fn := Proofs.Try.f70) (by kernel_rfl) (by kernel_rfl) rfl h (by kernel_rfl) rfl rfl (by kernel_rfl)
def c_slices_rotateLeft_api_Item : SF := ⟨14, [],
  (.seq (.ops [⟨some 4, (Op.move (Operand.tmp 0)), 22, none⟩,
    ⟨some 5, (Op.move (Operand.tmp 1)), 3, none⟩,
    ⟨some 6, (Op.slice 22 (Operand.tmp 4) none (some (Operand.tmp 5)) none), 22, none⟩,
    ⟨some 7, (Op.call ⟨(Callee.value (Operand.func 73)), #[(Operand.tmp 6)], #[22]⟩), 0, none⟩]) (.seq (.ops [⟨some 8, (Op.move (Operand.tmp 0)), 22, none⟩,
    ⟨some 9, (Op.move (Operand.tmp 1)), 3, none⟩,
    ⟨some 10, (Op.slice 22 (Operand.tmp 8) (some (Operand.tmp 9)) none none), 22, none⟩,
    ⟨some 11, (Op.call ⟨(Callee.value (Operand.func 73)), #[(Operand.tmp 10)], #[22]⟩), 0, none⟩]) (.ops [⟨some 12, (Op.move (Operand.tmp 0)), 22, none⟩,
    ⟨some 13, (Op.call ⟨(Callee.value (Operand.func 73)), #[(Operand.tmp 12)], #[22]⟩), 0, none⟩])))⟩
theorem is_slices_rotateLeft_api_Item (c : Cfg) (h : c.lendT = []) : isF PP c 71 c_slices_rotateLeft_api_Item := isF_of (fn := Proofs.Try.f71) (by kernel_rfl) (by kernel_rfl) rfl h (by kernel_rfl) rfl rfl (by kernel_rfl)
def c_slices_rotateLeft_api_Cut : SF := ⟨14, [],
  (.seq (.ops [⟨some 4, (Op.move (Operand.tmp 0)), 48, none⟩,
    ⟨some 5, (Op.move (Operand.tmp 1)), 3, none⟩,
    ⟨some 6, (Op.slice 48 (Operand.tmp 4) none (some (Operand.tmp 5)) none), 48, none⟩,
    ⟨some 7, (Op.call ⟨(Callee.value (Operand.func 74)), #[(Operand.tmp 6)], #[48]⟩), 0, none⟩]) (.seq (.ops [⟨some 8, (Op.move (Operand.tmp 0)), 48, none⟩,
    ⟨some 9, (Op.move (Operand.tmp 1)), 3, none⟩,
    ⟨some 10, (Op.slice 48 (Operand.tmp 8) (some (Operand.tmp 9)) none none), 48, none⟩,
    ⟨some 11, (Op.call ⟨(Callee.value (Operand.func 74)), #[(Operand.tmp 10)], #[48]⟩), 0, none⟩]) (.ops [⟨some 12, (Op.move (Operand.tmp 0)), 48, none⟩,
    ⟨some 13, (Op.call ⟨(Callee.value (Operand.func 74)), #[(Operand.tmp 12)], #[48]⟩), 0, none⟩])))⟩
theorem is_slices_rotateLeft_api_Cut (c : Cfg) (h : c.lendT = []) : isF PP c 72 c_slices_rotateLeft_api_Cut := isF_of (fn := Proofs.Try.f72) (by kernel_rfl) (by kernel_rfl) rfl h (by kernel_rfl) rfl rfl (by kernel_rfl)
def c_slices_Reverse_api_Item_api_Item_L0 : SC := (.seq (.seq (.ops [⟨some 7, (Op.move (Operand.tmp 2)), 3, none⟩,
    ⟨some 8, (Op.move (Operand.tmp 3)), 3, none⟩,
    ⟨some 9, (Op.binOp BinOp.lss 3 (Operand.tmp 7) (Operand.tmp 8) 3), 4, none⟩]) (.cond (Operand.tmp 9) .skip (.exit 0))) (.seq (.block 1 (.ops [⟨some 14, (Op.move (Operand.tmp 0)), 22, none⟩,
    ⟨some 15, (Op.move (Operand.tmp 2)), 3, none⟩,
    ⟨some 16, (Op.move (Operand.tmp 0)), 22, none⟩,
    ⟨some 17, (Op.move (Operand.tmp 3)), 3, none⟩,
    ⟨some 18, (Op.move (Operand.tmp 0)), 22, none⟩,
    ⟨some 19, (Op.move (Operand.tmp 3)), 3, none⟩,
    ⟨some 22, (Op.move (Operand.tmp 0)), 22, none⟩,
    ⟨some 23, (Op.move (Operand.tmp 2)), 3, none⟩,
    ⟨some 20, (Op.indexAddr 22 (Operand.tmp 18) (Operand.tmp 19)), 0, none⟩,
    ⟨some 21, (Op.load 26 (Operand.tmp 20)), 26, none⟩,
    ⟨some 24, (Op.indexAddr 22 (Operand.tmp 22) (Operand.tmp 23)), 0, none⟩,
    ⟨some 25, (Op.load 26 (Operand.tmp 24)), 26, none⟩,
    ⟨some 26, (Op.indexAddr 22 (Operand.tmp 14) (Operand.tmp 15)), 0, none⟩,
    ⟨none, (Op.store 26 (Operand.tmp 26) (Operand.tmp 21)), 0, none⟩,
    ⟨some 27, (Op.indexAddr 22 (Operand.tmp 16) (Operand.tmp 17)), 0, none⟩,
    ⟨none, (Op.store 26 (Operand.tmp 27) (Operand.tmp 25)), 0, none⟩])) (.ops [⟨some 10, (Op.move (Operand.tmp 2)), 3, none⟩,
    ⟨some 11, (Op.binOp BinOp.add 3 (Operand.tmp 10) (Operand.const (Value.int IntKind.i64 1)) 3), 3, none⟩,
    ⟨some 12, (Op.move (Operand.tmp 3)), 3, none⟩,
    ⟨some 13, (Op.binOp BinOp.sub 3 (Operand.tmp 12) (Operand.const (Value.int IntKind.i64 1)) 3), 3, none⟩,
    ⟨some 2, (Op.assign (Operand.tmp 11)), 3, none⟩,
    ⟨some 3, (Op.assign (Operand.tmp 13)), 3, none⟩])))
def c_slices_Reverse_api_Item_api_Item : SF := ⟨28, [],
  (.seq (.ops [⟨some 4, (Op.move (Operand.tmp 0)), 22, none⟩,
    ⟨some 5, (Op.call ⟨(Callee.builtin Builtin.len), #[(Operand.tmp 4)], #[22]⟩), 3, none⟩,
    ⟨some 6, (Op.binOp BinOp.sub 3 (Operand.tmp 5) (Operand.const (Value.int IntKind.i64 1)) 3), 3, none⟩,
    ⟨some 2, (Op.assign (Operand.const (Value.int IntKind.i64 0))), 3, none⟩,
    ⟨some 3, (Op.assign (Operand.tmp 6)), 3, none⟩]) (.block 0 (.loop c_slices_Reverse_api_Item_api_Item_L0)))⟩
theorem is_slices_Reverse_api_Item_api_Item (c : Cfg) (h : c.lendT = []) : isF PP c 73 c_slices_Reverse_api_Item_api_Item := isF_of (fn := Proofs.Try.f73) (by kernel_rfl) (by kernel_rfl) rfl h (by kernel_rfl) rfl rfl (by kernel_rfl)
def c_slices_Reverse_api_Cut_api_Cut_L0 : SC := (.seq (.seq (.ops [⟨some 7, (Op.move (Operand.tmp 2)), 3, none⟩,
    ⟨some 8, (Op.move (Operand.tmp 3)), 3, none⟩,
    ⟨some 9, (Op.binOp BinOp.lss 3 (Operand.tmp 7) (Operand.tmp 8) 3), 4, none⟩]) (.cond (Operand.tmp 9) .skip (.exit 0))) (.seq (.block 1 (.ops [⟨some 14, (Op.move (Operand.tmp 0)), 48, none⟩,
    ⟨some 15, (Op.move (Operand.tmp 2)), 3, none⟩,
    ⟨some 16, (Op.move (Operand.tmp 0)), 48, none⟩,
    ⟨some 17, (Op.move (Operand.tmp 3)), 3, none⟩,
    ⟨some 18, (Op.move (Operand.tmp 0)), 48, none⟩,
    ⟨some 19, (Op.move (Operand.tmp 3)), 3, none⟩,
    ⟨some 22, (Op.move (Operand.tmp 0)), 48, none⟩,
    ⟨some 23, (Op.move (Operand.tmp 2)), 3, none⟩,
    ⟨some 20, (Op.indexAddr 48 (Operand.tmp 18) (Operand.tmp 19)), 0, none⟩,
    ⟨some 21, (Op.load 63 (Operand.tmp 20)), 63, none⟩,
    ⟨some 24, (Op.indexAddr 48 (Operand.tmp 22) (Operand.tmp 23)), 0, none⟩,
    ⟨some 25, (Op.load 63 (Operand.tmp 24)), 63, none⟩,
    ⟨some 26, (Op.indexAddr 48 (Operand.tmp 14) (Operand.tmp 15)), 0, none⟩,
    ⟨none, (Op.store 63 (Operand.tmp 26) (Operand.tmp 21)), 0, none⟩,
    ⟨some 27, (Op.indexAddr 48 (Operand.tmp 16) (Operand.tmp 17)), 0, none⟩,
    ⟨none, (Op.store 63 (Operand.tmp 27) (Operand.tmp 25)), 0, none⟩])) (.ops [⟨some 10, (Op.move (Operand.tmp 2)), 3, none⟩,
    ⟨some 11, (Op.binOp BinOp.add 3 (Operand.tmp 10) (Operand.const (Value.int IntKind.i64 1)) 3), 3, none⟩,
    ⟨some 12, (Op.move (Operand.tmp 3)), 3, none⟩,
    ⟨some 13, (Op.binOp BinOp.sub 3 (Operand.tmp 12) (Operand.const (Value.int IntKind.i64 1)) 3), 3, none⟩,
    ⟨some 2, (Op.assign (Operand.tmp 11)), 3, none⟩,
    ⟨some 3, (Op.assign (Operand.tmp 13)), 3, none⟩])))
def c_slices_Reverse_api_Cut_api_Cut : SF := ⟨28, [],
  (.seq (.ops [⟨some 4, (Op.move (Operand.tmp 0)), 48, none⟩,
    ⟨some 5, (Op.call ⟨(Callee.builtin Builtin.len), #[(Operand.tmp 4)], #[48]⟩), 3, none⟩,
    ⟨some 6, (Op.binOp BinOp.sub 3 (Operand.tmp 5) (Operand.const (Value.int IntKind.i64 1)) 3), 3, none⟩,
    ⟨some 2, (Op.assign (Operand.const (Value.int IntKind.i64 0))), 3, none⟩,
    ⟨some 3, (Op.assign (Operand.tmp 6)), 3, none⟩]) (.block 0 (.loop c_slices_Reverse_api_Cut_api_Cut_L0)))⟩
theorem is_slices_Reverse_api_Cut_api_Cut (c : Cfg) (h : c.lendT = []) : isF PP c 74 c_slices_Reverse_api_Cut_api_Cut := isF_of (fn := Proofs.Try.f74) (by kernel_rfl) (by kernel_rfl) rfl h (by kernel_rfl) rfl rfl (by kernel_rfl)
end Go.AM
/- AM: this seat's functions in short, all of them. -/
/- AM: contracts: places, peers. -/
namespace Go.AM
set_option linter.unusedSimpArgs false
set_option linter.unusedVariables false
set_option maxRecDepth 8000
set_option maxHeartbeats 0
theorem ring_Place (a : Int) : Den PP 55 [.int .i64 a] [] (.bool (place a)) [] := by
  refine den_of [] [] is_ring_Place ?_
  simp -implicitDefEqProofs [c_ring_Place]
  refine gOps_dec (fun h => ?_) (fun h => ?_) <;> simp -implicitDefEqProofs [h, place]
end Go.AM
/- AM: contracts: small parts. -/
namespace Go.AM
set_option linter.unusedSimpArgs false
set_option linter.unusedVariables false
set_option maxRecDepth 8000
set_option maxHeartbeats 0
theorem law_Num (a : Int) : Den PP 19 [.int .i64 a] [] (.int .i64 a) [] := by
  refine den_of [] [] is_gimmallaw0_Num ?_
  simp -implicitDefEqProofs [c_gimmallaw0_Num]

theorem ref_PlaceMay (a : Int) : Den PP 54 [.int .i64 a] [] (.bool (place a)) [] := by
  refine den_of [] [] is_gimmalref1_PlaceMay ?_
  simp -implicitDefEqProofs [c_gimmalref1_PlaceMay]
  refine gOps_dec (fun h => ?_) (fun h => ?_) <;> simp -implicitDefEqProofs [h, place]

theorem cmp_isNaN (a : Int) : Den PP 69 [.int .i64 a] [] (.bool false) [] := by
  refine den_of [] [] is_cmp_isNaN_int ?_
  simp -implicitDefEqProofs [c_cmp_isNaN_int]

theorem cmp_Compare (a b : Int) : Den PP 59 [.int .i64 a, .int .i64 b] [] (.int .i64 (cmpI a b)) [] := by
  refine den_of [] [] is_cmp_Compare_int ?_
  simp -implicitDefEqProofs [c_cmp_Compare_int]
  refine callThen_of (cmp_isNaN a) ?_
  simp -implicitDefEqProofs
  refine callThen_of (cmp_isNaN b) ?_
  simp -implicitDefEqProofs
  refine condC_dec (fun h => ?_) (fun h => ?_) <;> simp -implicitDefEqProofs [h, cmpI]
  refine condC_dec (fun h2 => ?_) (fun h2 => ?_) <;> simp -implicitDefEqProofs [h2]
end Go.AM
/- AM: contracts: loops over places. -/
namespace Go.AM
set_option linter.unusedSimpArgs false
set_option linter.unusedVariables false
set_option maxRecDepth 8000
set_option maxHeartbeats 0
end Go.AM
/- AM: contracts: a view's ends. -/
namespace Go.AM
set_option linter.unusedSimpArgs false
set_option linter.unusedVariables false
set_option maxRecDepth 8000
set_option maxHeartbeats 0
end Go.AM
/- AM: what the library's functions over slices step through: slices of own blocks, rows written over others. -/
namespace Go.AM
set_option linter.unusedSimpArgs false
set_option linter.unusedVariables false

section
variable {c : Cfg} {K : St → Prop} {st : St} {dst : Option Nat} {p : Prop} [Decidable p]
theorem overK_if {d : D} {a b : Option St} (hp : p) (h : overK dst d a K) : overK dst d (if p then a else b) K := by rw [if_pos hp]; exact h
theorem appK2_else {a b : Option (D × St)} (hp : ¬ p) (h : appK2 dst b K) : appK2 dst (if p then a else b) K := by rw [if_neg hp]; exact h
theorem overK_else {d : D} {a b : Option St} (hp : ¬ p) (h : overK dst d b K) : overK dst d (if p then a else b) K := by rw [if_neg hp]; exact h
theorem optK_if {a b : Option St} (hp : p) (h : optK a K) : optK (if p then a else b) K := by rw [if_pos hp]; exact h
theorem outK_if {a b : Option Out} (hp : p) (h : outK st dst a K) : outK st dst (if p then a else b) K := by rw [if_pos hp]; exact h
theorem appK_if {e : Nat} {base : D} {a b : Option (List (List D))} (hp : p) (h : appK c dst e base a st K) : appK c dst e base (if p then a else b) st K := by rw [if_pos hp]; exact h
/-- A part of a slice in an own block. -/
theorem outK_slice {T : Tab} {t b off len e : Nat} {lo hi : Option D} {k : Blk} (l h : Nat) (hT : (T t).d = .slice e) (hb : st.bs[b]? = some k) (hlo : boundD 0 lo = some (l : Int)) (hhi : boundD len hi = some (h : Int))
    (h1 : l ≤ h) (h2 : off + h ≤ k.rows.length) (h3 : k.esz = (T e).size) (hne : l = 0 ∨ off + l < k.rows.length) (hK : K (st.put dst (.ref b (off + l) (h - l)))) : outK st dst (sliceD T st.bs t (.ref b off len) lo hi none) K := by
  have : sliceD T st.bs t (.ref b off len) lo hi none = some { d := .ref b (off + l) (h - l) } := by
    unfold sliceD
    rw [hT]
    simp only [hlo, hhi, hb]
    rw [if_pos (by refine ⟨by omega, by omega, by omega, h3⟩)]
    by_cases hl : l = 0
    · subst hl
      simp
    · rw [if_neg (by omega), if_pos (by simp; omega)]
      have : ((h : Int) - l).toNat = h - l := by omega
      simp [this]
  rw [this]
  refine ⟨by simp, ?_⟩
  rw [out_quiet]
  exact hK
/-- A part of a slice whose cells stay. -/
theorem outK_sliceS {T : Tab} {bs : List Blk} {t len e : Nat} {rows : List (List D)} {lo hi : Option D} (l h : Nat) (hT : (T t).d = .slice e) (hlo : boundD 0 lo = some (l : Int)) (hhi : boundD len hi = some (h : Int))
    (h1 : l ≤ h) (h2 : h ≤ rows.length) (h3 : ∀ r ∈ rows, r.length = (T e).size) (hK : K (st.put dst (.sl (rows.drop l) (h - l)))) : outK st dst (sliceD T bs t (.sl rows len) lo hi none) K := by
  have : sliceD T bs t (.sl rows len) lo hi none = some { d := .sl (rows.drop l) (h - l) } := by
    unfold sliceD
    rw [hT]
    simp only [hlo, hhi]
    rw [if_pos (by omega), if_pos h3]
    have : ((h : Int) - l).toNat = h - l := by omega
    simp [this]
  rw [this]
  refine ⟨by simp, ?_⟩
  rw [out_quiet]
  exact hK
/-- The empty part at the end of a block. -/
theorem outK_sliceE {T : Tab} {t b off len e : Nat} {lo hi : Option D} {k : Blk} (l : Nat) (hT : (T t).d = .slice e) (hb : st.bs[b]? = some k) (hlo : boundD 0 lo = some (l : Int)) (hhi : boundD len hi = some (l : Int))
    (h2 : off + l = k.rows.length) (h3 : k.esz = (T e).size) (hl : l ≠ 0) (hK : K (st.put dst (.sl [] 0))) : outK st dst (sliceD T st.bs t (.ref b off len) lo hi none) K := by
  have : sliceD T st.bs t (.ref b off len) lo hi none = some { d := .sl [] 0 } := by
    unfold sliceD
    rw [hT]
    simp only [hlo, hhi, hb]
    rw [if_pos (by refine ⟨by omega, by omega, by omega, h3⟩), if_neg (by omega), if_neg (by simp; omega)]
  rw [this]
  refine ⟨by simp, ?_⟩
  rw [out_quiet]
  exact hK
end

theorem outRows_of {esz j o l : Nat} {k' : Blk} {bs' : List Blk} {R : List (List D)} (hj : bs'[j]? = some k') (hm : k'.kind = .mut) (he : k'.esz = esz) (hl : o + l ≤ k'.rows.length) (hR : R = (k'.rows.drop o).take l) (h0 : j = 0 ∨ 0 < l) : outRows esz (.ref j o l) bs' R :=
  ⟨j, o, l, k', rfl, hj, hm, he, hl, hR, h0⟩

/-- It names no own block. -/
def D.still : D → Bool
  | .int _ _ => true
  | .bool _ => true
  | .nil => true
  | .zs _ => true
  | .sl _ _ => true
  | .mem _ => true
  | .undef => true
  | _ => false
def StillR (rows : List (List D)) : Prop := ∀ r ∈ rows, ∀ d ∈ r, d.still = true
theorem still_rids {d : D} (h : d.still = true) : d.rids = [] := by cases d <;> first | rfl | cases h
theorem still_mapR {d : D} (h : d.still = true) (fr fp : Nat → Nat → Nat → D) : d.mapR fr fp = d := by cases d <;> first | rfl | cases h
theorem still_ridsL : ∀ {r : List D}, (∀ d ∈ r, d.still = true) → ridsL r = [] := by
  intro r
  induction r with
  | nil => intro _; rfl
  | cons d ds ih =>
    intro h
    simp only [ridsL, still_rids (h d (by simp)), ih fun d hd => h d (by simp [hd])]
    rfl
theorem StillR.mapR {rows : List (List D)} (h : StillR rows) (fr fp : Nat → Nat → Nat → D) : rows.map (fun r => r.map (D.mapR fr fp)) = rows := by
  rw [List.map_congr_left (g := id), List.map_id]
  intro r hr
  rw [List.map_congr_left (g := id), List.map_id]
  · rfl
  · intro d hd
    exact still_mapR (h r hr d hd) fr fp
/-- A given block of whatever capacity: the rows that are known, and rows of nothing. -/
theorem gives_of {G : Con} {f esz : Nat} {rows : List (List D)} {rest : List D} {R : List (List D)} (hf : ∀ r ∈ rows, r.length = esz) (hst : StillR rows)
    (h : ∀ fl : List (List D), rows.length ≤ fl.length → (∀ r ∈ fl, r.length = esz) → StillR fl → fl.take rows.length = rows → (∀ i, i < rows.length → fl[i]? = rows[i]?) →
      ∃ r bs', G f (.ref 0 0 rows.length :: rest) [⟨fl, esz, .mut⟩] r bs' ∧ outRows esz r bs' R) : GivesC G f rows esz rest R := by
  intro cp hcp
  refine h _ (by simp) ?_ ?_ (by simp) ?_
  · intro r hr
    rcases List.mem_append.1 hr with h | h
    · exact hf r h
    · rw [(List.mem_replicate.1 h).2]; simp
  · intro r hr d hd
    rcases List.mem_append.1 hr with h | h
    · exact hst r h d hd
    · rw [(List.mem_replicate.1 h).2] at hd
      rw [(List.mem_replicate.1 hd).2]
      rfl
  · intro i hi
    rw [List.getElem?_append_left hi]
theorem StillR.append {a b : List (List D)} (h1 : StillR a) (h2 : StillR b) : StillR (a ++ b) := by
  intro r hr
  rcases List.mem_append.1 hr with h | h
  · exact h1 r h
  · exact h2 r h
theorem StillR.take {a : List (List D)} (h1 : StillR a) (n : Nat) : StillR (a.take n) := fun r hr => h1 r (List.mem_of_mem_take hr)
theorem StillR.drop {a : List (List D)} (h1 : StillR a) (n : Nat) : StillR (a.drop n) := fun r hr => h1 r (List.mem_of_mem_drop hr)
theorem StillR.ovr {a b : List (List D)} (h1 : StillR a) (h2 : StillR b) (p : Nat) : StillR (ovr a p b) := ((h1.take _).append h2).append (h1.drop _)
theorem StillR.set {a : List (List D)} {r : List D} (h1 : StillR a) (h2 : ∀ d ∈ r, d.still = true) (i : Nat) : StillR (a.set i r) := by
  intro x hx
  rcases List.mem_or_eq_of_mem_set hx with h | h
  · exact h1 x h
  · rw [h]; exact h2
theorem StillR.map {α : Type} (f : α → List D) (l : List α) (h : ∀ a ∈ l, ∀ d ∈ f a, d.still = true) : StillR (l.map f) := by
  intro r hr
  obtain ⟨a, ha, rfl⟩ := List.mem_map.1 hr
  exact h a ha
def insL {α : Type} (xs : List α) (i : Nat) (x : α) : List α := xs.take i ++ x :: xs.drop i
theorem insL_map {α β : Type} (f : α → β) (xs : List α) (i : Nat) (x : α) : (insL xs i x).map f = insL (xs.map f) i (f x) := by simp [insL, List.map_take, List.map_drop]
theorem insL_get {α : Type} {xs : List α} {i : Nat} {x : α} (hi : i ≤ xs.length) (j : Nat) : (insL xs i x)[j]? = if j < i then xs[j]? else if j = i then some x else xs[j - 1]? := by
  unfold insL
  have hl : (xs.take i).length = i := by simp; omega
  by_cases h1 : j < i
  · rw [if_pos h1, List.getElem?_append_left (by omega), List.getElem?_take_of_lt h1]
  · rw [if_neg h1, List.getElem?_append_right (by omega), hl]
    by_cases h2 : j = i
    · subst h2; simp
    · rw [if_neg h2]
      obtain ⟨m, hm⟩ : ∃ m, j - i = m + 1 := ⟨j - i - 1, by omega⟩
      rw [hm, List.getElem?_cons_succ, List.getElem?_drop]
      congr 1
      omega
@[simp] theorem insL_length {α : Type} (xs : List α) (i : Nat) (x : α) : (insL xs i x).length = xs.length + 1 := by simp [insL]; omega
@[simp] theorem fits_rep {esz m : Nat} {z : List D} : Fits esz (List.replicate m z) = (m = 0 ∨ (z.length = esz ∧ z.all D.isCell = true)) := by
  apply propext
  constructor
  · intro h
    by_cases hm : m = 0
    · exact .inl hm
    · exact .inr (h z (by simp [hm]))
  · rintro (rfl | h) r hr
    · simp at hr
    · rw [(List.mem_replicate.1 hr).2]; exact h
theorem StillR.sweep {rows : List (List D)} (h : StillR rows) (S : Nat → Bool) : rows.map (fun r => r.map (D.sweep S)) = rows := h.mapR _ _
theorem lent_still {bs : List Blk} (h : ∀ k ∈ bs, StillR k.rows) : lentRids bs = [] ∧ ∀ fr fp, bs.map (Blk.mapR fr fp) = bs := by
  constructor
  · unfold lentRids
    rw [List.flatMap_eq_nil_iff]
    intro k hk
    rw [List.flatMap_eq_nil_iff]
    intro r hr
    exact still_ridsL fun d hd => h k hk r hr d hd
  · intro fr fp
    rw [List.map_congr_left (g := id), List.map_id]
    intro k hk
    show { k with rows := _ } = k
    have := (h k hk).mapR fr fp
    rw [this]
theorem leave_lent {n0 b o l : Nat} {st : St} (hb : b < n0) (h : ∀ k ∈ st.bs.take n0, StillR k.rows) : leave n0 st (.ref b o l) = some (.ref b o l, st.bs.take n0) := by
  obtain ⟨h1, h2⟩ := lent_still h
  unfold leave
  simp only [D.rids, h1, List.append_nil]
  have : [b].filter (fun b => decide (n0 ≤ b)) = [] := by simp; omega
  rw [this]
  simp [expRef, hb, h2]
theorem leave_new {n0 b o l : Nat} {st : St} {k : Blk} (hb : n0 ≤ b) (hk : st.bs[b]? = some k) (hbox : k.kind.isBox = false) (h : ∀ k ∈ st.bs.take n0, StillR k.rows) : leave n0 st (.ref b o l) = some (.ref n0 o l, st.bs.take n0 ++ [k]) := by
  obtain ⟨h1, h2⟩ := lent_still h
  unfold leave
  simp only [D.rids, h1, List.append_nil]
  have : [b].filter (fun b => decide (n0 ≤ b)) = [b] := by simp; omega
  rw [this]
  have hnb : ¬ b < n0 := by omega
  have hnk : k.kind ≠ .box ∧ k.kind ≠ .ibox := by
    constructor <;> (intro h; rw [h] at hbox; cases hbox)
  simp [expRef, hnb, h2, hk]
  cases hkk : k.kind <;> simp [hkk] at hnk ⊢
section
variable {rows fl : List (List D)} {v : List D} {at_ n : Nat}
theorem ins_get (hn : rows.length = n) (hat : at_ ≤ n) (hfl : n ≤ fl.length) (htake : fl.take n = rows) (i : Nat) : (insL rows at_ v)[i]? = if i < at_ then fl[i]? else if i = at_ then some v else if i ≤ n then fl[i - 1]? else none := by
  rw [insL_get (by omega)]
  have hr : ∀ j, rows[j]? = if j < n then fl[j]? else none := by
    intro j
    rw [← htake, List.getElem?_take]
  rw [hr, hr]
  by_cases h1 : i < at_
  · rw [if_pos h1, if_pos h1, if_pos (by omega)]
  · rw [if_neg h1, if_neg h1]
    by_cases h2 : i = at_
    · rw [if_pos h2, if_pos h2]
    · rw [if_neg h2, if_neg h2]
      by_cases h3 : i ≤ n
      · rw [if_pos h3, if_pos (by omega)]
      · rw [if_neg h3, if_neg (by omega)]
theorem ins_rows1 (hn : rows.length = n) (hfl : n + 1 ≤ fl.length) (htake : fl.take n = rows) : insL rows n v = ((ovr fl n [v]).drop 0).take (n + 1) := by
  apply List.ext_getElem?
  intro i
  rw [ins_get hn (Nat.le_refl _) (by omega) htake, List.drop_zero, List.getElem?_take, ovr_get (by simpa using hfl)]
  simp only [List.length_singleton]
  by_cases h1 : i < n
  · rw [if_pos h1, if_pos (by omega), if_pos h1]
  · rw [if_neg h1]
    by_cases h2 : i = n
    · subst h2; simp
    · rw [if_neg h2, if_neg (by omega), if_neg (by omega)]
theorem ins_rows2 (hn : rows.length = n) (htake : fl.take n = rows) : insL rows n v = ((fl.take n ++ [v]).drop 0).take (n + 1) := by
  rw [htake, List.drop_zero, List.take_of_length_le (by simp; omega)]
  simp [insL, ← hn]
theorem ins_rowsC (hn : rows.length = n) (hat : at_ < n) (hfl : n + 1 ≤ fl.length) (htake : fl.take n = rows) :
    insL rows at_ v = ((ovr (ovr fl (at_ + 1) ((fl.drop at_).take (n - at_))) at_ [v]).drop 0).take (n + 1) := by
  have hl : ((fl.drop at_).take (n - at_)).length = n - at_ := by simp; omega
  have hl2 := ovr_length (rows := fl) (p := at_ + 1) (ys := (fl.drop at_).take (n - at_)) (by omega)
  apply List.ext_getElem?
  intro i
  rw [ins_get hn (by omega) (by omega) htake, List.drop_zero, List.getElem?_take, ovr_get (by simp; omega), ovr_get (by omega)]
  simp only [List.length_singleton, hl]
  by_cases h1 : i < at_
  · rw [if_pos h1, if_pos (by omega), if_pos h1, if_pos (by omega)]
  · rw [if_neg h1]
    by_cases h2 : i = at_
    · subst h2; simp; omega
    · rw [if_neg h2]
      by_cases h3 : i ≤ n
      · rw [if_pos h3, if_pos (by omega), if_neg h1, if_neg (by omega), if_neg (by omega), if_pos (by omega), List.getElem?_take_of_lt (by omega), List.getElem?_drop]
        congr 1
        omega
      · rw [if_neg h3, if_neg (by omega)]
theorem ins_rowsB {z : List D} (hn : rows.length = n) (hat : at_ < n) (hfl : fl.length = n) (htake : fl.take n = rows) :
    insL rows at_ v = ((ovr (ovr (fl.take at_ ++ List.replicate (n + 1 - at_) z) at_ [v]) (at_ + 1) ((fl.drop at_).take (n - at_))).drop 0).take (n + 1) := by
  have hl : ((fl.drop at_).take (n - at_)).length = n - at_ := by simp; omega
  have hl0 : (fl.take at_ ++ List.replicate (n + 1 - at_) z).length = n + 1 := by simp; omega
  have hl2 := ovr_length (rows := fl.take at_ ++ List.replicate (n + 1 - at_) z) (p := at_) (ys := [v]) (by rw [hl0]; simp; omega)
  apply List.ext_getElem?
  intro i
  rw [ins_get hn (by omega) (by omega) htake, List.drop_zero, List.getElem?_take, ovr_get (by rw [hl2, hl0]; omega), ovr_get (by rw [hl0]; simp; omega)]
  simp only [List.length_singleton, hl]
  by_cases h1 : i < at_
  · rw [if_pos h1, if_pos (by omega), if_pos (by omega), if_pos h1, List.getElem?_append_left (by simp; omega), List.getElem?_take_of_lt h1]
  · rw [if_neg h1]
    by_cases h2 : i = at_
    · subst h2; simp; omega
    · rw [if_neg h2]
      by_cases h3 : i ≤ n
      · rw [if_pos h3, if_pos (by omega), if_neg (by omega), if_pos (by omega), List.getElem?_take_of_lt (by omega), List.getElem?_drop]
        congr 1
        omega
      · rw [if_neg h3, if_neg (by omega)]
end
/-- A slice, with the rows of its length alone. -/
def D.cut : D → D
  | .sl rows len => .sl (rows.take len) len
  | d => d
theorem RepI.cutLen {w : World} {M : Foot} {v : Value} {rows : List (List D)} {len : Nat} (h : RepI w M v (.sl rows len)) : RepI w M v (.sl (rows.take len) len) := by
  cases h with
  | sl a _ cap _ esz g off vals h1 h2 hr ha hc hv =>
    refine .sl a len cap _ esz g off vals (by simp; omega) (by simp; omega) (fun r hx => hr r (List.mem_of_mem_take hx)) (fun hne => ha (by rintro rfl; exact hne (by simp))) (fun i j hi hj => hc i j (by simp at hi; omega) hj) ?_
    intro i j r d hi hj
    rw [List.getElem?_take] at hi
    split at hi
    · exact hv i j r d hi hj
    · cases hi
theorem Rep.cut {w : World} {M : Foot} {ρ : Nat → Loc} {v : Value} {d : D} (h : Rep w M ρ v d) : Rep w M ρ v d.cut := by
  cases d <;> try exact h
  exact .imm _ _ h.sl_inv.cutLen
theorem den_cut {P : Program} {f : Nat} {args : List D} {bs : List Blk} {r : D} {bs' : List Blk} (h : Den P f (args.map D.cut) bs r bs') : Den P f args bs r bs' := by
  refine ⟨h.1, fun w M0 ρ vals hM hS hs ha => h.2 w M0 ρ vals hM hS (by simpa using hs) ?_⟩
  intro i v d hv hd
  rw [List.getElem?_map] at hd
  cases hc : args[i]? with
  | none => simp [hc] at hd
  | some d0 => simp [hc] at hd; subst hd; exact (ha i v d0 hv hc).cut
attribute [simp] D.cut
@[simp] theorem take_map_app {α β : Type} (f : α → β) (l : List α) (r : List β) : (l.map f ++ r).take l.length = l.map f := List.take_left' (by simp)
/-- nil is an empty array of one's own. -/
theorem den_virt {P : Program} {f : Nat} {args : List D} (esz : Nat) (h : Den P f args [] .nil []) : Den P f args [] (.ref 0 0 0) [⟨[], esz, .mut⟩] := by
  refine ⟨h.1, fun w M0 ρ vals hM hS hs ha => (h.2 w M0 ρ vals hM hS hs ha).mono ?_⟩
  rintro e w' ⟨v, ρ', rfl, hr, hS', hlen, hlent, hp, har⟩
  obtain ⟨a, rfl⟩ := hr.nil_inv
  have hMM : Mof M0 (updL ρ' 0 .virt) [⟨[], esz, .mut⟩] = Mof M0 ρ' [] := by
    rw [Mof_nil]
    funext g o
    apply propext
    constructor
    · rintro (h | ⟨i, b', base, n, rl, ez, hi, hat, _⟩)
      · exact h
      · cases i with
        | zero => rw [updL_same] at hat; cases hat
        | succ i => simp at hi
    · exact .inl
  have hno : ∀ i, ρ' i = .absent := fun i => hS'.out i (Nat.zero_le _)
  have hat : ∀ i g base n rl ez, updL ρ' 0 .virt i ≠ .at_ g base n rl ez := by
    intro i g base n rl ez h
    by_cases hi : i = 0
    · subst hi; rw [updL_same] at h; cases h
    · rw [updL_ne _ _ hi, hno] at h; cases h
  refine ⟨_, updL ρ' 0 .virt, rfl, .refV 0 a (updL_same _ _ _), ⟨fun i b g base n rl ez _ h => absurd h (hat _ _ _ _ _ _), ?_, ?_, fun i j g _ _ _ _ _ _ _ _ h => absurd h (hat _ _ _ _ _ _), fun i g _ _ _ _ h => absurd h (hat _ _ _ _ _ _)⟩, by simp, fun i hi => absurd hi (by simp), by rw [hMM]; exact hp, ⟨har.size, har.os, har.tape, har.output, har.keep, fun i g base n rl ez _ h => absurd h (hat _ _ _ _ _ _)⟩⟩
  · intro i b hi hv
    cases i with
    | zero => simp at hi; subst hi; exact ⟨rfl, rfl⟩
    | succ i => simp at hi
  · intro i hi
    rw [updL_ne _ _ (by simp at hi; omega)]
    exact hno i
/-- A loop that counts to n. -/
theorem count_rule {c : Cfg} {k id : Nat} {x y : SC} {Q : Ex → St → Prop} {st : St} (n : Nat) (P : Nat → St → Prop) (N R : St → Prop) (hx : x = y)
    (h0 : P 0 st) (hlast : ∀ st, P n st → sCode c y st (roundQ (fun _ => False) id N R)) (hstep : ∀ i st, i < n → P i st → sCode c y st (roundQ (onK (P (i + 1)) k) id N R))
    (hN : ∀ st, N st → Q .normal st) (hR : ∀ st, R st → Q .ret st) : anyLoop c k x (blockQ id Q) st := by
  refine loop_rule n (fun m st => m ≤ n ∧ P (n - m) st) N R hx ⟨Nat.le_refl _, by simpa using h0⟩ (fun st h => hlast st (by simpa using h.2)) (fun m st h => ?_) hN hR
  have := hstep (n - (m + 1)) st (by omega) h.2
  rw [show n - (m + 1) + 1 = n - m by omega] at this
  refine sCode_mono _ _ _ _ ?_ this
  intro ex st' h'
  cases ex with
  | normal => exact ⟨by omega, h'⟩
  | exit i => exact h'
  | ret => exact h'
@[simp] theorem wrap_zero : IntKind.wrap .i64 0 = 0 := wrap_in (by omega) (by omega)
theorem splice_map {α : Type} (f : α → D) (W : List α) (k : Nat) (b : α) (hk : k < W.length) : List.take k (List.map f W) ++ f b :: List.drop (k + 1) (List.map f W) = List.map f (W.set k b) := by
  rw [List.map_set, List.set_eq_take_append_cons_drop, if_pos (by simpa using hk)]
end Go.AM
/- AM: contracts: the library's functions over slices. -/
namespace Go.AM
set_option linter.unusedSimpArgs false
set_option linter.unusedVariables false
set_option maxRecDepth 8000
set_option maxHeartbeats 0
theorem clone_Item (rows : List (List D)) (hf : Fits 5 rows) (hl : rows.length * 40 ≤ 140737488355328) : Den PP 42 [.sl rows rows.length] [] (.ref 0 0 rows.length) [⟨rows, 5, .mut⟩] := by
  cases hr : rows with
  | nil =>
    refine den_zs (pre := []) (post := []) ?_ ?_
    · refine den_of [] [] is_slices_Clone_api_Item_api_Item ?_
      simp -implicitDefEqProofs [c_slices_Clone_api_Item_api_Item]
    · refine den_of [] [] is_slices_Clone_api_Item_api_Item ?_
      simp -implicitDefEqProofs [c_slices_Clone_api_Item_api_Item, Fits]
  | cons r rs =>
    rw [hr] at hf hl
    have h63 : (r :: rs).length ≤ 9223372036854775807 := by omega
    have hlen : 0 < (r :: rs).length := by simp
    generalize hn : (r :: rs).length = n at *
    generalize r :: rs = rows at *
    refine den_of [] [] is_slices_Clone_api_Item_api_Item ?_
    simp -implicitDefEqProofs [c_slices_Clone_api_Item_api_Item, hlen, List.take_of_length_le (Nat.le_of_eq hn), hf, hn, hl, h63]
theorem insert_Item (rows : List (List D)) (v : List D) (at_ : Nat) (hf : Fits 5 rows) (hst : StillR rows) (hv : Fits 5 [v]) (hvs : ∀ d ∈ v, d.still = true) (hat : at_ ≤ rows.length) (hl : rows.length ≤ 1000000) :
    GivesC (DenF PP [0]) 46 rows 5 [.int .i64 at_, .sl [v] 1] (insL rows at_ v) := by
  refine gives_of (fun r hr => (hf r hr).1) hst fun fl hfl hrow hfs htake hget => ?_
  have hv1 : v.length = 5 := (hv v (by simp)).1
  obtain ⟨c0, cs0, hvv⟩ : ∃ c0 cs0, v = c0 :: cs0 := by
    cases v with
    | nil => simp at hv1
    | cons a b => exact ⟨a, b, rfl⟩
  have hvS : StillR [v] := by intro r hr; rw [List.mem_singleton.1 hr]; exact hvs
  generalize hn : rows.length = n at *
  have w1 : IntKind.wrap .i64 ((n : Int) + 1) = n + 1 := wrap_in (by omega) (by omega)
  have w2 : IntKind.wrap .i64 ((at_ : Int) + 1) = at_ + 1 := wrap_in (by omega) (by omega)
  have w3 : IntKind.wrap .i64 ((n : Int) + 1 - at_) = ((n + 1 - at_ : Nat) : Int) := by rw [wrap_in (by omega) (by omega)]; omega
  by_cases h1 : at_ = n
  · subst h1
    by_cases h2 : at_ + 1 ≤ fl.length
    · refine ⟨.ref 0 0 (at_ + 1), [⟨ovr fl at_ [v], 5, .mut⟩], ?_, ?_⟩
      · refine denF_of [] [66] [] [61] (by simp) ovls61 is_slices_Insert_api_Item_api_Item ?_
        simp -implicitDefEqProofs [-leave, c_slices_Insert_api_Item_api_Item]
        refine outK_slice (at_) (at_) (by simp; rfl) rfl (by first | rfl | omega | (simp [boundD]; done) | (simp [boundD]; omega) | (simp; done) | (simp; omega) | (simp [*]; done) | (simp [*]; omega)) (by first | rfl | omega | (simp [boundD]; done) | (simp [boundD]; omega) | (simp; done) | (simp; omega) | (simp [*]; done) | (simp [*]; omega)) (by omega) (by first | rfl | omega | (simp [boundD]; done) | (simp [boundD]; omega) | (simp; done) | (simp; omega) | (simp [*]; done) | (simp [*]; omega)) rfl (by first | rfl | omega | (simp [boundD]; done) | (simp [boundD]; omega) | (simp; done) | (simp; omega) | (simp [*]; done) | (simp [*]; omega)) ?_
        simp -implicitDefEqProofs [-leave, hv]
        repeat' (first | (refine appK2_if (by omega) ?_) | (refine appK2_else (by omega) ?_))
        simp -implicitDefEqProofs [-leave, hv, h2]
        rw [leave_lent (by omega) (by simpa using ((hfs.take _).append hvS).append (hfs.drop _))]
        simp [ovr]
      · exact outRows_of rfl rfl rfl (by rw [ovr_length (by simpa using h2)]; omega) (ins_rows1 hn h2 htake) (.inl rfl)
    · have h3 : fl.length = at_ := by omega
      refine ⟨.ref 1 0 (at_ + 1), [⟨fl, 5, .mut⟩, ⟨fl.take at_ ++ [v], 5, .mut⟩], ?_, ?_⟩
      · refine denF_of [] [66] [] [61] (by simp) ovls61 is_slices_Insert_api_Item_api_Item ?_
        simp -implicitDefEqProofs [-leave, c_slices_Insert_api_Item_api_Item]
        by_cases h0 : at_ = 0
        · refine outK_slice (at_) (at_) (by simp; rfl) rfl (by first | rfl | omega | (simp [boundD]; done) | (simp [boundD]; omega) | (simp; done) | (simp; omega) | (simp [*]; done) | (simp [*]; omega)) (by first | rfl | omega | (simp [boundD]; done) | (simp [boundD]; omega) | (simp; done) | (simp; omega) | (simp [*]; done) | (simp [*]; omega)) (by omega) (by first | rfl | omega | (simp [boundD]; done) | (simp [boundD]; omega) | (simp; done) | (simp; omega) | (simp [*]; done) | (simp [*]; omega)) rfl (by first | rfl | omega | (simp [boundD]; done) | (simp [boundD]; omega) | (simp; done) | (simp; omega) | (simp [*]; done) | (simp [*]; omega)) ?_
          simp -implicitDefEqProofs [-leave, hv, h3]
          repeat' (first | (refine appK2_if (by omega) ?_) | (refine appK2_else (by omega) ?_))
          simp -implicitDefEqProofs [-leave, hv, h3]
          rw [leave_new (by omega) rfl rfl (by simpa using hfs)]
          rfl
        · refine outK_sliceE (at_) (by simp; rfl) rfl (by first | rfl | omega | (simp [boundD]; done) | (simp [boundD]; omega) | (simp; done) | (simp; omega) | (simp [*]; done) | (simp [*]; omega)) (by first | rfl | omega | (simp [boundD]; done) | (simp [boundD]; omega) | (simp; done) | (simp; omega) | (simp [*]; done) | (simp [*]; omega)) (by first | rfl | omega | (simp [boundD]; done) | (simp [boundD]; omega) | (simp; done) | (simp; omega) | (simp [*]; done) | (simp [*]; omega)) rfl (by omega) ?_
          simp -implicitDefEqProofs [-leave, hv, h3]
          repeat' (first | (refine appK2_if (by omega) ?_) | (refine appK2_else (by omega) ?_))
          simp -implicitDefEqProofs [-leave, hv, h3]
          rw [leave_new (by omega) rfl rfl (by simpa using hfs)]
          rfl
      · exact outRows_of rfl rfl rfl (by simp; omega) (ins_rows2 hn htake) (.inr (by omega))
  · have hlt : at_ < n := by omega
    have hT1 : ∀ X : List (List D), List.take (n - at_) (List.take (n + 1 - at_) X) = List.take (n - at_) X := by
      intro X
      rw [List.take_take]
      congr 1
      omega
    have hfit : Fits 5 (List.take (n - at_) (List.drop at_ fl)) := by
      intro r hr
      rw [← List.drop_take, htake] at hr
      exact hf r (List.mem_of_mem_drop hr)
    have hrr : ∀ m, ∀ r ∈ List.take m (List.drop at_ fl), r.length = 5 := fun m r hr => hrow r (List.mem_of_mem_drop (List.mem_of_mem_take hr))
    have hT3 : ∀ X : List (List D), List.take (n - at_) (List.take (n - at_) X) = List.take (n - at_) X := by intro X; rw [List.take_take]; congr 1; omega
    have hT2 : List.take (n + 1 - at_) [v] = [v] := List.take_of_length_le (by simp; omega)
    have hap : ∀ (fl' : List (List D)) (bs : List Blk) (o l : Nat), apartD (⟨fl', 5, .mut⟩ :: bs) [.sl [v] 1, .ref 0 o l] = true := by
      intro _ _ _ _
      rw [hvv]
      rfl
    have hyl : (List.take (n - at_) (List.drop at_ fl)).length = n - at_ := by simp; omega
    have hne : ¬ (at_ : Int) = n := by omega
    by_cases h2 : n + 1 ≤ fl.length
    · have h2' : ¬ ((fl.length : Int) < (n : Int) + 1) := by omega
      refine ⟨.ref 0 0 (n + 1), [⟨ovr (ovr fl (at_ + 1) ((fl.drop at_).take (n - at_))) at_ [v], 5, .mut⟩], ?_, ?_⟩
      · refine denF_of [] [66] [] [61] (by simp) ovls61 is_slices_Insert_api_Item_api_Item ?_
        simp -implicitDefEqProofs [-leave, c_slices_Insert_api_Item_api_Item]
        refine outK_slice (at_) (n) (by simp; rfl) rfl (by first | rfl | omega | (simp [boundD]; done) | (simp [boundD]; omega) | (simp; done) | (simp; omega) | (simp [*]; done) | (simp [*]; omega)) (by first | rfl | omega | (simp [boundD]; done) | (simp [boundD]; omega) | (simp; done) | (simp; omega) | (simp [*]; done) | (simp [*]; omega)) (by omega) (by first | rfl | omega | (simp [boundD]; done) | (simp [boundD]; omega) | (simp; done) | (simp; omega) | (simp [*]; done) | (simp [*]; omega)) rfl (by first | rfl | omega | (simp [boundD]; done) | (simp [boundD]; omega) | (simp; done) | (simp; omega) | (simp [*]; done) | (simp [*]; omega)) ?_
        simp -implicitDefEqProofs [-leave, hv, h1, hne, w1, w2, h2']
        refine outK_slice (0) (n + 1) (by simp; rfl) rfl (by first | rfl | omega | (simp [boundD]; done) | (simp [boundD]; omega) | (simp; done) | (simp; omega) | (simp [*]; done) | (simp [*]; omega)) (by first | rfl | omega | (simp [boundD]; done) | (simp [boundD]; omega) | (simp; done) | (simp; omega) | (simp [*]; done) | (simp [*]; omega)) (by omega) (by first | rfl | omega | (simp [boundD]; done) | (simp [boundD]; omega) | (simp; done) | (simp; omega) | (simp [*]; done) | (simp [*]; omega)) rfl (by first | rfl | omega | (simp [boundD]; done) | (simp [boundD]; omega) | (simp; done) | (simp; omega) | (simp [*]; done) | (simp [*]; omega)) ?_
        simp -implicitDefEqProofs [-leave, hv, h1, hne, w1, w2, h2']
        refine outK_slice (at_ + 1) (n + 1) (by simp; rfl) rfl (by first | rfl | omega | (simp [boundD]; done) | (simp [boundD]; omega) | (simp; done) | (simp; omega) | (simp [*]; done) | (simp [*]; omega)) (by first | rfl | omega | (simp [boundD]; done) | (simp [boundD]; omega) | (simp; done) | (simp; omega) | (simp [*]; done) | (simp [*]; omega)) (by omega) (by first | rfl | omega | (simp [boundD]; done) | (simp [boundD]; omega) | (simp; done) | (simp; omega) | (simp [*]; done) | (simp [*]; omega)) rfl (by first | rfl | omega | (simp [boundD]; done) | (simp [boundD]; omega) | (simp; done) | (simp; omega) | (simp [*]; done) | (simp [*]; omega)) ?_
        simp -implicitDefEqProofs [-leave, hv, h1, hne, w1, w2, h2', hap]
        refine outK_slice (at_ + 1) (n + 1) (by simp; rfl) rfl (by first | rfl | omega | (simp [boundD]; done) | (simp [boundD]; omega) | (simp; done) | (simp; omega) | (simp [*]; done) | (simp [*]; omega)) (by first | rfl | omega | (simp [boundD]; done) | (simp [boundD]; omega) | (simp; done) | (simp; omega) | (simp [*]; done) | (simp [*]; omega)) (by omega) (by first | rfl | omega | (simp [boundD]; done) | (simp [boundD]; omega) | (simp; done) | (simp; omega) | (simp [*]; done) | (simp [*]; omega)) rfl (by first | rfl | omega | (simp [boundD]; done) | (simp [boundD]; omega) | (simp; done) | (simp; omega) | (simp [*]; done) | (simp [*]; omega)) ?_
        simp -implicitDefEqProofs [-leave, hv, h1, hne, w1, w2, h2']
        refine outK_slice (at_) (n + 1) (by simp; rfl) rfl (by first | rfl | omega | (simp [boundD]; done) | (simp [boundD]; omega) | (simp; done) | (simp; omega) | (simp [*]; done) | (simp [*]; omega)) (by first | rfl | omega | (simp [boundD]; done) | (simp [boundD]; omega) | (simp; done) | (simp; omega) | (simp [*]; done) | (simp [*]; omega)) (by omega) (by first | rfl | omega | (simp [boundD]; done) | (simp [boundD]; omega) | (simp; done) | (simp; omega) | (simp [*]; done) | (simp [*]; omega)) rfl (by first | rfl | omega | (simp [boundD]; done) | (simp [boundD]; omega) | (simp; done) | (simp; omega) | (simp [*]; done) | (simp [*]; omega)) ?_
        simp -implicitDefEqProofs [-leave, hv, h1, hne, w1, w2, h2', hT1, hfit]
        refine ⟨hrr _, ?_⟩
        try refine overK_if (by first | omega | (simp; done) | (simp; omega)) ?_
        have hB1 := ovr_length (rows := fl) (p := at_ + 1) (ys := List.take (n - at_) (List.drop at_ fl)) (by omega)
        have hBS := hfs.ovr ((hfs.drop at_).take (n - at_)) (at_ + 1)
        generalize hB : ovr fl (at_ + 1) (List.take (n - at_) (List.drop at_ fl)) = B at *
        simp -implicitDefEqProofs [-leave, hv, h1, hne, w1, w2, h2']
        refine outK_slice (at_) (n + 1) (by simp; rfl) rfl (by first | rfl | omega | (simp [boundD]; done) | (simp [boundD]; omega) | (simp; done) | (simp; omega) | (simp [*]; done) | (simp [*]; omega)) (by first | rfl | omega | (simp [boundD]; done) | (simp [boundD]; omega) | (simp; done) | (simp; omega) | (simp [*]; done) | (simp [*]; omega)) (by omega) (by first | rfl | omega | (simp [boundD]; done) | (simp [boundD]; omega) | (simp; done) | (simp; omega) | (simp [*]; done) | (simp [*]; omega)) rfl (by first | rfl | omega | (simp [boundD]; done) | (simp [boundD]; omega) | (simp; done) | (simp; omega) | (simp [*]; done) | (simp [*]; omega)) ?_
        simp -implicitDefEqProofs [-leave, hv, h1, hne, w1, w2, h2', hv1, hT2]
        try refine overK_if (by first | omega | (simp; done) | (simp; omega)) ?_
        simp -implicitDefEqProofs [-leave, hv, h1, hne, w1, w2, h2']
        rw [leave_lent (by omega) (by simpa using hBS.ovr hvS at_)]
        rfl
      · exact outRows_of rfl rfl rfl (by show 0 + (n + 1) ≤ (ovr (ovr fl (at_ + 1) _) at_ [v]).length; rw [ovr_length (by rw [ovr_length (by omega)]; simp; omega), ovr_length (by omega)]; omega) (ins_rowsC hn hlt h2 htake) (.inl rfl)
    · have h3 : fl.length = n := by omega
      have h3' : (n : Int) < (n : Int) + 1 := by omega
      refine ⟨.ref 1 0 (n + 1), [⟨fl, 5, .mut⟩, ⟨ovr (ovr (fl.take at_ ++ List.replicate (n + 1 - at_) (TT 26).zero) at_ [v]) (at_ + 1) ((fl.drop at_).take (n - at_)), 5, .mut⟩], ?_, ?_⟩
      · refine denF_of [] [66] [] [61] (by simp) ovls61 is_slices_Insert_api_Item_api_Item ?_
        simp -implicitDefEqProofs [-leave, c_slices_Insert_api_Item_api_Item]
        refine outK_slice (at_) (n) (by simp; rfl) rfl (by first | rfl | omega | (simp [boundD]; done) | (simp [boundD]; omega) | (simp; done) | (simp; omega) | (simp [*]; done) | (simp [*]; omega)) (by first | rfl | omega | (simp [boundD]; done) | (simp [boundD]; omega) | (simp; done) | (simp; omega) | (simp [*]; done) | (simp [*]; omega)) (by omega) (by first | rfl | omega | (simp [boundD]; done) | (simp [boundD]; omega) | (simp; done) | (simp; omega) | (simp [*]; done) | (simp [*]; omega)) rfl (by first | rfl | omega | (simp [boundD]; done) | (simp [boundD]; omega) | (simp; done) | (simp; omega) | (simp [*]; done) | (simp [*]; omega)) ?_
        simp -implicitDefEqProofs [-leave, hv, h1, hne, w1, w2, h3, h3']
        refine outK_slice (0) (at_) (by simp; rfl) rfl (by first | rfl | omega | (simp [boundD]; done) | (simp [boundD]; omega) | (simp; done) | (simp; omega) | (simp [*]; done) | (simp [*]; omega)) (by first | rfl | omega | (simp [boundD]; done) | (simp [boundD]; omega) | (simp; done) | (simp; omega) | (simp [*]; done) | (simp [*]; omega)) (by omega) (by first | rfl | omega | (simp [boundD]; done) | (simp [boundD]; omega) | (simp; done) | (simp; omega) | (simp [*]; done) | (simp [*]; omega)) rfl (by first | rfl | omega | (simp [boundD]; done) | (simp [boundD]; omega) | (simp; done) | (simp; omega) | (simp [*]; done) | (simp [*]; omega)) ?_
        simp -implicitDefEqProofs [-leave, hv, h1, hne, w1, w2, w3, h3, h3']
        refine appK_if (by omega) ?_
        have e1 : at_ + (n + 1 - at_) = n + 1 := by omega
        simp -implicitDefEqProofs [-leave, hv, h1, hne, w1, w2, w3, h3, h3', e1]
        repeat' (first | (refine appK2_if (by omega) ?_) | (refine appK2_else (by omega) ?_))
        simp -implicitDefEqProofs [-leave, hv, h1, hne, w1, w2, w3, h3, h3', e1]
        have hA1 : (List.take at_ fl ++ List.replicate (n + 1 - at_) [D.int IntKind.i64 0, D.int IntKind.i64 0, D.int IntKind.i64 0, D.int IntKind.i64 0, D.bool false]).length = n + 1 := by simp; omega
        generalize hA : List.take at_ fl ++ List.replicate (n + 1 - at_) [D.int IntKind.i64 0, D.int IntKind.i64 0, D.int IntKind.i64 0, D.int IntKind.i64 0, D.bool false] = A at *
        refine outK_slice (at_) (n + 1) (by simp; rfl) rfl (by first | rfl | omega | (simp [boundD]; done) | (simp [boundD]; omega) | (simp; done) | (simp; omega) | (simp [*]; done) | (simp [*]; omega)) (by first | rfl | omega | (simp [boundD]; done) | (simp [boundD]; omega) | (simp; done) | (simp; omega) | (simp [*]; done) | (simp [*]; omega)) (by omega) (by first | rfl | omega | (simp [boundD]; done) | (simp [boundD]; omega) | (simp; done) | (simp; omega) | (simp [*]; done) | (simp [*]; omega)) rfl (by first | rfl | omega | (simp [boundD]; done) | (simp [boundD]; omega) | (simp; done) | (simp; omega) | (simp [*]; done) | (simp [*]; omega)) ?_
        simp -implicitDefEqProofs [-leave, hv, h1, hne, w1, w2, h3, hv1, hT2]
        try refine overK_if (by first | omega | (simp; done) | (simp; omega)) ?_
        have hB1 := ovr_length (rows := A) (p := at_) (ys := [v]) (by simp; omega)
        generalize hB : ovr A at_ [v] = B at *
        simp -implicitDefEqProofs [-leave, hv, h1, hne, w1, w2, h3]
        refine outK_slice (at_ + 1) (n + 1) (by simp; rfl) rfl (by first | rfl | omega | (simp [boundD]; done) | (simp [boundD]; omega) | (simp; done) | (simp; omega) | (simp [*]; done) | (simp [*]; omega)) (by first | rfl | omega | (simp [boundD]; done) | (simp [boundD]; omega) | (simp; done) | (simp; omega) | (simp [*]; done) | (simp [*]; omega)) (by omega) (by first | rfl | omega | (simp [boundD]; done) | (simp [boundD]; omega) | (simp; done) | (simp; omega) | (simp [*]; done) | (simp [*]; omega)) rfl (by first | rfl | omega | (simp [boundD]; done) | (simp [boundD]; omega) | (simp; done) | (simp; omega) | (simp [*]; done) | (simp [*]; omega)) ?_
        simp -implicitDefEqProofs [-leave, hv, h1, hne, w1, w2, h3]
        refine outK_slice (at_) (n) (by simp; rfl) rfl (by first | rfl | omega | (simp [boundD]; done) | (simp [boundD]; omega) | (simp; done) | (simp; omega) | (simp [*]; done) | (simp [*]; omega)) (by first | rfl | omega | (simp [boundD]; done) | (simp [boundD]; omega) | (simp; done) | (simp; omega) | (simp [*]; done) | (simp [*]; omega)) (by omega) (by first | rfl | omega | (simp [boundD]; done) | (simp [boundD]; omega) | (simp; done) | (simp; omega) | (simp [*]; done) | (simp [*]; omega)) rfl (by first | rfl | omega | (simp [boundD]; done) | (simp [boundD]; omega) | (simp; done) | (simp; omega) | (simp [*]; done) | (simp [*]; omega)) ?_
        simp -implicitDefEqProofs [-leave, hv, h1, hne, w1, w2, h3, hfit, hT3]
        refine ⟨hrr _, ?_⟩
        try refine overK_if (by first | omega | (simp; done) | (simp; omega)) ?_
        try simp -implicitDefEqProofs [-leave, hv, h1, hne, w1, w2, h3]
        rw [leave_new (by omega) rfl rfl (by simpa using hfs)]
        simp [hA, hB]
      · exact outRows_of rfl rfl rfl (by
          have hA1 : (List.take at_ fl ++ List.replicate (n + 1 - at_) (TT 26).zero).length = n + 1 := by simp; omega
          show 0 + (n + 1) ≤ (ovr (ovr _ at_ [v]) (at_ + 1) _).length
          rw [ovr_length (by rw [ovr_length (by rw [hA1]; simp; omega), hA1]; omega), ovr_length (by rw [hA1]; simp; omega), hA1]; omega) (ins_rowsB hn hlt h3 htake) (.inr (by omega))
theorem clone_Cut (rows : List (List D)) (hf : Fits 2 rows) (hl : rows.length * 16 ≤ 140737488355328) : Den PP 65 [.sl rows rows.length] [] (.ref 0 0 rows.length) [⟨rows, 2, .mut⟩] := by
  cases hr : rows with
  | nil =>
    refine den_zs (pre := []) (post := []) ?_ ?_
    · refine den_of [] [] is_slices_Clone_api_Cut_api_Cut ?_
      simp -implicitDefEqProofs [c_slices_Clone_api_Cut_api_Cut]
    · refine den_of [] [] is_slices_Clone_api_Cut_api_Cut ?_
      simp -implicitDefEqProofs [c_slices_Clone_api_Cut_api_Cut, Fits]
  | cons r rs =>
    rw [hr] at hf hl
    have h63 : (r :: rs).length ≤ 9223372036854775807 := by omega
    have hlen : 0 < (r :: rs).length := by simp
    generalize hn : (r :: rs).length = n at *
    generalize r :: rs = rows at *
    refine den_of [] [] is_slices_Clone_api_Cut_api_Cut ?_
    simp -implicitDefEqProofs [c_slices_Clone_api_Cut_api_Cut, hlen, List.take_of_length_le (Nat.le_of_eq hn), hf, hn, hl, h63]
theorem insert_Cut (rows : List (List D)) (v : List D) (at_ : Nat) (hf : Fits 2 rows) (hst : StillR rows) (hv : Fits 2 [v]) (hvs : ∀ d ∈ v, d.still = true) (hat : at_ ≤ rows.length) (hl : rows.length ≤ 1000000) :
    GivesC (DenF PP [0]) 52 rows 2 [.int .i64 at_, .sl [v] 1] (insL rows at_ v) := by
  refine gives_of (fun r hr => (hf r hr).1) hst fun fl hfl hrow hfs htake hget => ?_
  have hv1 : v.length = 2 := (hv v (by simp)).1
  obtain ⟨c0, cs0, hvv⟩ : ∃ c0 cs0, v = c0 :: cs0 := by
    cases v with
    | nil => simp at hv1
    | cons a b => exact ⟨a, b, rfl⟩
  have hvS : StillR [v] := by intro r hr; rw [List.mem_singleton.1 hr]; exact hvs
  generalize hn : rows.length = n at *
  have w1 : IntKind.wrap .i64 ((n : Int) + 1) = n + 1 := wrap_in (by omega) (by omega)
  have w2 : IntKind.wrap .i64 ((at_ : Int) + 1) = at_ + 1 := wrap_in (by omega) (by omega)
  have w3 : IntKind.wrap .i64 ((n : Int) + 1 - at_) = ((n + 1 - at_ : Nat) : Int) := by rw [wrap_in (by omega) (by omega)]; omega
  by_cases h1 : at_ = n
  · subst h1
    by_cases h2 : at_ + 1 ≤ fl.length
    · refine ⟨.ref 0 0 (at_ + 1), [⟨ovr fl at_ [v], 2, .mut⟩], ?_, ?_⟩
      · refine denF_of [] [66] [] [66] (by simp) ovls66 is_slices_Insert_api_Cut_api_Cut ?_
        simp -implicitDefEqProofs [-leave, c_slices_Insert_api_Cut_api_Cut]
        refine outK_slice (at_) (at_) (by simp; rfl) rfl (by first | rfl | omega | (simp [boundD]; done) | (simp [boundD]; omega) | (simp; done) | (simp; omega) | (simp [*]; done) | (simp [*]; omega)) (by first | rfl | omega | (simp [boundD]; done) | (simp [boundD]; omega) | (simp; done) | (simp; omega) | (simp [*]; done) | (simp [*]; omega)) (by omega) (by first | rfl | omega | (simp [boundD]; done) | (simp [boundD]; omega) | (simp; done) | (simp; omega) | (simp [*]; done) | (simp [*]; omega)) rfl (by first | rfl | omega | (simp [boundD]; done) | (simp [boundD]; omega) | (simp; done) | (simp; omega) | (simp [*]; done) | (simp [*]; omega)) ?_
        simp -implicitDefEqProofs [-leave, hv]
        repeat' (first | (refine appK2_if (by omega) ?_) | (refine appK2_else (by omega) ?_))
        simp -implicitDefEqProofs [-leave, hv, h2]
        rw [leave_lent (by omega) (by simpa using ((hfs.take _).append hvS).append (hfs.drop _))]
        simp [ovr]
      · exact outRows_of rfl rfl rfl (by rw [ovr_length (by simpa using h2)]; omega) (ins_rows1 hn h2 htake) (.inl rfl)
    · have h3 : fl.length = at_ := by omega
      refine ⟨.ref 1 0 (at_ + 1), [⟨fl, 2, .mut⟩, ⟨fl.take at_ ++ [v], 2, .mut⟩], ?_, ?_⟩
      · refine denF_of [] [66] [] [66] (by simp) ovls66 is_slices_Insert_api_Cut_api_Cut ?_
        simp -implicitDefEqProofs [-leave, c_slices_Insert_api_Cut_api_Cut]
        by_cases h0 : at_ = 0
        · refine outK_slice (at_) (at_) (by simp; rfl) rfl (by first | rfl | omega | (simp [boundD]; done) | (simp [boundD]; omega) | (simp; done) | (simp; omega) | (simp [*]; done) | (simp [*]; omega)) (by first | rfl | omega | (simp [boundD]; done) | (simp [boundD]; omega) | (simp; done) | (simp; omega) | (simp [*]; done) | (simp [*]; omega)) (by omega) (by first | rfl | omega | (simp [boundD]; done) | (simp [boundD]; omega) | (simp; done) | (simp; omega) | (simp [*]; done) | (simp [*]; omega)) rfl (by first | rfl | omega | (simp [boundD]; done) | (simp [boundD]; omega) | (simp; done) | (simp; omega) | (simp [*]; done) | (simp [*]; omega)) ?_
          simp -implicitDefEqProofs [-leave, hv, h3]
          repeat' (first | (refine appK2_if (by omega) ?_) | (refine appK2_else (by omega) ?_))
          simp -implicitDefEqProofs [-leave, hv, h3]
          rw [leave_new (by omega) rfl rfl (by simpa using hfs)]
          rfl
        · refine outK_sliceE (at_) (by simp; rfl) rfl (by first | rfl | omega | (simp [boundD]; done) | (simp [boundD]; omega) | (simp; done) | (simp; omega) | (simp [*]; done) | (simp [*]; omega)) (by first | rfl | omega | (simp [boundD]; done) | (simp [boundD]; omega) | (simp; done) | (simp; omega) | (simp [*]; done) | (simp [*]; omega)) (by first | rfl | omega | (simp [boundD]; done) | (simp [boundD]; omega) | (simp; done) | (simp; omega) | (simp [*]; done) | (simp [*]; omega)) rfl (by omega) ?_
          simp -implicitDefEqProofs [-leave, hv, h3]
          repeat' (first | (refine appK2_if (by omega) ?_) | (refine appK2_else (by omega) ?_))
          simp -implicitDefEqProofs [-leave, hv, h3]
          rw [leave_new (by omega) rfl rfl (by simpa using hfs)]
          rfl
      · exact outRows_of rfl rfl rfl (by simp; omega) (ins_rows2 hn htake) (.inr (by omega))
  · have hlt : at_ < n := by omega
    have hT1 : ∀ X : List (List D), List.take (n - at_) (List.take (n + 1 - at_) X) = List.take (n - at_) X := by
      intro X
      rw [List.take_take]
      congr 1
      omega
    have hfit : Fits 2 (List.take (n - at_) (List.drop at_ fl)) := by
      intro r hr
      rw [← List.drop_take, htake] at hr
      exact hf r (List.mem_of_mem_drop hr)
    have hrr : ∀ m, ∀ r ∈ List.take m (List.drop at_ fl), r.length = 2 := fun m r hr => hrow r (List.mem_of_mem_drop (List.mem_of_mem_take hr))
    have hT3 : ∀ X : List (List D), List.take (n - at_) (List.take (n - at_) X) = List.take (n - at_) X := by intro X; rw [List.take_take]; congr 1; omega
    have hT2 : List.take (n + 1 - at_) [v] = [v] := List.take_of_length_le (by simp; omega)
    have hap : ∀ (fl' : List (List D)) (bs : List Blk) (o l : Nat), apartD (⟨fl', 2, .mut⟩ :: bs) [.sl [v] 1, .ref 0 o l] = true := by
      intro _ _ _ _
      rw [hvv]
      rfl
    have hyl : (List.take (n - at_) (List.drop at_ fl)).length = n - at_ := by simp; omega
    have hne : ¬ (at_ : Int) = n := by omega
    by_cases h2 : n + 1 ≤ fl.length
    · have h2' : ¬ ((fl.length : Int) < (n : Int) + 1) := by omega
      refine ⟨.ref 0 0 (n + 1), [⟨ovr (ovr fl (at_ + 1) ((fl.drop at_).take (n - at_))) at_ [v], 2, .mut⟩], ?_, ?_⟩
      · refine denF_of [] [66] [] [66] (by simp) ovls66 is_slices_Insert_api_Cut_api_Cut ?_
        simp -implicitDefEqProofs [-leave, c_slices_Insert_api_Cut_api_Cut]
        refine outK_slice (at_) (n) (by simp; rfl) rfl (by first | rfl | omega | (simp [boundD]; done) | (simp [boundD]; omega) | (simp; done) | (simp; omega) | (simp [*]; done) | (simp [*]; omega)) (by first | rfl | omega | (simp [boundD]; done) | (simp [boundD]; omega) | (simp; done) | (simp; omega) | (simp [*]; done) | (simp [*]; omega)) (by omega) (by first | rfl | omega | (simp [boundD]; done) | (simp [boundD]; omega) | (simp; done) | (simp; omega) | (simp [*]; done) | (simp [*]; omega)) rfl (by first | rfl | omega | (simp [boundD]; done) | (simp [boundD]; omega) | (simp; done) | (simp; omega) | (simp [*]; done) | (simp [*]; omega)) ?_
        simp -implicitDefEqProofs [-leave, hv, h1, hne, w1, w2, h2']
        refine outK_slice (0) (n + 1) (by simp; rfl) rfl (by first | rfl | omega | (simp [boundD]; done) | (simp [boundD]; omega) | (simp; done) | (simp; omega) | (simp [*]; done) | (simp [*]; omega)) (by first | rfl | omega | (simp [boundD]; done) | (simp [boundD]; omega) | (simp; done) | (simp; omega) | (simp [*]; done) | (simp [*]; omega)) (by omega) (by first | rfl | omega | (simp [boundD]; done) | (simp [boundD]; omega) | (simp; done) | (simp; omega) | (simp [*]; done) | (simp [*]; omega)) rfl (by first | rfl | omega | (simp [boundD]; done) | (simp [boundD]; omega) | (simp; done) | (simp; omega) | (simp [*]; done) | (simp [*]; omega)) ?_
        simp -implicitDefEqProofs [-leave, hv, h1, hne, w1, w2, h2']
        refine outK_slice (at_ + 1) (n + 1) (by simp; rfl) rfl (by first | rfl | omega | (simp [boundD]; done) | (simp [boundD]; omega) | (simp; done) | (simp; omega) | (simp [*]; done) | (simp [*]; omega)) (by first | rfl | omega | (simp [boundD]; done) | (simp [boundD]; omega) | (simp; done) | (simp; omega) | (simp [*]; done) | (simp [*]; omega)) (by omega) (by first | rfl | omega | (simp [boundD]; done) | (simp [boundD]; omega) | (simp; done) | (simp; omega) | (simp [*]; done) | (simp [*]; omega)) rfl (by first | rfl | omega | (simp [boundD]; done) | (simp [boundD]; omega) | (simp; done) | (simp; omega) | (simp [*]; done) | (simp [*]; omega)) ?_
        simp -implicitDefEqProofs [-leave, hv, h1, hne, w1, w2, h2', hap]
        refine outK_slice (at_ + 1) (n + 1) (by simp; rfl) rfl (by first | rfl | omega | (simp [boundD]; done) | (simp [boundD]; omega) | (simp; done) | (simp; omega) | (simp [*]; done) | (simp [*]; omega)) (by first | rfl | omega | (simp [boundD]; done) | (simp [boundD]; omega) | (simp; done) | (simp; omega) | (simp [*]; done) | (simp [*]; omega)) (by omega) (by first | rfl | omega | (simp [boundD]; done) | (simp [boundD]; omega) | (simp; done) | (simp; omega) | (simp [*]; done) | (simp [*]; omega)) rfl (by first | rfl | omega | (simp [boundD]; done) | (simp [boundD]; omega) | (simp; done) | (simp; omega) | (simp [*]; done) | (simp [*]; omega)) ?_
        simp -implicitDefEqProofs [-leave, hv, h1, hne, w1, w2, h2']
        refine outK_slice (at_) (n + 1) (by simp; rfl) rfl (by first | rfl | omega | (simp [boundD]; done) | (simp [boundD]; omega) | (simp; done) | (simp; omega) | (simp [*]; done) | (simp [*]; omega)) (by first | rfl | omega | (simp [boundD]; done) | (simp [boundD]; omega) | (simp; done) | (simp; omega) | (simp [*]; done) | (simp [*]; omega)) (by omega) (by first | rfl | omega | (simp [boundD]; done) | (simp [boundD]; omega) | (simp; done) | (simp; omega) | (simp [*]; done) | (simp [*]; omega)) rfl (by first | rfl | omega | (simp [boundD]; done) | (simp [boundD]; omega) | (simp; done) | (simp; omega) | (simp [*]; done) | (simp [*]; omega)) ?_
        simp -implicitDefEqProofs [-leave, hv, h1, hne, w1, w2, h2', hT1, hfit]
        refine ⟨hrr _, ?_⟩
        try refine overK_if (by first | omega | (simp; done) | (simp; omega)) ?_
        have hB1 := ovr_length (rows := fl) (p := at_ + 1) (ys := List.take (n - at_) (List.drop at_ fl)) (by omega)
        have hBS := hfs.ovr ((hfs.drop at_).take (n - at_)) (at_ + 1)
        generalize hB : ovr fl (at_ + 1) (List.take (n - at_) (List.drop at_ fl)) = B at *
        simp -implicitDefEqProofs [-leave, hv, h1, hne, w1, w2, h2']
        refine outK_slice (at_) (n + 1) (by simp; rfl) rfl (by first | rfl | omega | (simp [boundD]; done) | (simp [boundD]; omega) | (simp; done) | (simp; omega) | (simp [*]; done) | (simp [*]; omega)) (by first | rfl | omega | (simp [boundD]; done) | (simp [boundD]; omega) | (simp; done) | (simp; omega) | (simp [*]; done) | (simp [*]; omega)) (by omega) (by first | rfl | omega | (simp [boundD]; done) | (simp [boundD]; omega) | (simp; done) | (simp; omega) | (simp [*]; done) | (simp [*]; omega)) rfl (by first | rfl | omega | (simp [boundD]; done) | (simp [boundD]; omega) | (simp; done) | (simp; omega) | (simp [*]; done) | (simp [*]; omega)) ?_
        simp -implicitDefEqProofs [-leave, hv, h1, hne, w1, w2, h2', hv1, hT2]
        try refine overK_if (by first | omega | (simp; done) | (simp; omega)) ?_
        simp -implicitDefEqProofs [-leave, hv, h1, hne, w1, w2, h2']
        rw [leave_lent (by omega) (by simpa using hBS.ovr hvS at_)]
        rfl
      · exact outRows_of rfl rfl rfl (by show 0 + (n + 1) ≤ (ovr (ovr fl (at_ + 1) _) at_ [v]).length; rw [ovr_length (by rw [ovr_length (by omega)]; simp; omega), ovr_length (by omega)]; omega) (ins_rowsC hn hlt h2 htake) (.inl rfl)
    · have h3 : fl.length = n := by omega
      have h3' : (n : Int) < (n : Int) + 1 := by omega
      refine ⟨.ref 1 0 (n + 1), [⟨fl, 2, .mut⟩, ⟨ovr (ovr (fl.take at_ ++ List.replicate (n + 1 - at_) (TT 63).zero) at_ [v]) (at_ + 1) ((fl.drop at_).take (n - at_)), 2, .mut⟩], ?_, ?_⟩
      · refine denF_of [] [66] [] [66] (by simp) ovls66 is_slices_Insert_api_Cut_api_Cut ?_
        simp -implicitDefEqProofs [-leave, c_slices_Insert_api_Cut_api_Cut]
        refine outK_slice (at_) (n) (by simp; rfl) rfl (by first | rfl | omega | (simp [boundD]; done) | (simp [boundD]; omega) | (simp; done) | (simp; omega) | (simp [*]; done) | (simp [*]; omega)) (by first | rfl | omega | (simp [boundD]; done) | (simp [boundD]; omega) | (simp; done) | (simp; omega) | (simp [*]; done) | (simp [*]; omega)) (by omega) (by first | rfl | omega | (simp [boundD]; done) | (simp [boundD]; omega) | (simp; done) | (simp; omega) | (simp [*]; done) | (simp [*]; omega)) rfl (by first | rfl | omega | (simp [boundD]; done) | (simp [boundD]; omega) | (simp; done) | (simp; omega) | (simp [*]; done) | (simp [*]; omega)) ?_
        simp -implicitDefEqProofs [-leave, hv, h1, hne, w1, w2, h3, h3']
        refine outK_slice (0) (at_) (by simp; rfl) rfl (by first | rfl | omega | (simp [boundD]; done) | (simp [boundD]; omega) | (simp; done) | (simp; omega) | (simp [*]; done) | (simp [*]; omega)) (by first | rfl | omega | (simp [boundD]; done) | (simp [boundD]; omega) | (simp; done) | (simp; omega) | (simp [*]; done) | (simp [*]; omega)) (by omega) (by first | rfl | omega | (simp [boundD]; done) | (simp [boundD]; omega) | (simp; done) | (simp; omega) | (simp [*]; done) | (simp [*]; omega)) rfl (by first | rfl | omega | (simp [boundD]; done) | (simp [boundD]; omega) | (simp; done) | (simp; omega) | (simp [*]; done) | (simp [*]; omega)) ?_
        simp -implicitDefEqProofs [-leave, hv, h1, hne, w1, w2, w3, h3, h3']
        refine appK_if (by omega) ?_
        have e1 : at_ + (n + 1 - at_) = n + 1 := by omega
        simp -implicitDefEqProofs [-leave, hv, h1, hne, w1, w2, w3, h3, h3', e1]
        repeat' (first | (refine appK2_if (by omega) ?_) | (refine appK2_else (by omega) ?_))
        simp -implicitDefEqProofs [-leave, hv, h1, hne, w1, w2, w3, h3, h3', e1]
        have hA1 : (List.take at_ fl ++ List.replicate (n + 1 - at_) [D.int IntKind.i64 0, D.int IntKind.i64 0]).length = n + 1 := by simp; omega
        generalize hA : List.take at_ fl ++ List.replicate (n + 1 - at_) [D.int IntKind.i64 0, D.int IntKind.i64 0] = A at *
        refine outK_slice (at_) (n + 1) (by simp; rfl) rfl (by first | rfl | omega | (simp [boundD]; done) | (simp [boundD]; omega) | (simp; done) | (simp; omega) | (simp [*]; done) | (simp [*]; omega)) (by first | rfl | omega | (simp [boundD]; done) | (simp [boundD]; omega) | (simp; done) | (simp; omega) | (simp [*]; done) | (simp [*]; omega)) (by omega) (by first | rfl | omega | (simp [boundD]; done) | (simp [boundD]; omega) | (simp; done) | (simp; omega) | (simp [*]; done) | (simp [*]; omega)) rfl (by first | rfl | omega | (simp [boundD]; done) | (simp [boundD]; omega) | (simp; done) | (simp; omega) | (simp [*]; done) | (simp [*]; omega)) ?_
        simp -implicitDefEqProofs [-leave, hv, h1, hne, w1, w2, h3, hv1, hT2]
        try refine overK_if (by first | omega | (simp; done) | (simp; omega)) ?_
        have hB1 := ovr_length (rows := A) (p := at_) (ys := [v]) (by simp; omega)
        generalize hB : ovr A at_ [v] = B at *
        simp -implicitDefEqProofs [-leave, hv, h1, hne, w1, w2, h3]
        refine outK_slice (at_ + 1) (n + 1) (by simp; rfl) rfl (by first | rfl | omega | (simp [boundD]; done) | (simp [boundD]; omega) | (simp; done) | (simp; omega) | (simp [*]; done) | (simp [*]; omega)) (by first | rfl | omega | (simp [boundD]; done) | (simp [boundD]; omega) | (simp; done) | (simp; omega) | (simp [*]; done) | (simp [*]; omega)) (by omega) (by first | rfl | omega | (simp [boundD]; done) | (simp [boundD]; omega) | (simp; done) | (simp; omega) | (simp [*]; done) | (simp [*]; omega)) rfl (by first | rfl | omega | (simp [boundD]; done) | (simp [boundD]; omega) | (simp; done) | (simp; omega) | (simp [*]; done) | (simp [*]; omega)) ?_
        simp -implicitDefEqProofs [-leave, hv, h1, hne, w1, w2, h3]
        refine outK_slice (at_) (n) (by simp; rfl) rfl (by first | rfl | omega | (simp [boundD]; done) | (simp [boundD]; omega) | (simp; done) | (simp; omega) | (simp [*]; done) | (simp [*]; omega)) (by first | rfl | omega | (simp [boundD]; done) | (simp [boundD]; omega) | (simp; done) | (simp; omega) | (simp [*]; done) | (simp [*]; omega)) (by omega) (by first | rfl | omega | (simp [boundD]; done) | (simp [boundD]; omega) | (simp; done) | (simp; omega) | (simp [*]; done) | (simp [*]; omega)) rfl (by first | rfl | omega | (simp [boundD]; done) | (simp [boundD]; omega) | (simp; done) | (simp; omega) | (simp [*]; done) | (simp [*]; omega)) ?_
        simp -implicitDefEqProofs [-leave, hv, h1, hne, w1, w2, h3, hfit, hT3]
        refine ⟨hrr _, ?_⟩
        try refine overK_if (by first | omega | (simp; done) | (simp; omega)) ?_
        try simp -implicitDefEqProofs [-leave, hv, h1, hne, w1, w2, h3]
        rw [leave_new (by omega) rfl rfl (by simpa using hfs)]
        simp [hA, hB]
      · exact outRows_of rfl rfl rfl (by
          have hA1 : (List.take at_ fl ++ List.replicate (n + 1 - at_) (TT 63).zero).length = n + 1 := by simp; omega
          show 0 + (n + 1) ≤ (ovr (ovr _ at_ [v]) (at_ + 1) _).length
          rw [ovr_length (by rw [ovr_length (by rw [hA1]; simp; omega), hA1]; omega), ovr_length (by rw [hA1]; simp; omega), hA1]; omega) (ins_rowsB hn hlt h3 htake) (.inr (by omega))
end Go.AM
/- AM: contracts: a view's ends, a key's owner. -/
namespace Go.AM
set_option linter.unusedSimpArgs false
set_option linter.unusedVariables false
set_option maxRecDepth 8000
set_option maxHeartbeats 0
end Go.AM
/- AM: contracts: a key's owner. -/
namespace Go.AM
set_option linter.unusedSimpArgs false
set_option linter.unusedVariables false
set_option maxRecDepth 8000
set_option maxHeartbeats 0
end Go.AM
/- AM: contracts: the document's answers about views. -/
namespace Go.AM
set_option linter.unusedSimpArgs false
set_option linter.unusedVariables false
set_option maxRecDepth 8000
set_option maxHeartbeats 0
end Go.AM
/- AM: contracts: the document's peers. -/
namespace Go.AM
set_option linter.unusedSimpArgs false
set_option linter.unusedVariables false
set_option maxRecDepth 8000
set_option maxHeartbeats 0
end Go.AM
/- AM: contracts: the document's answers about views. -/
namespace Go.AM
set_option linter.unusedSimpArgs false
set_option linter.unusedVariables false
set_option maxRecDepth 8000
set_option maxHeartbeats 0
end Go.AM
/- Plain law: places put in their row, taken out. -/
namespace Go.AM
set_option linter.unusedSimpArgs false
set_option linter.unusedVariables false

/-- Two rising rows of the same numbers are one. -/
theorem rising_ext : ∀ {xs ys : List Int}, xs.Pairwise (· < ·) → ys.Pairwise (· < ·) → (∀ a, a ∈ xs ↔ a ∈ ys) → xs = ys := by
  intro xs
  induction xs with
  | nil =>
    intro ys _ _ h
    cases ys with
    | nil => rfl
    | cons y ys => exact absurd ((h y).2 (by simp)) (by simp)
  | cons x xs ih =>
    intro ys hx hy h
    cases ys with
    | nil => exact absurd ((h x).1 (by simp)) (by simp)
    | cons y ys =>
      rw [List.pairwise_cons] at hx hy
      have hxy : x = y := by
        have h1 := (h x).1 (by simp)
        have h2 := (h y).2 (by simp)
        rcases List.mem_cons.1 h1 with h1 | h1
        · exact h1
        · rcases List.mem_cons.1 h2 with h2 | h2
          · exact h2.symm
          · have := hy.1 _ h1
            have := hx.1 _ h2
            omega
      subst hxy
      congr 1
      refine ih hx.2 hy.2 fun a => ?_
      have := h a
      simp only [List.mem_cons] at this
      constructor
      · intro ha
        rcases this.1 (.inr ha) with h' | h'
        · subst h'; exact absurd (hx.1 _ ha) (by omega)
        · exact h'
      · intro ha
        rcases this.2 (.inr ha) with h' | h'
        · subst h'; exact absurd (hy.1 _ ha) (by omega)
        · exact h'
theorem incr_iff : ∀ xs : List Int, incr xs = true ↔ xs.Pairwise (· < ·) := by
  intro xs
  induction xs with
  | nil => simp [incr]
  | cons x xs ih =>
    cases xs with
    | nil => simp [incr]
    | cons y ys =>
      simp only [incr, Bool.and_eq_true, decide_eq_true_eq, ih, List.pairwise_cons, List.mem_cons]
      constructor
      · rintro ⟨h1, h2, h3⟩
        refine ⟨?_, h2, h3⟩
        rintro a (rfl | ha)
        · exact h1
        · have := h2 a ha
          omega
      · rintro ⟨h1, h2, h3⟩
        exact ⟨h1 y (.inl rfl), h2, h3⟩
theorem passiveMay_iff (xs : List Int) : passiveMay xs = true ↔ xs.Pairwise (· < ·) ∧ (∀ x ∈ xs, place x = true) ∧ xs.length ≤ 16 := by
  rw [← passiveMay_eq]
  simp only [refPassiveMay, Bool.and_eq_true, incr_iff, decide_eq_true_eq, List.all_eq_true]
  constructor
  · rintro ⟨⟨h1, h2⟩, h3⟩; exact ⟨h1, h2, h3⟩
  · rintro ⟨h1, h2, h3⟩; exact ⟨⟨h1, h2⟩, h3⟩

def posI (xs : List Int) (id : Int) : Nat := (xs.takeWhile fun x => decide (x < id)).length
theorem posI_le (xs : List Int) (id : Int) : posI xs id ≤ xs.length := (List.takeWhile_prefix _).length_le
def insU (id : Int) : List Int → List Int
  | [] => [id]
  | x :: xs => if x < id then x :: insU id xs else id :: x :: xs
theorem insL_insU (id : Int) : ∀ xs : List Int, insL xs (posI xs id) id = insU id xs := by
  intro xs
  induction xs with
  | nil => rfl
  | cons x xs ih =>
    unfold insU
    by_cases h : x < id
    · rw [if_pos h, ← ih]
      simp [posI, insL, List.takeWhile_cons, h]
    · rw [if_neg h]
      simp [posI, insL, List.takeWhile_cons, h]
theorem mem_insU {id a : Int} : ∀ {xs : List Int}, a ∈ insU id xs ↔ a = id ∨ a ∈ xs := by
  intro xs
  induction xs with
  | nil => simp [insU]
  | cons x xs ih =>
    unfold insU
    split
    · simp only [List.mem_cons, ih]
      constructor
      · rintro (h | h | h)
        · exact .inr (.inl h)
        · exact .inl h
        · exact .inr (.inr h)
      · rintro (h | h | h)
        · exact .inr (.inl h)
        · exact .inl h
        · exact .inr (.inr h)
    · simp
theorem insU_length (id : Int) (xs : List Int) : (insU id xs).length = xs.length + 1 := by rw [← insL_insU, insL_length]
theorem rising_insU {id : Int} : ∀ {xs : List Int}, xs.Pairwise (· < ·) → id ∉ xs → (insU id xs).Pairwise (· < ·) := by
  intro xs
  induction xs with
  | nil => intro _ _; simp [insU]
  | cons x xs ih =>
    intro h hn
    rw [List.pairwise_cons] at h
    simp only [List.mem_cons, not_or] at hn
    unfold insU
    split
    · rename_i hlt
      rw [List.pairwise_cons]
      refine ⟨fun a ha => ?_, ih h.2 hn.2⟩
      rcases mem_insU.1 ha with rfl | ha
      · exact hlt
      · exact h.1 a ha
    · rename_i hge
      rw [List.pairwise_cons, List.pairwise_cons]
      refine ⟨?_, h⟩
      intro a ha
      rcases List.mem_cons.1 ha with rfl | ha
      · omega
      · have := h.1 a ha
        omega
theorem posI_lo {xs : List Int} {id : Int} (i : Nat) (x : Int) (h : i < posI xs id) (hx : xs[i]? = some x) : x < id := by simpa using takeWhile_get _ xs i x h hx
theorem rising_get {xs : List Int} (h : xs.Pairwise (· < ·)) {i j : Nat} {x y : Int} (hij : i < j) (hx : xs[i]? = some x) (hy : xs[j]? = some y) : x < y := by
  obtain ⟨hi, rfl⟩ := List.getElem?_eq_some_iff.1 hx
  obtain ⟨hj, rfl⟩ := List.getElem?_eq_some_iff.1 hy
  exact List.pairwise_iff_getElem.1 h i j hi hj hij
theorem posI_hi {xs : List Int} {id : Int} (h : xs.Pairwise (· < ·)) (i : Nat) (x : Int) (hi : posI xs id ≤ i) (hx : xs[i]? = some x) : id ≤ x := by
  have hlt : posI xs id < xs.length := by
    have := (List.getElem?_eq_some_iff.1 hx).1
    omega
  have hq : xs[posI xs id]? = some xs[posI xs id] := by simp [hlt]
  have h1 := takeWhile_end _ xs _ hq
  simp at h1
  rcases Nat.lt_or_ge (posI xs id) i with h2 | h2
  · have := rising_get h h2 hq hx
    omega
  · have : i = posI xs id := by omega
    subst this
    rw [hq] at hx
    cases hx
    exact h1
theorem posI_mem {xs : List Int} {id : Int} (h : xs.Pairwise (· < ·)) : xs[posI xs id]? = some id ↔ id ∈ xs := by
  constructor
  · intro h'
    exact List.mem_of_getElem? h'
  · intro h'
    obtain ⟨j, hj⟩ := List.getElem?_of_mem h'
    rcases Nat.lt_trichotomy j (posI xs id) with h1 | h1 | h1
    · have := posI_lo j id h1 hj
      omega
    · rw [← h1]; exact hj
    · have hlt := (List.getElem?_eq_some_iff.1 hj).1
      have hq : xs[posI xs id]? = some (xs[posI xs id]'(by omega)) := by simp
      have h2 := rising_get h h1 hq hj
      have h3 := posI_hi h (posI xs id) _ (Nat.le_refl _) hq
      omega

def withP (xs : List Int) (id : Int) : List Int × Int :=
  if passiveMay xs && place id then (if id ∈ xs then (xs, 0) else if xs.length = 16 then ([], 801) else (insU id xs, 0)) else ([], 800)
def refWith (xs : List Int) (id : Int) : List Int × Int :=
  if refPassiveMay xs && place id then (if 16 < (((List.range 256).map fun (i : Nat) => (i : Int)).filter fun x => decide (x = id) || decide (x ∈ xs)).length then ([], 801) else (((List.range 256).map fun (i : Nat) => (i : Int)).filter fun x => decide (x = id) || decide (x ∈ xs), 0)) else ([], 800)
theorem rising_range : ((List.range 256).map fun (i : Nat) => (i : Int)).Pairwise (· < ·) := by
  rw [List.pairwise_map]
  exact List.pairwise_lt_range.imp fun h => by omega
theorem mem_range256 (x : Int) : x ∈ ((List.range 256).map fun (i : Nat) => (i : Int)) ↔ place x = true := by
  rw [place_iff]
  simp only [List.mem_map, List.mem_range]
  constructor
  · rintro ⟨i, hi, rfl⟩; omega
  · rintro ⟨h1, h2⟩; exact ⟨x.toNat, by omega, by omega⟩
theorem refWith_eq (xs : List Int) (id : Int) : refWith xs id = withP xs id := by
  unfold refWith withP
  rw [passiveMay_eq]
  by_cases h : (passiveMay xs && place id) = true
  · rw [if_pos h, if_pos h]
    rw [Bool.and_eq_true] at h
    obtain ⟨h1, hp⟩ := h
    obtain ⟨hr, hpl, hl⟩ := (passiveMay_iff xs).1 h1
    have hf : (((List.range 256).map fun (i : Nat) => (i : Int)).filter fun x => decide (x = id) || decide (x ∈ xs)) = if id ∈ xs then xs else insU id xs := by
      refine rising_ext (rising_range.filter _) ?_ ?_
      · split
        · exact hr
        · rename_i hn; exact rising_insU hr hn
      · intro a
        rw [List.mem_filter, mem_range256]
        simp only [Bool.or_eq_true, decide_eq_true_eq]
        split
        · rename_i hm
          constructor
          · rintro ⟨_, rfl | h⟩
            · exact hm
            · exact h
          · intro h; exact ⟨hpl a h, .inr h⟩
        · rw [mem_insU]
          constructor
          · exact fun h => h.2
          · rintro (rfl | h)
            · exact ⟨hp, .inl rfl⟩
            · exact ⟨hpl a h, .inr h⟩
    rw [hf]
    by_cases hm : id ∈ xs
    · simp only [hm, if_true]
      rw [if_neg (by omega)]
    · simp only [hm, if_false, insU_length]
      by_cases hf : xs.length = 16
      · rw [if_pos hf, if_pos (by omega)]
      · rw [if_neg hf, if_neg (by omega)]
  · rw [if_neg h, if_neg h]
def withoutP (xs : List Int) (id : Int) : List Int × Int := if passiveMay xs && place id then (xs.filter (fun y => !decide (y = id)), 0) else ([], 800)
theorem refWithout_eq (xs : List Int) (id : Int) : refWithout xs id = withoutP xs id := by
  unfold refWithout withoutP
  rw [passiveMay_eq]
theorem passiveMay_filter {xs : List Int} {p : Int → Bool} (h : passiveMay xs = true) : passiveMay (xs.filter p) = true := by
  obtain ⟨h1, h2, h3⟩ := (passiveMay_iff xs).1 h
  refine (passiveMay_iff _).2 ⟨h1.filter _, fun x hx => h2 x (List.mem_filter.1 hx).1, Nat.le_trans (List.length_filter_le _ _) h3⟩
theorem passiveMay_insU {xs : List Int} {id : Int} (h : passiveMay xs = true) (hp : place id = true) (hn : id ∉ xs) (hl : xs.length ≠ 16) : passiveMay (insU id xs) = true := by
  obtain ⟨h1, h2, h3⟩ := (passiveMay_iff xs).1 h
  refine (passiveMay_iff _).2 ⟨rising_insU h1 hn, fun x hx => ?_, by rw [insU_length]; omega⟩
  rcases mem_insU.1 hx with rfl | hx
  · exact hp
  · exact h2 x hx
theorem filter_insU (id : Int) : ∀ xs : List Int, (insU id xs).filter (fun y => !decide (y = id)) = xs.filter (fun y => !decide (y = id)) := by
  intro xs
  induction xs with
  | nil => simp [insU]
  | cons x xs ih =>
    unfold insU
    split
    · simp only [List.filter_cons, ih]
    · simp [List.filter_cons]
theorem filter_out {xs : List Int} {id : Int} (h : id ∉ xs) : xs.filter (fun y => !decide (y = id)) = xs := by
  rw [List.filter_eq_self]
  intro a ha
  simp
  rintro rfl
  exact h ha
theorem filter_one {xs : List Int} {id : Int} (h : xs.Pairwise (· < ·)) (hm : id ∈ xs) : xs.length = (xs.filter (fun y => !decide (y = id))).length + 1 := by
  have : xs = insU id (xs.filter (fun y => !decide (y = id))) := by
    refine rising_ext h (rising_insU (h.filter _) (by simp)) fun a => ?_
    rw [mem_insU, List.mem_filter]
    simp
    constructor
    · intro ha
      by_cases h' : a = id
      · exact .inl h'
      · exact .inr ⟨ha, h'⟩
    · rintro (rfl | ⟨ha, _⟩)
      · exact hm
      · exact ha
  have h2 := congrArg List.length this
  rw [insU_length] at h2
  exact h2
theorem withP_len (xs : List Int) (id : Int) : (withP xs id).1.length ≤ 16 := by
  unfold withP
  split
  · rename_i h
    rw [Bool.and_eq_true] at h
    have hl := ((passiveMay_iff xs).1 h.1).2.2
    split
    · exact hl
    · split
      · simp
      · rw [insU_length]; omega
  · simp
theorem withoutP_len (xs : List Int) (id : Int) : (withoutP xs id).1.length ≤ 16 := by
  unfold withoutP
  split
  · rename_i h
    rw [Bool.and_eq_true] at h
    have hl := ((passiveMay_iff xs).1 h.1).2.2
    exact Nat.le_trans (List.length_filter_le _ _) hl
  · simp
theorem fIdx_spec0 (p : Int → Bool) : ∀ (xs : List Int) (i : Nat), (fIdx p i xs = -1 ∧ xs.filter (fun x => !p x) = xs) ∨ ∃ f, fIdx p i xs = ((i + f : Nat) : Int) ∧ f < xs.length ∧ (xs.take (f + 1)).filter (fun x => !p x) = xs.take f := by
  intro xs
  induction xs with
  | nil => intro i; exact .inl ⟨rfl, rfl⟩
  | cons x xs ih =>
    intro i
    simp only [fIdx]
    by_cases h : p x = true
    · right
      exact ⟨0, by simp [h], by simp, by simp [h]⟩
    · have h' : p x = false := by simpa using h
      rw [if_neg h]
      rcases ih (i + 1) with ⟨h1, h2⟩ | ⟨f, h1, h2, h3⟩
      · left
        refine ⟨h1, ?_⟩
        rw [List.filter_cons]
        simp [h', h2]
      · right
        refine ⟨f + 1, by rw [h1]; congr 1; omega, by simpa using h2, ?_⟩
        rw [List.take_succ_cons, List.filter_cons, h3]
        simp [h']
theorem fIdx_spec (p : Int → Bool) (xs : List Int) : (fIdx p 0 xs = -1 ∧ xs.filter (fun x => !p x) = xs) ∨ ∃ f : Nat, fIdx p 0 xs = (f : Int) ∧ f < xs.length ∧ (xs.take (f + 1)).filter (fun x => !p x) = xs.take f := by
  rcases fIdx_spec0 p xs 0 with h | ⟨f, h⟩
  · exact .inl h
  · exact .inr ⟨f, by simpa using h⟩
theorem take_ovr {cur ys : List (List D)} {i : Nat} (h : i ≤ cur.length) : (ovr cur i ys).take i = cur.take i := by
  unfold ovr
  rw [List.append_assoc, List.take_append_of_le_length (by simp; omega), List.take_take, Nat.min_self]
/-- A filter of the numbers below n, one by one. -/
theorem filter_count (p : Int → Bool) (n : Nat) : ∃ F : Nat → List Int, F 0 = [] ∧ (∀ i, i < n → F (i + 1) = if p (i : Int) = true then F i ++ [(i : Int)] else F i) ∧ F n = ((List.range n).map fun (i : Nat) => (i : Int)).filter p ∧ ∀ i, (F i).length ≤ i := by
  refine ⟨fun i => ((List.range i).map fun (i : Nat) => (i : Int)).filter p, rfl, fun i hi => ?_, rfl, fun i => Nat.le_trans (List.length_filter_le _ _) (by simp)⟩
  simp only [List.range_succ, List.map_append, List.filter_append, List.map_cons, List.map_nil]
  by_cases h : p (i : Int) = true
  · simp [h]
  · simp [h]
/-- The tens that are wanted. -/
def idsOf (W : List Bool) (n : Nat) : List Int := ((List.range n).filter fun k => W.getD k false).map fun (k : Nat) => 10 * (k : Int)
theorem mem_idsOf {W : List Bool} {n : Nat} {x : Int} : x ∈ idsOf W n ↔ ∃ k : Nat, k < n ∧ W.getD k false = true ∧ x = 10 * (k : Int) := by
  unfold idsOf
  simp only [List.mem_map, List.mem_filter, List.mem_range]
  constructor
  · rintro ⟨k, ⟨h1, h2⟩, rfl⟩; exact ⟨k, h1, h2, rfl⟩
  · rintro ⟨k, h1, h2, rfl⟩; exact ⟨k, ⟨h1, h2⟩, rfl⟩
theorem rising_idsOf (W : List Bool) (n : Nat) : (idsOf W n).Pairwise (· < ·) := by
  unfold idsOf
  rw [List.pairwise_map]
  exact (List.pairwise_lt_range.filter _).imp fun h => by omega
theorem idsOf_may (W : List Bool) : passiveMay (idsOf W 16) = true := by
  refine (passiveMay_iff _).2 ⟨rising_idsOf W 16, fun x hx => ?_, ?_⟩
  · obtain ⟨k, h1, _, rfl⟩ := mem_idsOf.1 hx
    rw [place_iff]
    omega
  · unfold idsOf
    rw [List.length_map]
    exact Nat.le_trans (List.length_filter_le _ _) (by simp)
theorem boolSet {W : List Bool} {k j : Nat} {b : Bool} (hk : k < W.length) : (W.set k b).getD j false = if j = k then b else W.getD j false := by
  simp only [List.getD_eq_getElem?_getD, List.getElem?_set]
  by_cases h : k = j
  · subst h; simp [hk]
  · rw [if_neg h, if_neg (Ne.symm h)]
theorem place_ten {k : Nat} (hk : k < 16) : place (10 * (k : Int)) = true := by rw [place_iff]; omega
theorem withP_ids {W : List Bool} (hW : W.length = 16) {k : Nat} (hk : k < 16) : withP (idsOf W 16) (10 * (k : Int)) = (idsOf (W.set k true) 16, 0) := by
  unfold withP
  rw [if_pos (by rw [idsOf_may, place_ten hk]; rfl)]
  have hin : 10 * (k : Int) ∈ idsOf W 16 ↔ W.getD k false = true := by
    rw [mem_idsOf]
    constructor
    · rintro ⟨j, _, h, he⟩
      have : k = j := by omega
      subst this
      exact h
    · intro h; exact ⟨k, hk, h, rfl⟩
  have key : ∀ a, a ∈ idsOf (W.set k true) 16 ↔ a = 10 * (k : Int) ∨ a ∈ idsOf W 16 := by
    intro a
    rw [mem_idsOf, mem_idsOf]
    constructor
    · rintro ⟨j, h1, h2, rfl⟩
      rw [boolSet (by omega)] at h2
      split at h2
      · rename_i hjk; left; rw [hjk]
      · right; exact ⟨j, h1, h2, rfl⟩
    · rintro (rfl | ⟨j, h1, h2, rfl⟩)
      · exact ⟨k, hk, by rw [boolSet (by omega)]; simp, rfl⟩
      · refine ⟨j, h1, ?_, rfl⟩
        rw [boolSet (by omega)]
        split
        · rfl
        · exact h2
  by_cases h : 10 * (k : Int) ∈ idsOf W 16
  · rw [if_pos h]
    congr 1
    refine rising_ext (rising_idsOf _ _) (rising_idsOf _ _) fun a => ?_
    rw [key]
    constructor
    · exact .inr
    · rintro (rfl | h')
      · exact h
      · exact h'
  · rw [if_neg h]
    have he : insU (10 * (k : Int)) (idsOf W 16) = idsOf (W.set k true) 16 := rising_ext (rising_insU (rising_idsOf _ _) h) (rising_idsOf _ _) fun a => by rw [mem_insU, key]
    have hl := insU_length (10 * (k : Int)) (idsOf W 16)
    rw [he] at hl
    have hl2 := ((passiveMay_iff _).1 (idsOf_may (W.set k true))).2.2
    rw [if_neg (by omega), he]
theorem withoutP_ids {W : List Bool} (hW : W.length = 16) {k : Nat} (hk : k < 16) : withoutP (idsOf W 16) (10 * (k : Int)) = (idsOf (W.set k false) 16, 0) := by
  unfold withoutP
  rw [if_pos (by rw [idsOf_may, place_ten hk]; rfl)]
  congr 1
  refine rising_ext ((rising_idsOf _ _).filter _) (rising_idsOf _ _) fun a => ?_
  rw [List.mem_filter, mem_idsOf, mem_idsOf]
  constructor
  · rintro ⟨⟨j, h1, h2, rfl⟩, h3⟩
    refine ⟨j, h1, ?_, rfl⟩
    rw [boolSet (by omega), if_neg (by rintro rfl; simp at h3)]
    exact h2
  · rintro ⟨j, h1, h2, rfl⟩
    rw [boolSet (by omega)] at h2
    split at h2
    · cases h2
    · rename_i hjk
      exact ⟨⟨j, h1, h2, rfl⟩, by simp; omega⟩
theorem idsOf_succ (W : List Bool) (n : Nat) : idsOf W (n + 1) = if W.getD n false = true then idsOf W n ++ [10 * (n : Int)] else idsOf W n := by
  unfold idsOf
  rw [List.range_succ, List.filter_append, List.map_append]
  by_cases h : W.getD n false = true
  · rw [if_pos h, List.filter_cons, if_pos h]; rfl
  · rw [if_neg h, List.filter_cons, if_neg h]; simp
end Go.AM
/- Plain law: where a search by a comparison ends; stores by it. -/
namespace Go.AM
set_option linter.unusedSimpArgs false
set_option linter.unusedVariables false

/-- How many at the front are below. -/
def posC {α : Type} (c : α → Int) (xs : List α) : Nat := (xs.takeWhile fun x => decide (c x < 0)).length
/-- Is the one there it? -/
def atC {α : Type} (c : α → Int) (xs : List α) : Bool := (xs[posC c xs]?).any fun x => decide (c x = 0)
/-- Ahead of one that is below all are. -/
def MonoC {α : Type} (c : α → Int) (xs : List α) : Prop := ∀ (i j : Nat) (x y : α), i ≤ j → xs[i]? = some x → xs[j]? = some y → c y < 0 → c x < 0
theorem posC_nil {α : Type} (c : α → Int) : posC c [] = 0 := rfl
theorem posC_cons {α : Type} (c : α → Int) (a : α) (xs : List α) : posC c (a :: xs) = if c a < 0 then posC c xs + 1 else 0 := by
  unfold posC
  rw [List.takeWhile_cons]
  by_cases h : c a < 0 <;> simp [h]
theorem atC_nil {α : Type} (c : α → Int) : atC c [] = false := rfl
theorem atC_cons {α : Type} (c : α → Int) (a : α) (xs : List α) : atC c (a :: xs) = if c a < 0 then atC c xs else decide (c a = 0) := by
  unfold atC
  rw [posC_cons]
  by_cases h : c a < 0 <;> simp [h]
theorem posC_le {α : Type} (c : α → Int) (xs : List α) : posC c xs ≤ xs.length := by
  induction xs with
  | nil => simp [posC]
  | cons a xs ih => rw [posC_cons]; split <;> simp <;> omega
theorem posC_lo {α : Type} (c : α → Int) (xs : List α) : ∀ (i : Nat) (x : α), i < posC c xs → xs[i]? = some x → c x < 0 := by
  induction xs with
  | nil => intro i x h; simp [posC] at h
  | cons a xs ih =>
    intro i x h hx
    rw [posC_cons] at h
    by_cases ha : c a < 0
    · rw [if_pos ha] at h
      cases i with
      | zero => simp at hx; subst hx; exact ha
      | succ i => exact ih i x (by omega) (by simpa using hx)
    · rw [if_neg ha] at h; omega
theorem posC_at {α : Type} (c : α → Int) (xs : List α) : ∀ x, xs[posC c xs]? = some x → 0 ≤ c x := by
  induction xs with
  | nil => intro x h; simp [posC] at h
  | cons a xs ih =>
    intro x hx
    rw [posC_cons] at hx
    by_cases ha : c a < 0
    · rw [if_pos ha] at hx
      exact ih x (by simpa using hx)
    · rw [if_neg ha] at hx
      simp at hx
      subst hx
      omega
theorem posC_hi {α : Type} {c : α → Int} {xs : List α} (hm : MonoC c xs) : ∀ (i : Nat) (x : α), posC c xs ≤ i → xs[i]? = some x → 0 ≤ c x := by
  intro i x hi hx
  apply Classical.byContradiction
  intro hc
  have hlt : posC c xs < xs.length := by
    have := (List.getElem?_eq_some_iff.1 hx).1
    omega
  have h1 : xs[posC c xs]? = some xs[posC c xs] := by simp
  have h2 := hm _ _ _ _ hi h1 hx (by omega)
  have h3 := posC_at c xs _ h1
  omega
theorem atC_true {α : Type} {c : α → Int} {xs : List α} (h : atC c xs = true) : posC c xs < xs.length ∧ ∃ x, xs[posC c xs]? = some x ∧ c x = 0 := by
  unfold atC at h
  cases hx : xs[posC c xs]? with
  | none => rw [hx] at h; cases h
  | some x =>
    rw [hx] at h
    exact ⟨(List.getElem?_eq_some_iff.1 hx).1, x, rfl, by simpa using h⟩

/-- The comparison of an item with a key. -/
def keyC (k : Int) (i : Item) : Int := cmpI i.key k
theorem cmpI_lt (a b : Int) : cmpI a b < 0 ↔ a < b := by unfold cmpI; split <;> (try split) <;> omega
theorem cmpI_eq (a b : Int) : cmpI a b = 0 ↔ a = b := by unfold cmpI; split <;> (try split) <;> omega
theorem risingK_get : ∀ {is : List Item}, risingK is → ∀ (i j : Nat) (x y : Item), i < j → is[i]? = some x → is[j]? = some y → x.key < y.key := by
  intro is
  induction is with
  | nil => intro _ i j x y _ h; simp at h
  | cons a is ih =>
    intro h i j x y hij hx hy
    rw [rising_cons] at h
    cases j with
    | zero => omega
    | succ j =>
      simp at hy
      cases i with
      | zero =>
        simp at hx
        subst hx
        exact h.1 y (List.mem_of_getElem? hy)
      | succ i => exact ih h.2 i j x y (by omega) (by simpa using hx) hy
theorem mono_key {is : List Item} (h : risingK is) (k : Int) : MonoC (keyC k) is := by
  intro i j x y hij hx hy hc
  unfold keyC at hc ⊢
  rw [cmpI_lt] at hc ⊢
  by_cases e : i = j
  · subst e
    rw [hx] at hy
    cases hy
    exact hc
  · have := risingK_get h i j x y (by omega) hx hy
    omega
theorem getS_at : ∀ {is : List Item}, risingK is → ∀ k, getS is k = if atC (keyC k) is then is[posC (keyC k) is]? else none := by
  intro is
  induction is with
  | nil => intro _ k; simp [getS, atC_nil]
  | cons a is ih =>
    intro h k
    rw [rising_cons] at h
    rw [getS_cons, posC_cons, atC_cons]
    simp only [keyC, cmpI_lt, cmpI_eq]
    by_cases h1 : a.key < k
    · rw [if_neg (by omega), if_pos h1, if_pos h1, ih h.2 k]
      simp [keyC]
    · by_cases h2 : a.key = k
      · simp [h1, h2]
      · simp [h1, h2]
        exact getS_above h.1 (by omega)
theorem putS_at (x : Item) : ∀ (is : List Item), (∀ a, is[posC (keyC x.key) is]? = some a → atC (keyC x.key) is = true → putS x is = is.set (posC (keyC x.key) is) (bestI a x)) ∧ (atC (keyC x.key) is = false → putS x is = insL is (posC (keyC x.key) is) x) := by
  intro is
  induction is with
  | nil => exact ⟨fun a h => by simp at h, fun _ => by simp [putS, insL, posC]⟩
  | cons b is ih =>
    rw [posC_cons, atC_cons]
    simp only [keyC, cmpI_lt, cmpI_eq]
    by_cases h1 : b.key < x.key
    · simp only [if_pos h1]
      have e : putS x (b :: is) = b :: putS x is := by
        unfold putS
        rw [if_neg (by omega), if_neg (by omega)]
        cases is <;> simp [putS]
      rw [e]
      exact ⟨fun a ha ht => by rw [ih.1 a (by simpa using ha) ht]; rfl, fun ht => by rw [ih.2 ht]; simp [insL, keyC]⟩
    · simp only [if_neg h1]
      by_cases h2 : b.key = x.key
      · refine ⟨fun a ha _ => ?_, fun ht => by simp [h2] at ht⟩
        simp at ha
        subst ha
        simp [putS, h2]
      · refine ⟨fun a ha ht => by simp [h2] at ht, fun _ => ?_⟩
        have h3 : x.key < b.key := by omega
        simp [putS, h3, insL]
/-- A key's item, of a store that may be. -/
def getR (is : List Item) (k : Int) : Item × Bool := if storeMay is then (match getS is k with | some i => (i, true) | none => (zeroItem, false)) else (zeroItem, false)
end Go.AM
/- AM: contracts: binary search by a comparison. -/
namespace Go.AM
set_option linter.unusedSimpArgs false
set_option linter.unusedVariables false
set_option maxRecDepth 8000
set_option maxHeartbeats 0
theorem bsearch_Item (xs : List Item) (g : Nat) (key : Int) (c : Item → Int) (hc : ∀ x ∈ xs, Den PP g [.agg x.row, .int .i64 key] [] (.int .i64 (c x)) []) (hl : xs.length ≤ cap) (hr : MonoC c xs) :
    Den PP 43 [.sl (xs.map Item.row) xs.length, .int .i64 key, .fn g [] []] [] (.tup [.int .i64 (posC c xs), .bool (atC c xs)]) [] := by
  have hlo := posC_lo c xs
  have hhi := posC_hi hr
  have hat := posC_le c xs
  have hac : atC c xs = (xs[posC c xs]?).any fun x => decide (c x = 0) := rfl
  rw [hac]
  clear hac
  generalize posC c xs = at_ at *
  refine den_of [] [] is_slices_BinarySearchFunc_api_Item_api_Item_int ?_
  simp -implicitDefEqProofs [c_slices_BinarySearchFunc_api_Item_api_Item_int]
  refine loop_rule xs.length (fun m ⟨fr, bs⟩ => ∃ lo hi : Nat, bs = [] ∧ hi - lo ≤ m ∧ lo ≤ at_ ∧ at_ ≤ hi ∧ hi ≤ xs.length ∧ fr 0 = .sl (xs.map Item.row) xs.length ∧ fr 1 = .int .i64 key ∧ fr 2 = .fn g [] [] ∧ fr 8 = .int .i64 xs.length ∧ fr 9 = .int .i64 lo ∧ fr 10 = .int .i64 hi)
    (fun ⟨fr, bs⟩ => bs = [] ∧ fr 0 = .sl (xs.map Item.row) xs.length ∧ fr 1 = .int .i64 key ∧ fr 2 = .fn g [] [] ∧ fr 8 = .int .i64 xs.length ∧ fr 9 = .int .i64 at_) (fun _ => False) c_slices_BinarySearchFunc_api_Item_api_Item_int_L0.eq_1 ?_ ?_ ?_ ?_ ?_
  · exact ⟨0, xs.length, rfl, by omega, by omega, hat, by omega, rfl, rfl, rfl, rfl, rfl, rfl⟩
  · rintro ⟨fr, bs⟩ ⟨lo, hi, rfl, h1, h2, h3, h4, h0, h5, h9, h6, h7, h8⟩
    have e1 : lo = at_ := by omega
    have e2 : hi = at_ := by omega
    simp -implicitDefEqProofs [h0, h5, h9, h6, h7, h8, e1, e2]
  · rintro m ⟨fr, bs⟩ ⟨lo, hi, rfl, h1, h2, h3, h4, h0, h5, h9, h6, h7, h8⟩
    by_cases hlt : lo < hi
    · have hlt' : (lo : Int) < hi := by omega
      have hm := mid_eq (lo := lo) (hi := hi) (by omega) (by omega)
      have hml : (lo + hi) / 2 < xs.length := by omega
      have hml' : (((lo + hi) / 2 : Nat) : Int) < xs.length := by omega
      have hw := wrap_next (n := (lo + hi) / 2) (by unfold cap at hl; omega)
      have hb1 : lo ≤ (lo + hi) / 2 := by omega
      have hb2 : (lo + hi) / 2 < hi := by omega
      generalize (lo + hi) / 2 = mid at *
      obtain ⟨x, hx⟩ : ∃ x, xs[mid] = x := ⟨_, rfl⟩
      have hx' : xs[mid]? = some x := by simp [hml, hx]
      have hcx := hc x (List.mem_of_getElem? hx')
      simp only [Item.row] at hcx
      simp -implicitDefEqProofs [h0, h5, h9, h6, h7, h8, hlt', hlt, hm, hml, hml', hx, Item.row]
      refine callThen_of hcx ?_
      simp -implicitDefEqProofs
      refine condC_dec (fun hc => ?_) (fun hc => ?_)
      all_goals simp -implicitDefEqProofs [h0, h5, h9, h6, h7, h8, hc, hw]
      · have : mid < at_ := by
          apply Classical.byContradiction
          intro hx2
          have := hhi mid x (by omega) hx'
          omega
        exact ⟨mid + 1, hi, by omega, by omega, by omega, by omega, by simp, by simp⟩
      · have : at_ ≤ mid := by
          apply Classical.byContradiction
          intro hx2
          have := hlo mid x (by omega) hx'
          omega
        exact ⟨lo, mid, by omega, by omega, by omega, by omega, by simp, by simp⟩
    · have e1 : lo = at_ := by omega
      have e2 : hi = at_ := by omega
      simp -implicitDefEqProofs [h0, h5, h9, h6, h7, h8, e1, e2]
  · rintro ⟨fr, bs⟩ ⟨rfl, h0, h1, h2, h6, h7⟩
    simp -implicitDefEqProofs [h0, h1, h2, h6, h7]
    refine gOps_dec (fun hc2 => ?_) (fun hc2 => ?_)
    · obtain ⟨x, hx⟩ : ∃ x, xs[at_]'(by omega) = x := ⟨_, rfl⟩
      have hal : at_ < xs.length := by omega
      have hx' : xs[at_]? = some x := by simp [hx, hal]
      have hcx := hc x (List.mem_of_getElem? hx')
      simp only [Item.row] at hcx
      simp -implicitDefEqProofs [h0, h1, h2, h6, h7, hc2, hx, hal, Item.row]
      refine callThen_of hcx ?_
      simp -implicitDefEqProofs [h0, h1, h2, h6, h7, hc2, hx, hal, hx', Item.row]
    · have hp : xs[at_]? = none := by rw [List.getElem?_eq_none]; omega
      simp -implicitDefEqProofs [h0, h1, h2, h6, h7, hc2, hp]
  · rintro ⟨fr, bs⟩ h
    exact h.elim
theorem bsearch_Cut (xs : List Cut) (g : Nat) (key : Cut) (c : Cut → Int) (hc : ∀ x ∈ xs, Den PP g [.agg x.row, .agg [.int .i64 key.a, .int .i64 key.b]] [] (.int .i64 (c x)) []) (hl : xs.length ≤ cap) (hr : MonoC c xs) :
    Den PP 64 [.sl (xs.map Cut.row) xs.length, .agg [.int .i64 key.a, .int .i64 key.b], .fn g [] []] [] (.tup [.int .i64 (posC c xs), .bool (atC c xs)]) [] := by
  have hlo := posC_lo c xs
  have hhi := posC_hi hr
  have hat := posC_le c xs
  have hac : atC c xs = (xs[posC c xs]?).any fun x => decide (c x = 0) := rfl
  rw [hac]
  clear hac
  generalize posC c xs = at_ at *
  refine den_of [] [] is_slices_BinarySearchFunc_api_Cut_api_Cut_api_Cut ?_
  simp -implicitDefEqProofs [c_slices_BinarySearchFunc_api_Cut_api_Cut_api_Cut]
  refine loop_rule xs.length (fun m ⟨fr, bs⟩ => ∃ lo hi : Nat, bs = [⟨[[.int .i64 key.a, .int .i64 key.b]], 2, .box⟩] ∧ hi - lo ≤ m ∧ lo ≤ at_ ∧ at_ ≤ hi ∧ hi ≤ xs.length ∧ fr 0 = .sl (xs.map Cut.row) xs.length ∧ fr 4 = .ptr 0 0 0 ∧ fr 2 = .fn g [] [] ∧ fr 8 = .int .i64 xs.length ∧ fr 9 = .int .i64 lo ∧ fr 10 = .int .i64 hi)
    (fun ⟨fr, bs⟩ => bs = [⟨[[.int .i64 key.a, .int .i64 key.b]], 2, .box⟩] ∧ fr 0 = .sl (xs.map Cut.row) xs.length ∧ fr 4 = .ptr 0 0 0 ∧ fr 2 = .fn g [] [] ∧ fr 8 = .int .i64 xs.length ∧ fr 9 = .int .i64 at_) (fun _ => False) c_slices_BinarySearchFunc_api_Cut_api_Cut_api_Cut_L0.eq_1 ?_ ?_ ?_ ?_ ?_
  · exact ⟨0, xs.length, rfl, by omega, by omega, hat, by omega, rfl, rfl, rfl, rfl, rfl, rfl⟩
  · rintro ⟨fr, bs⟩ ⟨lo, hi, rfl, h1, h2, h3, h4, h0, h5, h9, h6, h7, h8⟩
    have e1 : lo = at_ := by omega
    have e2 : hi = at_ := by omega
    simp -implicitDefEqProofs [h0, h5, h9, h6, h7, h8, e1, e2]
  · rintro m ⟨fr, bs⟩ ⟨lo, hi, rfl, h1, h2, h3, h4, h0, h5, h9, h6, h7, h8⟩
    by_cases hlt : lo < hi
    · have hlt' : (lo : Int) < hi := by omega
      have hm := mid_eq (lo := lo) (hi := hi) (by omega) (by omega)
      have hml : (lo + hi) / 2 < xs.length := by omega
      have hml' : (((lo + hi) / 2 : Nat) : Int) < xs.length := by omega
      have hw := wrap_next (n := (lo + hi) / 2) (by unfold cap at hl; omega)
      have hb1 : lo ≤ (lo + hi) / 2 := by omega
      have hb2 : (lo + hi) / 2 < hi := by omega
      generalize (lo + hi) / 2 = mid at *
      obtain ⟨x, hx⟩ : ∃ x, xs[mid] = x := ⟨_, rfl⟩
      have hx' : xs[mid]? = some x := by simp [hml, hx]
      have hcx := hc x (List.mem_of_getElem? hx')
      simp only [Cut.row] at hcx
      simp -implicitDefEqProofs [h0, h5, h9, h6, h7, h8, hlt', hlt, hm, hml, hml', hx, Cut.row]
      refine callThen_of hcx ?_
      simp -implicitDefEqProofs
      refine condC_dec (fun hc => ?_) (fun hc => ?_)
      all_goals simp -implicitDefEqProofs [h0, h5, h9, h6, h7, h8, hc, hw]
      · have : mid < at_ := by
          apply Classical.byContradiction
          intro hx2
          have := hhi mid x (by omega) hx'
          omega
        exact ⟨mid + 1, hi, by omega, by omega, by omega, by omega, by simp, by simp⟩
      · have : at_ ≤ mid := by
          apply Classical.byContradiction
          intro hx2
          have := hlo mid x (by omega) hx'
          omega
        exact ⟨lo, mid, by omega, by omega, by omega, by omega, by simp, by simp⟩
    · have e1 : lo = at_ := by omega
      have e2 : hi = at_ := by omega
      simp -implicitDefEqProofs [h0, h5, h9, h6, h7, h8, e1, e2]
  · rintro ⟨fr, bs⟩ ⟨rfl, h0, h1, h2, h6, h7⟩
    simp -implicitDefEqProofs [h0, h1, h2, h6, h7]
    refine gOps_dec (fun hc2 => ?_) (fun hc2 => ?_)
    · obtain ⟨x, hx⟩ : ∃ x, xs[at_]'(by omega) = x := ⟨_, rfl⟩
      have hal : at_ < xs.length := by omega
      have hx' : xs[at_]? = some x := by simp [hx, hal]
      have hcx := hc x (List.mem_of_getElem? hx')
      simp only [Cut.row] at hcx
      simp -implicitDefEqProofs [h0, h1, h2, h6, h7, hc2, hx, hal, Cut.row]
      refine callThen_of hcx ?_
      simp -implicitDefEqProofs [h0, h1, h2, h6, h7, hc2, hx, hal, hx', Cut.row]
    · have hp : xs[at_]? = none := by rw [List.getElem?_eq_none]; omega
      simp -implicitDefEqProofs [h0, h1, h2, h6, h7, hc2, hp]
  · rintro ⟨fr, bs⟩ h
    exact h.elim
end Go.AM
/- AM: contracts: slices.Delete of one. -/
namespace Go.AM
set_option linter.unusedSimpArgs false
set_option linter.unusedVariables false
set_option maxRecDepth 8000
set_option maxHeartbeats 0
theorem delete_Cut (rows : List (List D)) (p : Nat) (hf : Fits 2 rows) (hst : StillR rows) (hp : p < rows.length) (hl : rows.length ≤ 1000000) :
    GivesC (DenF PP [0]) 53 rows 2 [.int .i64 p, .int .i64 ((p : Int) + 1)] (rows.take p ++ rows.drop (p + 1)) := by
  refine gives_of (fun r hr => (hf r hr).1) hst fun fl hfl hrow hfs htake hget => ?_
  have hzs : StillR [([D.int IntKind.i64 0, D.int IntKind.i64 0] : List D)] := by intro r hr d hd; rw [List.mem_singleton.1 hr] at hd; simp at hd; rcases hd with rfl | rfl <;> rfl
  generalize hn : rows.length = n at *
  have hfit : Fits 2 (List.take (n - (p + 1)) (List.drop (p + 1) fl)) := by
    intro r hr
    have : r ∈ rows := by
      rw [← htake]
      have h1 : List.take (n - (p + 1)) (List.drop (p + 1) fl) = List.drop (p + 1) (List.take n fl) := by rw [List.drop_take]
      rw [h1] at hr
      exact List.mem_of_mem_drop hr
    exact hf r this
  have hyl : (List.take (n - (p + 1)) (List.drop (p + 1) fl)).length = n - (p + 1) := by simp; omega
  have hne : ¬ (p : Int) = (p : Int) + 1 := by omega
  have hcl : (fl.take p ++ (List.take (n - (p + 1)) (List.drop (p + 1) fl) ++ fl.drop (n - 1))).length = fl.length := by simp; omega
  have hmin : p + min (n - (p + 1)) (fl.length - (p + 1)) = n - 1 := by omega
  have hmin2 : (p : Int) + ((min (n - (p + 1)) (fl.length - (p + 1)) : Nat) : Int) = ((n - 1 : Nat) : Int) := by omega
  have hpn : p + (n - (p + 1)) = n - 1 := by omega
  have hcS : StillR (fl.take p ++ (List.take (n - (p + 1)) (List.drop (p + 1) fl) ++ fl.drop (n - 1))) := (hfs.take _).append (((hfs.drop _).take _).append (hfs.drop _))
  refine ⟨.ref 0 0 (n - 1), [⟨ovr (fl.take p ++ (List.take (n - (p + 1)) (List.drop (p + 1) fl) ++ fl.drop (n - 1))) (n - 1) [[D.int IntKind.i64 0, D.int IntKind.i64 0]], 2, .mut⟩], ?_, ?_⟩
  · refine denF_of [] [] [] [] (by simp) (fun _ h => absurd h List.not_mem_nil) is_slices_Delete_api_Cut_api_Cut ?_
    simp -implicitDefEqProofs [-leave, c_slices_Delete_api_Cut_api_Cut]
    refine pureV_if (by simp [boundD]; omega) ?_
    simp -implicitDefEqProofs [-leave, hne]
    refine outK_slice (0) (p) (by simp; rfl) rfl (by first | rfl | omega | (simp [boundD]; done) | (simp [boundD]; omega) | (simp; done) | (simp; omega) | (simp [*]; done) | (simp [*]; omega)) (by first | rfl | omega | (simp [boundD]; done) | (simp [boundD]; omega) | (simp; done) | (simp; omega) | (simp [*]; done) | (simp [*]; omega)) (by omega) (by first | rfl | omega | (simp [boundD]; done) | (simp [boundD]; omega) | (simp; done) | (simp; omega) | (simp [*]; done) | (simp [*]; omega)) rfl (by first | rfl | omega | (simp [boundD]; done) | (simp [boundD]; omega) | (simp; done) | (simp; omega) | (simp [*]; done) | (simp [*]; omega)) ?_
    simp -implicitDefEqProofs [-leave, hne]
    by_cases hE : p + 1 < fl.length
    · refine outK_slice (p + 1) (n) (by simp; rfl) rfl (by first | rfl | omega | (simp [boundD]; done) | (simp [boundD]; omega) | (simp; done) | (simp; omega) | (simp [*]; done) | (simp [*]; omega)) (by first | rfl | omega | (simp [boundD]; done) | (simp [boundD]; omega) | (simp; done) | (simp; omega) | (simp [*]; done) | (simp [*]; omega)) (by omega) (by first | rfl | omega | (simp [boundD]; done) | (simp [boundD]; omega) | (simp; done) | (simp; omega) | (simp [*]; done) | (simp [*]; omega)) rfl (by first | rfl | omega | (simp [boundD]; done) | (simp [boundD]; omega) | (simp; done) | (simp; omega) | (simp [*]; done) | (simp [*]; omega)) ?_
      simp -implicitDefEqProofs [-leave, hne, hfit]
      repeat' (first | (refine appK2_if (by omega) ?_) | (refine appK2_else (by omega) ?_))
      simp -implicitDefEqProofs [-leave, hne, hyl, hpn, hmin, hmin2]
      generalize (fl.take p ++ (List.take (n - (p + 1)) (List.drop (p + 1) fl) ++ fl.drop (n - 1))) = B at *
      refine outK_slice (n - 1) (n) (by simp; rfl) rfl (by first | rfl | omega | (simp [boundD]; done) | (simp [boundD]; omega) | (simp; done) | (simp; omega) | (simp [*]; done) | (simp [*]; omega)) (by first | rfl | omega | (simp [boundD]; done) | (simp [boundD]; omega) | (simp; done) | (simp; omega) | (simp [*]; done) | (simp [*]; omega)) (by omega) (by first | rfl | omega | (simp [boundD]; done) | (simp [boundD]; omega) | (simp; done) | (simp; omega) | (simp [*]; done) | (simp [*]; omega)) rfl (by first | rfl | omega | (simp [boundD]; done) | (simp [boundD]; omega) | (simp; done) | (simp; omega) | (simp [*]; done) | (simp [*]; omega)) ?_
      simp -implicitDefEqProofs [-leave, hne]
      try refine overK_if (by first | omega | (simp; done) | (simp; omega)) ?_
      have hnn : n - (n - 1) = 1 := by omega
      try simp -implicitDefEqProofs [-leave, hne, hnn]
      rw [leave_lent (by omega) (by simpa [hnn] using hcS.ovr hzs (n - 1))]
      simp [hnn]
    · obtain rfl : n = p + 1 := by omega
      have hB : fl.take p ++ (List.take (p + 1 - (p + 1)) (List.drop (p + 1) fl) ++ fl.drop (p + 1 - 1)) = fl := by simp
      rw [hB] at *
      refine outK_sliceE (p + 1) (by simp; rfl) rfl (by first | rfl | omega | (simp [boundD]; done) | (simp [boundD]; omega) | (simp; done) | (simp; omega) | (simp [*]; done) | (simp [*]; omega)) (by first | rfl | omega | (simp [boundD]; done) | (simp [boundD]; omega) | (simp; done) | (simp; omega) | (simp [*]; done) | (simp [*]; omega)) (by first | rfl | omega | (simp [boundD]; done) | (simp [boundD]; omega) | (simp; done) | (simp; omega) | (simp [*]; done) | (simp [*]; omega)) rfl (by omega) ?_
      try simp -implicitDefEqProofs [-leave, hne]
      refine ⟨by simp [Fits], ?_⟩
      repeat' (first | (refine appK2_if (by omega) ?_) | (refine appK2_else (by omega) ?_))
      try simp -implicitDefEqProofs [-leave, hne]
      refine outK_slice (p) (p + 1) (by simp; rfl) rfl (by first | rfl | omega | (simp [boundD]; done) | (simp [boundD]; omega) | (simp; done) | (simp; omega) | (simp [*]; done) | (simp [*]; omega)) (by first | rfl | omega | (simp [boundD]; done) | (simp [boundD]; omega) | (simp; done) | (simp; omega) | (simp [*]; done) | (simp [*]; omega)) (by omega) (by first | rfl | omega | (simp [boundD]; done) | (simp [boundD]; omega) | (simp; done) | (simp; omega) | (simp [*]; done) | (simp [*]; omega)) rfl (by first | rfl | omega | (simp [boundD]; done) | (simp [boundD]; omega) | (simp; done) | (simp; omega) | (simp [*]; done) | (simp [*]; omega)) ?_
      simp -implicitDefEqProofs [-leave, hne]
      try refine overK_if (by first | omega | (simp; done) | (simp; omega)) ?_
      try simp -implicitDefEqProofs [-leave, hne]
      rw [leave_lent (by omega) (by simpa using hcS.ovr hzs p)]
      simp [Fits]
  · refine outRows_of rfl rfl rfl ?_ ?_ (.inl rfl)
    · rw [ovr_length (by rw [hcl]; simp; omega), hcl]
      omega
    · rw [List.drop_zero, ← htake]
      have h1 : (ovr (fl.take p ++ (List.take (n - (p + 1)) (List.drop (p + 1) fl) ++ fl.drop (n - 1))) (n - 1) [[D.int IntKind.i64 0, D.int IntKind.i64 0]]).take (n - 1) = fl.take p ++ List.take (n - (p + 1)) (List.drop (p + 1) fl) := by
        unfold ovr
        rw [List.append_assoc, List.take_append_of_le_length (by simp; omega), List.take_take, Nat.min_self, ← List.append_assoc, List.take_left' (by simp; omega)]
      rw [h1, List.take_take, List.drop_take, Nat.min_eq_left (by omega)]
end Go.AM
/- Plain law: stores: put twice, in another row. -/
namespace Go.AM
set_option linter.unusedSimpArgs false
set_option linter.unusedVariables false

theorem getS_keyO {is : List Item} {k : Int} : ∀ i, getS is k = some i → i.key = k := fun _ h => (getS_key h).1
theorem joinO_assoc {k : Int} {a b c : Option Item} (ha : ∀ i, a = some i → i.key = k) (hb : ∀ i, b = some i → i.key = k) (hc : ∀ i, c = some i → i.key = k) : joinO (joinO a b) c = joinO a (joinO b c) := by
  cases a with
  | none => cases b <;> rfl
  | some a =>
    cases b with
    | none => cases c <;> rfl
    | some b =>
      cases c with
      | none => rfl
      | some c => simp only [joinO]; rw [bestI_assoc ((ha a rfl).trans (hb b rfl).symm) ((hb b rfl).trans (hc c rfl).symm)]
theorem joinO_key {k : Int} {a b : Option Item} (ha : ∀ i, a = some i → i.key = k) (hb : ∀ i, b = some i → i.key = k) : ∀ i, joinO a b = some i → i.key = k := by
  intro i h
  cases a with
  | none => exact hb i h
  | some a =>
    cases b with
    | none => exact ha i h
    | some b =>
      simp only [joinO, Option.some.injEq] at h
      rcases bestI_or a b with e | e <;> rw [e] at h <;> subst h
      · exact ha _ rfl
      · exact hb _ rfl
theorem some_key {x : Item} {k : Int} (h : k = x.key) : ∀ i, some x = some i → i.key = k := by
  intro i e
  cases e
  exact h.symm
theorem putS_swap {is : List Item} (hr : risingK is) (x y : Item) : putS x (putS y is) = putS y (putS x is) := by
  refine getS_ext _ _ (putS_rising (putS_rising hr)) (putS_rising (putS_rising hr)) fun k => ?_
  rw [getS_putS x _ (putS_rising hr), getS_putS y _ hr, getS_putS y _ (putS_rising hr), getS_putS x _ hr]
  by_cases h1 : k = x.key <;> by_cases h2 : k = y.key
  · rw [if_pos h1, if_pos h2, if_pos h2, if_pos h1, joinO_assoc getS_keyO (some_key h2) (some_key h1), joinO_assoc getS_keyO (some_key h1) (some_key h2), joinO_comm (some_key h2) (some_key h1)]
  · rw [if_pos h1, if_neg h2, if_neg h2, if_pos h1]
  · rw [if_neg h1, if_pos h2, if_pos h2, if_neg h1]
  · rw [if_neg h1, if_neg h2, if_neg h2, if_neg h1]
theorem putS_self {is : List Item} (hr : risingK is) (x : Item) : putS x (putS x is) = putS x is := by
  refine getS_ext _ _ (putS_rising (putS_rising hr)) (putS_rising hr) fun k => ?_
  rw [getS_putS x _ (putS_rising hr), getS_putS x _ hr]
  by_cases h1 : k = x.key
  · simp only [if_pos h1]
    rw [joinO_assoc getS_keyO (some_key h1) (some_key h1)]
    congr 1
    simp [joinO, bestI_self]
  · simp only [if_neg h1]
theorem putS_in {is : List Item} (hr : risingK is) {y : Item} (hy : y ∈ is) : putS y is = is := by
  refine getS_ext _ _ (putS_rising hr) hr fun k => ?_
  rw [getS_putS y _ hr]
  by_cases h1 : k = y.key
  · rw [if_pos h1, h1, getS_mem hr hy]
    simp [joinO, bestI_self]
  · rw [if_neg h1]
theorem putS_mem2 {is : List Item} (hr : risingK is) (x : Item) {y : Item} (hy : y ∈ is) : putS y (putS x is) = putS x is := by
  rw [putS_swap hr, putS_in hr hy]
/-- What a row of puts comes to. -/
def putsS (is : List Item) (js : List Item) : List Item := js.foldl (fun s x => putS x s) is
theorem putsS_cons (is : List Item) (x : Item) (js : List Item) : putsS is (x :: js) = putsS (putS x is) js := rfl
theorem putsS_snoc (is js : List Item) (x : Item) : putsS is (js ++ [x]) = putS x (putsS is js) := by simp [putsS]
theorem putsS_rising {is : List Item} (hr : risingK is) : ∀ js, risingK (putsS is js) := by
  intro js
  induction js generalizing is with
  | nil => exact hr
  | cons x js ih => exact ih (putS_rising hr)
theorem putsS_length (is js : List Item) : (putsS is js).length ≤ is.length + js.length := by
  induction js generalizing is with
  | nil => simp [putsS]
  | cons x js ih =>
    rw [putsS_cons]
    have h1 := ih (putS x is)
    have h2 := (putS_length_le x is).2
    simp at h1 ⊢
    omega
theorem putsS_perm {js ks : List Item} (h : js.Perm ks) : ∀ {is : List Item}, risingK is → putsS is js = putsS is ks := by
  induction h with
  | nil => intro is _; rfl
  | cons x _ ih => intro is hr; exact ih (putS_rising hr)
  | swap x y l =>
    intro is hr
    simp only [putsS_cons]
    rw [putS_swap hr]
  | trans _ _ ih1 ih2 => intro is hr; rw [ih1 hr, ih2 hr]
theorem putsS_mem {i : Item} : ∀ {js is : List Item}, i ∈ putsS is js → i ∈ is ∨ i ∈ js := by
  intro js
  induction js with
  | nil => intro is h; exact .inl h
  | cons x js ih =>
    intro is h
    rcases ih h with h | h
    · rcases putS_mem h with h | h
      · exact .inr (by simp [h])
      · exact .inl h
    · exact .inr (List.mem_cons_of_mem _ h)
theorem puts_may {is js : List Item} (h1 : storeMay is = true) (h2 : ∀ j ∈ js, itemMay j = true) (h3 : is.length + js.length ≤ 16) : storeMay (putsS is js) = true := by
  obtain ⟨hm, hr, hl⟩ := (storeMay_iff is).1 h1
  refine (storeMay_iff _).2 ⟨fun i hi => ?_, putsS_rising hr js, ?_⟩
  · rcases putsS_mem hi with h | h
    · exact hm i h
    · exact h2 i h
  · have := putsS_length is js
    omega
theorem putR_of {is : List Item} {x : Item} (h1 : storeMay is = true) (h2 : itemMay x = true) (h3 : is.length < 16) : putR is x = (putS x is, 0) := by
  have := (putS_length_le x is).2
  unfold putR
  rw [h1, h2]
  simp
  omega
/-- One round further in a row of puts. -/
theorem puts_step {is js : List Item} {i : Nat} {x : Item} (h1 : storeMay is = true) (h2 : ∀ j ∈ js, itemMay j = true) (h3 : is.length + js.length ≤ 16) (hx : js[i]? = some x) :
    putR (putsS is (js.take i)) x = (putsS is (js.take (i + 1)), 0) := by
  have hi : i < js.length := (List.getElem?_eq_some_iff.1 hx).1
  have hm := puts_may (js := js.take i) h1 (fun j hj => h2 j (List.mem_of_mem_take hj)) (by simp; omega)
  have hl := putsS_length is (js.take i)
  rw [putR_of hm (h2 x (List.mem_of_getElem? hx)) (by simp at hl; omega), List.take_add_one, hx]
  simp only [Option.toList]
  rw [putsS_snoc]
theorem putR_twice {is : List Item} {x : Item} (h : (putR is x).2 = 0) : putR (putR is x).1 x = ((putR is x).1, 0) ∧ ∀ y ∈ is, putR (putR is x).1 y = ((putR is x).1, 0) := by
  obtain ⟨h1, h2, h3, h4⟩ := putR_may h
  obtain ⟨hm, hr, hl⟩ := (storeMay_iff is).1 h1
  have h5 := ((storeMay_iff _).1 h4).2.2
  rw [h3]
  simp only
  refine ⟨?_, fun y hy => ?_⟩
  · unfold putR
    rw [h4, h2, putS_self hr]
    simp [h5]
  · unfold putR
    rw [h4, hm y hy, putS_mem2 hr x hy]
    simp [h5]
theorem rot_perm {α : Type} (xs : List α) (r : Nat) : (xs.drop r ++ xs.take r).Perm xs := by
  have h : (xs.take r ++ xs.drop r).Perm (xs.drop r ++ xs.take r) := List.perm_append_comm
  rw [List.take_append_drop] at h
  exact h.symm
/-- A row turned by r. -/
theorem rot_get {α : Type} (xs : List α) (r i : Nat) (hr : r < xs.length) (hi : i < xs.length) : (xs.drop r ++ xs.take r)[i]? = xs[(i + r) % xs.length]? := by
  rw [List.getElem?_append]
  simp only [List.length_drop, List.getElem?_drop, List.getElem?_take]
  by_cases h : i < xs.length - r
  · rw [if_pos h, Nat.mod_eq_of_lt (by omega), Nat.add_comm]
  · rw [if_neg h, if_pos (by omega), Nat.mod_eq_sub_mod (by omega), Nat.mod_eq_of_lt (by omega)]
    congr 1
    omega
end Go.AM
namespace Go.AM
theorem puts_stepP {js : List Item} {i : Nat} {x : Item} (h2 : ∀ j ∈ js.take i, itemMay j = true) (h3 : i < 16) (hx : js[i]? = some x) :
    putR (putsS [] (js.take i)) x = if itemMay x then (putsS [] (js.take (i + 1)), 0) else ([], 500) := by
  have hi : i < js.length := (List.getElem?_eq_some_iff.1 hx).1
  have hm := puts_may (is := []) (js := js.take i) (by decide) h2 (by simp; omega)
  have hl := putsS_length [] (js.take i)
  cases hmx : itemMay x with
  | true =>
    rw [putR_of hm hmx (by simp at hl; omega), List.take_add_one, hx]
    simp only [Option.toList]
    rw [putsS_snoc]
    rfl
  | false =>
    unfold putR
    rw [hm, hmx]
    rfl
theorem turn_eq {a : Int} {k : Nat} (ha : in64 a) (hk : 0 < k) (hk2 : k ≤ 16) : ∃ r : Nat, r < k ∧ (IntKind.u64.wrap a).tmod (IntKind.u64.wrap (k : Int)) = (r : Int) := by
  have h1 : IntKind.u64.wrap (k : Int) = k := IntWalk.u64_in (k : Int) ⟨by omega, by omega⟩
  have h2 : 0 ≤ IntKind.u64.wrap a := by
    simp [IntKind.wrap, IntKind.signed, IntKind.bits]
    omega
  rw [h1, Int.tmod_eq_emod_of_nonneg h2]
  have h3 := Int.emod_nonneg (IntKind.u64.wrap a) (show (k : Int) ≠ 0 by omega)
  have h4 := Int.emod_lt_of_pos (IntKind.u64.wrap a) (show (0 : Int) < k by omega)
  exact ⟨(IntKind.u64.wrap a % k).toNat, by omega, by omega⟩
end Go.AM
/- Plain law: peers: one is heard, all age. -/
namespace Go.AM
set_option linter.unusedSimpArgs false
set_option linter.unusedVariables false

theorem rowed_iff {base : Int} {ps : List Peer} : Rowed base ps ↔ ps.Pairwise (fun p q => far base p.id < far base q.id) := by
  rw [List.pairwise_iff_getElem]
  constructor
  · intro h i j hi hj hij
    exact h i j _ _ hij (by simp) (by simp)
  · intro h i j p q hij hp hq
    obtain ⟨hi, rfl⟩ := List.getElem?_eq_some_iff.1 hp
    obtain ⟨hj, rfl⟩ := List.getElem?_eq_some_iff.1 hq
    exact h i j hi hj hij
def PeerOk (base last : Int) (p : Peer) : Prop := place p.id = true ∧ 0 ≤ p.missed ∧ p.missed < 3 ∧ last < far base p.id
theorem peersOk_iff {base : Int} : ∀ (ps : List Peer) (last : Int), peersOk base last ps = true ↔ (∀ p ∈ ps, PeerOk base last p) ∧ ps.Pairwise (fun p q => far base p.id < far base q.id) := by
  intro ps
  induction ps with
  | nil => intro last; simp [peersOk]
  | cons p ps ih =>
    intro last
    simp only [peersOk, Bool.and_eq_true, decide_eq_true_eq, ih, List.mem_cons, List.pairwise_cons, PeerOk]
    constructor
    · rintro ⟨⟨⟨⟨h1, h2⟩, h3⟩, h4⟩, h5, h6⟩
      refine ⟨?_, fun q hq => (h5 q hq).2.2.2, h6⟩
      rintro q (rfl | hq)
      · exact ⟨h1, h2, h3, h4⟩
      · obtain ⟨a, b, c, d⟩ := h5 q hq
        exact ⟨a, b, c, by omega⟩
    · rintro ⟨h1, h2, h3⟩
      obtain ⟨a, b, c, d⟩ := h1 p (.inl rfl)
      refine ⟨⟨⟨⟨a, b⟩, c⟩, d⟩, fun q hq => ?_, h3⟩
      obtain ⟨a', b', c', d'⟩ := h1 q (.inr hq)
      exact ⟨a', b', c', h2 q hq⟩
theorem peersMay_iff {base : Int} {ps : List Peer} : peersMay base ps = true ↔ place base = true ∧ ps.length ≤ 16 ∧ (∀ p ∈ ps, PeerOk base 0 p) ∧ ps.Pairwise (fun p q => far base p.id < far base q.id) := by
  simp only [peersMay, Bool.and_eq_true, decide_eq_true_eq, peersOk_iff]
  constructor
  · rintro ⟨⟨a, b⟩, c⟩; exact ⟨a, b, c⟩
  · rintro ⟨a, b, c⟩; exact ⟨⟨a, b⟩, c⟩

theorem hearG_true (base id : Int) : ∀ ps : List Peer, hearG base id true ps = ps.filter fun p => !decide (p.id = id) := by
  intro ps
  induction ps with
  | nil => rfl
  | cons p ps ih =>
    simp only [hearG, Bool.true_or, ih]
    by_cases h : p.id = id <;> simp [h]
theorem hearG_far (base id : Int) (p : Peer) (ps : List Peer) (h : far base id ≤ far base p.id) : hearG base id false (p :: ps) = ⟨id, 0⟩ :: (p :: ps).filter fun p => !decide (p.id = id) := by
  simp only [hearG, h, decide_true, Bool.or_true, hearG_true]
  by_cases h2 : p.id = id <;> simp [h2]
theorem hearG_near (base id : Int) (p : Peer) (ps : List Peer) (h : ¬ far base id ≤ far base p.id) : hearG base id false (p :: ps) = p :: hearG base id false ps := by
  have : p.id ≠ id := by intro e; rw [e] at h; omega
  simp [hearG, h, this]
theorem hearG_filter (base id : Int) : ∀ ps : List Peer, (hearG base id false ps).filter (fun p => !decide (p.id = id)) = ps.filter fun p => !decide (p.id = id) := by
  intro ps
  induction ps with
  | nil => simp [hearG]
  | cons p ps ih =>
    by_cases h : far base id ≤ far base p.id
    · rw [hearG_far _ _ _ _ h]
      simp
    · rw [hearG_near _ _ _ _ h]
      have : p.id ≠ id := by intro e; rw [e] at h; omega
      simp [this, ih]
theorem hearG_zero (base id : Int) : ∀ (ps : List Peer) (q : Peer), q ∈ hearG base id false ps → q.id = id → q = ⟨id, 0⟩ := by
  intro ps
  induction ps with
  | nil => intro q hq _; simpa [hearG] using hq
  | cons p ps ih =>
    intro q hq e
    by_cases h : far base id ≤ far base p.id
    · rw [hearG_far _ _ _ _ h] at hq
      rcases List.mem_cons.1 hq with h1 | h1
      · exact h1
      · have := (List.mem_filter.1 h1).2
        simp [e] at this
    · rw [hearG_near _ _ _ _ h] at hq
      rcases List.mem_cons.1 hq with h1 | h1
      · subst h1
        rw [e] at h
        omega
      · exact ih q h1 e
theorem hearG_in (base id : Int) : ∀ (ps : List Peer) (q : Peer), q ∈ hearG base id false ps → q = ⟨id, 0⟩ ∨ q ∈ ps := by
  intro ps
  induction ps with
  | nil => intro q hq; exact .inl (by simpa [hearG] using hq)
  | cons p ps ih =>
    intro q hq
    by_cases h : far base id ≤ far base p.id
    · rw [hearG_far _ _ _ _ h] at hq
      rcases List.mem_cons.1 hq with h1 | h1
      · exact .inl h1
      · exact .inr (List.mem_filter.1 h1).1
    · rw [hearG_near _ _ _ _ h] at hq
      rcases List.mem_cons.1 hq with h1 | h1
      · exact .inr (by simp [h1])
      · rcases ih q h1 with h2 | h2
        · exact .inl h2
        · exact .inr (List.mem_cons_of_mem _ h2)
theorem hearG_length (base id : Int) : ∀ ps : List Peer, (hearG base id false ps).length = (ps.filter fun p => !decide (p.id = id)).length + 1 := by
  intro ps
  induction ps with
  | nil => rfl
  | cons p ps ih =>
    by_cases h : far base id ≤ far base p.id
    · rw [hearG_far _ _ _ _ h]
      simp
    · rw [hearG_near _ _ _ _ h]
      have : p.id ≠ id := by intro e; rw [e] at h; omega
      simp [this, ih]
theorem hearG_has (base id : Int) (ps : List Peer) : ∃ q ∈ hearG base id false ps, q.id = id := by
  have h := (hearG_mem base id ps false id).2 (.inr ⟨rfl, rfl⟩)
  simpa using h
theorem hearG_pair {base id : Int} (hb : place base = true) (hid : place id = true) : ∀ ps : List Peer, (∀ p ∈ ps, place p.id = true) → ps.Pairwise (fun p q => far base p.id < far base q.id) → (hearG base id false ps).Pairwise (fun p q => far base p.id < far base q.id) := by
  intro ps
  induction ps with
  | nil => intro _ _; simp [hearG]
  | cons p ps ih =>
    intro hp hr
    by_cases h : far base id ≤ far base p.id
    · rw [hearG_far _ _ _ _ h, List.pairwise_cons]
      refine ⟨fun q hq => ?_, hr.filter _⟩
      obtain ⟨h1, h2⟩ := List.mem_filter.1 hq
      have h3 : far base p.id ≤ far base q.id := by
        rcases List.mem_cons.1 h1 with h4 | h4
        · subst h4; omega
        · have := (List.pairwise_cons.1 hr).1 q h4
          omega
      have h5 : far base q.id ≠ far base id := by
        intro e
        have := (far_inj hb (hp q h1) hid).1 e
        simp [this] at h2
      show far base id < far base q.id
      omega
    · rw [hearG_near _ _ _ _ h, List.pairwise_cons]
      refine ⟨fun q hq => ?_, ih (fun q hq => hp q (List.mem_cons_of_mem _ hq)) (List.pairwise_cons.1 hr).2⟩
      rcases hearG_in base id ps q hq with h1 | h1
      · subst h1
        show far base p.id < far base id
        omega
      · exact (List.pairwise_cons.1 hr).1 q h1
theorem findAt_cons (base : Int) (p : Peer) (ps : List Peer) (id : Int) : findAt base (p :: ps) id = if far base p.id < far base id then findAt base ps id + 1 else 0 := by
  unfold findAt
  rw [List.takeWhile_cons]
  by_cases h : far base p.id < far base id <;> simp [h]
theorem peerIs_cons (base : Int) (p : Peer) (ps : List Peer) (id : Int) : peerIs base (p :: ps) id = if far base p.id < far base id then peerIs base ps id else decide (far base p.id = far base id) := by
  unfold peerIs
  rw [findAt_cons]
  by_cases h : far base p.id < far base id <;> simp [h, isFar]
theorem hearG_at {base id : Int} (hb : place base = true) (hid : place id = true) : ∀ ps : List Peer, (∀ p ∈ ps, place p.id = true) → ps.Pairwise (fun p q => far base p.id < far base q.id) →
    (peerIs base ps id = true → findAt base ps id < ps.length ∧ (∃ m, ps[findAt base ps id]? = some ⟨id, m⟩) ∧ hearG base id false ps = ps.set (findAt base ps id) ⟨id, 0⟩) ∧ (peerIs base ps id = false → hearG base id false ps = insL ps (findAt base ps id) ⟨id, 0⟩) := by
  intro ps
  induction ps with
  | nil => intro _ _; exact ⟨fun h => by simp [peerIs, findAt, isFar] at h, fun _ => rfl⟩
  | cons p ps ih =>
    intro hp hr
    have hr' := (List.pairwise_cons.1 hr).2
    obtain ⟨i1, i2⟩ := ih (fun q hq => hp q (List.mem_cons_of_mem _ hq)) hr'
    rw [peerIs_cons, findAt_cons]
    have hno : ∀ q ∈ ps, far base id ≤ far base p.id → q.id ≠ id := by
      intro q hq h e
      have := (List.pairwise_cons.1 hr).1 q hq
      rw [e] at this
      omega
    by_cases h : far base p.id < far base id
    · rw [if_pos h, if_pos h, hearG_near _ _ _ _ (by omega)]
      refine ⟨fun h1 => ?_, fun h1 => ?_⟩
      · obtain ⟨a, b, c⟩ := i1 h1
        exact ⟨by simp; omega, by simpa using b, by simp [c]⟩
      · rw [i2 h1]
        simp [insL]
    · rw [if_neg h, if_neg h, hearG_far _ _ _ _ (by omega)]
      have hf : ps.filter (fun p => !decide (p.id = id)) = ps := by
        rw [List.filter_eq_self]
        intro q hq
        have := hno q hq (by omega)
        simp [this]
      refine ⟨fun h1 => ?_, fun h1 => ?_⟩
      · have e : p.id = id := (far_inj hb (hp p (by simp)) hid).1 (by simpa using h1)
        obtain ⟨pi, pm⟩ := p
        simp only at e
        subst e
        refine ⟨by simp, ⟨pm, rfl⟩, ?_⟩
        simp [hf]
      · have e : p.id ≠ id := by
          intro e
          rw [e] at h1
          simp at h1
        simp [e, hf, insL]
theorem peerIs_in {base : Int} {ps : List Peer} {id : Int} (h : peersMay base ps = true) (hid : place id = true) : peerIs base ps id = true ↔ ∃ p ∈ ps, p.id = id := by
  rw [peerIs_mem h hid]
  simp
theorem refHeard_cases (base : Int) (ps : List Peer) (id : Int) :
    (∃ e, refHeard base ps id = ([], e) ∧ e ≠ 0) ∨ (refHeard base ps id = (hearG base id false ps, 0) ∧ peersMay base ps = true ∧ place id = true ∧ id ≠ base ∧ peersMay base (hearG base id false ps) = true) := by
  unfold refHeard
  rw [peersMay_eq]
  by_cases h : (peersMay base ps && place id && !(id == base)) = true
  · rw [if_pos h]
    simp only [Bool.and_eq_true, Bool.not_eq_true', beq_eq_false_iff_ne] at h
    by_cases h2 : (hearG base id false ps).length ≤ 16
    · rw [if_pos h2]
      refine .inr ⟨rfl, h.1.1, h.1.2, h.2, ?_⟩
      obtain ⟨a, b, c, d⟩ := peersMay_iff.1 h.1.1
      refine peersMay_iff.2 ⟨a, h2, fun q hq => ?_, hearG_pair a h.1.2 ps (fun p hp => (c p hp).1) d⟩
      rcases hearG_in base id ps q hq with rfl | h3
      · have h4 := far_range a h.1.2
        have h5 := far_zero a h.1.2
        refine ⟨h.1.2, by simp, by simp, ?_⟩
        have : far base id ≠ 0 := fun e => h.2 (h5.1 e)
        show 0 < far base id
        omega
      · exact c q h3
    · rw [if_neg h2]
      exact .inl ⟨701, rfl, by decide⟩
  · rw [if_neg h]
    exact .inl ⟨700, rfl, by decide⟩
theorem refHeard_len (base : Int) (ps : List Peer) (id : Int) : (refHeard base ps id).1.length ≤ 16 := by
  rcases refHeard_cases base ps id with ⟨e, h, _⟩ | ⟨h, _, _, _, h2⟩
  · rw [h]; simp
  · rw [h]; exact peersMay_len h2

/-- Who is left when all age, who is lost. -/
def ageL (ps : List Peer) : List Peer := (ps.filter fun p => !decide (p.missed + 1 = 3)).map fun p => ⟨p.id, p.missed + 1⟩
def lostL (ps : List Peer) : List Int := (ps.filter fun p => decide (p.missed + 1 = 3)).map Peer.id
def ageR (base : Int) (ps : List Peer) : List Peer × List Int × Int := if peersMay base ps then (ageL ps, lostL ps, 0) else ([], [], 700)
theorem ageL_snoc (ps : List Peer) (p : Peer) : ageL (ps ++ [p]) = if p.missed + 1 = 3 then ageL ps else ageL ps ++ [⟨p.id, p.missed + 1⟩] := by
  by_cases h : p.missed + 1 = 3 <;> simp [ageL, h]
theorem lostL_snoc (ps : List Peer) (p : Peer) : lostL (ps ++ [p]) = if p.missed + 1 = 3 then lostL ps ++ [p.id] else lostL ps := by
  by_cases h : p.missed + 1 = 3 <;> simp [lostL, h]
theorem age_length (ps : List Peer) : (ageL ps).length + (lostL ps).length = ps.length := by
  induction ps with
  | nil => rfl
  | cons p ps ih =>
    by_cases h : p.missed + 1 = 3 <;> simp [ageL, lostL, h] at ih ⊢ <;> omega
theorem ageL_may {base : Int} {ps : List Peer} (h : peersMay base ps = true) : peersMay base (ageL ps) = true := by
  obtain ⟨a, b, c, d⟩ := peersMay_iff.1 h
  have hl := age_length ps
  refine peersMay_iff.2 ⟨a, by omega, fun q hq => ?_, ?_⟩
  · obtain ⟨p, hp, rfl⟩ := List.mem_map.1 hq
    obtain ⟨h1, h2⟩ := List.mem_filter.1 hp
    obtain ⟨e, f, g, k⟩ := c p h1
    simp at h2
    exact ⟨e, by simp; omega, by simp; omega, k⟩
  · unfold ageL
    rw [List.pairwise_map]
    exact d.filter _
end Go.AM
/- Plain law: peers heard in a row stand in the row of distances. -/
namespace Go.AM
set_option linter.unusedSimpArgs false
set_option linter.unusedVariables false

def hearAll (b : Int) (ids : List Int) : List Peer := ids.foldl (fun ps x => if x % 256 = b then ps else hearG b (x % 256) false ps) []
theorem hearAll_snoc (b : Int) (ids : List Int) (x : Int) : hearAll b (ids ++ [x]) = if x % 256 = b then hearAll b ids else hearG b (x % 256) false (hearAll b ids) := by simp [hearAll]
theorem heard_ok {b : Int} {ps : List Peer} {p : Int} (hb : place b = true) (hm : peersMay b ps = true) (hp : place p = true) (hn : p ≠ b) (hl : ps.length < 16) : refHeard b ps p = (hearG b p false ps, 0) := by
  have h1 := hearG_length b p ps
  have h2 := List.length_filter_le (fun q : Peer => !decide (q.id = p)) ps
  unfold refHeard
  rw [peersMay_eq, hm, hp]
  simp [hn]
  omega
structure HearOk (b : Int) (ids : List Int) (ps : List Peer) : Prop where
  may : peersMay b ps = true
  len : ps.length ≤ ids.length
  zero : ∀ q ∈ ps, q.missed = 0
  mem : ∀ y, y ∈ ps.map Peer.id ↔ (∃ x ∈ ids, x % 256 = y) ∧ y ≠ b
theorem hear_step {b x : Int} {ids : List Int} {ps : List Peer} (hb : place b = true) (hl : ids.length < 16) (h : HearOk b ids ps) : HearOk b (ids ++ [x]) (if x % 256 = b then ps else hearG b (x % 256) false ps) := by
  by_cases e : x % 256 = b
  · rw [if_pos e]
    refine ⟨h.may, by have := h.len; simp; omega, h.zero, fun y => ?_⟩
    rw [h.mem]
    simp only [List.mem_append, List.mem_singleton]
    constructor
    · rintro ⟨⟨z, hz, e2⟩, h2⟩; exact ⟨⟨z, .inl hz, e2⟩, h2⟩
    · rintro ⟨⟨z, hz | hz, e2⟩, h2⟩
      · exact ⟨⟨z, hz, e2⟩, h2⟩
      · subst hz; exact absurd (e2.symm.trans e) h2
  · rw [if_neg e]
    have hlen := h.len
    have h1 := heard_ok hb h.may (place_mod x) e (by omega)
    have h2 := hearG_length b (x % 256) ps
    have h3 := List.length_filter_le (fun q : Peer => !decide (q.id = x % 256)) ps
    rcases refHeard_cases b ps (x % 256) with ⟨_, h4, h5⟩ | ⟨_, _, _, _, h4⟩
    · rw [h1] at h4
      simp at h4
      exact absurd h4.2.symm h5
    · refine ⟨h4, by simp; omega, fun q hq => ?_, fun y => ?_⟩
      · rcases hearG_in _ _ _ q hq with rfl | h6
        · rfl
        · exact h.zero q h6
      · rw [hearG_mem, h.mem]
        simp only [List.mem_append, List.mem_singleton, true_and]
        constructor
        · rintro (⟨⟨⟨z, hz, e2⟩, h6⟩, h7⟩ | h6)
          · exact ⟨⟨z, .inl hz, e2⟩, h6⟩
          · subst h6; exact ⟨⟨x, .inr rfl, rfl⟩, e⟩
        · rintro ⟨⟨z, hz | hz, e2⟩, h6⟩
          · by_cases h7 : y = x % 256
            · exact .inr h7
            · exact .inl ⟨⟨⟨z, hz, e2⟩, h6⟩, h7⟩
          · subst hz; exact .inr e2.symm
theorem hear_all {b : Int} (hb : place b = true) (ids : List Int) : ∀ i, i ≤ 16 → HearOk b (ids.take i) (hearAll b (ids.take i)) := by
  intro i
  induction i with
  | zero =>
    intro _
    exact ⟨peersMay_iff.2 ⟨hb, by simp [hearAll], by simp [hearAll], by simp [hearAll]⟩, by simp [hearAll], by simp [hearAll], by simp [hearAll]⟩
  | succ i ih =>
    intro hi
    cases hx : ids[i]? with
    | none =>
      have : ids.take (i + 1) = ids.take i := by rw [List.take_add_one, hx]; simp
      rw [this]
      exact ih (by omega)
    | some x =>
      have : ids.take (i + 1) = ids.take i ++ [x] := by rw [List.take_add_one, hx]; rfl
      rw [this, hearAll_snoc]
      exact hear_step hb (by simp; omega) (ih (by omega))
/-- Which distances are there among the first m. -/
def farD (b : Int) (ids : List Int) (m : Nat) : List Nat := (List.range m).filter fun (d : Nat) => ids.any fun x => decide (x % 256 = (b + ((d : Int) + 1)) % 256)
theorem farD_succ (b : Int) (ids : List Int) (m : Nat) : farD b ids (m + 1) = farD b ids m ++ if (ids.any fun x => decide (x % 256 = (b + ((m : Int) + 1)) % 256)) then [m] else [] := by
  unfold farD
  rw [List.range_succ, List.filter_append]
  congr 1
  by_cases h : (ids.any fun x => decide (x % 256 = (b + ((m : Int) + 1)) % 256)) = true <;> simp [h]
theorem far_plus {b : Int} (hb : place b = true) {d : Nat} (hd : d < 255) : far b ((b + ((d : Int) + 1)) % 256) = d + 1 := by
  have hp := place_mod (b + ((d : Int) + 1))
  rw [far_eq hb hp]
  rw [place_iff] at hb
  split <;> omega
theorem hear_row {b : Int} (hb : place b = true) {ids : List Int} {ps : List Peer} (h : HearOk b ids ps) : ps = (farD b ids 255).map fun (d : Nat) => ⟨(b + ((d : Int) + 1)) % 256, 0⟩ := by
  obtain ⟨_, _, hp, hr⟩ := peersMay_iff.1 h.may
  have e : ps.map (fun p => far b p.id) = (farD b ids 255).map fun (d : Nat) => (d : Int) + 1 := by
    refine rising_ext ?_ ?_ fun a => ?_
    · rw [List.pairwise_map]; exact hr
    · rw [List.pairwise_map]
      refine List.Pairwise.filter _ ?_
      refine (List.pairwise_lt_range (n := 255)).imp ?_
      intro a b hab
      omega
    · simp only [List.mem_map, farD, List.mem_filter, List.mem_range]
      constructor
      · rintro ⟨q, hq, rfl⟩
        obtain ⟨p1, p2, p3, p4⟩ := hp q hq
        have h1 := far_range hb p1
        have h2 : q.id = (b + far b q.id) % 256 := by
          have h3 := far_eq hb p1
          rw [place_iff] at hb p1
          split at h3 <;> omega
        have h3 := ((h.mem q.id).1 (List.mem_map_of_mem hq)).1
        obtain ⟨x, hx, hxe⟩ := h3
        have h4 : (((far b q.id - 1).toNat : Nat) : Int) = far b q.id - 1 := by omega
        refine ⟨(far b q.id - 1).toNat, ⟨by omega, ?_⟩, by omega⟩
        rw [h4, show b + (far b q.id - 1 + 1) = b + far b q.id by omega, ← h2, List.any_eq_true]
        exact ⟨x, hx, by simpa using hxe⟩
      · rintro ⟨d, ⟨hd, hx⟩, rfl⟩
        rw [List.any_eq_true] at hx
        obtain ⟨x, hx, hxe⟩ := hx
        have hfar := far_plus hb hd
        have hne : (b + ((d : Int) + 1)) % 256 ≠ b := by
          rw [place_iff] at hb
          omega
        have h1 := (h.mem ((b + ((d : Int) + 1)) % 256)).2 ⟨⟨x, hx, by simpa using hxe⟩, hne⟩
        obtain ⟨q, hq, hqe⟩ := List.mem_map.1 h1
        exact ⟨q, hq, by rw [hqe, hfar]⟩
  have e2 : ps = (ps.map (fun p => far b p.id)).map fun d => ⟨(b + d) % 256, 0⟩ := by
    rw [List.map_map]
    conv => lhs; rw [← List.map_id ps]
    refine List.map_congr_left fun q hq => ?_
    obtain ⟨p1, p2, p3, p4⟩ := hp q hq
    have h0 := h.zero q hq
    have h2 : q.id = (b + far b q.id) % 256 := by
      have h3 := far_eq hb p1
      rw [place_iff] at hb p1
      split at h3 <;> omega
    obtain ⟨qi, qm⟩ := q
    simp only [id, Function.comp] at h0 h2 ⊢
    rw [← h2, h0]
  rw [e2, e, List.map_map]
  rfl
theorem hear_next {b : Int} (hb : place b = true) {ids : List Int} {ps : List Peer} (h : HearOk b ids ps) {m : Nat} (hm : m < 255) :
    ((ids.any fun x => decide (x % 256 = (b + ((m : Int) + 1)) % 256)) = true → ps[(farD b ids m).length]? = some ⟨(b + ((m : Int) + 1)) % 256, 0⟩ ∧ (farD b ids (m + 1)).length = (farD b ids m).length + 1) ∧
    ((ids.any fun x => decide (x % 256 = (b + ((m : Int) + 1)) % 256)) = false → (farD b ids (m + 1)).length = (farD b ids m).length) := by
  refine ⟨fun hx => ?_, fun hx => by rw [farD_succ, hx]; simp⟩
  refine ⟨?_, by rw [farD_succ, hx]; simp⟩
  have e : farD b ids 255 = farD b ids (m + 1) ++ (List.range' (m + 1) (255 - (m + 1))).filter (fun (d : Nat) => ids.any fun x => decide (x % 256 = (b + ((d : Int) + 1)) % 256)) := by
    unfold farD
    rw [← List.filter_append]
    congr 1
    rw [List.range_eq_range', List.range_eq_range']
    have := @List.range'_append_1 0 (m + 1) (255 - (m + 1))
    rw [Nat.zero_add] at this
    rw [this]
    congr 1
    omega
  rw [hear_row hb h, e, farD_succ, hx]
  simp
end Go.AM
/- Plain law: cuts put in their row, taken out. -/
namespace Go.AM
set_option linter.unusedSimpArgs false
set_option linter.unusedVariables false

def numC (c : Cut) : Int := c.a * 256 + c.b
def cutOk (c : Cut) : Bool := place c.a && place c.b && decide (c.a < c.b)
def cutsOk : Option Cut → List Cut → Bool
  | _, [] => true
  | q, c :: cs => cutOk c && (match q with | none => true | some q => decide (numC q < numC c)) && cutsOk (some c) cs
def cutsMay (cs : List Cut) : Bool := cutsOk none cs && decide (cs.length ≤ 32)
def ordC (x y : Cut) : Int := if cmpI x.a y.a = 0 then cmpI x.b y.b else cmpI x.a y.a
theorem cutOk_iff (c : Cut) : cutOk c = true ↔ (0 ≤ c.a ∧ c.a < 256) ∧ (0 ≤ c.b ∧ c.b < 256) ∧ c.a < c.b := by
  simp [cutOk, place, and_assoc]
theorem ordC_lt {x y : Cut} (hx : cutOk x = true) (hy : cutOk y = true) : ordC x y < 0 ↔ numC x < numC y := by
  rw [cutOk_iff] at hx hy
  unfold ordC numC
  by_cases h : cmpI x.a y.a = 0
  · rw [if_pos h, cmpI_lt]
    rw [cmpI_eq] at h
    omega
  · rw [if_neg h, cmpI_lt]
    rw [cmpI_eq] at h
    omega
theorem ordC_eq {x y : Cut} : ordC x y = 0 ↔ x = y := by
  obtain ⟨xa, xb⟩ := x
  obtain ⟨ya, yb⟩ := y
  unfold ordC
  by_cases h : cmpI xa ya = 0
  · rw [if_pos h, cmpI_eq]
    rw [cmpI_eq] at h
    simp [h]
  · rw [if_neg h]
    constructor
    · intro e; exact absurd e h
    · intro e
      have : xa = ya := by injection e
      exact absurd ((cmpI_eq _ _).2 this) h
theorem numC_inj {x y : Cut} (hx : cutOk x = true) (hy : cutOk y = true) (h : numC x = numC y) : x = y := by
  rw [cutOk_iff] at hx hy
  obtain ⟨xa, xb⟩ := x
  obtain ⟨ya, yb⟩ := y
  simp only [numC] at h hx hy
  have : xa = ya ∧ xb = yb := by omega
  rw [this.1, this.2]
theorem cutsOk_iff : ∀ (cs : List Cut) (q : Option Cut), cutsOk q cs = true ↔ (∀ c ∈ cs, cutOk c = true) ∧ cs.Pairwise (fun x y => numC x < numC y) ∧ (∀ k, q = some k → ∀ c ∈ cs, numC k < numC c) := by
  intro cs
  induction cs with
  | nil => intro q; simp [cutsOk]
  | cons c cs ih =>
    intro q
    simp only [cutsOk, Bool.and_eq_true, ih, List.mem_cons, List.pairwise_cons]
    constructor
    · rintro ⟨⟨h1, h2⟩, h3, h4, h5⟩
      refine ⟨?_, ⟨fun d hd => h5 c rfl d hd, h4⟩, ?_⟩
      · rintro d (rfl | hd)
        · exact h1
        · exact h3 d hd
      · rintro k rfl d hd
        simp only [decide_eq_true_eq] at h2
        rcases hd with rfl | hd
        · exact h2
        · exact Int.lt_trans h2 (h5 c rfl d hd)
    · rintro ⟨h1, ⟨h2, h3⟩, h4⟩
      refine ⟨⟨h1 c (.inl rfl), ?_⟩, fun d hd => h1 d (.inr hd), h3, ?_⟩
      · cases q with
        | none => rfl
        | some q => simpa using h4 q rfl c (.inl rfl)
      · rintro k hk d hd
        cases hk
        exact h2 d hd
theorem cutsMay_iff {cs : List Cut} : cutsMay cs = true ↔ (∀ c ∈ cs, cutOk c = true) ∧ cs.Pairwise (fun x y => numC x < numC y) ∧ cs.length ≤ 32 := by
  simp only [cutsMay, Bool.and_eq_true, decide_eq_true_eq, cutsOk_iff]
  constructor
  · rintro ⟨⟨a, b, _⟩, c⟩; exact ⟨a, b, c⟩
  · rintro ⟨a, b, c⟩; exact ⟨⟨a, b, by simp⟩, c⟩
/-- The cut between two places. -/
def cutAB (a b : Int) : Cut := ⟨min a b, max a b⟩
theorem cutAB_ok {a b : Int} (ha : place a = true) (hb : place b = true) (h : a ≠ b) : cutOk (cutAB a b) = true := by
  rw [place_iff] at ha hb
  rw [cutOk_iff]
  simp only [cutAB]
  omega
theorem cutAB_comm (a b : Int) : cutAB a b = cutAB b a := by unfold cutAB; rw [Int.min_comm, Int.max_comm]
def insC (c : Cut) : List Cut → List Cut
  | [] => [c]
  | x :: xs => if numC x < numC c then x :: insC c xs else c :: x :: xs
theorem insC_mem {c d : Cut} : ∀ {cs : List Cut}, d ∈ insC c cs ↔ d = c ∨ d ∈ cs := by
  intro cs
  induction cs with
  | nil => simp [insC]
  | cons x xs ih =>
    unfold insC
    by_cases h : numC x < numC c
    · rw [if_pos h]; simp [ih]; grind
    · rw [if_neg h]; simp
theorem insC_length (c : Cut) (cs : List Cut) : (insC c cs).length = cs.length + 1 := by
  induction cs with
  | nil => rfl
  | cons x xs ih =>
    unfold insC
    split <;> simp [ih]
theorem insC_pair {c : Cut} : ∀ {cs : List Cut}, (∀ d ∈ cs, numC d ≠ numC c) → cs.Pairwise (fun x y => numC x < numC y) → (insC c cs).Pairwise (fun x y => numC x < numC y) := by
  intro cs
  induction cs with
  | nil => intro _ _; simp [insC]
  | cons x xs ih =>
    intro hne hp
    rw [List.pairwise_cons] at hp
    unfold insC
    by_cases h : numC x < numC c
    · rw [if_pos h, List.pairwise_cons]
      refine ⟨fun d hd => ?_, ih (fun d hd => hne d (List.mem_cons_of_mem _ hd)) hp.2⟩
      rcases insC_mem.1 hd with rfl | hd
      · exact h
      · exact hp.1 d hd
    · rw [if_neg h, List.pairwise_cons]
      have h2 := hne x (by simp)
      refine ⟨fun d hd => ?_, List.pairwise_cons.2 hp⟩
      rcases List.mem_cons.1 hd with rfl | hd
      · omega
      · have := hp.1 d hd
        omega
theorem insC_at {c : Cut} (hc : cutOk c = true) : ∀ {cs : List Cut}, (∀ d ∈ cs, cutOk d = true) → insL cs (posC (fun x => ordC x c) cs) c = insC c cs := by
  intro cs
  induction cs with
  | nil => intro _; rfl
  | cons x xs ih =>
    intro h
    rw [posC_cons]
    unfold insC
    have h1 := ordC_lt (h x (by simp)) hc
    by_cases h2 : numC x < numC c
    · rw [if_pos (h1.2 h2), if_pos h2, ← ih fun d hd => h d (List.mem_cons_of_mem _ hd)]
      simp [insL]
    · rw [if_neg (fun e => h2 (h1.1 e)), if_neg h2]
      simp [insL]
theorem mono_cut {c : Cut} (hc : cutOk c = true) {cs : List Cut} (h : ∀ d ∈ cs, cutOk d = true) (hp : cs.Pairwise (fun x y => numC x < numC y)) : MonoC (fun x => ordC x c) cs := by
  intro i j x y hij hx hy hlt
  simp only at hlt ⊢
  rw [ordC_lt (h y (List.mem_of_getElem? hy)) hc] at hlt
  rw [ordC_lt (h x (List.mem_of_getElem? hx)) hc]
  by_cases e : i = j
  · subst e
    rw [hx] at hy
    cases hy
    exact hlt
  · obtain ⟨hi, rfl⟩ := List.getElem?_eq_some_iff.1 hx
    obtain ⟨hj, rfl⟩ := List.getElem?_eq_some_iff.1 hy
    have := List.pairwise_iff_getElem.1 hp i j hi hj (by omega)
    omega
theorem at_cut {c : Cut} (hc : cutOk c = true) : ∀ {cs : List Cut}, (∀ d ∈ cs, cutOk d = true) → cs.Pairwise (fun x y => numC x < numC y) → atC (fun x => ordC x c) cs = decide (c ∈ cs) := by
  intro cs
  induction cs with
  | nil => intro _ _; simp [atC_nil]
  | cons x xs ih =>
    intro h hp
    rw [List.pairwise_cons] at hp
    rw [atC_cons]
    have h1 := ordC_lt (h x (by simp)) hc
    by_cases h2 : numC x < numC c
    · rw [if_pos (h1.2 h2), ih (fun d hd => h d (List.mem_cons_of_mem _ hd)) hp.2]
      have : c ≠ x := by rintro rfl; omega
      simp [this]
    · rw [if_neg (fun e => h2 (h1.1 e))]
      rw [Bool.eq_iff_iff]
      simp only [decide_eq_true_eq, ordC_eq, List.mem_cons]
      constructor
      · rintro rfl; exact .inl rfl
      · rintro (rfl | hc2)
        · rfl
        · have := hp.1 c hc2
          omega
theorem del_cut {c : Cut} (hc : cutOk c = true) : ∀ {cs : List Cut}, (∀ d ∈ cs, cutOk d = true) → cs.Pairwise (fun x y => numC x < numC y) → c ∈ cs →
    cs.take (posC (fun x => ordC x c) cs) ++ cs.drop (posC (fun x => ordC x c) cs + 1) = cs.filter fun x => !decide (x = c) := by
  intro cs
  induction cs with
  | nil => intro _ _ h; simp at h
  | cons x xs ih =>
    intro h hp hm
    rw [List.pairwise_cons] at hp
    rw [posC_cons]
    have h1 := ordC_lt (h x (by simp)) hc
    by_cases h2 : numC x < numC c
    · have hne : x ≠ c := by rintro rfl; omega
      rw [if_pos (h1.2 h2)]
      have hm' : c ∈ xs := by
        rcases List.mem_cons.1 hm with e | e
        · exact absurd e.symm hne
        · exact e
      have := ih (fun d hd => h d (List.mem_cons_of_mem _ hd)) hp.2 hm'
      simp [hne, this]
    · have he : x = c := by
        rcases List.mem_cons.1 hm with e | e
        · exact e.symm
        · have := hp.1 c e
          omega
      subst he
      rw [if_neg (fun e => h2 (h1.1 e))]
      have : xs.filter (fun y => !decide (y = x)) = xs := by
        rw [List.filter_eq_self]
        intro y hy
        have := hp.1 y hy
        have hne : y ≠ x := by rintro rfl; omega
        simp [hne]
      simp [this]
def insG (c : Cut) : Bool → List Cut → List Cut
  | inn, [] => if inn then [] else [c]
  | inn, x :: xs => (if inn = false ∧ numC c < numC x then [c] else []) ++ (x :: insG c (inn || decide (numC c < numC x)) xs)
theorem insG_true (c : Cut) : ∀ xs, insG c true xs = xs := by
  intro xs
  induction xs with
  | nil => rfl
  | cons x xs ih => simp [insG, ih]
theorem insG_eq {c : Cut} (hc : cutOk c = true) : ∀ {cs : List Cut}, (∀ d ∈ cs, cutOk d = true) → c ∉ cs → insG c false cs = insC c cs := by
  intro cs
  induction cs with
  | nil => intro _ _; rfl
  | cons x xs ih =>
    intro h hn
    unfold insC
    by_cases h2 : numC c < numC x
    · rw [if_neg (by omega)]
      simp [insG, h2, insG_true]
    · have h3 : numC x ≠ numC c := by
        intro e
        exact hn (by rw [numC_inj (h x (by simp)) hc e]; simp)
      rw [if_pos (by omega)]
      simp [insG, h2, ih (fun d hd => h d (List.mem_cons_of_mem _ hd)) (fun e => hn (List.mem_cons_of_mem _ e))]
def askMay (cs : List Cut) (a b : Int) : Bool := cutsMay cs && place a && place b && !decide (a = b)
def withC (cs : List Cut) (a b : Int) : List Cut × Int := if askMay cs a b then (if cutAB a b ∈ cs then (cs, 0) else if cs.length = 32 then ([], 1501) else (insC (cutAB a b) cs, 0)) else ([], 1500)
def withoutC (cs : List Cut) (a b : Int) : List Cut × Int := if askMay cs a b then (cs.filter fun x => !decide (x = cutAB a b), 0) else ([], 1500)
def isC (cs : List Cut) (a b : Int) : Bool × Int := if askMay cs a b then (decide (cutAB a b ∈ cs), 0) else (false, 1500)
theorem askMay_iff {cs : List Cut} {a b : Int} : askMay cs a b = true ↔ cutsMay cs = true ∧ place a = true ∧ place b = true ∧ a ≠ b := by simp [askMay, and_assoc]
theorem cutsMay_ins {cs : List Cut} {c : Cut} (h : cutsMay cs = true) (hc : cutOk c = true) (hn : c ∉ cs) (hl : cs.length ≠ 32) : cutsMay (insC c cs) = true := by
  obtain ⟨h1, h2, h3⟩ := cutsMay_iff.1 h
  refine cutsMay_iff.2 ⟨fun d hd => ?_, insC_pair (fun d hd e => ?_) h2, by rw [insC_length]; omega⟩
  · rcases insC_mem.1 hd with rfl | hd
    · exact hc
    · exact h1 d hd
  · have := numC_inj (h1 d hd) hc e
    subst this
    exact hn hd
theorem cutsMay_filter {cs : List Cut} {p : Cut → Bool} (h : cutsMay cs = true) : cutsMay (cs.filter p) = true := by
  obtain ⟨h1, h2, h3⟩ := cutsMay_iff.1 h
  exact cutsMay_iff.2 ⟨fun d hd => h1 d (List.mem_filter.1 hd).1, h2.filter _, by have := List.length_filter_le p cs; omega⟩
theorem withC_len (cs : List Cut) (a b : Int) : (withC cs a b).1.length ≤ cs.length + 1 := by
  unfold withC
  split
  · split
    · simp
    · split
      · simp
      · simp [insC_length]
  · simp
theorem withoutC_len (cs : List Cut) (a b : Int) : (withoutC cs a b).1.length ≤ cs.length := by
  unfold withoutC
  split
  · exact List.length_filter_le _ _
  · simp
end Go.AM
/- AM: contracts: may a row of cuts be. -/
namespace Go.AM
set_option linter.unusedSimpArgs false
set_option linter.unusedVariables false
set_option maxRecDepth 8000
set_option maxHeartbeats 0
def orL : List Int → Int
  | [] => 0
  | v :: vs => if v = 0 then orL vs else v
theorem cmp_Or (xs : List Int) (hl : xs.length ≤ cap) : Den PP 68 [intsD xs] [] (.int .i64 (orL xs)) [] := by
  obtain ⟨r, hr⟩ : ∃ r, orL xs = r := ⟨_, rfl⟩
  rw [hr]
  unfold cap at hl
  refine den_of [] [] is_cmp_Or_int ?_
  simp -implicitDefEqProofs [c_cmp_Or_int, intsD]
  refine list_rule xs (fun i rest => fun ⟨fr, bs⟩ => bs = [] ∧ fr 3 = .int .i64 0 ∧ fr 6 = intsD xs ∧ fr 7 = .int .i64 xs.length ∧ fr 8 = .int .i64 i ∧ orL rest = r)
    (fun ⟨fr, bs⟩ => bs = [] ∧ fr 3 = .int .i64 0 ∧ r = 0) (fun ⟨fr, bs⟩ => fr 2 = .int .i64 r) c_cmp_Or_int_L0.eq_1 ?_ ?_ ?_ ?_ ?_
  · exact ⟨rfl, rfl, rfl, rfl, rfl, hr⟩
  · rintro i ⟨fr, bs⟩ hi ⟨rfl, h3, h6, h7, h8, he⟩
    simp -implicitDefEqProofs [h3, h6, h7, h8, hi, intsD]
    simpa [orL] using he.symm
  · rintro i a rest ⟨fr, bs⟩ hlt hget hg hd hd2 ⟨rfl, h3, h6, h7, h8, he⟩
    have hlt' : (i : Int) < xs.length := by omega
    have hw := wrap_next (n := i) (by omega)
    simp only [orL] at he
    clear hr
    by_cases ha : a = 0
    · rw [if_pos ha] at he
      simp -implicitDefEqProofs [h3, h6, h7, h8, hlt, hlt', hget, hg, ha, hw, intsD, irow]
      exact he
    · rw [if_neg ha] at he
      simp -implicitDefEqProofs [h3, h6, h7, h8, hlt, hlt', hget, hg, ha, hw, intsD, irow]
      rw [he]
  · rintro ⟨fr, bs⟩ ⟨rfl, h3, he⟩
    simp -implicitDefEqProofs [h3, he]
  · rintro ⟨fr, bs⟩ h
    simp -implicitDefEqProofs [h]
theorem cuts_order (x y : Cut) : Den PP 56 [.agg x.row, .agg y.row] [] (.int .i64 (ordC x y)) [] := by
  have c1 := cmp_Or [cmpI x.a y.a, cmpI x.b y.b] (by unfold cap; simp)
  have e : orL [cmpI x.a y.a, cmpI x.b y.b] = ordC x y := by
    unfold ordC orL orL orL
    split
    · split
      · rename_i h; exact h.symm
      · rfl
    · rfl
  rw [e] at c1
  simp [intsD, irow] at c1
  clear e
  refine den_of [] [] is_cuts_order ?_
  simp -implicitDefEqProofs [c_cuts_order, Cut.row]
  refine callThen_of (cmp_Compare _ _) ?_
  simp -implicitDefEqProofs
  refine callThen_of (cmp_Compare _ _) ?_
  simp -implicitDefEqProofs
  refine callThen_of c1 ?_
  simp -implicitDefEqProofs
def prevC (cs : List Cut) (i : Nat) : Option Cut := if i = 0 then none else cs[i - 1]?
theorem cuts_May (cs : List Cut) (hl : cs.length ≤ cap) : Den PP 35 [cutsD cs] [] (.bool (cutsMay cs)) [] := by
  obtain ⟨A, hA⟩ : ∃ A, cutsOk none cs = A := ⟨_, rfl⟩
  unfold cap at hl
  refine den_of [] [] is_cuts_May ?_
  simp -implicitDefEqProofs [c_cuts_May, cutsD]
  refine list_rule cs (fun i rest => fun ⟨fr, bs⟩ => bs = [] ∧ fr 0 = cutsD cs ∧ fr 5 = cutsD cs ∧ fr 6 = .int .i64 cs.length ∧ fr 7 = .int .i64 i ∧ cutsOk (prevC cs i) rest = A ∧ (∀ q, prevC cs i = some q → cutOk q = true))
    (fun ⟨fr, bs⟩ => bs = [] ∧ fr 0 = cutsD cs ∧ A = true) (fun ⟨fr, bs⟩ => fr 2 = .bool false ∧ A = false) c_cuts_May_L0.eq_1 ?_ ?_ ?_ ?_ ?_
  · exact ⟨rfl, rfl, rfl, rfl, rfl, hA, by simp [prevC]⟩
  · rintro i ⟨fr, bs⟩ hi ⟨rfl, h0, h5, h6, h7, he, _⟩
    simp -implicitDefEqProofs [h0, h5, h6, h7, hi]
    simpa [cutsOk] using he.symm
  · rintro i a rest ⟨fr, bs⟩ hlt hget hg hd hd2 ⟨rfl, h0, h5, h6, h7, he, hq⟩
    have hlt' : (i : Int) < cs.length := by omega
    have hw := wrap_next (n := i) (by omega)
    simp only [cutsOk] at he
    have hp : prevC cs (i + 1) = some a := by simp [prevC, hget]
    rw [hp]
    by_cases ha : cutOk a = true
    · have ha' := (cutOk_iff a).1 ha
      have p1 : place a.a = true := by rw [place_iff]; omega
      have p2 : place a.b = true := by rw [place_iff]; omega
      have p3 : ¬ a.b ≤ a.a := by omega
      have c1 := ring_Place a.a
      have c2 := ring_Place a.b
      rw [p1] at c1
      rw [p2] at c2
      rw [ha] at he
      have hqa : ∀ q, some a = some q → cutOk q = true := by rintro q ⟨⟩; exact ha
      clear hA
      cases i with
      | zero =>
        simp [prevC] at he
        simp -implicitDefEqProofs [h0, h5, h6, h7, hlt, hlt', hget, hg, cutsD, Cut.row]
        repeat' (first | (refine callThen_of (by first | exact c1 | exact c2) ?_; simp -implicitDefEqProofs [*, cutsD, Cut.row, hw, p3]) | (with_reducible refine gOps_dec (fun _ => ?_) (fun _ => ?_) <;> simp -implicitDefEqProofs [*, cutsD, Cut.row, hw, p3]) | (with_reducible refine gOps_ndec (fun _ => ?_) (fun _ => ?_) <;> simp -implicitDefEqProofs [*, cutsD, Cut.row, hw, p3]) | (with_reducible refine gOps_and (fun hq => ?_) (fun hq => ?_) <;> (try simp at hq) <;> simp -implicitDefEqProofs [*, cutsD, Cut.row, hw, p3]) | (with_reducible refine gOps_or (fun hq => ?_) (fun hq => ?_) <;> (try simp at hq) <;> simp -implicitDefEqProofs [*, cutsD, Cut.row, hw, p3]) | (with_reducible refine gOps_not (fun hq => ?_) (fun hq => ?_) <;> (try simp at hq) <;> simp -implicitDefEqProofs [*, cutsD, Cut.row, hw, p3]) | (with_reducible refine gOps_split (fun hq => ?_) (fun hq => ?_) <;> (try simp at hq) <;> simp -implicitDefEqProofs [*, cutsD, Cut.row, hw, p3]) | (with_reducible refine condC_dec (fun _ => ?_) (fun _ => ?_) <;> simp -implicitDefEqProofs [*, cutsD, Cut.row, hw, p3]) | (with_reducible refine condC_ndec (fun _ => ?_) (fun _ => ?_) <;> simp -implicitDefEqProofs [*, cutsD, Cut.row, hw, p3]) | (with_reducible refine condC_and (fun hq => ?_) (fun hq => ?_) <;> (try simp at hq) <;> simp -implicitDefEqProofs [*, cutsD, Cut.row, hw, p3]) | (with_reducible refine condC_or (fun hq => ?_) (fun hq => ?_) <;> (try simp at hq) <;> simp -implicitDefEqProofs [*, cutsD, Cut.row, hw, p3]) | (with_reducible refine condC_not (fun hq => ?_) (fun hq => ?_) <;> (try simp at hq) <;> simp -implicitDefEqProofs [*, cutsD, Cut.row, hw, p3]) | (with_reducible refine condC_split (fun hq => ?_) (fun hq => ?_) <;> (try simp at hq) <;> simp -implicitDefEqProofs [*, cutsD, Cut.row, hw, p3]) | (refine appK2_if (by omega) ?_; simp -implicitDefEqProofs [*, cutsD, Cut.row, hw, p3]) | (refine pureV_if (by omega) ?_; simp -implicitDefEqProofs [*, cutsD, Cut.row, hw, p3]))
        exact wrap_in (by omega) (by omega)
      | succ j =>
        have hj : j < cs.length := by omega
        have hj' : (j : Int) < cs.length := by omega
        have hjw : IntKind.wrap .i64 (j : Int) = j := wrap_in (by omega) (by omega)
        obtain ⟨q, hqj⟩ : ∃ q, cs[j] = q := ⟨_, rfl⟩
        have hpj : prevC cs (j + 1) = some q := by simp [prevC, hj, hqj]
        rw [hpj] at he hq
        have hqo := ordC_lt (hq q rfl) ha
        have c3 := cuts_order q a
        simp only [Cut.row] at c3
        simp at he
        clear hq
        by_cases hn : numC q < numC a
        · have ho : ¬ 0 ≤ ordC q a := by have := hqo.2 hn; omega
          simp [hn] at he
          generalize ordC q a = o at *
          clear hqo
          simp -implicitDefEqProofs [h0, h5, h6, h7, hlt, hlt', hget, hg, cutsD, Cut.row]
          repeat' (first | (refine callThen_of (by first | exact c1 | exact c2 | exact c3) ?_; simp -implicitDefEqProofs [*, cutsD, Cut.row, hw, p3, hjw, hj, hj', hqj, ho]) | (with_reducible refine gOps_dec (fun _ => ?_) (fun _ => ?_) <;> simp -implicitDefEqProofs [*, cutsD, Cut.row, hw, p3, hjw, hj, hj', hqj, ho]) | (with_reducible refine gOps_ndec (fun _ => ?_) (fun _ => ?_) <;> simp -implicitDefEqProofs [*, cutsD, Cut.row, hw, p3, hjw, hj, hj', hqj, ho]) | (with_reducible refine gOps_and (fun hq => ?_) (fun hq => ?_) <;> (try simp at hq) <;> simp -implicitDefEqProofs [*, cutsD, Cut.row, hw, p3, hjw, hj, hj', hqj, ho]) | (with_reducible refine gOps_or (fun hq => ?_) (fun hq => ?_) <;> (try simp at hq) <;> simp -implicitDefEqProofs [*, cutsD, Cut.row, hw, p3, hjw, hj, hj', hqj, ho]) | (with_reducible refine gOps_not (fun hq => ?_) (fun hq => ?_) <;> (try simp at hq) <;> simp -implicitDefEqProofs [*, cutsD, Cut.row, hw, p3, hjw, hj, hj', hqj, ho]) | (with_reducible refine gOps_split (fun hq => ?_) (fun hq => ?_) <;> (try simp at hq) <;> simp -implicitDefEqProofs [*, cutsD, Cut.row, hw, p3, hjw, hj, hj', hqj, ho]) | (with_reducible refine condC_dec (fun _ => ?_) (fun _ => ?_) <;> simp -implicitDefEqProofs [*, cutsD, Cut.row, hw, p3, hjw, hj, hj', hqj, ho]) | (with_reducible refine condC_ndec (fun _ => ?_) (fun _ => ?_) <;> simp -implicitDefEqProofs [*, cutsD, Cut.row, hw, p3, hjw, hj, hj', hqj, ho]) | (with_reducible refine condC_and (fun hq => ?_) (fun hq => ?_) <;> (try simp at hq) <;> simp -implicitDefEqProofs [*, cutsD, Cut.row, hw, p3, hjw, hj, hj', hqj, ho]) | (with_reducible refine condC_or (fun hq => ?_) (fun hq => ?_) <;> (try simp at hq) <;> simp -implicitDefEqProofs [*, cutsD, Cut.row, hw, p3, hjw, hj, hj', hqj, ho]) | (with_reducible refine condC_not (fun hq => ?_) (fun hq => ?_) <;> (try simp at hq) <;> simp -implicitDefEqProofs [*, cutsD, Cut.row, hw, p3, hjw, hj, hj', hqj, ho]) | (with_reducible refine condC_split (fun hq => ?_) (fun hq => ?_) <;> (try simp at hq) <;> simp -implicitDefEqProofs [*, cutsD, Cut.row, hw, p3, hjw, hj, hj', hqj, ho]) | (refine appK2_if (by omega) ?_; simp -implicitDefEqProofs [*, cutsD, Cut.row, hw, p3, hjw, hj, hj', hqj, ho]) | (refine pureV_if (by omega) ?_; simp -implicitDefEqProofs [*, cutsD, Cut.row, hw, p3, hjw, hj, hj', hqj, ho]))
          all_goals first | exact he | exact hw | exact ⟨hw, he⟩ | omega
        · have ho : 0 ≤ ordC q a := by have : ¬ ordC q a < 0 := fun e => hn (hqo.1 e); omega
          simp [hn] at he
          generalize ordC q a = o at *
          clear hqo
          simp -implicitDefEqProofs [h0, h5, h6, h7, hlt, hlt', hget, hg, cutsD, Cut.row]
          repeat' (first | (refine callThen_of (by first | exact c1 | exact c2 | exact c3) ?_; simp -implicitDefEqProofs [*, cutsD, Cut.row, hw, p3, hjw, hj, hj', hqj, ho]) | (with_reducible refine gOps_dec (fun _ => ?_) (fun _ => ?_) <;> simp -implicitDefEqProofs [*, cutsD, Cut.row, hw, p3, hjw, hj, hj', hqj, ho]) | (with_reducible refine gOps_ndec (fun _ => ?_) (fun _ => ?_) <;> simp -implicitDefEqProofs [*, cutsD, Cut.row, hw, p3, hjw, hj, hj', hqj, ho]) | (with_reducible refine gOps_and (fun hq => ?_) (fun hq => ?_) <;> (try simp at hq) <;> simp -implicitDefEqProofs [*, cutsD, Cut.row, hw, p3, hjw, hj, hj', hqj, ho]) | (with_reducible refine gOps_or (fun hq => ?_) (fun hq => ?_) <;> (try simp at hq) <;> simp -implicitDefEqProofs [*, cutsD, Cut.row, hw, p3, hjw, hj, hj', hqj, ho]) | (with_reducible refine gOps_not (fun hq => ?_) (fun hq => ?_) <;> (try simp at hq) <;> simp -implicitDefEqProofs [*, cutsD, Cut.row, hw, p3, hjw, hj, hj', hqj, ho]) | (with_reducible refine gOps_split (fun hq => ?_) (fun hq => ?_) <;> (try simp at hq) <;> simp -implicitDefEqProofs [*, cutsD, Cut.row, hw, p3, hjw, hj, hj', hqj, ho]) | (with_reducible refine condC_dec (fun _ => ?_) (fun _ => ?_) <;> simp -implicitDefEqProofs [*, cutsD, Cut.row, hw, p3, hjw, hj, hj', hqj, ho]) | (with_reducible refine condC_ndec (fun _ => ?_) (fun _ => ?_) <;> simp -implicitDefEqProofs [*, cutsD, Cut.row, hw, p3, hjw, hj, hj', hqj, ho]) | (with_reducible refine condC_and (fun hq => ?_) (fun hq => ?_) <;> (try simp at hq) <;> simp -implicitDefEqProofs [*, cutsD, Cut.row, hw, p3, hjw, hj, hj', hqj, ho]) | (with_reducible refine condC_or (fun hq => ?_) (fun hq => ?_) <;> (try simp at hq) <;> simp -implicitDefEqProofs [*, cutsD, Cut.row, hw, p3, hjw, hj, hj', hqj, ho]) | (with_reducible refine condC_not (fun hq => ?_) (fun hq => ?_) <;> (try simp at hq) <;> simp -implicitDefEqProofs [*, cutsD, Cut.row, hw, p3, hjw, hj, hj', hqj, ho]) | (with_reducible refine condC_split (fun hq => ?_) (fun hq => ?_) <;> (try simp at hq) <;> simp -implicitDefEqProofs [*, cutsD, Cut.row, hw, p3, hjw, hj, hj', hqj, ho]) | (refine appK2_if (by omega) ?_; simp -implicitDefEqProofs [*, cutsD, Cut.row, hw, p3, hjw, hj, hj', hqj, ho]) | (refine pureV_if (by omega) ?_; simp -implicitDefEqProofs [*, cutsD, Cut.row, hw, p3, hjw, hj, hj', hqj, ho]))
          all_goals omega
    · have ha' : cutOk a = false := by simpa using ha
      rw [ha'] at he
      simp at he
      have c1 := ring_Place a.a
      have c2 := ring_Place a.b
      have hor : place a.a = false ∨ (place a.a = true ∧ (place a.b = false ∨ (place a.b = true ∧ a.b ≤ a.a))) := by
        simp only [cutOk] at ha'
        generalize place a.a = X at *
        generalize place a.b = Y at *
        cases X <;> cases Y <;> simp at ha' ⊢ <;> omega
      clear ha ha' hq hp hA
      rcases hor with h | ⟨h, h2 | ⟨h2, h3⟩⟩
      · rw [h] at c1
        simp -implicitDefEqProofs [h0, h5, h6, h7, hlt, hlt', hget, hg, cutsD, Cut.row]
        repeat' (first | (refine callThen_of (by first | exact c1 | exact c2) ?_; simp -implicitDefEqProofs [*, cutsD, Cut.row, hw]) | (with_reducible refine gOps_dec (fun _ => ?_) (fun _ => ?_) <;> simp -implicitDefEqProofs [*, cutsD, Cut.row, hw]) | (with_reducible refine gOps_ndec (fun _ => ?_) (fun _ => ?_) <;> simp -implicitDefEqProofs [*, cutsD, Cut.row, hw]) | (with_reducible refine gOps_and (fun hq => ?_) (fun hq => ?_) <;> (try simp at hq) <;> simp -implicitDefEqProofs [*, cutsD, Cut.row, hw]) | (with_reducible refine gOps_or (fun hq => ?_) (fun hq => ?_) <;> (try simp at hq) <;> simp -implicitDefEqProofs [*, cutsD, Cut.row, hw]) | (with_reducible refine gOps_not (fun hq => ?_) (fun hq => ?_) <;> (try simp at hq) <;> simp -implicitDefEqProofs [*, cutsD, Cut.row, hw]) | (with_reducible refine gOps_split (fun hq => ?_) (fun hq => ?_) <;> (try simp at hq) <;> simp -implicitDefEqProofs [*, cutsD, Cut.row, hw]) | (with_reducible refine condC_dec (fun _ => ?_) (fun _ => ?_) <;> simp -implicitDefEqProofs [*, cutsD, Cut.row, hw]) | (with_reducible refine condC_ndec (fun _ => ?_) (fun _ => ?_) <;> simp -implicitDefEqProofs [*, cutsD, Cut.row, hw]) | (with_reducible refine condC_and (fun hq => ?_) (fun hq => ?_) <;> (try simp at hq) <;> simp -implicitDefEqProofs [*, cutsD, Cut.row, hw]) | (with_reducible refine condC_or (fun hq => ?_) (fun hq => ?_) <;> (try simp at hq) <;> simp -implicitDefEqProofs [*, cutsD, Cut.row, hw]) | (with_reducible refine condC_not (fun hq => ?_) (fun hq => ?_) <;> (try simp at hq) <;> simp -implicitDefEqProofs [*, cutsD, Cut.row, hw]) | (with_reducible refine condC_split (fun hq => ?_) (fun hq => ?_) <;> (try simp at hq) <;> simp -implicitDefEqProofs [*, cutsD, Cut.row, hw]) | (refine appK2_if (by omega) ?_; simp -implicitDefEqProofs [*, cutsD, Cut.row, hw]) | (refine pureV_if (by omega) ?_; simp -implicitDefEqProofs [*, cutsD, Cut.row, hw]))
      · rw [h] at c1
        rw [h2] at c2
        simp -implicitDefEqProofs [h0, h5, h6, h7, hlt, hlt', hget, hg, cutsD, Cut.row]
        repeat' (first | (refine callThen_of (by first | exact c1 | exact c2) ?_; simp -implicitDefEqProofs [*, cutsD, Cut.row, hw]) | (with_reducible refine gOps_dec (fun _ => ?_) (fun _ => ?_) <;> simp -implicitDefEqProofs [*, cutsD, Cut.row, hw]) | (with_reducible refine gOps_ndec (fun _ => ?_) (fun _ => ?_) <;> simp -implicitDefEqProofs [*, cutsD, Cut.row, hw]) | (with_reducible refine gOps_and (fun hq => ?_) (fun hq => ?_) <;> (try simp at hq) <;> simp -implicitDefEqProofs [*, cutsD, Cut.row, hw]) | (with_reducible refine gOps_or (fun hq => ?_) (fun hq => ?_) <;> (try simp at hq) <;> simp -implicitDefEqProofs [*, cutsD, Cut.row, hw]) | (with_reducible refine gOps_not (fun hq => ?_) (fun hq => ?_) <;> (try simp at hq) <;> simp -implicitDefEqProofs [*, cutsD, Cut.row, hw]) | (with_reducible refine gOps_split (fun hq => ?_) (fun hq => ?_) <;> (try simp at hq) <;> simp -implicitDefEqProofs [*, cutsD, Cut.row, hw]) | (with_reducible refine condC_dec (fun _ => ?_) (fun _ => ?_) <;> simp -implicitDefEqProofs [*, cutsD, Cut.row, hw]) | (with_reducible refine condC_ndec (fun _ => ?_) (fun _ => ?_) <;> simp -implicitDefEqProofs [*, cutsD, Cut.row, hw]) | (with_reducible refine condC_and (fun hq => ?_) (fun hq => ?_) <;> (try simp at hq) <;> simp -implicitDefEqProofs [*, cutsD, Cut.row, hw]) | (with_reducible refine condC_or (fun hq => ?_) (fun hq => ?_) <;> (try simp at hq) <;> simp -implicitDefEqProofs [*, cutsD, Cut.row, hw]) | (with_reducible refine condC_not (fun hq => ?_) (fun hq => ?_) <;> (try simp at hq) <;> simp -implicitDefEqProofs [*, cutsD, Cut.row, hw]) | (with_reducible refine condC_split (fun hq => ?_) (fun hq => ?_) <;> (try simp at hq) <;> simp -implicitDefEqProofs [*, cutsD, Cut.row, hw]) | (refine appK2_if (by omega) ?_; simp -implicitDefEqProofs [*, cutsD, Cut.row, hw]) | (refine pureV_if (by omega) ?_; simp -implicitDefEqProofs [*, cutsD, Cut.row, hw]))
      · rw [h] at c1
        rw [h2] at c2
        simp -implicitDefEqProofs [h0, h5, h6, h7, hlt, hlt', hget, hg, cutsD, Cut.row]
        repeat' (first | (refine callThen_of (by first | exact c1 | exact c2) ?_; simp -implicitDefEqProofs [*, cutsD, Cut.row, hw]) | (with_reducible refine gOps_dec (fun _ => ?_) (fun _ => ?_) <;> simp -implicitDefEqProofs [*, cutsD, Cut.row, hw]) | (with_reducible refine gOps_ndec (fun _ => ?_) (fun _ => ?_) <;> simp -implicitDefEqProofs [*, cutsD, Cut.row, hw]) | (with_reducible refine gOps_and (fun hq => ?_) (fun hq => ?_) <;> (try simp at hq) <;> simp -implicitDefEqProofs [*, cutsD, Cut.row, hw]) | (with_reducible refine gOps_or (fun hq => ?_) (fun hq => ?_) <;> (try simp at hq) <;> simp -implicitDefEqProofs [*, cutsD, Cut.row, hw]) | (with_reducible refine gOps_not (fun hq => ?_) (fun hq => ?_) <;> (try simp at hq) <;> simp -implicitDefEqProofs [*, cutsD, Cut.row, hw]) | (with_reducible refine gOps_split (fun hq => ?_) (fun hq => ?_) <;> (try simp at hq) <;> simp -implicitDefEqProofs [*, cutsD, Cut.row, hw]) | (with_reducible refine condC_dec (fun _ => ?_) (fun _ => ?_) <;> simp -implicitDefEqProofs [*, cutsD, Cut.row, hw]) | (with_reducible refine condC_ndec (fun _ => ?_) (fun _ => ?_) <;> simp -implicitDefEqProofs [*, cutsD, Cut.row, hw]) | (with_reducible refine condC_and (fun hq => ?_) (fun hq => ?_) <;> (try simp at hq) <;> simp -implicitDefEqProofs [*, cutsD, Cut.row, hw]) | (with_reducible refine condC_or (fun hq => ?_) (fun hq => ?_) <;> (try simp at hq) <;> simp -implicitDefEqProofs [*, cutsD, Cut.row, hw]) | (with_reducible refine condC_not (fun hq => ?_) (fun hq => ?_) <;> (try simp at hq) <;> simp -implicitDefEqProofs [*, cutsD, Cut.row, hw]) | (with_reducible refine condC_split (fun hq => ?_) (fun hq => ?_) <;> (try simp at hq) <;> simp -implicitDefEqProofs [*, cutsD, Cut.row, hw]) | (refine appK2_if (by omega) ?_; simp -implicitDefEqProofs [*, cutsD, Cut.row, hw]) | (refine pureV_if (by omega) ?_; simp -implicitDefEqProofs [*, cutsD, Cut.row, hw]))
  · rintro ⟨fr, bs⟩ ⟨rfl, h0, h1⟩
    simp -implicitDefEqProofs [h0, cutsD, cutsMay, hA, h1]
    omega
  · rintro ⟨fr, bs⟩ h
    simp -implicitDefEqProofs [h.1, h.2, cutsMay, hA]
theorem ref_CutsMay (cs : List Cut) (hl : cs.length ≤ cap) : Den PP 36 [cutsD cs] [] (.bool (cutsMay cs)) [] := by
  obtain ⟨A, hA⟩ : ∃ A, cutsOk none cs = A := ⟨_, rfl⟩
  unfold cap at hl
  refine den_of [] [] is_gimmalref1_CutsMay ?_
  simp -implicitDefEqProofs [c_gimmalref1_CutsMay, cutsD]
  refine list_rule cs (fun i rest => fun ⟨fr, bs⟩ => bs = [] ∧ fr 0 = cutsD cs ∧ fr 3 = .int .i64 i ∧ cutsOk (prevC cs i) rest = A ∧ (∀ q, prevC cs i = some q → cutOk q = true))
    (fun ⟨fr, bs⟩ => bs = [] ∧ fr 0 = cutsD cs ∧ A = true) (fun ⟨fr, bs⟩ => fr 2 = .bool false ∧ A = false) c_gimmalref1_CutsMay_L0.eq_1 ?_ ?_ ?_ ?_ ?_
  · exact ⟨rfl, rfl, rfl, hA, by simp [prevC]⟩
  · rintro i ⟨fr, bs⟩ hi ⟨rfl, h0, h3, he, _⟩
    simp -implicitDefEqProofs [h0, h3, hi, cutsD]
    simpa [cutsOk] using he.symm
  · rintro i a rest ⟨fr, bs⟩ hlt hget hg hd hd2 ⟨rfl, h0, h3, he, hq⟩
    have hlt' : (i : Int) < cs.length := by omega
    have hw := wrap_next (n := i) (by omega)
    simp only [cutsOk] at he
    have hp : prevC cs (i + 1) = some a := by simp [prevC, hget]
    rw [hp]
    have c1 := ref_PlaceMay a.a
    have c2 := ref_PlaceMay a.b
    by_cases ha : cutOk a = true
    · have ha' := (cutOk_iff a).1 ha
      have p1 : place a.a = true := by rw [place_iff]; omega
      have p2 : place a.b = true := by rw [place_iff]; omega
      have p3 : ¬ a.b ≤ a.a := by omega
      rw [p1] at c1
      rw [p2] at c2
      rw [ha] at he
      have hqa : ∀ q, some a = some q → cutOk q = true := by rintro q ⟨⟩; exact ha
      have wa1 : IntKind.wrap .i64 (a.a * 256) = a.a * 256 := wrap_in (by omega) (by omega)
      have wa2 : IntKind.wrap .i64 (a.a * 256 + a.b) = a.a * 256 + a.b := wrap_in (by omega) (by omega)
      clear hA
      cases i with
      | zero =>
        simp [prevC] at he
        simp -implicitDefEqProofs [h0, h3, hlt, hlt', hget, hg, cutsD, Cut.row]
        repeat' (first | (refine callThen_of (by first | exact c1 | exact c2) ?_; simp -implicitDefEqProofs [*, cutsD, Cut.row, hw, p3]) | (with_reducible refine gOps_dec (fun _ => ?_) (fun _ => ?_) <;> simp -implicitDefEqProofs [*, cutsD, Cut.row, hw, p3]) | (with_reducible refine gOps_ndec (fun _ => ?_) (fun _ => ?_) <;> simp -implicitDefEqProofs [*, cutsD, Cut.row, hw, p3]) | (with_reducible refine gOps_and (fun hq => ?_) (fun hq => ?_) <;> (try simp at hq) <;> simp -implicitDefEqProofs [*, cutsD, Cut.row, hw, p3]) | (with_reducible refine gOps_or (fun hq => ?_) (fun hq => ?_) <;> (try simp at hq) <;> simp -implicitDefEqProofs [*, cutsD, Cut.row, hw, p3]) | (with_reducible refine gOps_not (fun hq => ?_) (fun hq => ?_) <;> (try simp at hq) <;> simp -implicitDefEqProofs [*, cutsD, Cut.row, hw, p3]) | (with_reducible refine gOps_split (fun hq => ?_) (fun hq => ?_) <;> (try simp at hq) <;> simp -implicitDefEqProofs [*, cutsD, Cut.row, hw, p3]) | (with_reducible refine condC_dec (fun _ => ?_) (fun _ => ?_) <;> simp -implicitDefEqProofs [*, cutsD, Cut.row, hw, p3]) | (with_reducible refine condC_ndec (fun _ => ?_) (fun _ => ?_) <;> simp -implicitDefEqProofs [*, cutsD, Cut.row, hw, p3]) | (with_reducible refine condC_and (fun hq => ?_) (fun hq => ?_) <;> (try simp at hq) <;> simp -implicitDefEqProofs [*, cutsD, Cut.row, hw, p3]) | (with_reducible refine condC_or (fun hq => ?_) (fun hq => ?_) <;> (try simp at hq) <;> simp -implicitDefEqProofs [*, cutsD, Cut.row, hw, p3]) | (with_reducible refine condC_not (fun hq => ?_) (fun hq => ?_) <;> (try simp at hq) <;> simp -implicitDefEqProofs [*, cutsD, Cut.row, hw, p3]) | (with_reducible refine condC_split (fun hq => ?_) (fun hq => ?_) <;> (try simp at hq) <;> simp -implicitDefEqProofs [*, cutsD, Cut.row, hw, p3]) | (refine appK2_if (by omega) ?_; simp -implicitDefEqProofs [*, cutsD, Cut.row, hw, p3]) | (refine pureV_if (by omega) ?_; simp -implicitDefEqProofs [*, cutsD, Cut.row, hw, p3]))
        all_goals first | exact he | exact hw | exact ⟨hw, he⟩ | exact wrap_in (by omega) (by omega) | omega
      | succ j =>
        have hj : j < cs.length := by omega
        have hj' : (j : Int) < cs.length := by omega
        have hjw : IntKind.wrap .i64 (j : Int) = j := wrap_in (by omega) (by omega)
        obtain ⟨q, hqj⟩ : ∃ q, cs[j] = q := ⟨_, rfl⟩
        have hpj : prevC cs (j + 1) = some q := by simp [prevC, hj, hqj]
        rw [hpj] at he hq
        have hqc := (cutOk_iff q).1 (hq q rfl)
        have wq1 : IntKind.wrap .i64 (q.a * 256) = q.a * 256 := wrap_in (by omega) (by omega)
        have wq2 : IntKind.wrap .i64 (q.a * 256 + q.b) = q.a * 256 + q.b := wrap_in (by omega) (by omega)
        simp at he
        clear hq
        by_cases hn : numC q < numC a
        · have hn2 : ¬ a.a * 256 + a.b ≤ q.a * 256 + q.b := by unfold numC at hn; omega
          simp [hn] at he
          clear hn
          simp -implicitDefEqProofs [h0, h3, hlt, hlt', hget, hg, cutsD, Cut.row]
          repeat' (first | (refine callThen_of (by first | exact c1 | exact c2) ?_; simp -implicitDefEqProofs [*, cutsD, Cut.row, hw, p3, hjw, hj, hj', hqj, wa1, wa2, wq1, wq2, hn2]) | (with_reducible refine gOps_dec (fun _ => ?_) (fun _ => ?_) <;> simp -implicitDefEqProofs [*, cutsD, Cut.row, hw, p3, hjw, hj, hj', hqj, wa1, wa2, wq1, wq2, hn2]) | (with_reducible refine gOps_ndec (fun _ => ?_) (fun _ => ?_) <;> simp -implicitDefEqProofs [*, cutsD, Cut.row, hw, p3, hjw, hj, hj', hqj, wa1, wa2, wq1, wq2, hn2]) | (with_reducible refine gOps_and (fun hq => ?_) (fun hq => ?_) <;> (try simp at hq) <;> simp -implicitDefEqProofs [*, cutsD, Cut.row, hw, p3, hjw, hj, hj', hqj, wa1, wa2, wq1, wq2, hn2]) | (with_reducible refine gOps_or (fun hq => ?_) (fun hq => ?_) <;> (try simp at hq) <;> simp -implicitDefEqProofs [*, cutsD, Cut.row, hw, p3, hjw, hj, hj', hqj, wa1, wa2, wq1, wq2, hn2]) | (with_reducible refine gOps_not (fun hq => ?_) (fun hq => ?_) <;> (try simp at hq) <;> simp -implicitDefEqProofs [*, cutsD, Cut.row, hw, p3, hjw, hj, hj', hqj, wa1, wa2, wq1, wq2, hn2]) | (with_reducible refine gOps_split (fun hq => ?_) (fun hq => ?_) <;> (try simp at hq) <;> simp -implicitDefEqProofs [*, cutsD, Cut.row, hw, p3, hjw, hj, hj', hqj, wa1, wa2, wq1, wq2, hn2]) | (with_reducible refine condC_dec (fun _ => ?_) (fun _ => ?_) <;> simp -implicitDefEqProofs [*, cutsD, Cut.row, hw, p3, hjw, hj, hj', hqj, wa1, wa2, wq1, wq2, hn2]) | (with_reducible refine condC_ndec (fun _ => ?_) (fun _ => ?_) <;> simp -implicitDefEqProofs [*, cutsD, Cut.row, hw, p3, hjw, hj, hj', hqj, wa1, wa2, wq1, wq2, hn2]) | (with_reducible refine condC_and (fun hq => ?_) (fun hq => ?_) <;> (try simp at hq) <;> simp -implicitDefEqProofs [*, cutsD, Cut.row, hw, p3, hjw, hj, hj', hqj, wa1, wa2, wq1, wq2, hn2]) | (with_reducible refine condC_or (fun hq => ?_) (fun hq => ?_) <;> (try simp at hq) <;> simp -implicitDefEqProofs [*, cutsD, Cut.row, hw, p3, hjw, hj, hj', hqj, wa1, wa2, wq1, wq2, hn2]) | (with_reducible refine condC_not (fun hq => ?_) (fun hq => ?_) <;> (try simp at hq) <;> simp -implicitDefEqProofs [*, cutsD, Cut.row, hw, p3, hjw, hj, hj', hqj, wa1, wa2, wq1, wq2, hn2]) | (with_reducible refine condC_split (fun hq => ?_) (fun hq => ?_) <;> (try simp at hq) <;> simp -implicitDefEqProofs [*, cutsD, Cut.row, hw, p3, hjw, hj, hj', hqj, wa1, wa2, wq1, wq2, hn2]) | (refine appK2_if (by omega) ?_; simp -implicitDefEqProofs [*, cutsD, Cut.row, hw, p3, hjw, hj, hj', hqj, wa1, wa2, wq1, wq2, hn2]) | (refine pureV_if (by omega) ?_; simp -implicitDefEqProofs [*, cutsD, Cut.row, hw, p3, hjw, hj, hj', hqj, wa1, wa2, wq1, wq2, hn2]))
          all_goals first | exact he | exact hw | exact ⟨hw, he⟩ | omega
        · have hn2 : a.a * 256 + a.b ≤ q.a * 256 + q.b := by unfold numC at hn; omega
          simp [hn] at he
          clear hn
          simp -implicitDefEqProofs [h0, h3, hlt, hlt', hget, hg, cutsD, Cut.row]
          repeat' (first | (refine callThen_of (by first | exact c1 | exact c2) ?_; simp -implicitDefEqProofs [*, cutsD, Cut.row, hw, p3, hjw, hj, hj', hqj, wa1, wa2, wq1, wq2, hn2]) | (with_reducible refine gOps_dec (fun _ => ?_) (fun _ => ?_) <;> simp -implicitDefEqProofs [*, cutsD, Cut.row, hw, p3, hjw, hj, hj', hqj, wa1, wa2, wq1, wq2, hn2]) | (with_reducible refine gOps_ndec (fun _ => ?_) (fun _ => ?_) <;> simp -implicitDefEqProofs [*, cutsD, Cut.row, hw, p3, hjw, hj, hj', hqj, wa1, wa2, wq1, wq2, hn2]) | (with_reducible refine gOps_and (fun hq => ?_) (fun hq => ?_) <;> (try simp at hq) <;> simp -implicitDefEqProofs [*, cutsD, Cut.row, hw, p3, hjw, hj, hj', hqj, wa1, wa2, wq1, wq2, hn2]) | (with_reducible refine gOps_or (fun hq => ?_) (fun hq => ?_) <;> (try simp at hq) <;> simp -implicitDefEqProofs [*, cutsD, Cut.row, hw, p3, hjw, hj, hj', hqj, wa1, wa2, wq1, wq2, hn2]) | (with_reducible refine gOps_not (fun hq => ?_) (fun hq => ?_) <;> (try simp at hq) <;> simp -implicitDefEqProofs [*, cutsD, Cut.row, hw, p3, hjw, hj, hj', hqj, wa1, wa2, wq1, wq2, hn2]) | (with_reducible refine gOps_split (fun hq => ?_) (fun hq => ?_) <;> (try simp at hq) <;> simp -implicitDefEqProofs [*, cutsD, Cut.row, hw, p3, hjw, hj, hj', hqj, wa1, wa2, wq1, wq2, hn2]) | (with_reducible refine condC_dec (fun _ => ?_) (fun _ => ?_) <;> simp -implicitDefEqProofs [*, cutsD, Cut.row, hw, p3, hjw, hj, hj', hqj, wa1, wa2, wq1, wq2, hn2]) | (with_reducible refine condC_ndec (fun _ => ?_) (fun _ => ?_) <;> simp -implicitDefEqProofs [*, cutsD, Cut.row, hw, p3, hjw, hj, hj', hqj, wa1, wa2, wq1, wq2, hn2]) | (with_reducible refine condC_and (fun hq => ?_) (fun hq => ?_) <;> (try simp at hq) <;> simp -implicitDefEqProofs [*, cutsD, Cut.row, hw, p3, hjw, hj, hj', hqj, wa1, wa2, wq1, wq2, hn2]) | (with_reducible refine condC_or (fun hq => ?_) (fun hq => ?_) <;> (try simp at hq) <;> simp -implicitDefEqProofs [*, cutsD, Cut.row, hw, p3, hjw, hj, hj', hqj, wa1, wa2, wq1, wq2, hn2]) | (with_reducible refine condC_not (fun hq => ?_) (fun hq => ?_) <;> (try simp at hq) <;> simp -implicitDefEqProofs [*, cutsD, Cut.row, hw, p3, hjw, hj, hj', hqj, wa1, wa2, wq1, wq2, hn2]) | (with_reducible refine condC_split (fun hq => ?_) (fun hq => ?_) <;> (try simp at hq) <;> simp -implicitDefEqProofs [*, cutsD, Cut.row, hw, p3, hjw, hj, hj', hqj, wa1, wa2, wq1, wq2, hn2]) | (refine appK2_if (by omega) ?_; simp -implicitDefEqProofs [*, cutsD, Cut.row, hw, p3, hjw, hj, hj', hqj, wa1, wa2, wq1, wq2, hn2]) | (refine pureV_if (by omega) ?_; simp -implicitDefEqProofs [*, cutsD, Cut.row, hw, p3, hjw, hj, hj', hqj, wa1, wa2, wq1, wq2, hn2]))
          all_goals omega
    · have ha' : cutOk a = false := by simpa using ha
      rw [ha'] at he
      simp at he
      have hor : place a.a = false ∨ (place a.a = true ∧ (place a.b = false ∨ (place a.b = true ∧ a.b ≤ a.a))) := by
        simp only [cutOk] at ha'
        generalize place a.a = X at *
        generalize place a.b = Y at *
        cases X <;> cases Y <;> simp at ha' ⊢ <;> omega
      clear ha ha' hq hp hA
      rcases hor with h | ⟨h, h2 | ⟨h2, h3⟩⟩
      · rw [h] at c1
        simp -implicitDefEqProofs [h0, h3, hlt, hlt', hget, hg, cutsD, Cut.row]
        repeat' (first | (refine callThen_of (by first | exact c1 | exact c2) ?_; simp -implicitDefEqProofs [*, cutsD, Cut.row, hw]) | (with_reducible refine gOps_dec (fun _ => ?_) (fun _ => ?_) <;> simp -implicitDefEqProofs [*, cutsD, Cut.row, hw]) | (with_reducible refine gOps_ndec (fun _ => ?_) (fun _ => ?_) <;> simp -implicitDefEqProofs [*, cutsD, Cut.row, hw]) | (with_reducible refine gOps_and (fun hq => ?_) (fun hq => ?_) <;> (try simp at hq) <;> simp -implicitDefEqProofs [*, cutsD, Cut.row, hw]) | (with_reducible refine gOps_or (fun hq => ?_) (fun hq => ?_) <;> (try simp at hq) <;> simp -implicitDefEqProofs [*, cutsD, Cut.row, hw]) | (with_reducible refine gOps_not (fun hq => ?_) (fun hq => ?_) <;> (try simp at hq) <;> simp -implicitDefEqProofs [*, cutsD, Cut.row, hw]) | (with_reducible refine gOps_split (fun hq => ?_) (fun hq => ?_) <;> (try simp at hq) <;> simp -implicitDefEqProofs [*, cutsD, Cut.row, hw]) | (with_reducible refine condC_dec (fun _ => ?_) (fun _ => ?_) <;> simp -implicitDefEqProofs [*, cutsD, Cut.row, hw]) | (with_reducible refine condC_ndec (fun _ => ?_) (fun _ => ?_) <;> simp -implicitDefEqProofs [*, cutsD, Cut.row, hw]) | (with_reducible refine condC_and (fun hq => ?_) (fun hq => ?_) <;> (try simp at hq) <;> simp -implicitDefEqProofs [*, cutsD, Cut.row, hw]) | (with_reducible refine condC_or (fun hq => ?_) (fun hq => ?_) <;> (try simp at hq) <;> simp -implicitDefEqProofs [*, cutsD, Cut.row, hw]) | (with_reducible refine condC_not (fun hq => ?_) (fun hq => ?_) <;> (try simp at hq) <;> simp -implicitDefEqProofs [*, cutsD, Cut.row, hw]) | (with_reducible refine condC_split (fun hq => ?_) (fun hq => ?_) <;> (try simp at hq) <;> simp -implicitDefEqProofs [*, cutsD, Cut.row, hw]) | (refine appK2_if (by omega) ?_; simp -implicitDefEqProofs [*, cutsD, Cut.row, hw]) | (refine pureV_if (by omega) ?_; simp -implicitDefEqProofs [*, cutsD, Cut.row, hw]))
      · rw [h] at c1
        rw [h2] at c2
        simp -implicitDefEqProofs [h0, h3, hlt, hlt', hget, hg, cutsD, Cut.row]
        repeat' (first | (refine callThen_of (by first | exact c1 | exact c2) ?_; simp -implicitDefEqProofs [*, cutsD, Cut.row, hw]) | (with_reducible refine gOps_dec (fun _ => ?_) (fun _ => ?_) <;> simp -implicitDefEqProofs [*, cutsD, Cut.row, hw]) | (with_reducible refine gOps_ndec (fun _ => ?_) (fun _ => ?_) <;> simp -implicitDefEqProofs [*, cutsD, Cut.row, hw]) | (with_reducible refine gOps_and (fun hq => ?_) (fun hq => ?_) <;> (try simp at hq) <;> simp -implicitDefEqProofs [*, cutsD, Cut.row, hw]) | (with_reducible refine gOps_or (fun hq => ?_) (fun hq => ?_) <;> (try simp at hq) <;> simp -implicitDefEqProofs [*, cutsD, Cut.row, hw]) | (with_reducible refine gOps_not (fun hq => ?_) (fun hq => ?_) <;> (try simp at hq) <;> simp -implicitDefEqProofs [*, cutsD, Cut.row, hw]) | (with_reducible refine gOps_split (fun hq => ?_) (fun hq => ?_) <;> (try simp at hq) <;> simp -implicitDefEqProofs [*, cutsD, Cut.row, hw]) | (with_reducible refine condC_dec (fun _ => ?_) (fun _ => ?_) <;> simp -implicitDefEqProofs [*, cutsD, Cut.row, hw]) | (with_reducible refine condC_ndec (fun _ => ?_) (fun _ => ?_) <;> simp -implicitDefEqProofs [*, cutsD, Cut.row, hw]) | (with_reducible refine condC_and (fun hq => ?_) (fun hq => ?_) <;> (try simp at hq) <;> simp -implicitDefEqProofs [*, cutsD, Cut.row, hw]) | (with_reducible refine condC_or (fun hq => ?_) (fun hq => ?_) <;> (try simp at hq) <;> simp -implicitDefEqProofs [*, cutsD, Cut.row, hw]) | (with_reducible refine condC_not (fun hq => ?_) (fun hq => ?_) <;> (try simp at hq) <;> simp -implicitDefEqProofs [*, cutsD, Cut.row, hw]) | (with_reducible refine condC_split (fun hq => ?_) (fun hq => ?_) <;> (try simp at hq) <;> simp -implicitDefEqProofs [*, cutsD, Cut.row, hw]) | (refine appK2_if (by omega) ?_; simp -implicitDefEqProofs [*, cutsD, Cut.row, hw]) | (refine pureV_if (by omega) ?_; simp -implicitDefEqProofs [*, cutsD, Cut.row, hw]))
      · rename_i h33
        rw [h] at c1
        rw [h2] at c2
        simp -implicitDefEqProofs [h0, h33, hlt, hlt', hget, hg, cutsD, Cut.row]
        repeat' (first | (refine callThen_of (by first | exact c1 | exact c2) ?_; simp -implicitDefEqProofs [*, cutsD, Cut.row, hw]) | (with_reducible refine gOps_dec (fun _ => ?_) (fun _ => ?_) <;> simp -implicitDefEqProofs [*, cutsD, Cut.row, hw]) | (with_reducible refine gOps_ndec (fun _ => ?_) (fun _ => ?_) <;> simp -implicitDefEqProofs [*, cutsD, Cut.row, hw]) | (with_reducible refine gOps_and (fun hq => ?_) (fun hq => ?_) <;> (try simp at hq) <;> simp -implicitDefEqProofs [*, cutsD, Cut.row, hw]) | (with_reducible refine gOps_or (fun hq => ?_) (fun hq => ?_) <;> (try simp at hq) <;> simp -implicitDefEqProofs [*, cutsD, Cut.row, hw]) | (with_reducible refine gOps_not (fun hq => ?_) (fun hq => ?_) <;> (try simp at hq) <;> simp -implicitDefEqProofs [*, cutsD, Cut.row, hw]) | (with_reducible refine gOps_split (fun hq => ?_) (fun hq => ?_) <;> (try simp at hq) <;> simp -implicitDefEqProofs [*, cutsD, Cut.row, hw]) | (with_reducible refine condC_dec (fun _ => ?_) (fun _ => ?_) <;> simp -implicitDefEqProofs [*, cutsD, Cut.row, hw]) | (with_reducible refine condC_ndec (fun _ => ?_) (fun _ => ?_) <;> simp -implicitDefEqProofs [*, cutsD, Cut.row, hw]) | (with_reducible refine condC_and (fun hq => ?_) (fun hq => ?_) <;> (try simp at hq) <;> simp -implicitDefEqProofs [*, cutsD, Cut.row, hw]) | (with_reducible refine condC_or (fun hq => ?_) (fun hq => ?_) <;> (try simp at hq) <;> simp -implicitDefEqProofs [*, cutsD, Cut.row, hw]) | (with_reducible refine condC_not (fun hq => ?_) (fun hq => ?_) <;> (try simp at hq) <;> simp -implicitDefEqProofs [*, cutsD, Cut.row, hw]) | (with_reducible refine condC_split (fun hq => ?_) (fun hq => ?_) <;> (try simp at hq) <;> simp -implicitDefEqProofs [*, cutsD, Cut.row, hw]) | (refine appK2_if (by omega) ?_; simp -implicitDefEqProofs [*, cutsD, Cut.row, hw]) | (refine pureV_if (by omega) ?_; simp -implicitDefEqProofs [*, cutsD, Cut.row, hw]))
  · rintro ⟨fr, bs⟩ ⟨rfl, h0, h1⟩
    simp -implicitDefEqProofs [h0, cutsD, cutsMay, hA, h1]
    omega
  · rintro ⟨fr, bs⟩ h
    simp -implicitDefEqProofs [h.1, h.2, cutsMay, hA]
end Go.AM
/- AM: contracts: cuts put in, taken out, asked for. -/
namespace Go.AM
set_option linter.unusedSimpArgs false
set_option linter.unusedVariables false
set_option maxRecDepth 8000
set_option maxHeartbeats 0
theorem ite_min (a b : Int) : (if b < a then b else a) = min a b := by omega
theorem ite_max (a b : Int) : (if a < b then b else a) = max a b := by omega
theorem ite_max2 (a b : Int) : (if b < a then a else b) = max a b := by omega
theorem cuts_ask_no (cs : List Cut) (a b : Int) (hl : cs.length ≤ cap) (h : askMay cs a b = false) : Den PP 51 [cutsD cs, .int .i64 a, .int .i64 b] [] (.tup [.agg [.nil, .int .i64 0, .int .i64 0, .int .i64 0, .bool false], .bool false]) [] := by
  have c1 := cuts_May cs hl
  have c2 := ring_Place a
  have c3 := ring_Place b
  simp only [cutsD, askMay] at c1 h
  generalize cutsMay cs = M at *
  generalize place a = X at *
  generalize place b = Y at *
  by_cases hab : a = b
  · clear h
    refine den_of [] [] is_cuts_ask ?_
    cases M <;> cases X <;> cases Y
    all_goals
      simp -implicitDefEqProofs [c_cuts_ask, cutsD]
      repeat' (first | (refine callThen_of (by first | exact c1 | exact c2 | exact c3) ?_; simp -implicitDefEqProofs [*, hab]) | (with_reducible refine gOps_dec (fun _ => ?_) (fun _ => ?_) <;> simp -implicitDefEqProofs [*, hab]) | (with_reducible refine gOps_ndec (fun _ => ?_) (fun _ => ?_) <;> simp -implicitDefEqProofs [*, hab]) | (with_reducible refine gOps_and (fun hq => ?_) (fun hq => ?_) <;> (try simp at hq) <;> simp -implicitDefEqProofs [*, hab]) | (with_reducible refine gOps_or (fun hq => ?_) (fun hq => ?_) <;> (try simp at hq) <;> simp -implicitDefEqProofs [*, hab]) | (with_reducible refine gOps_not (fun hq => ?_) (fun hq => ?_) <;> (try simp at hq) <;> simp -implicitDefEqProofs [*, hab]) | (with_reducible refine gOps_split (fun hq => ?_) (fun hq => ?_) <;> (try simp at hq) <;> simp -implicitDefEqProofs [*, hab]) | (with_reducible refine condC_dec (fun _ => ?_) (fun _ => ?_) <;> simp -implicitDefEqProofs [*, hab]) | (with_reducible refine condC_ndec (fun _ => ?_) (fun _ => ?_) <;> simp -implicitDefEqProofs [*, hab]) | (with_reducible refine condC_and (fun hq => ?_) (fun hq => ?_) <;> (try simp at hq) <;> simp -implicitDefEqProofs [*, hab]) | (with_reducible refine condC_or (fun hq => ?_) (fun hq => ?_) <;> (try simp at hq) <;> simp -implicitDefEqProofs [*, hab]) | (with_reducible refine condC_not (fun hq => ?_) (fun hq => ?_) <;> (try simp at hq) <;> simp -implicitDefEqProofs [*, hab]) | (with_reducible refine condC_split (fun hq => ?_) (fun hq => ?_) <;> (try simp at hq) <;> simp -implicitDefEqProofs [*, hab]) | (refine appK2_if (by omega) ?_; simp -implicitDefEqProofs [*, hab]) | (refine pureV_if (by omega) ?_; simp -implicitDefEqProofs [*, hab]))
  · simp [hab] at h
    refine den_of [] [] is_cuts_ask ?_
    cases M <;> cases X <;> cases Y
    all_goals
      simp at h
    all_goals
      simp -implicitDefEqProofs [c_cuts_ask, cutsD]
      repeat' (first | (refine callThen_of (by first | exact c1 | exact c2 | exact c3) ?_; simp -implicitDefEqProofs [*, hab]) | (with_reducible refine gOps_dec (fun _ => ?_) (fun _ => ?_) <;> simp -implicitDefEqProofs [*, hab]) | (with_reducible refine gOps_ndec (fun _ => ?_) (fun _ => ?_) <;> simp -implicitDefEqProofs [*, hab]) | (with_reducible refine gOps_and (fun hq => ?_) (fun hq => ?_) <;> (try simp at hq) <;> simp -implicitDefEqProofs [*, hab]) | (with_reducible refine gOps_or (fun hq => ?_) (fun hq => ?_) <;> (try simp at hq) <;> simp -implicitDefEqProofs [*, hab]) | (with_reducible refine gOps_not (fun hq => ?_) (fun hq => ?_) <;> (try simp at hq) <;> simp -implicitDefEqProofs [*, hab]) | (with_reducible refine gOps_split (fun hq => ?_) (fun hq => ?_) <;> (try simp at hq) <;> simp -implicitDefEqProofs [*, hab]) | (with_reducible refine condC_dec (fun _ => ?_) (fun _ => ?_) <;> simp -implicitDefEqProofs [*, hab]) | (with_reducible refine condC_ndec (fun _ => ?_) (fun _ => ?_) <;> simp -implicitDefEqProofs [*, hab]) | (with_reducible refine condC_and (fun hq => ?_) (fun hq => ?_) <;> (try simp at hq) <;> simp -implicitDefEqProofs [*, hab]) | (with_reducible refine condC_or (fun hq => ?_) (fun hq => ?_) <;> (try simp at hq) <;> simp -implicitDefEqProofs [*, hab]) | (with_reducible refine condC_not (fun hq => ?_) (fun hq => ?_) <;> (try simp at hq) <;> simp -implicitDefEqProofs [*, hab]) | (with_reducible refine condC_split (fun hq => ?_) (fun hq => ?_) <;> (try simp at hq) <;> simp -implicitDefEqProofs [*, hab]) | (refine appK2_if (by omega) ?_; simp -implicitDefEqProofs [*, hab]) | (refine pureV_if (by omega) ?_; simp -implicitDefEqProofs [*, hab]))
theorem cuts_ask (cs : List Cut) (a b : Int) (hl : cs.length ≤ cap) (h : askMay cs a b = true) : Den PP 51 [cutsD cs, .int .i64 a, .int .i64 b] [] (.tup [.agg [.ref 0 0 cs.length, .int .i64 (cutAB a b).a, .int .i64 (cutAB a b).b, .int .i64 (posC (fun x => ordC x (cutAB a b)) cs), .bool (decide (cutAB a b ∈ cs))], .bool true]) [⟨cs.map Cut.row, 2, .mut⟩] := by
  obtain ⟨h1, h2, h3, h4⟩ := askMay_iff.1 h
  obtain ⟨k1, k2, k3⟩ := cutsMay_iff.1 h1
  have hc := cutAB_ok h2 h3 h4
  have c1 := cuts_May cs hl
  have c2 := ring_Place a
  have c3 := ring_Place b
  have c4 := bsearch_Cut cs 56 (cutAB a b) (fun x => ordC x (cutAB a b)) (fun x _ => cuts_order x (cutAB a b)) hl (mono_cut hc k1 k2)
  have c5 := clone_Cut (cs.map Cut.row) (by intro r hr; obtain ⟨a, _, rfl⟩ := List.mem_map.1 hr; exact ⟨rfl, rfl⟩) (by simp; omega)
  rw [at_cut hc k1 k2] at c4
  rw [h1] at c1
  rw [h2] at c2
  rw [h3] at c3
  simp only [cutsD, List.length_map] at c1 c4 c5
  have e1 : (cutAB a b).a = min a b := rfl
  have e2 : (cutAB a b).b = max a b := rfl
  rw [e1, e2] at c4
  rw [e1, e2]
  generalize posC (fun x => ordC x (cutAB a b)) cs = p at *
  generalize decide (cutAB a b ∈ cs) = A at *
  clear e1 e2 hc k1 k2 h h1 h2 h3
  refine den_of [44] [] is_cuts_ask ?_
  simp -implicitDefEqProofs [c_cuts_ask, cutsD]
  repeat' (first | (refine callThen_of (by first | exact c1 | exact c2 | exact c3) ?_; simp -implicitDefEqProofs [*, h4]) | (with_reducible refine gOps_dec (fun _ => ?_) (fun _ => ?_) <;> simp -implicitDefEqProofs [*, h4]) | (with_reducible refine gOps_ndec (fun _ => ?_) (fun _ => ?_) <;> simp -implicitDefEqProofs [*, h4]) | (with_reducible refine gOps_and (fun hq => ?_) (fun hq => ?_) <;> (try simp at hq) <;> simp -implicitDefEqProofs [*, h4]) | (with_reducible refine gOps_or (fun hq => ?_) (fun hq => ?_) <;> (try simp at hq) <;> simp -implicitDefEqProofs [*, h4]) | (with_reducible refine gOps_not (fun hq => ?_) (fun hq => ?_) <;> (try simp at hq) <;> simp -implicitDefEqProofs [*, h4]) | (with_reducible refine gOps_split (fun hq => ?_) (fun hq => ?_) <;> (try simp at hq) <;> simp -implicitDefEqProofs [*, h4]) | (with_reducible refine condC_dec (fun _ => ?_) (fun _ => ?_) <;> simp -implicitDefEqProofs [*, h4]) | (with_reducible refine condC_ndec (fun _ => ?_) (fun _ => ?_) <;> simp -implicitDefEqProofs [*, h4]) | (with_reducible refine condC_and (fun hq => ?_) (fun hq => ?_) <;> (try simp at hq) <;> simp -implicitDefEqProofs [*, h4]) | (with_reducible refine condC_or (fun hq => ?_) (fun hq => ?_) <;> (try simp at hq) <;> simp -implicitDefEqProofs [*, h4]) | (with_reducible refine condC_not (fun hq => ?_) (fun hq => ?_) <;> (try simp at hq) <;> simp -implicitDefEqProofs [*, h4]) | (with_reducible refine condC_split (fun hq => ?_) (fun hq => ?_) <;> (try simp at hq) <;> simp -implicitDefEqProofs [*, h4]) | (refine appK2_if (by omega) ?_; simp -implicitDefEqProofs [*, h4]) | (refine pureV_if (by omega) ?_; simp -implicitDefEqProofs [*, h4]))
  simp -implicitDefEqProofs [minL, minF, ite_min, ite_max, ite_max2]
  refine callThen_of c4 ?_
  simp -implicitDefEqProofs
  refine callThen_of c5 ?_
  simp -implicitDefEqProofs [downTo]
theorem crow_still (x : Cut) : ∀ d ∈ x.row, d.still = true := by
  intro d hd
  simp [Cut.row] at hd
  rcases hd with rfl | rfl <;> rfl
theorem cuts_With (cs : List Cut) (a b : Int) (hl : cs.length ≤ cap) : Den PP 28 [cutsD cs, .int .i64 a, .int .i64 b] [] (.tup [.ref 0 0 (withC cs a b).1.length, .int .i64 (withC cs a b).2]) [⟨(withC cs a b).1.map Cut.row, 2, .mut⟩] := by
  cases h : askMay cs a b with
  | false =>
    have c1 := cuts_ask_no cs a b hl h
    rw [show withC cs a b = ([], 1500) by simp [withC, h]]
    simp only [cutsD] at c1
    refine den_ofG [14, 30] [30] [30] [] (fun _ h => absurd h List.not_mem_nil) is_cuts_With ?_
    simp -implicitDefEqProofs [c_cuts_With, cutsD]
    refine callThen_of c1 ?_
    simp -implicitDefEqProofs [downTo]
  | true =>
    have c1 := cuts_ask cs a b hl h
    obtain ⟨h1, h2, h3, h4⟩ := askMay_iff.1 h
    obtain ⟨k1, k2, k3⟩ := cutsMay_iff.1 h1
    have hc := cutAB_ok h2 h3 h4
    have hins := insC_at hc k1
    have hple := posC_le (fun x => ordC x (cutAB a b)) cs
    obtain ⟨r, hr⟩ : ∃ r, withC cs a b = r := ⟨_, rfl⟩
    have hr' := hr
    unfold withC at hr'
    rw [if_pos h] at hr'
    rw [hr]
    generalize posC (fun x => ordC x (cutAB a b)) cs = p at *
    generalize cutAB a b = c at *
    clear hr h h1 h2 h3 h4 k1 k2
    simp only [cutsD] at c1
    refine den_ofG [14, 30] [30] [30] [] (fun _ h => absurd h List.not_mem_nil) is_cuts_With ?_
    simp -implicitDefEqProofs [c_cuts_With, cutsD]
    refine callThen_of c1 ?_
    by_cases hin : c ∈ cs
    · rw [if_pos hin] at hr'
      subst hr'
      simp -implicitDefEqProofs [downTo, hin]
    · rw [if_neg hin] at hr'
      by_cases h32 : cs.length = 32
      · rw [if_pos h32] at hr'
        subst hr'
        simp -implicitDefEqProofs [downTo, hin, h32]
      · rw [if_neg h32] at hr'
        subst hr'
        have h32' : ¬ (cs.length : Int) = 32 := by omega
        simp -implicitDefEqProofs [downTo, hin, h32']
        refine giveThen_of rfl (by simp) (by simp) (by simp) (insert_Cut (cs.map Cut.row) c.row p (by simp [Cut.row]) (StillR.map _ _ fun a _ => crow_still a) (by intro r hr; rw [List.mem_singleton.1 hr]; exact ⟨rfl, rfl⟩) (crow_still c) (by simpa using hple) (by simp; omega)) ?_
        rw [← insL_map, hins]
        have hil := insC_length c cs
        simp -implicitDefEqProofs [downTo, hil]
theorem cuts_Without (cs : List Cut) (a b : Int) (hl : cs.length ≤ cap) : Den PP 30 [cutsD cs, .int .i64 a, .int .i64 b] [] (.tup [.ref 0 0 (withoutC cs a b).1.length, .int .i64 (withoutC cs a b).2]) [⟨(withoutC cs a b).1.map Cut.row, 2, .mut⟩] := by
  cases h : askMay cs a b with
  | false =>
    have c1 := cuts_ask_no cs a b hl h
    rw [show withoutC cs a b = ([], 1500) by simp [withoutC, h]]
    simp only [cutsD] at c1
    refine den_ofG [14, 27] [27] [27] [] (fun _ h => absurd h List.not_mem_nil) is_cuts_Without ?_
    simp -implicitDefEqProofs [c_cuts_Without, cutsD]
    refine callThen_of c1 ?_
    simp -implicitDefEqProofs [downTo]
  | true =>
    have c1 := cuts_ask cs a b hl h
    obtain ⟨h1, h2, h3, h4⟩ := askMay_iff.1 h
    obtain ⟨k1, k2, k3⟩ := cutsMay_iff.1 h1
    have hc := cutAB_ok h2 h3 h4
    have hdel := del_cut hc k1 k2
    have hat := at_cut hc k1 k2
    have hat2 := fun h => (atC_true (c := fun x => ordC x (cutAB a b)) (xs := cs) h).1
    rw [hat] at hat2
    rw [show withoutC cs a b = (cs.filter fun x => !decide (x = cutAB a b), 0) by unfold withoutC; rw [if_pos h]]
    have hnf : cutAB a b ∉ cs → cs.filter (fun x => !decide (x = cutAB a b)) = cs := by
      intro hn
      rw [List.filter_eq_self]
      intro x hx
      have : x ≠ cutAB a b := by rintro rfl; exact hn hx
      simp [this]
    generalize posC (fun x => ordC x (cutAB a b)) cs = p at *
    generalize cutAB a b = c at *
    clear h h1 h2 h3 h4 k1 k2 hat hc
    simp only [cutsD] at c1
    refine den_ofG [14, 27] [27] [27] [] (fun _ h => absurd h List.not_mem_nil) is_cuts_Without ?_
    simp -implicitDefEqProofs [c_cuts_Without, cutsD]
    refine callThen_of c1 ?_
    by_cases hin : c ∈ cs
    · have hlt := hat2 (by simpa using hin)
      have hd := hdel hin
      have hw := wrap_next (n := p) (by omega)
      have hw2 : IntKind.wrap .i64 ((p : Int) + 1) = (p : Int) + 1 := wrap_in (by omega) (by omega)
      have hdl := congrArg List.length hd
      have hmap : (cs.map Cut.row).take p ++ (cs.map Cut.row).drop (p + 1) = (cs.filter fun x => !decide (x = c)).map Cut.row := by rw [← hd]; simp [List.map_take, List.map_drop]
      generalize (cs.filter fun x => !decide (x = c)) = F at *
      clear hnf hdel hat2 hw hd
      simp -implicitDefEqProofs [downTo, hin, hw2]
      refine giveThen_of rfl (by simp) (by simp) (by simp) (delete_Cut (cs.map Cut.row) p (by intro r hr; obtain ⟨a, _, rfl⟩ := List.mem_map.1 hr; exact ⟨rfl, rfl⟩) (StillR.map _ _ fun a _ => crow_still a) (by simpa using hlt) (by simp; omega)) ?_
      rw [hmap]
      simp -implicitDefEqProofs [downTo]
    · rw [hnf hin]
      simp -implicitDefEqProofs [downTo, hin]
theorem cuts_Is (cs : List Cut) (a b : Int) (hl : cs.length ≤ cap) : Den PP 32 [cutsD cs, .int .i64 a, .int .i64 b] [] (.tup [.bool (isC cs a b).1, .int .i64 (isC cs a b).2]) [] := by
  cases h : askMay cs a b with
  | false =>
    have c1 := cuts_ask_no cs a b hl h
    rw [show isC cs a b = (false, 1500) by simp [isC, h]]
    simp only [cutsD] at c1
    refine den_of [] [] is_cuts_Is ?_
    simp -implicitDefEqProofs [c_cuts_Is, cutsD]
    refine callThen_of c1 ?_
    simp -implicitDefEqProofs [downTo]
  | true =>
    have c1 := cuts_ask cs a b hl h
    rw [show isC cs a b = (decide (cutAB a b ∈ cs), 0) by simp [isC, h]]
    generalize decide (cutAB a b ∈ cs) = A at *
    generalize posC (fun x => ordC x (cutAB a b)) cs = p at *
    generalize cutAB a b = c at *
    simp only [cutsD] at c1
    refine den_of [] [] is_cuts_Is ?_
    simp -implicitDefEqProofs [c_cuts_Is, cutsD]
    refine callThen_of c1 ?_
    simp -implicitDefEqProofs [downTo]
end Go.AM
/- AM: contracts: the document's cuts. -/
namespace Go.AM
set_option linter.unusedSimpArgs false
set_option linter.unusedVariables false
set_option maxRecDepth 8000
set_option maxHeartbeats 0
theorem cut_eq_iff (x : Cut) (a b : Int) : (x.a = a ∧ x.b = b) ↔ x = ⟨a, b⟩ := by
  obtain ⟨xa, xb⟩ := x
  simp
theorem ref_IsCut (cs : List Cut) (a b : Int) (hl : cs.length ≤ cap) : Den PP 33 [cutsD cs, .int .i64 a, .int .i64 b] [] (.tup [.bool (isC cs a b).1, .int .i64 (isC cs a b).2]) [] := by
  have c1 := ref_CutsMay cs hl
  have c2 := ref_PlaceMay a
  have c3 := ref_PlaceMay b
  simp only [cutsD] at c1
  unfold cap at hl
  cases h : askMay cs a b with
  | false =>
    rw [show isC cs a b = (false, 1500) by simp [isC, h]]
    simp only [askMay] at h
    generalize cutsMay cs = M at *
    generalize place a = X at *
    generalize place b = Y at *
    by_cases hab : a = b
    · clear h
      refine den_of [] [] is_gimmalref1_IsCut ?_
      cases M <;> cases X <;> cases Y
      all_goals
        simp -implicitDefEqProofs [c_gimmalref1_IsCut, cutsD]
        repeat' (first | (refine callThen_of (by first | exact c1 | exact c2 | exact c3) ?_; simp -implicitDefEqProofs [*, hab]) | (with_reducible refine gOps_dec (fun _ => ?_) (fun _ => ?_) <;> simp -implicitDefEqProofs [*, hab]) | (with_reducible refine gOps_ndec (fun _ => ?_) (fun _ => ?_) <;> simp -implicitDefEqProofs [*, hab]) | (with_reducible refine gOps_and (fun hq => ?_) (fun hq => ?_) <;> (try simp at hq) <;> simp -implicitDefEqProofs [*, hab]) | (with_reducible refine gOps_or (fun hq => ?_) (fun hq => ?_) <;> (try simp at hq) <;> simp -implicitDefEqProofs [*, hab]) | (with_reducible refine gOps_not (fun hq => ?_) (fun hq => ?_) <;> (try simp at hq) <;> simp -implicitDefEqProofs [*, hab]) | (with_reducible refine gOps_split (fun hq => ?_) (fun hq => ?_) <;> (try simp at hq) <;> simp -implicitDefEqProofs [*, hab]) | (with_reducible refine condC_dec (fun _ => ?_) (fun _ => ?_) <;> simp -implicitDefEqProofs [*, hab]) | (with_reducible refine condC_ndec (fun _ => ?_) (fun _ => ?_) <;> simp -implicitDefEqProofs [*, hab]) | (with_reducible refine condC_and (fun hq => ?_) (fun hq => ?_) <;> (try simp at hq) <;> simp -implicitDefEqProofs [*, hab]) | (with_reducible refine condC_or (fun hq => ?_) (fun hq => ?_) <;> (try simp at hq) <;> simp -implicitDefEqProofs [*, hab]) | (with_reducible refine condC_not (fun hq => ?_) (fun hq => ?_) <;> (try simp at hq) <;> simp -implicitDefEqProofs [*, hab]) | (with_reducible refine condC_split (fun hq => ?_) (fun hq => ?_) <;> (try simp at hq) <;> simp -implicitDefEqProofs [*, hab]) | (refine appK2_if (by omega) ?_; simp -implicitDefEqProofs [*, hab]) | (refine pureV_if (by omega) ?_; simp -implicitDefEqProofs [*, hab]))
    · simp [hab] at h
      refine den_of [] [] is_gimmalref1_IsCut ?_
      cases M <;> cases X <;> cases Y
      all_goals
        simp at h
      all_goals
        simp -implicitDefEqProofs [c_gimmalref1_IsCut, cutsD]
        repeat' (first | (refine callThen_of (by first | exact c1 | exact c2 | exact c3) ?_; simp -implicitDefEqProofs [*, hab]) | (with_reducible refine gOps_dec (fun _ => ?_) (fun _ => ?_) <;> simp -implicitDefEqProofs [*, hab]) | (with_reducible refine gOps_ndec (fun _ => ?_) (fun _ => ?_) <;> simp -implicitDefEqProofs [*, hab]) | (with_reducible refine gOps_and (fun hq => ?_) (fun hq => ?_) <;> (try simp at hq) <;> simp -implicitDefEqProofs [*, hab]) | (with_reducible refine gOps_or (fun hq => ?_) (fun hq => ?_) <;> (try simp at hq) <;> simp -implicitDefEqProofs [*, hab]) | (with_reducible refine gOps_not (fun hq => ?_) (fun hq => ?_) <;> (try simp at hq) <;> simp -implicitDefEqProofs [*, hab]) | (with_reducible refine gOps_split (fun hq => ?_) (fun hq => ?_) <;> (try simp at hq) <;> simp -implicitDefEqProofs [*, hab]) | (with_reducible refine condC_dec (fun _ => ?_) (fun _ => ?_) <;> simp -implicitDefEqProofs [*, hab]) | (with_reducible refine condC_ndec (fun _ => ?_) (fun _ => ?_) <;> simp -implicitDefEqProofs [*, hab]) | (with_reducible refine condC_and (fun hq => ?_) (fun hq => ?_) <;> (try simp at hq) <;> simp -implicitDefEqProofs [*, hab]) | (with_reducible refine condC_or (fun hq => ?_) (fun hq => ?_) <;> (try simp at hq) <;> simp -implicitDefEqProofs [*, hab]) | (with_reducible refine condC_not (fun hq => ?_) (fun hq => ?_) <;> (try simp at hq) <;> simp -implicitDefEqProofs [*, hab]) | (with_reducible refine condC_split (fun hq => ?_) (fun hq => ?_) <;> (try simp at hq) <;> simp -implicitDefEqProofs [*, hab]) | (refine appK2_if (by omega) ?_; simp -implicitDefEqProofs [*, hab]) | (refine pureV_if (by omega) ?_; simp -implicitDefEqProofs [*, hab]))
  | true =>
    rw [show isC cs a b = (decide (cutAB a b ∈ cs), 0) by simp [isC, h]]
    obtain ⟨h1, h2, h3, h4⟩ := askMay_iff.1 h
    rw [h1] at c1
    rw [h2] at c2
    rw [h3] at c3
    clear h h1 h2 h3
    obtain ⟨A, hA⟩ : ∃ A, decide (cutAB a b ∈ cs) = A := ⟨_, rfl⟩
    rw [hA]
    have hcab : cutAB a b = ⟨min a b, max a b⟩ := rfl
    rw [hcab] at hA
    refine den_of [] [] is_gimmalref1_IsCut ?_
    simp -implicitDefEqProofs [c_gimmalref1_IsCut, cutsD]
    repeat' (first | (refine callThen_of (by first | exact c1 | exact c2 | exact c3) ?_; simp -implicitDefEqProofs [*, h4]) | (with_reducible refine gOps_dec (fun _ => ?_) (fun _ => ?_) <;> simp -implicitDefEqProofs [*, h4]) | (with_reducible refine gOps_ndec (fun _ => ?_) (fun _ => ?_) <;> simp -implicitDefEqProofs [*, h4]) | (with_reducible refine gOps_and (fun hq => ?_) (fun hq => ?_) <;> (try simp at hq) <;> simp -implicitDefEqProofs [*, h4]) | (with_reducible refine gOps_or (fun hq => ?_) (fun hq => ?_) <;> (try simp at hq) <;> simp -implicitDefEqProofs [*, h4]) | (with_reducible refine gOps_not (fun hq => ?_) (fun hq => ?_) <;> (try simp at hq) <;> simp -implicitDefEqProofs [*, h4]) | (with_reducible refine gOps_split (fun hq => ?_) (fun hq => ?_) <;> (try simp at hq) <;> simp -implicitDefEqProofs [*, h4]) | (with_reducible refine condC_dec (fun _ => ?_) (fun _ => ?_) <;> simp -implicitDefEqProofs [*, h4]) | (with_reducible refine condC_ndec (fun _ => ?_) (fun _ => ?_) <;> simp -implicitDefEqProofs [*, h4]) | (with_reducible refine condC_and (fun hq => ?_) (fun hq => ?_) <;> (try simp at hq) <;> simp -implicitDefEqProofs [*, h4]) | (with_reducible refine condC_or (fun hq => ?_) (fun hq => ?_) <;> (try simp at hq) <;> simp -implicitDefEqProofs [*, h4]) | (with_reducible refine condC_not (fun hq => ?_) (fun hq => ?_) <;> (try simp at hq) <;> simp -implicitDefEqProofs [*, h4]) | (with_reducible refine condC_split (fun hq => ?_) (fun hq => ?_) <;> (try simp at hq) <;> simp -implicitDefEqProofs [*, h4]) | (refine appK2_if (by omega) ?_; simp -implicitDefEqProofs [*, h4]) | (refine pureV_if (by omega) ?_; simp -implicitDefEqProofs [*, h4]))
    refine list_rule cs (fun i rest => fun ⟨fr, bs⟩ => bs = [] ∧ fr 0 = cutsD cs ∧ fr 1 = .int .i64 a ∧ fr 2 = .int .i64 b ∧ fr 8 = .int .i64 i ∧ decide ((⟨min a b, max a b⟩ : Cut) ∈ rest) = A)
      (fun ⟨fr, bs⟩ => bs = [] ∧ A = false) (fun ⟨fr, bs⟩ => fr 6 = .bool true ∧ fr 7 = .int .i64 0 ∧ A = true) c_gimmalref1_IsCut_L0.eq_1 ?_ ?_ ?_ ?_ ?_
    · exact ⟨rfl, rfl, rfl, rfl, rfl, hA⟩
    · rintro i ⟨fr, bs⟩ hi ⟨rfl, q0, q1, q2, q8, he⟩
      simp -implicitDefEqProofs [q0, q1, q2, q8, hi, cutsD]
      simpa using he.symm
    · rintro i x rest ⟨fr, bs⟩ hlt hget hg hd hd2 ⟨rfl, q0, q1, q2, q8, he⟩
      have hlt' : (i : Int) < cs.length := by omega
      have hw := wrap_next (n := i) (by omega)
      clear hA hcab
      by_cases hx : x = ⟨min a b, max a b⟩
      · subst hx
        simp at he
        simp -implicitDefEqProofs [q0, q1, q2, q8, hlt, hlt', hget, hg, cutsD, Cut.row, minL, minF, ite_min, ite_max, ite_max2, EQS]
        exact he
      · have hx1 : ¬ (x.a = min a b ∧ x.b = max a b) := fun e => hx ((cut_eq_iff x _ _).1 e)
        have hx2 : ¬ (⟨min a b, max a b⟩ : Cut) = x := fun e => hx e.symm
        simp [hx2] at he
        have hx3 : (decide (x.a = min a b) && decide (x.b = max a b)) = false := by
          rw [Bool.eq_false_iff]
          intro e
          simp at e
          exact hx1 e
        clear hx hx2 hx1
        simp -implicitDefEqProofs [q0, q1, q2, q8, hlt, hlt', hget, hg, cutsD, Cut.row, minL, minF, ite_min, ite_max, ite_max2, EQS, hx3, hw]
        exact he
    · rintro ⟨fr, bs⟩ ⟨rfl, h⟩
      simp -implicitDefEqProofs [h]
    · rintro ⟨fr, bs⟩ ⟨h6, h7, h⟩
      simp -implicitDefEqProofs [h6, h7, h]
theorem ref_WithoutCut (cs : List Cut) (a b : Int) (hl : cs.length ≤ cap) : Den PP 31 [cutsD cs, .int .i64 a, .int .i64 b] [] (.tup [.ref 0 0 (withoutC cs a b).1.length, .int .i64 (withoutC cs a b).2]) [⟨(withoutC cs a b).1.map Cut.row, 2, .mut⟩] := by
  have c1 := ref_IsCut cs a b hl
  simp only [cutsD] at c1
  cases h : askMay cs a b with
  | false =>
    rw [show isC cs a b = (false, 1500) by simp [isC, h]] at c1
    rw [show withoutC cs a b = ([], 1500) by simp [withoutC, h]]
    refine den_of [] [] is_gimmalref1_WithoutCut ?_
    simp -implicitDefEqProofs [c_gimmalref1_WithoutCut, cutsD]
    refine callThen_of c1 ?_
    simp -implicitDefEqProofs
  | true =>
    obtain ⟨h1, h2, h3, h4⟩ := askMay_iff.1 h
    have h32 := (cutsMay_iff.1 h1).2.2
    rw [show isC cs a b = (decide (cutAB a b ∈ cs), 0) by simp [isC, h]] at c1
    rw [show withoutC cs a b = (cs.filter fun x => !decide (x = cutAB a b), 0) by unfold withoutC; rw [if_pos h]]
    have hcab : cutAB a b = ⟨min a b, max a b⟩ := rfl
    rw [hcab] at c1 ⊢
    generalize decide ((⟨min a b, max a b⟩ : Cut) ∈ cs) = I at *
    clear h h1 h2 h3 h4 hcab
    have hsn : ∀ (i : Nat) (q : Cut), cs[i]? = some q → (cs.take (i + 1)).filter (fun x => !decide (x = ⟨min a b, max a b⟩)) = if q = ⟨min a b, max a b⟩ then (cs.take i).filter (fun x => !decide (x = ⟨min a b, max a b⟩)) else (cs.take i).filter (fun x => !decide (x = ⟨min a b, max a b⟩)) ++ [q] := by
      intro i q h
      rw [List.take_add_one, h, List.filter_append]
      by_cases e : q = ⟨min a b, max a b⟩ <;> simp [e]
    have hln : ∀ (i : Nat), ((cs.take i).filter (fun x => !decide (x = ⟨min a b, max a b⟩))).length ≤ 32 := by
      intro i
      have h1 := List.length_filter_le (fun x => !decide (x = (⟨min a b, max a b⟩ : Cut))) (cs.take i)
      have h2 : (cs.take i).length ≤ cs.length := by simp; omega
      omega
    refine den_of [] [] is_gimmalref1_WithoutCut ?_
    simp -implicitDefEqProofs [c_gimmalref1_WithoutCut, cutsD]
    refine callThen_of c1 ?_
    simp -implicitDefEqProofs
    refine list_rule cs (fun i rest => fun ⟨fr, bs⟩ => bs = [⟨[], 2, .mut⟩, ⟨((cs.take i).filter fun x => !decide (x = ⟨min a b, max a b⟩)).map Cut.row, 2, .mut⟩] ∧ fr 0 = cutsD cs ∧ fr 1 = .int .i64 a ∧ fr 2 = .int .i64 b ∧ fr 10 = .ref 1 0 ((cs.take i).filter fun x => !decide (x = ⟨min a b, max a b⟩)).length ∧ fr 11 = .int .i64 i)
      (fun ⟨fr, bs⟩ => bs = [⟨[], 2, .mut⟩, ⟨(cs.filter fun x => !decide (x = ⟨min a b, max a b⟩)).map Cut.row, 2, .mut⟩] ∧ fr 10 = .ref 1 0 (cs.filter fun x => !decide (x = ⟨min a b, max a b⟩)).length) (fun _ => False) c_gimmalref1_WithoutCut_L0.eq_1 ?_ ?_ ?_ ?_ ?_
    · exact ⟨rfl, rfl, rfl, rfl, rfl, rfl⟩
    · rintro i ⟨fr, bs⟩ hi ⟨rfl, q0, q1, q2, q10, q11⟩
      subst hi
      rw [List.take_length] at *
      simp -implicitDefEqProofs [q0, q1, q2, q10, q11, cutsD]
    · rintro i x rest ⟨fr, bs⟩ hlt hget hg hd hd2 ⟨rfl, q0, q1, q2, q10, q11⟩
      have hlt' : (i : Int) < cs.length := by omega
      have hw := wrap_next (n := i) (by omega)
      have hs := hsn i x hget
      have hn := hln i
      generalize (cs.take (i + 1)).filter (fun x => !decide (x = ⟨min a b, max a b⟩)) = F' at *
      generalize (cs.take i).filter (fun x => !decide (x = ⟨min a b, max a b⟩)) = F at *
      generalize cs.filter (fun x => !decide (x = ⟨min a b, max a b⟩)) = G at *
      clear hsn hln c1
      by_cases hx : x = ⟨min a b, max a b⟩
      · rw [if_pos hx] at hs
        subst hs
        subst hx
        simp -implicitDefEqProofs [q0, q1, q2, q10, q11, hlt, hlt', hget, hg, cutsD, Cut.row, minL, minF, ite_min, ite_max, ite_max2, EQS, hw]
      · rw [if_neg hx] at hs
        subst hs
        have hx3 : (decide (x.a = min a b) && decide (x.b = max a b)) = false := by
          rw [Bool.eq_false_iff]
          intro e
          simp at e
          exact hx ((cut_eq_iff x _ _).1 e)
        clear hx
        simp -implicitDefEqProofs [q0, q1, q2, q10, q11, hlt, hlt', hget, hg, cutsD, Cut.row, minL, minF, ite_min, ite_max, ite_max2, EQS, hx3, hw]
        refine ⟨by simp [Fits], ?_⟩
        repeat' (first | (refine callThen_of (by first | exact ring_Place _ | exact den_nrm (ring_Place _) | exact den_nrm (by simpa using ring_Place _)) ?_; simp -implicitDefEqProofs [*, hw, Cut.row, cutsD, Fits]) | (with_reducible refine gOps_dec (fun _ => ?_) (fun _ => ?_) <;> simp -implicitDefEqProofs [*, hw, Cut.row, cutsD, Fits]) | (with_reducible refine gOps_ndec (fun _ => ?_) (fun _ => ?_) <;> simp -implicitDefEqProofs [*, hw, Cut.row, cutsD, Fits]) | (with_reducible refine gOps_and (fun hq => ?_) (fun hq => ?_) <;> (try simp at hq) <;> simp -implicitDefEqProofs [*, hw, Cut.row, cutsD, Fits]) | (with_reducible refine gOps_or (fun hq => ?_) (fun hq => ?_) <;> (try simp at hq) <;> simp -implicitDefEqProofs [*, hw, Cut.row, cutsD, Fits]) | (with_reducible refine gOps_not (fun hq => ?_) (fun hq => ?_) <;> (try simp at hq) <;> simp -implicitDefEqProofs [*, hw, Cut.row, cutsD, Fits]) | (with_reducible refine gOps_split (fun hq => ?_) (fun hq => ?_) <;> (try simp at hq) <;> simp -implicitDefEqProofs [*, hw, Cut.row, cutsD, Fits]) | (with_reducible refine condC_dec (fun _ => ?_) (fun _ => ?_) <;> simp -implicitDefEqProofs [*, hw, Cut.row, cutsD, Fits]) | (with_reducible refine condC_ndec (fun _ => ?_) (fun _ => ?_) <;> simp -implicitDefEqProofs [*, hw, Cut.row, cutsD, Fits]) | (with_reducible refine condC_and (fun hq => ?_) (fun hq => ?_) <;> (try simp at hq) <;> simp -implicitDefEqProofs [*, hw, Cut.row, cutsD, Fits]) | (with_reducible refine condC_or (fun hq => ?_) (fun hq => ?_) <;> (try simp at hq) <;> simp -implicitDefEqProofs [*, hw, Cut.row, cutsD, Fits]) | (with_reducible refine condC_not (fun hq => ?_) (fun hq => ?_) <;> (try simp at hq) <;> simp -implicitDefEqProofs [*, hw, Cut.row, cutsD, Fits]) | (with_reducible refine condC_split (fun hq => ?_) (fun hq => ?_) <;> (try simp at hq) <;> simp -implicitDefEqProofs [*, hw, Cut.row, cutsD, Fits]) | (refine appK2_if (by omega) ?_; simp -implicitDefEqProofs [*, hw, Cut.row, cutsD, Fits]) | (refine pureV_if (by omega) ?_; simp -implicitDefEqProofs [*, hw, Cut.row, cutsD, Fits]))
    · rintro ⟨fr, bs⟩ ⟨rfl, q10⟩
      simp -implicitDefEqProofs [q10]
    · rintro ⟨fr, bs⟩ h
      exact h.elim
theorem ref_WithCut (cs : List Cut) (a b : Int) (hl : cs.length ≤ cap) : Den PP 29 [cutsD cs, .int .i64 a, .int .i64 b] [] (.tup [.ref 0 0 (withC cs a b).1.length, .int .i64 (withC cs a b).2]) [⟨(withC cs a b).1.map Cut.row, 2, .mut⟩] := by
  have c1 := ref_IsCut cs a b hl
  simp only [cutsD] at c1
  cases h : askMay cs a b with
  | false =>
    rw [show isC cs a b = (false, 1500) by simp [isC, h]] at c1
    rw [show withC cs a b = ([], 1500) by simp [withC, h]]
    refine den_of [] [] is_gimmalref1_WithCut ?_
    simp -implicitDefEqProofs [c_gimmalref1_WithCut, cutsD]
    refine callThen_of c1 ?_
    simp -implicitDefEqProofs
  | true =>
    obtain ⟨h1, h2, h3, h4⟩ := askMay_iff.1 h
    obtain ⟨k1, k2, h32⟩ := cutsMay_iff.1 h1
    have hc := cutAB_ok h2 h3 h4
    have hig := insG_eq hc k1
    have hrng : ∀ q, cutOk q = true → IntKind.wrap .i64 (q.a * 256) = q.a * 256 ∧ IntKind.wrap .i64 (q.a * 256 + q.b) = q.a * 256 + q.b := by
      intro q hq
      have := (cutOk_iff q).1 hq
      exact ⟨wrap_in (by omega) (by omega), wrap_in (by omega) (by omega)⟩
    have hrc := hrng _ hc
    rw [show isC cs a b = (decide (cutAB a b ∈ cs), 0) by simp [isC, h]] at c1
    obtain ⟨r, hr⟩ : ∃ r, withC cs a b = r := ⟨_, rfl⟩
    have hr' := hr
    unfold withC at hr'
    rw [if_pos h] at hr'
    rw [hr]
    clear hr h h1 h2 h3 h4
    have hca : (cutAB a b).a = min a b := rfl
    have hcb : (cutAB a b).b = max a b := rfl
    have hil := insC_length (cutAB a b) cs
    refine den_of [] [] is_gimmalref1_WithCut ?_
    simp -implicitDefEqProofs [c_gimmalref1_WithCut, cutsD]
    refine callThen_of c1 ?_
    by_cases hin : cutAB a b ∈ cs
    · rw [if_pos hin] at hr'
      subst hr'
      have hft : Fits 2 (cs.map Cut.row) := by intro r hr; obtain ⟨a, _, rfl⟩ := List.mem_map.1 hr; exact ⟨rfl, rfl⟩
      have htl : List.take cs.length (cs.map Cut.row) = cs.map Cut.row := List.take_of_length_le (by simp)
      clear hig hrng hrc hca hcb hil c1 k1 k2 hc
      simp -implicitDefEqProofs [hin, htl, hft]
      repeat' (first | (refine callThen_of (by first | exact ring_Place _ | exact den_nrm (ring_Place _) | exact den_nrm (by simpa using ring_Place _)) ?_; simp -implicitDefEqProofs [*, htl, hft]) | (with_reducible refine gOps_dec (fun _ => ?_) (fun _ => ?_) <;> simp -implicitDefEqProofs [*, htl, hft]) | (with_reducible refine gOps_ndec (fun _ => ?_) (fun _ => ?_) <;> simp -implicitDefEqProofs [*, htl, hft]) | (with_reducible refine gOps_and (fun hq => ?_) (fun hq => ?_) <;> (try simp at hq) <;> simp -implicitDefEqProofs [*, htl, hft]) | (with_reducible refine gOps_or (fun hq => ?_) (fun hq => ?_) <;> (try simp at hq) <;> simp -implicitDefEqProofs [*, htl, hft]) | (with_reducible refine gOps_not (fun hq => ?_) (fun hq => ?_) <;> (try simp at hq) <;> simp -implicitDefEqProofs [*, htl, hft]) | (with_reducible refine gOps_split (fun hq => ?_) (fun hq => ?_) <;> (try simp at hq) <;> simp -implicitDefEqProofs [*, htl, hft]) | (with_reducible refine condC_dec (fun _ => ?_) (fun _ => ?_) <;> simp -implicitDefEqProofs [*, htl, hft]) | (with_reducible refine condC_ndec (fun _ => ?_) (fun _ => ?_) <;> simp -implicitDefEqProofs [*, htl, hft]) | (with_reducible refine condC_and (fun hq => ?_) (fun hq => ?_) <;> (try simp at hq) <;> simp -implicitDefEqProofs [*, htl, hft]) | (with_reducible refine condC_or (fun hq => ?_) (fun hq => ?_) <;> (try simp at hq) <;> simp -implicitDefEqProofs [*, htl, hft]) | (with_reducible refine condC_not (fun hq => ?_) (fun hq => ?_) <;> (try simp at hq) <;> simp -implicitDefEqProofs [*, htl, hft]) | (with_reducible refine condC_split (fun hq => ?_) (fun hq => ?_) <;> (try simp at hq) <;> simp -implicitDefEqProofs [*, htl, hft]) | (refine appK2_if (by omega) ?_; simp -implicitDefEqProofs [*, htl, hft]) | (refine pureV_if (by omega) ?_; simp -implicitDefEqProofs [*, htl, hft]))
    · rw [if_neg hin] at hr'
      have hig := hig hin
      by_cases h5 : cs.length = 32
      · rw [if_pos h5] at hr'
        subst hr'
        clear hig hrng hrc hca hcb hil c1 k1 k2 hc
        simp -implicitDefEqProofs [hin, h5]
      · rw [if_neg h5] at hr'
        subst hr'
        have h5' : ¬ (cs.length : Int) = 32 := by omega
        rw [hca] at hrc
        rw [hcb] at hrc
        obtain ⟨hrc1, hrc2⟩ := hrc
        rw [← hig]
        rw [← hig] at hil
        clear c1 k2 hc hig
        have hcab : cutAB a b = ⟨min a b, max a b⟩ := rfl
        rw [hcab] at hil hin ⊢
        have hnum : numC ⟨min a b, max a b⟩ = min a b * 256 + max a b := rfl
        clear hcab
        simp -implicitDefEqProofs [hin, h5', minL, minF, ite_min, ite_max, ite_max2]
        obtain ⟨G, hG⟩ : ∃ G, insG ⟨min a b, max a b⟩ false cs = G := ⟨_, rfl⟩
        rw [hG] at hil ⊢
        refine list_rule cs (fun i rest => fun ⟨fr, bs⟩ => ∃ acc inn, bs = [⟨[], 2, .mut⟩, ⟨[[.int .i64 (min a b), .int .i64 (max a b)]], 2, .box⟩, ⟨acc.map Cut.row, 2, .mut⟩] ∧ acc.length ≤ 2 * i ∧ acc ++ insG ⟨min a b, max a b⟩ inn rest = G ∧ fr 0 = cutsD cs ∧ fr 11 = .ptr 1 0 0 ∧ fr 12 = .ref 2 0 acc.length ∧ fr 13 = .bool inn ∧ fr 14 = .int .i64 i)
          (fun ⟨fr, bs⟩ => ∃ acc inn, bs = [⟨[], 2, .mut⟩, ⟨[[.int .i64 (min a b), .int .i64 (max a b)]], 2, .box⟩, ⟨acc.map Cut.row, 2, .mut⟩] ∧ acc.length ≤ 2 * cs.length ∧ acc ++ insG ⟨min a b, max a b⟩ inn [] = G ∧ fr 11 = .ptr 1 0 0 ∧ fr 12 = .ref 2 0 acc.length ∧ fr 13 = .bool inn) (fun _ => False) c_gimmalref1_WithCut_L0.eq_1 ?_ ?_ ?_ ?_ ?_
        · exact ⟨[], false, rfl, by simp, by simpa using hG, rfl, rfl, rfl, rfl, rfl⟩
        · rintro i ⟨fr, bs⟩ hi ⟨acc, inn, rfl, hal, he, q0, q11, q12, q13, q14⟩
          subst hi
          simp -implicitDefEqProofs [q0, q11, q12, q13, q14, cutsD]
          refine ⟨acc, rfl, hal, ?_⟩
          cases inn
          · exact .inl ⟨he, rfl, rfl⟩
          · exact .inr ⟨he, rfl, rfl⟩
        · rintro i x rest ⟨fr, bs⟩ hlt hget hg hd hd2 ⟨acc, inn, rfl, hal, he, q0, q11, q12, q13, q14⟩
          have hlt' : (i : Int) < cs.length := by omega
          have hw := wrap_next (n := i) (by omega)
          have hx := hrng x (k1 x (List.mem_of_getElem? hget))
          obtain ⟨hx1, hx2⟩ := hx
          simp only [insG] at he
          rw [hnum] at he
          have hnx : numC x = x.a * 256 + x.b := rfl
          rw [hnx] at he
          clear hrng k1 hnum hnx hil hG
          cases inn with
          | true =>
            simp -implicitDefEqProofs [q0, q11, q12, q13, q14, hlt, hlt', hget, hg, cutsD, Cut.row]
            refine ⟨by simp [Fits], ?_⟩
            repeat' (first | (refine callThen_of (by first | exact ring_Place _ | exact den_nrm (ring_Place _) | exact den_nrm (by simpa using ring_Place _)) ?_; simp -implicitDefEqProofs [*, hw, Cut.row, cutsD, Fits]) | (with_reducible refine gOps_dec (fun _ => ?_) (fun _ => ?_) <;> simp -implicitDefEqProofs [*, hw, Cut.row, cutsD, Fits]) | (with_reducible refine gOps_ndec (fun _ => ?_) (fun _ => ?_) <;> simp -implicitDefEqProofs [*, hw, Cut.row, cutsD, Fits]) | (with_reducible refine gOps_and (fun hq => ?_) (fun hq => ?_) <;> (try simp at hq) <;> simp -implicitDefEqProofs [*, hw, Cut.row, cutsD, Fits]) | (with_reducible refine gOps_or (fun hq => ?_) (fun hq => ?_) <;> (try simp at hq) <;> simp -implicitDefEqProofs [*, hw, Cut.row, cutsD, Fits]) | (with_reducible refine gOps_not (fun hq => ?_) (fun hq => ?_) <;> (try simp at hq) <;> simp -implicitDefEqProofs [*, hw, Cut.row, cutsD, Fits]) | (with_reducible refine gOps_split (fun hq => ?_) (fun hq => ?_) <;> (try simp at hq) <;> simp -implicitDefEqProofs [*, hw, Cut.row, cutsD, Fits]) | (with_reducible refine condC_dec (fun _ => ?_) (fun _ => ?_) <;> simp -implicitDefEqProofs [*, hw, Cut.row, cutsD, Fits]) | (with_reducible refine condC_ndec (fun _ => ?_) (fun _ => ?_) <;> simp -implicitDefEqProofs [*, hw, Cut.row, cutsD, Fits]) | (with_reducible refine condC_and (fun hq => ?_) (fun hq => ?_) <;> (try simp at hq) <;> simp -implicitDefEqProofs [*, hw, Cut.row, cutsD, Fits]) | (with_reducible refine condC_or (fun hq => ?_) (fun hq => ?_) <;> (try simp at hq) <;> simp -implicitDefEqProofs [*, hw, Cut.row, cutsD, Fits]) | (with_reducible refine condC_not (fun hq => ?_) (fun hq => ?_) <;> (try simp at hq) <;> simp -implicitDefEqProofs [*, hw, Cut.row, cutsD, Fits]) | (with_reducible refine condC_split (fun hq => ?_) (fun hq => ?_) <;> (try simp at hq) <;> simp -implicitDefEqProofs [*, hw, Cut.row, cutsD, Fits]) | (refine appK2_if (by omega) ?_; simp -implicitDefEqProofs [*, hw, Cut.row, cutsD, Fits]) | (refine pureV_if (by omega) ?_; simp -implicitDefEqProofs [*, hw, Cut.row, cutsD, Fits]))
            exact ⟨acc ++ [x], by simp [Cut.row], by simp; omega, by simpa using he, by simp⟩
          | false =>
            by_cases hgt : min a b * 256 + max a b < x.a * 256 + x.b
            · simp -implicitDefEqProofs [q0, q11, q12, q13, q14, hlt, hlt', hget, hg, cutsD, Cut.row, hx1, hx2, hrc1, hrc2, hgt]
              refine ⟨by simp [Fits], ?_⟩
              repeat' (first | (refine callThen_of (by first | exact ring_Place _ | exact den_nrm (ring_Place _) | exact den_nrm (by simpa using ring_Place _)) ?_; simp -implicitDefEqProofs [*, hw, Cut.row, cutsD, Fits]) | (with_reducible refine gOps_dec (fun _ => ?_) (fun _ => ?_) <;> simp -implicitDefEqProofs [*, hw, Cut.row, cutsD, Fits]) | (with_reducible refine gOps_ndec (fun _ => ?_) (fun _ => ?_) <;> simp -implicitDefEqProofs [*, hw, Cut.row, cutsD, Fits]) | (with_reducible refine gOps_and (fun hq => ?_) (fun hq => ?_) <;> (try simp at hq) <;> simp -implicitDefEqProofs [*, hw, Cut.row, cutsD, Fits]) | (with_reducible refine gOps_or (fun hq => ?_) (fun hq => ?_) <;> (try simp at hq) <;> simp -implicitDefEqProofs [*, hw, Cut.row, cutsD, Fits]) | (with_reducible refine gOps_not (fun hq => ?_) (fun hq => ?_) <;> (try simp at hq) <;> simp -implicitDefEqProofs [*, hw, Cut.row, cutsD, Fits]) | (with_reducible refine gOps_split (fun hq => ?_) (fun hq => ?_) <;> (try simp at hq) <;> simp -implicitDefEqProofs [*, hw, Cut.row, cutsD, Fits]) | (with_reducible refine condC_dec (fun _ => ?_) (fun _ => ?_) <;> simp -implicitDefEqProofs [*, hw, Cut.row, cutsD, Fits]) | (with_reducible refine condC_ndec (fun _ => ?_) (fun _ => ?_) <;> simp -implicitDefEqProofs [*, hw, Cut.row, cutsD, Fits]) | (with_reducible refine condC_and (fun hq => ?_) (fun hq => ?_) <;> (try simp at hq) <;> simp -implicitDefEqProofs [*, hw, Cut.row, cutsD, Fits]) | (with_reducible refine condC_or (fun hq => ?_) (fun hq => ?_) <;> (try simp at hq) <;> simp -implicitDefEqProofs [*, hw, Cut.row, cutsD, Fits]) | (with_reducible refine condC_not (fun hq => ?_) (fun hq => ?_) <;> (try simp at hq) <;> simp -implicitDefEqProofs [*, hw, Cut.row, cutsD, Fits]) | (with_reducible refine condC_split (fun hq => ?_) (fun hq => ?_) <;> (try simp at hq) <;> simp -implicitDefEqProofs [*, hw, Cut.row, cutsD, Fits]) | (refine appK2_if (by omega) ?_; simp -implicitDefEqProofs [*, hw, Cut.row, cutsD, Fits]) | (refine pureV_if (by omega) ?_; simp -implicitDefEqProofs [*, hw, Cut.row, cutsD, Fits]))
              exact ⟨acc ++ [⟨min a b, max a b⟩, x], by simp [Cut.row], by simp; omega, by simpa [hgt] using he, by simp⟩
            · simp -implicitDefEqProofs [q0, q11, q12, q13, q14, hlt, hlt', hget, hg, cutsD, Cut.row, hx1, hx2, hrc1, hrc2, hgt]
              refine ⟨by simp [Fits], ?_⟩
              repeat' (first | (refine callThen_of (by first | exact ring_Place _ | exact den_nrm (ring_Place _) | exact den_nrm (by simpa using ring_Place _)) ?_; simp -implicitDefEqProofs [*, hw, Cut.row, cutsD, Fits]) | (with_reducible refine gOps_dec (fun _ => ?_) (fun _ => ?_) <;> simp -implicitDefEqProofs [*, hw, Cut.row, cutsD, Fits]) | (with_reducible refine gOps_ndec (fun _ => ?_) (fun _ => ?_) <;> simp -implicitDefEqProofs [*, hw, Cut.row, cutsD, Fits]) | (with_reducible refine gOps_and (fun hq => ?_) (fun hq => ?_) <;> (try simp at hq) <;> simp -implicitDefEqProofs [*, hw, Cut.row, cutsD, Fits]) | (with_reducible refine gOps_or (fun hq => ?_) (fun hq => ?_) <;> (try simp at hq) <;> simp -implicitDefEqProofs [*, hw, Cut.row, cutsD, Fits]) | (with_reducible refine gOps_not (fun hq => ?_) (fun hq => ?_) <;> (try simp at hq) <;> simp -implicitDefEqProofs [*, hw, Cut.row, cutsD, Fits]) | (with_reducible refine gOps_split (fun hq => ?_) (fun hq => ?_) <;> (try simp at hq) <;> simp -implicitDefEqProofs [*, hw, Cut.row, cutsD, Fits]) | (with_reducible refine condC_dec (fun _ => ?_) (fun _ => ?_) <;> simp -implicitDefEqProofs [*, hw, Cut.row, cutsD, Fits]) | (with_reducible refine condC_ndec (fun _ => ?_) (fun _ => ?_) <;> simp -implicitDefEqProofs [*, hw, Cut.row, cutsD, Fits]) | (with_reducible refine condC_and (fun hq => ?_) (fun hq => ?_) <;> (try simp at hq) <;> simp -implicitDefEqProofs [*, hw, Cut.row, cutsD, Fits]) | (with_reducible refine condC_or (fun hq => ?_) (fun hq => ?_) <;> (try simp at hq) <;> simp -implicitDefEqProofs [*, hw, Cut.row, cutsD, Fits]) | (with_reducible refine condC_not (fun hq => ?_) (fun hq => ?_) <;> (try simp at hq) <;> simp -implicitDefEqProofs [*, hw, Cut.row, cutsD, Fits]) | (with_reducible refine condC_split (fun hq => ?_) (fun hq => ?_) <;> (try simp at hq) <;> simp -implicitDefEqProofs [*, hw, Cut.row, cutsD, Fits]) | (refine appK2_if (by omega) ?_; simp -implicitDefEqProofs [*, hw, Cut.row, cutsD, Fits]) | (refine pureV_if (by omega) ?_; simp -implicitDefEqProofs [*, hw, Cut.row, cutsD, Fits]))
              exact ⟨acc ++ [x], by simp [Cut.row], by simp; omega, by simpa [hgt] using he, by simp⟩
        · rintro ⟨fr, bs⟩ ⟨acc, inn, rfl, hal, he, q11, q12, q13⟩
          simp only [insG] at he
          clear hrng k1 hnum hG
          cases inn with
          | true =>
            simp at he
            subst he
            simp -implicitDefEqProofs [q11, q12, q13]
          | false =>
            simp at he
            subst he
            simp -implicitDefEqProofs [q11, q12, q13]
            refine ⟨by simp [Fits], ?_⟩
            repeat' (first | (refine callThen_of (by first | exact ring_Place _ | exact den_nrm (ring_Place _) | exact den_nrm (by simpa using ring_Place _)) ?_; simp -implicitDefEqProofs [*, Cut.row, cutsD, Fits]) | (with_reducible refine gOps_dec (fun _ => ?_) (fun _ => ?_) <;> simp -implicitDefEqProofs [*, Cut.row, cutsD, Fits]) | (with_reducible refine gOps_ndec (fun _ => ?_) (fun _ => ?_) <;> simp -implicitDefEqProofs [*, Cut.row, cutsD, Fits]) | (with_reducible refine gOps_and (fun hq => ?_) (fun hq => ?_) <;> (try simp at hq) <;> simp -implicitDefEqProofs [*, Cut.row, cutsD, Fits]) | (with_reducible refine gOps_or (fun hq => ?_) (fun hq => ?_) <;> (try simp at hq) <;> simp -implicitDefEqProofs [*, Cut.row, cutsD, Fits]) | (with_reducible refine gOps_not (fun hq => ?_) (fun hq => ?_) <;> (try simp at hq) <;> simp -implicitDefEqProofs [*, Cut.row, cutsD, Fits]) | (with_reducible refine gOps_split (fun hq => ?_) (fun hq => ?_) <;> (try simp at hq) <;> simp -implicitDefEqProofs [*, Cut.row, cutsD, Fits]) | (with_reducible refine condC_dec (fun _ => ?_) (fun _ => ?_) <;> simp -implicitDefEqProofs [*, Cut.row, cutsD, Fits]) | (with_reducible refine condC_ndec (fun _ => ?_) (fun _ => ?_) <;> simp -implicitDefEqProofs [*, Cut.row, cutsD, Fits]) | (with_reducible refine condC_and (fun hq => ?_) (fun hq => ?_) <;> (try simp at hq) <;> simp -implicitDefEqProofs [*, Cut.row, cutsD, Fits]) | (with_reducible refine condC_or (fun hq => ?_) (fun hq => ?_) <;> (try simp at hq) <;> simp -implicitDefEqProofs [*, Cut.row, cutsD, Fits]) | (with_reducible refine condC_not (fun hq => ?_) (fun hq => ?_) <;> (try simp at hq) <;> simp -implicitDefEqProofs [*, Cut.row, cutsD, Fits]) | (with_reducible refine condC_split (fun hq => ?_) (fun hq => ?_) <;> (try simp at hq) <;> simp -implicitDefEqProofs [*, Cut.row, cutsD, Fits]) | (refine appK2_if (by omega) ?_; simp -implicitDefEqProofs [*, Cut.row, cutsD, Fits]) | (refine pureV_if (by omega) ?_; simp -implicitDefEqProofs [*, Cut.row, cutsD, Fits]))
        · rintro ⟨fr, bs⟩ h
          exact h.elim
end Go.AM
/- AM: contracts: binary search, places put and taken out. -/
namespace Go.AM
set_option linter.unusedSimpArgs false
set_option linter.unusedVariables false
set_option maxRecDepth 8000
set_option maxHeartbeats 0
end Go.AM
/- AM: contracts: the document's answers about views, more. -/
namespace Go.AM
set_option linter.unusedSimpArgs false
set_option linter.unusedVariables false
set_option maxRecDepth 8000
set_option maxHeartbeats 0
end Go.AM
/- AM: contracts: items, stores, nodes. -/
namespace Go.AM
set_option linter.unusedSimpArgs false
set_option linter.unusedVariables false
set_option maxRecDepth 8000
set_option maxHeartbeats 0
theorem version_May (c w : Int) : Den PP 58 [.agg [.int .i64 c, .int .i64 w]] [] (.bool (verMay c w)) [] := by
  refine den_of [] [] is_version_May ?_
  simp -implicitDefEqProofs [c_version_May]
  repeat' (first | (refine callThen_of (by first | exact ring_Place _) ?_; simp -implicitDefEqProofs [*, verMay]) | (with_reducible refine gOps_dec (fun _ => ?_) (fun _ => ?_) <;> simp -implicitDefEqProofs [*, verMay]) | (with_reducible refine gOps_ndec (fun _ => ?_) (fun _ => ?_) <;> simp -implicitDefEqProofs [*, verMay]) | (with_reducible refine gOps_and (fun hq => ?_) (fun hq => ?_) <;> (try simp at hq) <;> simp -implicitDefEqProofs [*, verMay]) | (with_reducible refine gOps_or (fun hq => ?_) (fun hq => ?_) <;> (try simp at hq) <;> simp -implicitDefEqProofs [*, verMay]) | (with_reducible refine gOps_not (fun hq => ?_) (fun hq => ?_) <;> (try simp at hq) <;> simp -implicitDefEqProofs [*, verMay]) | (with_reducible refine gOps_split (fun hq => ?_) (fun hq => ?_) <;> (try simp at hq) <;> simp -implicitDefEqProofs [*, verMay]) | (with_reducible refine condC_dec (fun _ => ?_) (fun _ => ?_) <;> simp -implicitDefEqProofs [*, verMay]) | (with_reducible refine condC_ndec (fun _ => ?_) (fun _ => ?_) <;> simp -implicitDefEqProofs [*, verMay]) | (with_reducible refine condC_and (fun hq => ?_) (fun hq => ?_) <;> (try simp at hq) <;> simp -implicitDefEqProofs [*, verMay]) | (with_reducible refine condC_or (fun hq => ?_) (fun hq => ?_) <;> (try simp at hq) <;> simp -implicitDefEqProofs [*, verMay]) | (with_reducible refine condC_not (fun hq => ?_) (fun hq => ?_) <;> (try simp at hq) <;> simp -implicitDefEqProofs [*, verMay]) | (with_reducible refine condC_split (fun hq => ?_) (fun hq => ?_) <;> (try simp at hq) <;> simp -implicitDefEqProofs [*, verMay]) | (refine appK2_if (by omega) ?_; simp -implicitDefEqProofs [*, verMay]) | (refine pureV_if (by omega) ?_; simp -implicitDefEqProofs [*, verMay]))
theorem ref_VersionMay (c w : Int) : Den PP 49 [.agg [.int .i64 c, .int .i64 w]] [] (.bool (verMay c w)) [] := by
  refine den_of [] [] is_gimmalref1_VersionMay ?_
  simp -implicitDefEqProofs [c_gimmalref1_VersionMay]
  repeat' (first | (refine callThen_of (by first | exact ref_PlaceMay _) ?_; simp -implicitDefEqProofs [*, verMay]) | (with_reducible refine gOps_dec (fun _ => ?_) (fun _ => ?_) <;> simp -implicitDefEqProofs [*, verMay]) | (with_reducible refine gOps_ndec (fun _ => ?_) (fun _ => ?_) <;> simp -implicitDefEqProofs [*, verMay]) | (with_reducible refine gOps_and (fun hq => ?_) (fun hq => ?_) <;> (try simp at hq) <;> simp -implicitDefEqProofs [*, verMay]) | (with_reducible refine gOps_or (fun hq => ?_) (fun hq => ?_) <;> (try simp at hq) <;> simp -implicitDefEqProofs [*, verMay]) | (with_reducible refine gOps_not (fun hq => ?_) (fun hq => ?_) <;> (try simp at hq) <;> simp -implicitDefEqProofs [*, verMay]) | (with_reducible refine gOps_split (fun hq => ?_) (fun hq => ?_) <;> (try simp at hq) <;> simp -implicitDefEqProofs [*, verMay]) | (with_reducible refine condC_dec (fun _ => ?_) (fun _ => ?_) <;> simp -implicitDefEqProofs [*, verMay]) | (with_reducible refine condC_ndec (fun _ => ?_) (fun _ => ?_) <;> simp -implicitDefEqProofs [*, verMay]) | (with_reducible refine condC_and (fun hq => ?_) (fun hq => ?_) <;> (try simp at hq) <;> simp -implicitDefEqProofs [*, verMay]) | (with_reducible refine condC_or (fun hq => ?_) (fun hq => ?_) <;> (try simp at hq) <;> simp -implicitDefEqProofs [*, verMay]) | (with_reducible refine condC_not (fun hq => ?_) (fun hq => ?_) <;> (try simp at hq) <;> simp -implicitDefEqProofs [*, verMay]) | (with_reducible refine condC_split (fun hq => ?_) (fun hq => ?_) <;> (try simp at hq) <;> simp -implicitDefEqProofs [*, verMay]) | (refine appK2_if (by omega) ?_; simp -implicitDefEqProofs [*, verMay]) | (refine pureV_if (by omega) ?_; simp -implicitDefEqProofs [*, verMay]))
theorem item_Byte (x : Int) : Den PP 57 [.int .i64 x] [] (.bool (byte x)) [] := by
  refine den_of [] [] is_item_Byte ?_
  simp -implicitDefEqProofs [c_item_Byte]
  repeat' (first | (with_reducible refine gOps_dec (fun _ => ?_) (fun _ => ?_) <;> simp -implicitDefEqProofs [*, byte]) | (with_reducible refine gOps_ndec (fun _ => ?_) (fun _ => ?_) <;> simp -implicitDefEqProofs [*, byte]) | (with_reducible refine gOps_and (fun hq => ?_) (fun hq => ?_) <;> (try simp at hq) <;> simp -implicitDefEqProofs [*, byte]) | (with_reducible refine gOps_or (fun hq => ?_) (fun hq => ?_) <;> (try simp at hq) <;> simp -implicitDefEqProofs [*, byte]) | (with_reducible refine gOps_not (fun hq => ?_) (fun hq => ?_) <;> (try simp at hq) <;> simp -implicitDefEqProofs [*, byte]) | (with_reducible refine gOps_split (fun hq => ?_) (fun hq => ?_) <;> (try simp at hq) <;> simp -implicitDefEqProofs [*, byte]) | (with_reducible refine condC_dec (fun _ => ?_) (fun _ => ?_) <;> simp -implicitDefEqProofs [*, byte]) | (with_reducible refine condC_ndec (fun _ => ?_) (fun _ => ?_) <;> simp -implicitDefEqProofs [*, byte]) | (with_reducible refine condC_and (fun hq => ?_) (fun hq => ?_) <;> (try simp at hq) <;> simp -implicitDefEqProofs [*, byte]) | (with_reducible refine condC_or (fun hq => ?_) (fun hq => ?_) <;> (try simp at hq) <;> simp -implicitDefEqProofs [*, byte]) | (with_reducible refine condC_not (fun hq => ?_) (fun hq => ?_) <;> (try simp at hq) <;> simp -implicitDefEqProofs [*, byte]) | (with_reducible refine condC_split (fun hq => ?_) (fun hq => ?_) <;> (try simp at hq) <;> simp -implicitDefEqProofs [*, byte]) | (refine appK2_if (by omega) ?_; simp -implicitDefEqProofs [*, byte]) | (refine pureV_if (by omega) ?_; simp -implicitDefEqProofs [*, byte]))
theorem ref_byteMay (x : Int) : Den PP 48 [.int .i64 x] [] (.bool (byte x)) [] := by
  refine den_of [] [] is_gimmalref1_byteMay ?_
  simp -implicitDefEqProofs [c_gimmalref1_byteMay]
  repeat' (first | (with_reducible refine gOps_dec (fun _ => ?_) (fun _ => ?_) <;> simp -implicitDefEqProofs [*, byte]) | (with_reducible refine gOps_ndec (fun _ => ?_) (fun _ => ?_) <;> simp -implicitDefEqProofs [*, byte]) | (with_reducible refine gOps_and (fun hq => ?_) (fun hq => ?_) <;> (try simp at hq) <;> simp -implicitDefEqProofs [*, byte]) | (with_reducible refine gOps_or (fun hq => ?_) (fun hq => ?_) <;> (try simp at hq) <;> simp -implicitDefEqProofs [*, byte]) | (with_reducible refine gOps_not (fun hq => ?_) (fun hq => ?_) <;> (try simp at hq) <;> simp -implicitDefEqProofs [*, byte]) | (with_reducible refine gOps_split (fun hq => ?_) (fun hq => ?_) <;> (try simp at hq) <;> simp -implicitDefEqProofs [*, byte]) | (with_reducible refine condC_dec (fun _ => ?_) (fun _ => ?_) <;> simp -implicitDefEqProofs [*, byte]) | (with_reducible refine condC_ndec (fun _ => ?_) (fun _ => ?_) <;> simp -implicitDefEqProofs [*, byte]) | (with_reducible refine condC_and (fun hq => ?_) (fun hq => ?_) <;> (try simp at hq) <;> simp -implicitDefEqProofs [*, byte]) | (with_reducible refine condC_or (fun hq => ?_) (fun hq => ?_) <;> (try simp at hq) <;> simp -implicitDefEqProofs [*, byte]) | (with_reducible refine condC_not (fun hq => ?_) (fun hq => ?_) <;> (try simp at hq) <;> simp -implicitDefEqProofs [*, byte]) | (with_reducible refine condC_split (fun hq => ?_) (fun hq => ?_) <;> (try simp at hq) <;> simp -implicitDefEqProofs [*, byte]) | (refine appK2_if (by omega) ?_; simp -implicitDefEqProofs [*, byte]) | (refine pureV_if (by omega) ?_; simp -implicitDefEqProofs [*, byte]))
  all_goals omega
theorem item_May (i : Item) : Den PP 41 [.agg i.row] [] (.bool (itemMay i)) [] := by
  refine den_of [] [] is_item_May ?_
  simp -implicitDefEqProofs [c_item_May, Item.row]
  repeat' (first | (refine callThen_of (by first | exact item_Byte _ | exact version_May _ _) ?_; simp -implicitDefEqProofs [*, itemMay]) | (with_reducible refine gOps_dec (fun _ => ?_) (fun _ => ?_) <;> simp -implicitDefEqProofs [*, itemMay]) | (with_reducible refine gOps_ndec (fun _ => ?_) (fun _ => ?_) <;> simp -implicitDefEqProofs [*, itemMay]) | (with_reducible refine gOps_and (fun hq => ?_) (fun hq => ?_) <;> (try simp at hq) <;> simp -implicitDefEqProofs [*, itemMay]) | (with_reducible refine gOps_or (fun hq => ?_) (fun hq => ?_) <;> (try simp at hq) <;> simp -implicitDefEqProofs [*, itemMay]) | (with_reducible refine gOps_not (fun hq => ?_) (fun hq => ?_) <;> (try simp at hq) <;> simp -implicitDefEqProofs [*, itemMay]) | (with_reducible refine gOps_split (fun hq => ?_) (fun hq => ?_) <;> (try simp at hq) <;> simp -implicitDefEqProofs [*, itemMay]) | (with_reducible refine condC_dec (fun _ => ?_) (fun _ => ?_) <;> simp -implicitDefEqProofs [*, itemMay]) | (with_reducible refine condC_ndec (fun _ => ?_) (fun _ => ?_) <;> simp -implicitDefEqProofs [*, itemMay]) | (with_reducible refine condC_and (fun hq => ?_) (fun hq => ?_) <;> (try simp at hq) <;> simp -implicitDefEqProofs [*, itemMay]) | (with_reducible refine condC_or (fun hq => ?_) (fun hq => ?_) <;> (try simp at hq) <;> simp -implicitDefEqProofs [*, itemMay]) | (with_reducible refine condC_not (fun hq => ?_) (fun hq => ?_) <;> (try simp at hq) <;> simp -implicitDefEqProofs [*, itemMay]) | (with_reducible refine condC_split (fun hq => ?_) (fun hq => ?_) <;> (try simp at hq) <;> simp -implicitDefEqProofs [*, itemMay]) | (refine appK2_if (by omega) ?_; simp -implicitDefEqProofs [*, itemMay]) | (refine pureV_if (by omega) ?_; simp -implicitDefEqProofs [*, itemMay]))
theorem ref_ItemMay (i : Item) : Den PP 26 [.agg i.row] [] (.bool (itemMay i)) [] := by
  refine den_of [] [] is_gimmalref1_ItemMay ?_
  simp -implicitDefEqProofs [c_gimmalref1_ItemMay, Item.row]
  repeat' (first | (refine callThen_of (by first | exact ref_byteMay _ | exact ref_VersionMay _ _) ?_; simp -implicitDefEqProofs [*, itemMay]) | (with_reducible refine gOps_dec (fun _ => ?_) (fun _ => ?_) <;> simp -implicitDefEqProofs [*, itemMay]) | (with_reducible refine gOps_ndec (fun _ => ?_) (fun _ => ?_) <;> simp -implicitDefEqProofs [*, itemMay]) | (with_reducible refine gOps_and (fun hq => ?_) (fun hq => ?_) <;> (try simp at hq) <;> simp -implicitDefEqProofs [*, itemMay]) | (with_reducible refine gOps_or (fun hq => ?_) (fun hq => ?_) <;> (try simp at hq) <;> simp -implicitDefEqProofs [*, itemMay]) | (with_reducible refine gOps_not (fun hq => ?_) (fun hq => ?_) <;> (try simp at hq) <;> simp -implicitDefEqProofs [*, itemMay]) | (with_reducible refine gOps_split (fun hq => ?_) (fun hq => ?_) <;> (try simp at hq) <;> simp -implicitDefEqProofs [*, itemMay]) | (with_reducible refine condC_dec (fun _ => ?_) (fun _ => ?_) <;> simp -implicitDefEqProofs [*, itemMay]) | (with_reducible refine condC_ndec (fun _ => ?_) (fun _ => ?_) <;> simp -implicitDefEqProofs [*, itemMay]) | (with_reducible refine condC_and (fun hq => ?_) (fun hq => ?_) <;> (try simp at hq) <;> simp -implicitDefEqProofs [*, itemMay]) | (with_reducible refine condC_or (fun hq => ?_) (fun hq => ?_) <;> (try simp at hq) <;> simp -implicitDefEqProofs [*, itemMay]) | (with_reducible refine condC_not (fun hq => ?_) (fun hq => ?_) <;> (try simp at hq) <;> simp -implicitDefEqProofs [*, itemMay]) | (with_reducible refine condC_split (fun hq => ?_) (fun hq => ?_) <;> (try simp at hq) <;> simp -implicitDefEqProofs [*, itemMay]) | (refine appK2_if (by omega) ?_; simp -implicitDefEqProofs [*, itemMay]) | (refine pureV_if (by omega) ?_; simp -implicitDefEqProofs [*, itemMay]))
theorem ref_ItemMay_raw (k c w v : Int) (g : Bool) : Den PP 26 [.agg [.int .i64 k, .int .i64 c, .int .i64 w, .int .i64 v, .bool g]] [] (.bool (itemMay ⟨k, c, w, v, g⟩)) [] := ref_ItemMay ⟨k, c, w, v, g⟩
theorem item_May_raw (k c w v : Int) (g : Bool) : Den PP 41 [.agg [.int .i64 k, .int .i64 c, .int .i64 w, .int .i64 v, .bool g]] [] (.bool (itemMay ⟨k, c, w, v, g⟩)) [] := item_May ⟨k, c, w, v, g⟩
def prevKey (is : List Item) (i : Nat) : Option Int := if i = 0 then none else (is[i - 1]?).map Item.key
theorem store_May (is : List Item) (hl : is.length ≤ cap16) : Den PP 20 [itemsD is] [] (.bool (storeMay is)) [] := by
  obtain ⟨A, hA⟩ : ∃ A, itemsOk none is = A := ⟨_, rfl⟩
  unfold cap16 at hl
  refine den_of [] [] is_store_May ?_
  simp -implicitDefEqProofs [c_store_May, itemsD]
  refine list_rule is (fun i rest => fun ⟨fr, bs⟩ => bs = [] ∧ fr 0 = itemsD is ∧ fr 5 = itemsD is ∧ fr 6 = .int .i64 is.length ∧ fr 7 = .int .i64 i ∧ itemsOk (prevKey is i) rest = A)
    (fun ⟨fr, bs⟩ => bs = [] ∧ fr 0 = itemsD is ∧ A = true) (fun ⟨fr, bs⟩ => fr 2 = .bool false ∧ A = false) c_store_May_L0.eq_1 ?_ ?_ ?_ ?_ ?_
  · exact ⟨rfl, rfl, rfl, rfl, rfl, hA⟩
  · rintro i ⟨fr, bs⟩ hi ⟨rfl, h0, h5, h6, h7, he⟩
    simp -implicitDefEqProofs [h0, h5, h6, h7, hi]
    simpa [itemsOk] using he.symm
  · rintro i a rest ⟨fr, bs⟩ hlt hget hg hd hd2 ⟨rfl, h0, h5, h6, h7, he⟩
    have hlt' : (i : Int) < is.length := by omega
    have hw := wrap_next (n := i) (by omega)
    have c1 := item_May a
    simp [Item.row] at c1
    simp only [itemsOk] at he
    have hp : prevKey is (i + 1) = some a.key := by simp [prevKey, hget]
    cases i with
    | zero =>
      simp [prevKey] at he
      simp -implicitDefEqProofs [h0, h5, h6, h7, hlt, hlt', hget, hg, itemsD, Item.row]
      repeat' (first | (refine callThen_of (by first | exact c1) ?_; simp -implicitDefEqProofs [*, itemsD, Item.row, hw]) | (with_reducible refine gOps_dec (fun _ => ?_) (fun _ => ?_) <;> simp -implicitDefEqProofs [*, itemsD, Item.row, hw]) | (with_reducible refine gOps_ndec (fun _ => ?_) (fun _ => ?_) <;> simp -implicitDefEqProofs [*, itemsD, Item.row, hw]) | (with_reducible refine gOps_and (fun hq => ?_) (fun hq => ?_) <;> (try simp at hq) <;> simp -implicitDefEqProofs [*, itemsD, Item.row, hw]) | (with_reducible refine gOps_or (fun hq => ?_) (fun hq => ?_) <;> (try simp at hq) <;> simp -implicitDefEqProofs [*, itemsD, Item.row, hw]) | (with_reducible refine gOps_not (fun hq => ?_) (fun hq => ?_) <;> (try simp at hq) <;> simp -implicitDefEqProofs [*, itemsD, Item.row, hw]) | (with_reducible refine gOps_split (fun hq => ?_) (fun hq => ?_) <;> (try simp at hq) <;> simp -implicitDefEqProofs [*, itemsD, Item.row, hw]) | (with_reducible refine condC_dec (fun _ => ?_) (fun _ => ?_) <;> simp -implicitDefEqProofs [*, itemsD, Item.row, hw]) | (with_reducible refine condC_ndec (fun _ => ?_) (fun _ => ?_) <;> simp -implicitDefEqProofs [*, itemsD, Item.row, hw]) | (with_reducible refine condC_and (fun hq => ?_) (fun hq => ?_) <;> (try simp at hq) <;> simp -implicitDefEqProofs [*, itemsD, Item.row, hw]) | (with_reducible refine condC_or (fun hq => ?_) (fun hq => ?_) <;> (try simp at hq) <;> simp -implicitDefEqProofs [*, itemsD, Item.row, hw]) | (with_reducible refine condC_not (fun hq => ?_) (fun hq => ?_) <;> (try simp at hq) <;> simp -implicitDefEqProofs [*, itemsD, Item.row, hw]) | (with_reducible refine condC_split (fun hq => ?_) (fun hq => ?_) <;> (try simp at hq) <;> simp -implicitDefEqProofs [*, itemsD, Item.row, hw]) | (refine appK2_if (by omega) ?_; simp -implicitDefEqProofs [*, itemsD, Item.row, hw]) | (refine pureV_if (by omega) ?_; simp -implicitDefEqProofs [*, itemsD, Item.row, hw]))
      all_goals grind
    | succ j =>
      have hj : j < is.length := by omega
      have hj' : (j : Int) < is.length := by omega
      have hjw : IntKind.wrap .i64 (j : Int) = j := wrap_in (by omega) (by omega)
      obtain ⟨b, hb⟩ : ∃ b, is[j] = b := ⟨_, rfl⟩
      have hpj : prevKey is (j + 1) = some b.key := by simp [prevKey, hj, hb]
      rw [hpj] at he
      simp -implicitDefEqProofs [h0, h5, h6, h7, hlt, hlt', hget, hg, itemsD, Item.row]
      repeat' (first | (refine callThen_of (by first | exact c1) ?_; simp -implicitDefEqProofs [*, itemsD, Item.row, hw, hb]) | (with_reducible refine gOps_dec (fun _ => ?_) (fun _ => ?_) <;> simp -implicitDefEqProofs [*, itemsD, Item.row, hw, hb]) | (with_reducible refine gOps_ndec (fun _ => ?_) (fun _ => ?_) <;> simp -implicitDefEqProofs [*, itemsD, Item.row, hw, hb]) | (with_reducible refine gOps_and (fun hq => ?_) (fun hq => ?_) <;> (try simp at hq) <;> simp -implicitDefEqProofs [*, itemsD, Item.row, hw, hb]) | (with_reducible refine gOps_or (fun hq => ?_) (fun hq => ?_) <;> (try simp at hq) <;> simp -implicitDefEqProofs [*, itemsD, Item.row, hw, hb]) | (with_reducible refine gOps_not (fun hq => ?_) (fun hq => ?_) <;> (try simp at hq) <;> simp -implicitDefEqProofs [*, itemsD, Item.row, hw, hb]) | (with_reducible refine gOps_split (fun hq => ?_) (fun hq => ?_) <;> (try simp at hq) <;> simp -implicitDefEqProofs [*, itemsD, Item.row, hw, hb]) | (with_reducible refine condC_dec (fun _ => ?_) (fun _ => ?_) <;> simp -implicitDefEqProofs [*, itemsD, Item.row, hw, hb]) | (with_reducible refine condC_ndec (fun _ => ?_) (fun _ => ?_) <;> simp -implicitDefEqProofs [*, itemsD, Item.row, hw, hb]) | (with_reducible refine condC_and (fun hq => ?_) (fun hq => ?_) <;> (try simp at hq) <;> simp -implicitDefEqProofs [*, itemsD, Item.row, hw, hb]) | (with_reducible refine condC_or (fun hq => ?_) (fun hq => ?_) <;> (try simp at hq) <;> simp -implicitDefEqProofs [*, itemsD, Item.row, hw, hb]) | (with_reducible refine condC_not (fun hq => ?_) (fun hq => ?_) <;> (try simp at hq) <;> simp -implicitDefEqProofs [*, itemsD, Item.row, hw, hb]) | (with_reducible refine condC_split (fun hq => ?_) (fun hq => ?_) <;> (try simp at hq) <;> simp -implicitDefEqProofs [*, itemsD, Item.row, hw, hb]) | (refine appK2_if (by omega) ?_; simp -implicitDefEqProofs [*, itemsD, Item.row, hw, hb]) | (refine pureV_if (by omega) ?_; simp -implicitDefEqProofs [*, itemsD, Item.row, hw, hb]))
      all_goals grind
  · rintro ⟨fr, bs⟩ ⟨rfl, h0, h1⟩
    simp -implicitDefEqProofs [h0, itemsD, storeMay, hA, h1]
    omega
  · rintro ⟨fr, bs⟩ h
    simp -implicitDefEqProofs [h.1, h.2, storeMay, hA]
theorem ref_StoreMay (is : List Item) (hl : is.length ≤ cap16) : Den PP 21 [itemsD is] [] (.bool (storeMay is)) [] := by
  obtain ⟨A, hA⟩ : ∃ A, itemsOk none is = A := ⟨_, rfl⟩
  unfold cap16 at hl
  refine den_of [] [] is_gimmalref1_StoreMay ?_
  simp -implicitDefEqProofs [c_gimmalref1_StoreMay, itemsD]
  refine list_rule is (fun i rest => fun ⟨fr, bs⟩ => bs = [] ∧ fr 0 = itemsD is ∧ fr 3 = .int .i64 i ∧ itemsOk (prevKey is i) rest = A)
    (fun ⟨fr, bs⟩ => bs = [] ∧ fr 0 = itemsD is ∧ A = true) (fun ⟨fr, bs⟩ => fr 2 = .bool false ∧ A = false) c_gimmalref1_StoreMay_L0.eq_1 ?_ ?_ ?_ ?_ ?_
  · exact ⟨rfl, rfl, rfl, hA⟩
  · rintro i ⟨fr, bs⟩ hi ⟨rfl, h0, h3, he⟩
    simp -implicitDefEqProofs [h0, h3, hi, itemsD]
    simpa [itemsOk] using he.symm
  · rintro i a rest ⟨fr, bs⟩ hlt hget hg hd hd2 ⟨rfl, h0, h3, he⟩
    have hlt' : (i : Int) < is.length := by omega
    have hw := wrap_next (n := i) (by omega)
    have c1 := ref_ItemMay a
    simp [Item.row] at c1
    simp only [itemsOk] at he
    have hp : prevKey is (i + 1) = some a.key := by simp [prevKey, hget]
    cases i with
    | zero =>
      simp [prevKey] at he
      simp -implicitDefEqProofs [h0, h3, hlt, hlt', hget, hg, itemsD, Item.row]
      repeat' (first | (refine callThen_of (by first | exact c1) ?_; simp -implicitDefEqProofs [*, itemsD, Item.row, hw]) | (with_reducible refine gOps_dec (fun _ => ?_) (fun _ => ?_) <;> simp -implicitDefEqProofs [*, itemsD, Item.row, hw]) | (with_reducible refine gOps_ndec (fun _ => ?_) (fun _ => ?_) <;> simp -implicitDefEqProofs [*, itemsD, Item.row, hw]) | (with_reducible refine gOps_and (fun hq => ?_) (fun hq => ?_) <;> (try simp at hq) <;> simp -implicitDefEqProofs [*, itemsD, Item.row, hw]) | (with_reducible refine gOps_or (fun hq => ?_) (fun hq => ?_) <;> (try simp at hq) <;> simp -implicitDefEqProofs [*, itemsD, Item.row, hw]) | (with_reducible refine gOps_not (fun hq => ?_) (fun hq => ?_) <;> (try simp at hq) <;> simp -implicitDefEqProofs [*, itemsD, Item.row, hw]) | (with_reducible refine gOps_split (fun hq => ?_) (fun hq => ?_) <;> (try simp at hq) <;> simp -implicitDefEqProofs [*, itemsD, Item.row, hw]) | (with_reducible refine condC_dec (fun _ => ?_) (fun _ => ?_) <;> simp -implicitDefEqProofs [*, itemsD, Item.row, hw]) | (with_reducible refine condC_ndec (fun _ => ?_) (fun _ => ?_) <;> simp -implicitDefEqProofs [*, itemsD, Item.row, hw]) | (with_reducible refine condC_and (fun hq => ?_) (fun hq => ?_) <;> (try simp at hq) <;> simp -implicitDefEqProofs [*, itemsD, Item.row, hw]) | (with_reducible refine condC_or (fun hq => ?_) (fun hq => ?_) <;> (try simp at hq) <;> simp -implicitDefEqProofs [*, itemsD, Item.row, hw]) | (with_reducible refine condC_not (fun hq => ?_) (fun hq => ?_) <;> (try simp at hq) <;> simp -implicitDefEqProofs [*, itemsD, Item.row, hw]) | (with_reducible refine condC_split (fun hq => ?_) (fun hq => ?_) <;> (try simp at hq) <;> simp -implicitDefEqProofs [*, itemsD, Item.row, hw]) | (refine appK2_if (by omega) ?_; simp -implicitDefEqProofs [*, itemsD, Item.row, hw]) | (refine pureV_if (by omega) ?_; simp -implicitDefEqProofs [*, itemsD, Item.row, hw]))
      all_goals grind
    | succ j =>
      have hj : j < is.length := by omega
      have hj' : (j : Int) < is.length := by omega
      have hjw : IntKind.wrap .i64 (j : Int) = j := wrap_in (by omega) (by omega)
      obtain ⟨b, hb⟩ : ∃ b, is[j] = b := ⟨_, rfl⟩
      have hpj : prevKey is (j + 1) = some b.key := by simp [prevKey, hj, hb]
      rw [hpj] at he
      simp -implicitDefEqProofs [h0, h3, hlt, hlt', hget, hg, itemsD, Item.row]
      repeat' (first | (refine callThen_of (by first | exact c1) ?_; simp -implicitDefEqProofs [*, itemsD, Item.row, hw, hb]) | (with_reducible refine gOps_dec (fun _ => ?_) (fun _ => ?_) <;> simp -implicitDefEqProofs [*, itemsD, Item.row, hw, hb]) | (with_reducible refine gOps_ndec (fun _ => ?_) (fun _ => ?_) <;> simp -implicitDefEqProofs [*, itemsD, Item.row, hw, hb]) | (with_reducible refine gOps_and (fun hq => ?_) (fun hq => ?_) <;> (try simp at hq) <;> simp -implicitDefEqProofs [*, itemsD, Item.row, hw, hb]) | (with_reducible refine gOps_or (fun hq => ?_) (fun hq => ?_) <;> (try simp at hq) <;> simp -implicitDefEqProofs [*, itemsD, Item.row, hw, hb]) | (with_reducible refine gOps_not (fun hq => ?_) (fun hq => ?_) <;> (try simp at hq) <;> simp -implicitDefEqProofs [*, itemsD, Item.row, hw, hb]) | (with_reducible refine gOps_split (fun hq => ?_) (fun hq => ?_) <;> (try simp at hq) <;> simp -implicitDefEqProofs [*, itemsD, Item.row, hw, hb]) | (with_reducible refine condC_dec (fun _ => ?_) (fun _ => ?_) <;> simp -implicitDefEqProofs [*, itemsD, Item.row, hw, hb]) | (with_reducible refine condC_ndec (fun _ => ?_) (fun _ => ?_) <;> simp -implicitDefEqProofs [*, itemsD, Item.row, hw, hb]) | (with_reducible refine condC_and (fun hq => ?_) (fun hq => ?_) <;> (try simp at hq) <;> simp -implicitDefEqProofs [*, itemsD, Item.row, hw, hb]) | (with_reducible refine condC_or (fun hq => ?_) (fun hq => ?_) <;> (try simp at hq) <;> simp -implicitDefEqProofs [*, itemsD, Item.row, hw, hb]) | (with_reducible refine condC_not (fun hq => ?_) (fun hq => ?_) <;> (try simp at hq) <;> simp -implicitDefEqProofs [*, itemsD, Item.row, hw, hb]) | (with_reducible refine condC_split (fun hq => ?_) (fun hq => ?_) <;> (try simp at hq) <;> simp -implicitDefEqProofs [*, itemsD, Item.row, hw, hb]) | (refine appK2_if (by omega) ?_; simp -implicitDefEqProofs [*, itemsD, Item.row, hw, hb]) | (refine pureV_if (by omega) ?_; simp -implicitDefEqProofs [*, itemsD, Item.row, hw, hb]))
      all_goals grind
  · rintro ⟨fr, bs⟩ ⟨rfl, h0, h1⟩
    simp -implicitDefEqProofs [h0, itemsD, storeMay, hA, h1]
    omega
  · rintro ⟨fr, bs⟩ h
    simp -implicitDefEqProofs [h.1, h.2, storeMay, hA]
end Go.AM
/- AM: contracts: nodes, sharing. -/
namespace Go.AM
set_option linter.unusedSimpArgs false
set_option linter.unusedVariables false
set_option maxRecDepth 8000
set_option maxHeartbeats 0
end Go.AM
/- AM: contracts: what the statements' own helpers do with items, messages, nodes. -/
namespace Go.AM
set_option linter.unusedSimpArgs false
set_option linter.unusedVariables false
set_option maxRecDepth 8000
set_option maxHeartbeats 0
theorem law_SameItems (xs ys : List Item) (hl : xs.length ≤ cap) : Den PP 18 [itemsD xs, itemsD ys] [] (.bool (decide (xs = ys))) [] := by
  refine den_of [] [] is_gimmallaw0_SameItems ?_
  simp -implicitDefEqProofs [c_gimmallaw0_SameItems, itemsD]
  refine condC_split (fun h => ?_) (fun h => ?_)
  · simp -implicitDefEqProofs
    grind
  have hlen : xs.length = ys.length := by simp at h; omega
  simp -implicitDefEqProofs
  refine list_rule xs (fun i rest => fun ⟨fr, bs⟩ => bs = [] ∧ fr 0 = .sl (xs.map Item.row) xs.length ∧ fr 1 = .sl (ys.map Item.row) ys.length ∧ fr 5 = .int .i64 i ∧ (rest = ys.drop i ↔ xs = ys))
    (fun ⟨fr, bs⟩ => bs = [] ∧ xs = ys) (fun ⟨fr, bs⟩ => fr 4 = .bool false ∧ ¬ xs = ys) c_gimmallaw0_SameItems_L0.eq_1 ?_ ?_ ?_ ?_ ?_
  · exact ⟨rfl, rfl, rfl, rfl, by simp⟩
  · rintro i ⟨fr, bs⟩ hi ⟨rfl, h0, h1, h5, he⟩
    simp -implicitDefEqProofs [*]
    grind
  · rintro i a rest ⟨fr, bs⟩ hlt hget hg hd hd2 ⟨rfl, h0, h1, h5, he⟩
    have hlt' : (i : Int) < xs.length := by omega
    have hlt2 : i < ys.length := by omega
    have hlt3 : (i : Int) < ys.length := by omega
    have hw := wrap_next (n := i) (by unfold cap at hl; omega)
    rw [List.drop_eq_getElem_cons hlt2] at he
    generalize hy : ys[i] = b at he
    simp -implicitDefEqProofs [h0, h1, h5, hlt, hlt', hlt2, hlt3, hget, hg, hy, Item.row, EQS]
    repeat' (first | (with_reducible refine gOps_dec (fun _ => ?_) (fun _ => ?_) <;> simp -implicitDefEqProofs [*, EQS, hw, Item.row]) | (with_reducible refine gOps_ndec (fun _ => ?_) (fun _ => ?_) <;> simp -implicitDefEqProofs [*, EQS, hw, Item.row]) | (with_reducible refine gOps_and (fun hq => ?_) (fun hq => ?_) <;> (try simp at hq) <;> simp -implicitDefEqProofs [*, EQS, hw, Item.row]) | (with_reducible refine gOps_or (fun hq => ?_) (fun hq => ?_) <;> (try simp at hq) <;> simp -implicitDefEqProofs [*, EQS, hw, Item.row]) | (with_reducible refine gOps_not (fun hq => ?_) (fun hq => ?_) <;> (try simp at hq) <;> simp -implicitDefEqProofs [*, EQS, hw, Item.row]) | (with_reducible refine gOps_split (fun hq => ?_) (fun hq => ?_) <;> (try simp at hq) <;> simp -implicitDefEqProofs [*, EQS, hw, Item.row]) | (with_reducible refine condC_dec (fun _ => ?_) (fun _ => ?_) <;> simp -implicitDefEqProofs [*, EQS, hw, Item.row]) | (with_reducible refine condC_ndec (fun _ => ?_) (fun _ => ?_) <;> simp -implicitDefEqProofs [*, EQS, hw, Item.row]) | (with_reducible refine condC_and (fun hq => ?_) (fun hq => ?_) <;> (try simp at hq) <;> simp -implicitDefEqProofs [*, EQS, hw, Item.row]) | (with_reducible refine condC_or (fun hq => ?_) (fun hq => ?_) <;> (try simp at hq) <;> simp -implicitDefEqProofs [*, EQS, hw, Item.row]) | (with_reducible refine condC_not (fun hq => ?_) (fun hq => ?_) <;> (try simp at hq) <;> simp -implicitDefEqProofs [*, EQS, hw, Item.row]) | (with_reducible refine condC_split (fun hq => ?_) (fun hq => ?_) <;> (try simp at hq) <;> simp -implicitDefEqProofs [*, EQS, hw, Item.row]) | (refine appK2_if (by omega) ?_; simp -implicitDefEqProofs [*, EQS, hw, Item.row]) | (refine pureV_if (by omega) ?_; simp -implicitDefEqProofs [*, EQS, hw, Item.row]))
    all_goals (obtain ⟨_, _, _, _, _⟩ := a; obtain ⟨_, _, _, _, _⟩ := b; grind)
  · rintro ⟨fr, bs⟩ ⟨rfl, h6⟩
    simp -implicitDefEqProofs [*]
  · rintro ⟨fr, bs⟩ h
    simp -implicitDefEqProofs [h.1, h.2]
theorem law_SameCuts (xs ys : List Cut) (hl : xs.length ≤ cap) : Den PP 34 [cutsD xs, cutsD ys] [] (.bool (decide (xs = ys))) [] := by
  refine den_of [] [] is_gimmallaw0_SameCuts ?_
  simp -implicitDefEqProofs [c_gimmallaw0_SameCuts, cutsD]
  refine condC_split (fun h => ?_) (fun h => ?_)
  · simp -implicitDefEqProofs
    grind
  have hlen : xs.length = ys.length := by simp at h; omega
  simp -implicitDefEqProofs
  refine list_rule xs (fun i rest => fun ⟨fr, bs⟩ => bs = [] ∧ fr 0 = .sl (xs.map Cut.row) xs.length ∧ fr 1 = .sl (ys.map Cut.row) ys.length ∧ fr 5 = .int .i64 i ∧ (rest = ys.drop i ↔ xs = ys))
    (fun ⟨fr, bs⟩ => bs = [] ∧ xs = ys) (fun ⟨fr, bs⟩ => fr 4 = .bool false ∧ ¬ xs = ys) c_gimmallaw0_SameCuts_L0.eq_1 ?_ ?_ ?_ ?_ ?_
  · exact ⟨rfl, rfl, rfl, rfl, by simp⟩
  · rintro i ⟨fr, bs⟩ hi ⟨rfl, h0, h1, h5, he⟩
    simp -implicitDefEqProofs [*]
    grind
  · rintro i a rest ⟨fr, bs⟩ hlt hget hg hd hd2 ⟨rfl, h0, h1, h5, he⟩
    have hlt' : (i : Int) < xs.length := by omega
    have hlt2 : i < ys.length := by omega
    have hlt3 : (i : Int) < ys.length := by omega
    have hw := wrap_next (n := i) (by unfold cap at hl; omega)
    rw [List.drop_eq_getElem_cons hlt2] at he
    generalize hy : ys[i] = b at he
    simp -implicitDefEqProofs [h0, h1, h5, hlt, hlt', hlt2, hlt3, hget, hg, hy, Cut.row, EQS]
    repeat' (first | (with_reducible refine gOps_dec (fun _ => ?_) (fun _ => ?_) <;> simp -implicitDefEqProofs [*, EQS, hw, Cut.row]) | (with_reducible refine gOps_ndec (fun _ => ?_) (fun _ => ?_) <;> simp -implicitDefEqProofs [*, EQS, hw, Cut.row]) | (with_reducible refine gOps_and (fun hq => ?_) (fun hq => ?_) <;> (try simp at hq) <;> simp -implicitDefEqProofs [*, EQS, hw, Cut.row]) | (with_reducible refine gOps_or (fun hq => ?_) (fun hq => ?_) <;> (try simp at hq) <;> simp -implicitDefEqProofs [*, EQS, hw, Cut.row]) | (with_reducible refine gOps_not (fun hq => ?_) (fun hq => ?_) <;> (try simp at hq) <;> simp -implicitDefEqProofs [*, EQS, hw, Cut.row]) | (with_reducible refine gOps_split (fun hq => ?_) (fun hq => ?_) <;> (try simp at hq) <;> simp -implicitDefEqProofs [*, EQS, hw, Cut.row]) | (with_reducible refine condC_dec (fun _ => ?_) (fun _ => ?_) <;> simp -implicitDefEqProofs [*, EQS, hw, Cut.row]) | (with_reducible refine condC_ndec (fun _ => ?_) (fun _ => ?_) <;> simp -implicitDefEqProofs [*, EQS, hw, Cut.row]) | (with_reducible refine condC_and (fun hq => ?_) (fun hq => ?_) <;> (try simp at hq) <;> simp -implicitDefEqProofs [*, EQS, hw, Cut.row]) | (with_reducible refine condC_or (fun hq => ?_) (fun hq => ?_) <;> (try simp at hq) <;> simp -implicitDefEqProofs [*, EQS, hw, Cut.row]) | (with_reducible refine condC_not (fun hq => ?_) (fun hq => ?_) <;> (try simp at hq) <;> simp -implicitDefEqProofs [*, EQS, hw, Cut.row]) | (with_reducible refine condC_split (fun hq => ?_) (fun hq => ?_) <;> (try simp at hq) <;> simp -implicitDefEqProofs [*, EQS, hw, Cut.row]) | (refine appK2_if (by omega) ?_; simp -implicitDefEqProofs [*, EQS, hw, Cut.row]) | (refine pureV_if (by omega) ?_; simp -implicitDefEqProofs [*, EQS, hw, Cut.row]))
    all_goals (obtain ⟨_, _⟩ := a; obtain ⟨_, _⟩ := b; grind)
  · rintro ⟨fr, bs⟩ ⟨rfl, h6⟩
    simp -implicitDefEqProofs [*]
  · rintro ⟨fr, bs⟩ h
    simp -implicitDefEqProofs [h.1, h.2]
end Go.AM
