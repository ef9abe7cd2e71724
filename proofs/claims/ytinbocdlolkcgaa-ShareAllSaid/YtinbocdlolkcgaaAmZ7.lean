/- What the proof of this claim stands on, part 7. -/
import Derived.Test.YtinbocdlolkcgaaAmZ6
/- AM: this seat's functions in short. -/
namespace Go.AM
set_option linter.unusedSimpArgs false
set_option linter.unusedVariables false
def c_gimmalref16_copyNode : SF := ⟨28, [(ResultVar.cell 2 56)],
  (.seq (.ops [⟨some 1, (Op.box 56 (Operand.tmp 0)), 0, none⟩,
    ⟨some 2, (Op.alloc 56), 0, none⟩]) (.seq (.ops [⟨some 3, (Op.buildSlice 22 0 #[]), 22, none⟩,
    ⟨some 4, (Op.fieldAddr 56 (Operand.tmp 1) 1), 0, none⟩,
    ⟨some 5, (Op.fieldAddr 25 (Operand.tmp 4) 1), 0, none⟩,
    ⟨some 6, (Op.load 22 (Operand.tmp 5)), 22, none⟩,
    ⟨some 7, (Op.call ⟨(Callee.builtin Builtin.append), #[(Operand.tmp 3), (Operand.tmp 6)], #[22, 22]⟩), 22, none⟩,
    ⟨some 8, (Op.fieldAddr 56 (Operand.tmp 1) 1), 0, none⟩,
    ⟨some 9, (Op.fieldAddr 25 (Operand.tmp 8) 1), 0, none⟩,
    ⟨none, (Op.store 22 (Operand.tmp 9) (Operand.tmp 7)), 0, none⟩]) (.seq (.ops [⟨some 10, (Op.buildSlice 23 0 #[]), 23, none⟩,
    ⟨some 11, (Op.fieldAddr 56 (Operand.tmp 1) 1), 0, none⟩,
    ⟨some 12, (Op.fieldAddr 25 (Operand.tmp 11) 2), 0, none⟩,
    ⟨some 13, (Op.load 23 (Operand.tmp 12)), 23, none⟩,
    ⟨some 14, (Op.call ⟨(Callee.builtin Builtin.append), #[(Operand.tmp 10), (Operand.tmp 13)], #[23, 23]⟩), 23, none⟩,
    ⟨some 15, (Op.fieldAddr 56 (Operand.tmp 1) 1), 0, none⟩,
    ⟨some 16, (Op.fieldAddr 25 (Operand.tmp 15) 2), 0, none⟩,
    ⟨none, (Op.store 23 (Operand.tmp 16) (Operand.tmp 14)), 0, none⟩]) (.seq (.ops [⟨some 17, (Op.buildSlice 53 0 #[]), 53, none⟩,
    ⟨some 18, (Op.fieldAddr 56 (Operand.tmp 1) 2), 0, none⟩,
    ⟨some 19, (Op.load 53 (Operand.tmp 18)), 53, none⟩,
    ⟨some 20, (Op.call ⟨(Callee.builtin Builtin.append), #[(Operand.tmp 17), (Operand.tmp 19)], #[53, 53]⟩), 53, none⟩,
    ⟨some 21, (Op.fieldAddr 56 (Operand.tmp 1) 2), 0, none⟩,
    ⟨none, (Op.store 53 (Operand.tmp 21) (Operand.tmp 20)), 0, none⟩]) (.seq (.ops [⟨some 22, (Op.buildSlice 54 0 #[]), 54, none⟩,
    ⟨some 23, (Op.fieldAddr 56 (Operand.tmp 1) 3), 0, none⟩,
    ⟨some 24, (Op.load 54 (Operand.tmp 23)), 54, none⟩,
    ⟨some 25, (Op.call ⟨(Callee.builtin Builtin.append), #[(Operand.tmp 22), (Operand.tmp 24)], #[54, 54]⟩), 54, none⟩,
    ⟨some 26, (Op.fieldAddr 56 (Operand.tmp 1) 3), 0, none⟩,
    ⟨none, (Op.store 54 (Operand.tmp 26) (Operand.tmp 25)), 0, none⟩]) (.seq (.ops [⟨some 27, (Op.load 56 (Operand.tmp 1)), 56, none⟩,
    ⟨none, (Op.store 56 (Operand.tmp 2) (Operand.tmp 27)), 0, none⟩]) .ret))))))⟩
theorem is_gimmalref16_copyNode (c : Cfg) (h : c.lendT = []) : isF PP c 73 c_gimmalref16_copyNode := isF_of (fn := Proofs.Try.f73) (by kernel_rfl) (by kernel_rfl) rfl h (by kernel_rfl) rfl rfl (by kernel_rfl)
def c_gimmalref1_PutStore_L0 : SC := (.seq (.seq (.ops [⟨some 19, (Op.move (Operand.tmp 8)), 3, none⟩,
    ⟨some 20, (Op.move (Operand.tmp 0)), 53, none⟩,
    ⟨some 21, (Op.call ⟨(Callee.builtin Builtin.len), #[(Operand.tmp 20)], #[53]⟩), 3, none⟩,
    ⟨some 22, (Op.binOp BinOp.lss 3 (Operand.tmp 19) (Operand.tmp 21) 3), 4, none⟩]) (.cond (Operand.tmp 22) .skip (.exit 0))) (.seq (.block 1 (.seq (.seq (.ops [⟨some 25, (Op.move (Operand.tmp 7)), 4, none⟩,
    ⟨some 26, (Op.unOp UnOp.not 4 (Operand.tmp 25)), 4, none⟩,
    ⟨some 27, (Op.move (Operand.tmp 26)), 4, none⟩,
    ⟨some 28, (Op.move (Operand.tmp 0)), 53, some (27, true)⟩,
    ⟨some 29, (Op.move (Operand.tmp 8)), 3, some (27, true)⟩,
    ⟨some 30, (Op.indexAddr 53 (Operand.tmp 28) (Operand.tmp 29)), 0, some (27, true)⟩,
    ⟨some 31, (Op.fieldAddr 70 (Operand.tmp 30) 0), 0, some (27, true)⟩,
    ⟨some 32, (Op.load 3 (Operand.tmp 31)), 3, some (27, true)⟩,
    ⟨some 33, (Op.fieldAddr 70 (Operand.tmp 3) 0), 0, some (27, true)⟩,
    ⟨some 34, (Op.load 3 (Operand.tmp 33)), 3, some (27, true)⟩,
    ⟨some 35, (Op.binOp BinOp.gtr 3 (Operand.tmp 32) (Operand.tmp 34) 3), 4, some (27, true)⟩,
    ⟨some 36, (Op.pick (Operand.tmp 27) (Operand.tmp 35) (Operand.const (Value.bool false))), 4, none⟩]) (.cond (Operand.tmp 36) (.seq (.ops [⟨some 37, (Op.move (Operand.tmp 6)), 53, none⟩,
    ⟨some 38, (Op.load 70 (Operand.tmp 3)), 70, none⟩,
    ⟨some 39, (Op.buildSlice 53 1 #[(0, (Operand.tmp 38))]), 53, none⟩,
    ⟨some 40, (Op.call ⟨(Callee.builtin Builtin.append), #[(Operand.tmp 37), (Operand.tmp 39)], #[53, 53]⟩), 53, none⟩,
    ⟨some 6, (Op.assign (Operand.tmp 40)), 53, none⟩]) (.ops [⟨some 7, (Op.assign (Operand.const (Value.bool true))), 4, none⟩])) .skip)) (.seq (.ops [⟨some 41, (Op.move (Operand.tmp 0)), 53, none⟩,
    ⟨some 42, (Op.move (Operand.tmp 8)), 3, none⟩,
    ⟨some 43, (Op.indexAddr 53 (Operand.tmp 41) (Operand.tmp 42)), 0, none⟩,
    ⟨some 44, (Op.fieldAddr 70 (Operand.tmp 43) 0), 0, none⟩,
    ⟨some 45, (Op.load 3 (Operand.tmp 44)), 3, none⟩,
    ⟨some 46, (Op.fieldAddr 70 (Operand.tmp 3) 0), 0, none⟩,
    ⟨some 47, (Op.load 3 (Operand.tmp 46)), 3, none⟩,
    ⟨some 48, (Op.binOp BinOp.eql 3 (Operand.tmp 45) (Operand.tmp 47) 3), 4, none⟩]) (.cond (Operand.tmp 48) (.seq (.ops [⟨some 50, (Op.move (Operand.tmp 0)), 53, none⟩,
    ⟨some 51, (Op.move (Operand.tmp 8)), 3, none⟩,
    ⟨some 52, (Op.indexAddr 53 (Operand.tmp 50) (Operand.tmp 51)), 0, none⟩,
    ⟨some 53, (Op.load 70 (Operand.tmp 52)), 70, none⟩,
    ⟨some 54, (Op.load 70 (Operand.tmp 3)), 70, none⟩,
    ⟨some 55, (Op.call ⟨(Callee.value (Operand.func 84)), #[(Operand.tmp 53), (Operand.tmp 54)], #[70, 70]⟩), 110, none⟩,
    ⟨some 49, (Op.move (Operand.tmp 55)), 110, none⟩,
    ⟨some 56, (Op.extract (Operand.tmp 49) 0), 70, none⟩,
    ⟨some 57, (Op.extract (Operand.tmp 49) 1), 3, none⟩,
    ⟨some 9, (Op.alloc 70), 0, none⟩,
    ⟨none, (Op.store 70 (Operand.tmp 9) (Operand.tmp 56)), 0, none⟩,
    ⟨some 10, (Op.assign (Operand.tmp 57)), 3, none⟩]) (.seq (.ops [⟨some 58, (Op.move (Operand.tmp 6)), 53, none⟩,
    ⟨some 59, (Op.load 70 (Operand.tmp 9)), 70, none⟩,
    ⟨some 60, (Op.buildSlice 53 1 #[(0, (Operand.tmp 59))]), 53, none⟩,
    ⟨some 61, (Op.call ⟨(Callee.builtin Builtin.append), #[(Operand.tmp 58), (Operand.tmp 60)], #[53, 53]⟩), 53, none⟩,
    ⟨some 6, (Op.assign (Operand.tmp 61)), 53, none⟩]) (.ops [⟨some 7, (Op.assign (Operand.const (Value.bool true))), 4, none⟩]))) (.ops [⟨some 62, (Op.move (Operand.tmp 6)), 53, none⟩,
    ⟨some 63, (Op.move (Operand.tmp 0)), 53, none⟩,
    ⟨some 64, (Op.move (Operand.tmp 8)), 3, none⟩,
    ⟨some 65, (Op.indexAddr 53 (Operand.tmp 63) (Operand.tmp 64)), 0, none⟩,
    ⟨some 66, (Op.load 70 (Operand.tmp 65)), 70, none⟩,
    ⟨some 67, (Op.buildSlice 53 1 #[(0, (Operand.tmp 66))]), 53, none⟩,
    ⟨some 68, (Op.call ⟨(Callee.builtin Builtin.append), #[(Operand.tmp 62), (Operand.tmp 67)], #[53, 53]⟩), 53, none⟩,
    ⟨some 6, (Op.assign (Operand.tmp 68)), 53, none⟩]))))) (.ops [⟨some 23, (Op.move (Operand.tmp 8)), 3, none⟩,
    ⟨some 24, (Op.binOp BinOp.add 3 (Operand.tmp 23) (Operand.const (Value.int IntKind.i64 1)) 3), 3, none⟩,
    ⟨some 8, (Op.assign (Operand.tmp 24)), 3, none⟩])))
def c_gimmalref1_PutStore : SF := ⟨79, [(ResultVar.tmp 4), (ResultVar.tmp 5)],
  (.seq (.ops [⟨some 3, (Op.box 70 (Operand.tmp 1)), 0, none⟩,
    ⟨some 4, (Op.assign (Operand.const (Value.slice none 0 0))), 53, none⟩,
    ⟨some 5, (Op.assign (Operand.const (Value.int IntKind.i64 0))), 3, none⟩]) (.seq (.seq (.ops [⟨some 11, (Op.move (Operand.tmp 0)), 53, none⟩,
    ⟨some 12, (Op.call ⟨(Callee.value (Operand.func 72)), #[(Operand.tmp 11)], #[53]⟩), 4, none⟩,
    ⟨some 13, (Op.unOp UnOp.not 4 (Operand.tmp 12)), 4, none⟩,
    ⟨some 14, (Op.move (Operand.tmp 13)), 4, none⟩,
    ⟨some 15, (Op.load 70 (Operand.tmp 3)), 70, some (14, false)⟩,
    ⟨some 16, (Op.call ⟨(Callee.value (Operand.func 70)), #[(Operand.tmp 15)], #[70]⟩), 4, some (14, false)⟩,
    ⟨some 17, (Op.unOp UnOp.not 4 (Operand.tmp 16)), 4, some (14, false)⟩,
    ⟨some 18, (Op.pick (Operand.tmp 14) (Operand.const (Value.bool true)) (Operand.tmp 17)), 4, none⟩]) (.cond (Operand.tmp 18) (.seq (.ops [⟨some 4, (Op.assign (Operand.const (Value.slice none 0 0))), 53, none⟩,
    ⟨some 5, (Op.assign (Operand.const (Value.int IntKind.i64 500))), 3, none⟩]) .ret) .skip)) (.seq (.ops [⟨some 6, (Op.assign (Operand.const (Value.slice none 0 0))), 53, none⟩]) (.seq (.ops [⟨some 7, (Op.assign (Operand.const (Value.bool false))), 4, none⟩]) (.seq (.seq (.ops [⟨some 8, (Op.assign (Operand.const (Value.int IntKind.i64 0))), 3, none⟩]) (.block 0 (.loop c_gimmalref1_PutStore_L0))) (.seq (.seq (.ops [⟨some 69, (Op.move (Operand.tmp 7)), 4, none⟩,
    ⟨some 70, (Op.unOp UnOp.not 4 (Operand.tmp 69)), 4, none⟩]) (.cond (Operand.tmp 70) (.ops [⟨some 71, (Op.move (Operand.tmp 6)), 53, none⟩,
    ⟨some 72, (Op.load 70 (Operand.tmp 3)), 70, none⟩,
    ⟨some 73, (Op.buildSlice 53 1 #[(0, (Operand.tmp 72))]), 53, none⟩,
    ⟨some 74, (Op.call ⟨(Callee.builtin Builtin.append), #[(Operand.tmp 71), (Operand.tmp 73)], #[53, 53]⟩), 53, none⟩,
    ⟨some 6, (Op.assign (Operand.tmp 74)), 53, none⟩]) .skip)) (.seq (.seq (.ops [⟨some 75, (Op.move (Operand.tmp 6)), 53, none⟩,
    ⟨some 76, (Op.call ⟨(Callee.builtin Builtin.len), #[(Operand.tmp 75)], #[53]⟩), 3, none⟩,
    ⟨some 77, (Op.binOp BinOp.gtr 3 (Operand.tmp 76) (Operand.const (Value.int IntKind.i64 16)) 3), 4, none⟩]) (.cond (Operand.tmp 77) (.seq (.ops [⟨some 4, (Op.assign (Operand.const (Value.slice none 0 0))), 53, none⟩,
    ⟨some 5, (Op.assign (Operand.const (Value.int IntKind.i64 501))), 3, none⟩]) .ret) .skip)) (.seq (.ops [⟨some 78, (Op.move (Operand.tmp 6)), 53, none⟩,
    ⟨some 4, (Op.assign (Operand.tmp 78)), 53, none⟩,
    ⟨some 5, (Op.assign (Operand.const (Value.int IntKind.i64 0))), 3, none⟩]) .ret))))))))⟩
theorem is_gimmalref1_PutStore (c : Cfg) (h : c.lendT = []) : isF PP c 74 c_gimmalref1_PutStore := isF_of (fn := Proofs.Try.f74) (by kernel_rfl) (by kernel_rfl) rfl h (by kernel_rfl) rfl rfl (by kernel_rfl)
def c_row_may : SF := ⟨16, [(ResultVar.tmp 4)],
  (.seq (.ops [⟨some 4, (Op.assign (Operand.const (Value.bool false))), 4, none⟩]) (.seq (.ops [⟨some 5, (Op.move (Operand.tmp 0)), 3, none⟩,
    ⟨some 6, (Op.call ⟨(Callee.value (Operand.func 48)), #[(Operand.tmp 5)], #[3]⟩), 4, none⟩,
    ⟨some 7, (Op.move (Operand.tmp 6)), 4, none⟩,
    ⟨some 8, (Op.move (Operand.tmp 1)), 23, some (7, true)⟩,
    ⟨some 9, (Op.call ⟨(Callee.builtin Builtin.len), #[(Operand.tmp 8)], #[23]⟩), 3, some (7, true)⟩,
    ⟨some 10, (Op.binOp BinOp.leq 3 (Operand.tmp 9) (Operand.const (Value.int IntKind.i64 64)) 3), 4, some (7, true)⟩,
    ⟨some 11, (Op.pick (Operand.tmp 7) (Operand.tmp 10) (Operand.const (Value.bool false))), 4, none⟩,
    ⟨some 12, (Op.move (Operand.tmp 11)), 4, none⟩,
    ⟨some 13, (Op.move (Operand.tmp 1)), 23, some (12, true)⟩,
    ⟨some 14, (Op.call ⟨(Callee.value (Operand.func 85)), #[(Operand.tmp 13)], #[23]⟩), 4, some (12, true)⟩,
    ⟨some 15, (Op.pick (Operand.tmp 12) (Operand.tmp 14) (Operand.const (Value.bool false))), 4, none⟩,
    ⟨some 4, (Op.assign (Operand.tmp 15)), 4, none⟩]) .ret))⟩
theorem is_row_may (c : Cfg) (h : c.lendT = []) : isF PP c 75 c_row_may := isF_of (fn := Proofs.Try.f75) (by kernel_rfl) (by kernel_rfl) rfl h (by kernel_rfl) rfl rfl (by kernel_rfl)
def c_slices_MinFunc_int_int_L0 : SC := (.seq (.seq (.ops [⟨some 14, (Op.move (Operand.tmp 6)), 3, none⟩,
    ⟨some 15, (Op.move (Operand.tmp 0)), 23, none⟩,
    ⟨some 16, (Op.call ⟨(Callee.builtin Builtin.len), #[(Operand.tmp 15)], #[23]⟩), 3, none⟩,
    ⟨some 17, (Op.binOp BinOp.lss 3 (Operand.tmp 14) (Operand.tmp 16) 3), 4, none⟩]) (.cond (Operand.tmp 17) .skip (.exit 0))) (.seq (.block 1 (.seq (.ops [⟨some 20, (Op.move (Operand.tmp 1)), 93, none⟩,
    ⟨some 21, (Op.move (Operand.tmp 0)), 23, none⟩,
    ⟨some 22, (Op.move (Operand.tmp 6)), 3, none⟩,
    ⟨some 23, (Op.indexAddr 23 (Operand.tmp 21) (Operand.tmp 22)), 0, none⟩,
    ⟨some 24, (Op.load 3 (Operand.tmp 23)), 3, none⟩,
    ⟨some 25, (Op.move (Operand.tmp 5)), 3, none⟩,
    ⟨some 26, (Op.call ⟨(Callee.value (Operand.tmp 20)), #[(Operand.tmp 24), (Operand.tmp 25)], #[3, 3]⟩), 3, none⟩,
    ⟨some 27, (Op.binOp BinOp.lss 3 (Operand.tmp 26) (Operand.const (Value.int IntKind.i64 0)) 3), 4, none⟩]) (.cond (Operand.tmp 27) (.ops [⟨some 28, (Op.move (Operand.tmp 0)), 23, none⟩,
    ⟨some 29, (Op.move (Operand.tmp 6)), 3, none⟩,
    ⟨some 30, (Op.indexAddr 23 (Operand.tmp 28) (Operand.tmp 29)), 0, none⟩,
    ⟨some 31, (Op.load 3 (Operand.tmp 30)), 3, none⟩,
    ⟨some 5, (Op.assign (Operand.tmp 31)), 3, none⟩]) .skip))) (.ops [⟨some 18, (Op.move (Operand.tmp 6)), 3, none⟩,
    ⟨some 19, (Op.binOp BinOp.add 3 (Operand.tmp 18) (Operand.const (Value.int IntKind.i64 1)) 3), 3, none⟩,
    ⟨some 6, (Op.assign (Operand.tmp 19)), 3, none⟩])))
def c_slices_MinFunc_int_int : SF := ⟨33, [(ResultVar.tmp 4)],
  (.seq (.ops [⟨some 4, (Op.assign (Operand.const (Value.int IntKind.i64 0))), 3, none⟩]) (.seq (.seq (.ops [⟨some 7, (Op.move (Operand.tmp 0)), 23, none⟩,
    ⟨some 8, (Op.call ⟨(Callee.builtin Builtin.len), #[(Operand.tmp 7)], #[23]⟩), 3, none⟩,
    ⟨some 9, (Op.binOp BinOp.lss 3 (Operand.tmp 8) (Operand.const (Value.int IntKind.i64 1)) 3), 4, none⟩]) (.cond (Operand.tmp 9) (.ops [⟨some 10, (Op.makeInterface 9 (Operand.const (Value.string { data := #[115, 108, 105, 99, 101, 115, 46, 77, 105, 110, 70, 117, 110, 99, 58, 32, 101, 109, 112, 116, 121, 32, 108, 105, 115, 116] }))), 20, none⟩,
    ⟨none, (Op.panic (Operand.tmp 10)), 0, none⟩]) .skip)) (.seq (.ops [⟨some 11, (Op.move (Operand.tmp 0)), 23, none⟩,
    ⟨some 12, (Op.indexAddr 23 (Operand.tmp 11) (Operand.const (Value.int IntKind.i64 0))), 0, none⟩,
    ⟨some 13, (Op.load 3 (Operand.tmp 12)), 3, none⟩,
    ⟨some 5, (Op.assign (Operand.tmp 13)), 3, none⟩]) (.seq (.seq (.ops [⟨some 6, (Op.assign (Operand.const (Value.int IntKind.i64 1))), 3, none⟩]) (.block 0 (.loop c_slices_MinFunc_int_int_L0))) (.seq (.ops [⟨some 32, (Op.move (Operand.tmp 5)), 3, none⟩,
    ⟨some 4, (Op.assign (Operand.tmp 32)), 3, none⟩]) .ret)))))⟩
theorem is_slices_MinFunc_int_int (c : Cfg) (h : c.lendT = []) : isF PP c 76 c_slices_MinFunc_int_int := isF_of (fn := Proofs.Try.f76) (by kernel_rfl) (by kernel_rfl) rfl h (by kernel_rfl) rfl rfl (by kernel_rfl)
def c_row_By : SF := ⟨4, [(ResultVar.tmp 2)],
  (.seq (.ops [⟨some 1, (Op.box 3 (Operand.tmp 0)), 0, none⟩,
    ⟨some 2, (Op.assign (Operand.const Value.nilFunc)), 93, none⟩]) (.seq (.ops [⟨some 3, (Op.makeFunc (Fn.func 86) #[] #[(Operand.tmp 1)]), 93, none⟩,
    ⟨some 2, (Op.assign (Operand.tmp 3)), 93, none⟩]) .ret))⟩
theorem is_row_By (c : Cfg) (h : c.lendT = []) : isF PP c 77 c_row_By := isF_of (fn := Proofs.Try.f77) (by kernel_rfl) (by kernel_rfl) rfl h (by kernel_rfl) rfl rfl (by kernel_rfl)
def c_ring_Far : SF := ⟨10, [(ResultVar.tmp 4)],
  (.seq (.ops [⟨some 4, (Op.assign (Operand.const (Value.int IntKind.i64 0))), 3, none⟩]) (.seq (.ops [⟨some 5, (Op.move (Operand.tmp 1)), 3, none⟩,
    ⟨some 6, (Op.move (Operand.tmp 0)), 3, none⟩,
    ⟨some 7, (Op.binOp BinOp.sub 3 (Operand.tmp 5) (Operand.tmp 6) 3), 3, none⟩,
    ⟨some 8, (Op.binOp BinOp.add 3 (Operand.tmp 7) (Operand.const (Value.int IntKind.i64 256)) 3), 3, none⟩,
    ⟨some 9, (Op.binOp BinOp.rem 3 (Operand.tmp 8) (Operand.const (Value.int IntKind.i64 256)) 3), 3, none⟩,
    ⟨some 4, (Op.assign (Operand.tmp 9)), 3, none⟩]) .ret))⟩
theorem is_ring_Far (c : Cfg) (h : c.lendT = []) : isF PP c 78 c_ring_Far := isF_of (fn := Proofs.Try.f78) (by kernel_rfl) (by kernel_rfl) rfl h (by kernel_rfl) rfl rfl (by kernel_rfl)
def c_peers_Find : SF := ⟨18, [(ResultVar.tmp 6), (ResultVar.tmp 7)],
  (.seq (.ops [⟨some 6, (Op.assign (Operand.const (Value.int IntKind.i64 0))), 3, none⟩,
    ⟨some 7, (Op.assign (Operand.const (Value.bool false))), 4, none⟩]) (.seq (.ops [⟨some 9, (Op.move (Operand.tmp 0)), 3, none⟩,
    ⟨some 10, (Op.build 114 #[(0, (Operand.tmp 9))]), 114, none⟩,
    ⟨some 11, (Op.makeFunc (Fn.func 88) #[(Operand.tmp 10)] #[]), 112, none⟩,
    ⟨some 8, (Op.assign (Operand.tmp 11)), 112, none⟩]) (.seq (.ops [⟨some 12, (Op.move (Operand.tmp 1)), 22, none⟩,
    ⟨some 13, (Op.move (Operand.tmp 2)), 3, none⟩,
    ⟨some 14, (Op.move (Operand.tmp 8)), 112, none⟩,
    ⟨some 15, (Op.call ⟨(Callee.value (Operand.func 89)), #[(Operand.tmp 12), (Operand.tmp 13), (Operand.tmp 14)], #[22, 3, 112]⟩), 106, none⟩,
    ⟨some 16, (Op.extract (Operand.tmp 15) 0), 3, none⟩,
    ⟨some 17, (Op.extract (Operand.tmp 15) 1), 4, none⟩,
    ⟨some 6, (Op.assign (Operand.tmp 16)), 3, none⟩,
    ⟨some 7, (Op.assign (Operand.tmp 17)), 4, none⟩]) .ret)))⟩
theorem is_peers_Find (c : Cfg) (h : c.lendT = []) : isF PP c 79 c_peers_Find := isF_of (fn := Proofs.Try.f79) (by kernel_rfl) (by kernel_rfl) rfl h (by kernel_rfl) rfl rfl (by kernel_rfl)
def c_slices_IndexFunc_int_int_L0 : SC := (.seq (.ops [⟨some 9, (Op.binOp BinOp.lss 3 (Operand.tmp 8) (Operand.tmp 7) 3), 0, none⟩]) (.seq (.cond (Operand.tmp 9) .skip (.exit 0)) (.seq (.block 1 (.seq (.ops [⟨some 10, (Op.move (Operand.tmp 8)), 3, none⟩,
    ⟨some 5, (Op.assign (Operand.tmp 10)), 3, none⟩]) (.seq (.ops [⟨some 11, (Op.move (Operand.tmp 1)), 43, none⟩,
    ⟨some 12, (Op.move (Operand.tmp 0)), 23, none⟩,
    ⟨some 13, (Op.move (Operand.tmp 5)), 3, none⟩,
    ⟨some 14, (Op.indexAddr 23 (Operand.tmp 12) (Operand.tmp 13)), 0, none⟩,
    ⟨some 15, (Op.load 3 (Operand.tmp 14)), 3, none⟩,
    ⟨some 16, (Op.call ⟨(Callee.value (Operand.tmp 11)), #[(Operand.tmp 15)], #[3]⟩), 4, none⟩]) (.cond (Operand.tmp 16) (.seq (.ops [⟨some 17, (Op.move (Operand.tmp 5)), 3, none⟩,
    ⟨some 4, (Op.assign (Operand.tmp 17)), 3, none⟩]) .ret) .skip)))) (.ops [⟨some 18, (Op.binOp BinOp.add 3 (Operand.tmp 8) (Operand.const (Value.int IntKind.i64 1)) 3), 3, none⟩,
    ⟨some 8, (Op.move (Operand.tmp 18)), 3, none⟩]))))
def c_slices_IndexFunc_int_int : SF := ⟨19, [(ResultVar.tmp 4)],
  (.seq (.ops [⟨some 4, (Op.assign (Operand.const (Value.int IntKind.i64 0))), 3, none⟩]) (.seq (.seq (.ops [⟨some 6, (Op.move (Operand.tmp 0)), 23, none⟩,
    ⟨some 7, (Op.call ⟨(Callee.builtin Builtin.len), #[(Operand.tmp 6)], #[23]⟩), 3, none⟩,
    ⟨some 8, (Op.move (Operand.const (Value.int IntKind.i64 0))), 3, none⟩]) (.block 0 (.loop c_slices_IndexFunc_int_int_L0))) (.seq (.ops [⟨some 4, (Op.assign (Operand.const (Value.int IntKind.i64 (-1)))), 3, none⟩]) .ret)))⟩
theorem is_slices_IndexFunc_int_int (c : Cfg) (h : c.lendT = []) : isF PP c 80 c_slices_IndexFunc_int_int := isF_of (fn := Proofs.Try.f80) (by kernel_rfl) (by kernel_rfl) rfl h (by kernel_rfl) rfl rfl (by kernel_rfl)
def c_node_May : SF := ⟨46, [(ResultVar.tmp 2)],
  (.seq (.ops [⟨some 1, (Op.box 56 (Operand.tmp 0)), 0, none⟩,
    ⟨some 2, (Op.assign (Operand.const (Value.bool false))), 4, none⟩]) (.seq (.seq (.ops [⟨some 3, (Op.fieldAddr 56 (Operand.tmp 1) 0), 0, none⟩,
    ⟨some 4, (Op.load 4 (Operand.tmp 3)), 4, none⟩,
    ⟨some 5, (Op.unOp UnOp.not 4 (Operand.tmp 4)), 4, none⟩,
    ⟨some 6, (Op.move (Operand.tmp 5)), 4, none⟩,
    ⟨some 7, (Op.fieldAddr 56 (Operand.tmp 1) 1), 0, some (6, true)⟩,
    ⟨some 8, (Op.fieldAddr 25 (Operand.tmp 7) 1), 0, some (6, true)⟩,
    ⟨some 9, (Op.load 22 (Operand.tmp 8)), 22, some (6, true)⟩,
    ⟨some 10, (Op.call ⟨(Callee.builtin Builtin.len), #[(Operand.tmp 9)], #[22]⟩), 3, some (6, true)⟩,
    ⟨some 11, (Op.fieldAddr 56 (Operand.tmp 1) 1), 0, some (6, true)⟩,
    ⟨some 12, (Op.fieldAddr 25 (Operand.tmp 11) 2), 0, some (6, true)⟩,
    ⟨some 13, (Op.load 23 (Operand.tmp 12)), 23, some (6, true)⟩,
    ⟨some 14, (Op.call ⟨(Callee.builtin Builtin.len), #[(Operand.tmp 13)], #[23]⟩), 3, some (6, true)⟩,
    ⟨some 15, (Op.binOp BinOp.add 3 (Operand.tmp 10) (Operand.tmp 14) 3), 3, some (6, true)⟩,
    ⟨some 16, (Op.fieldAddr 56 (Operand.tmp 1) 2), 0, some (6, true)⟩,
    ⟨some 17, (Op.load 53 (Operand.tmp 16)), 53, some (6, true)⟩,
    ⟨some 18, (Op.call ⟨(Callee.builtin Builtin.len), #[(Operand.tmp 17)], #[53]⟩), 3, some (6, true)⟩,
    ⟨some 19, (Op.binOp BinOp.add 3 (Operand.tmp 15) (Operand.tmp 18) 3), 3, some (6, true)⟩,
    ⟨some 20, (Op.fieldAddr 56 (Operand.tmp 1) 3), 0, some (6, true)⟩,
    ⟨some 21, (Op.load 54 (Operand.tmp 20)), 54, some (6, true)⟩,
    ⟨some 22, (Op.call ⟨(Callee.builtin Builtin.len), #[(Operand.tmp 21)], #[54]⟩), 3, some (6, true)⟩,
    ⟨some 23, (Op.binOp BinOp.add 3 (Operand.tmp 19) (Operand.tmp 22) 3), 3, some (6, true)⟩,
    ⟨some 24, (Op.binOp BinOp.gtr 3 (Operand.tmp 23) (Operand.const (Value.int IntKind.i64 0)) 3), 4, some (6, true)⟩,
    ⟨some 25, (Op.pick (Operand.tmp 6) (Operand.tmp 24) (Operand.const (Value.bool false))), 4, none⟩]) (.cond (Operand.tmp 25) (.seq (.ops [⟨some 2, (Op.assign (Operand.const (Value.bool false))), 4, none⟩]) .ret) .skip)) (.seq (.ops [⟨some 26, (Op.fieldAddr 56 (Operand.tmp 1) 1), 0, none⟩,
    ⟨some 27, (Op.load 25 (Operand.tmp 26)), 25, none⟩,
    ⟨some 28, (Op.call ⟨(Callee.value (Operand.func 22)), #[(Operand.tmp 27)], #[25]⟩), 4, none⟩,
    ⟨some 29, (Op.move (Operand.tmp 28)), 4, none⟩,
    ⟨some 30, (Op.fieldAddr 56 (Operand.tmp 1) 2), 0, some (29, true)⟩,
    ⟨some 31, (Op.load 53 (Operand.tmp 30)), 53, some (29, true)⟩,
    ⟨some 32, (Op.call ⟨(Callee.value (Operand.func 90)), #[(Operand.tmp 31)], #[53]⟩), 4, some (29, true)⟩,
    ⟨some 33, (Op.pick (Operand.tmp 29) (Operand.tmp 32) (Operand.const (Value.bool false))), 4, none⟩,
    ⟨some 34, (Op.move (Operand.tmp 33)), 4, none⟩,
    ⟨some 35, (Op.fieldAddr 56 (Operand.tmp 1) 3), 0, some (34, true)⟩,
    ⟨some 36, (Op.load 54 (Operand.tmp 35)), 54, some (34, true)⟩,
    ⟨some 37, (Op.call ⟨(Callee.builtin Builtin.len), #[(Operand.tmp 36)], #[54]⟩), 3, some (34, true)⟩,
    ⟨some 38, (Op.binOp BinOp.leq 3 (Operand.tmp 37) (Operand.const (Value.int IntKind.i64 64)) 3), 4, some (34, true)⟩,
    ⟨some 39, (Op.pick (Operand.tmp 34) (Operand.tmp 38) (Operand.const (Value.bool false))), 4, none⟩,
    ⟨some 40, (Op.move (Operand.tmp 39)), 4, none⟩,
    ⟨some 41, (Op.fieldAddr 56 (Operand.tmp 1) 3), 0, some (40, true)⟩,
    ⟨some 42, (Op.load 54 (Operand.tmp 41)), 54, some (40, true)⟩,
    ⟨some 43, (Op.call ⟨(Callee.value (Operand.func 91)), #[(Operand.tmp 42), (Operand.func 92)], #[54, 117]⟩), 4, some (40, true)⟩,
    ⟨some 44, (Op.unOp UnOp.not 4 (Operand.tmp 43)), 4, some (40, true)⟩,
    ⟨some 45, (Op.pick (Operand.tmp 40) (Operand.tmp 44) (Operand.const (Value.bool false))), 4, none⟩,
    ⟨some 2, (Op.assign (Operand.tmp 45)), 4, none⟩]) .ret)))⟩
theorem is_node_May (c : Cfg) (h : c.lendT = []) : isF PP c 81 c_node_May := isF_of (fn := Proofs.Try.f81) (by kernel_rfl) (by kernel_rfl) rfl h (by kernel_rfl) rfl rfl (by kernel_rfl)
def c_gimmalref1_byteMay : SF := ⟨9, [(ResultVar.tmp 2)],
  (.seq (.ops [⟨some 2, (Op.assign (Operand.const (Value.bool false))), 4, none⟩]) (.seq (.ops [⟨some 3, (Op.move (Operand.tmp 0)), 3, none⟩,
    ⟨some 4, (Op.binOp BinOp.geq 3 (Operand.tmp 3) (Operand.const (Value.int IntKind.i64 0)) 3), 4, none⟩,
    ⟨some 5, (Op.move (Operand.tmp 4)), 4, none⟩,
    ⟨some 6, (Op.move (Operand.tmp 0)), 3, some (5, true)⟩,
    ⟨some 7, (Op.binOp BinOp.leq 3 (Operand.tmp 6) (Operand.const (Value.int IntKind.i64 255)) 3), 4, some (5, true)⟩,
    ⟨some 8, (Op.pick (Operand.tmp 5) (Operand.tmp 7) (Operand.const (Value.bool false))), 4, none⟩,
    ⟨some 2, (Op.assign (Operand.tmp 8)), 4, none⟩]) .ret))⟩
theorem is_gimmalref1_byteMay (c : Cfg) (h : c.lendT = []) : isF PP c 82 c_gimmalref1_byteMay := isF_of (fn := Proofs.Try.f82) (by kernel_rfl) (by kernel_rfl) rfl h (by kernel_rfl) rfl rfl (by kernel_rfl)
def c_gimmalref1_VersionMay : SF := ⟨16, [(ResultVar.tmp 2)],
  (.seq (.ops [⟨some 1, (Op.box 68 (Operand.tmp 0)), 0, none⟩,
    ⟨some 2, (Op.assign (Operand.const (Value.bool false))), 4, none⟩]) (.seq (.ops [⟨some 3, (Op.fieldAddr 68 (Operand.tmp 1) 0), 0, none⟩,
    ⟨some 4, (Op.load 3 (Operand.tmp 3)), 3, none⟩,
    ⟨some 5, (Op.binOp BinOp.geq 3 (Operand.tmp 4) (Operand.const (Value.int IntKind.i64 1)) 3), 4, none⟩,
    ⟨some 6, (Op.move (Operand.tmp 5)), 4, none⟩,
    ⟨some 7, (Op.fieldAddr 68 (Operand.tmp 1) 0), 0, some (6, true)⟩,
    ⟨some 8, (Op.load 3 (Operand.tmp 7)), 3, some (6, true)⟩,
    ⟨some 9, (Op.binOp BinOp.leq 3 (Operand.tmp 8) (Operand.const (Value.int IntKind.i64 65535)) 3), 4, some (6, true)⟩,
    ⟨some 10, (Op.pick (Operand.tmp 6) (Operand.tmp 9) (Operand.const (Value.bool false))), 4, none⟩,
    ⟨some 11, (Op.move (Operand.tmp 10)), 4, none⟩,
    ⟨some 12, (Op.fieldAddr 68 (Operand.tmp 1) 1), 0, some (11, true)⟩,
    ⟨some 13, (Op.load 3 (Operand.tmp 12)), 3, some (11, true)⟩,
    ⟨some 14, (Op.call ⟨(Callee.value (Operand.func 27)), #[(Operand.tmp 13)], #[3]⟩), 4, some (11, true)⟩,
    ⟨some 15, (Op.pick (Operand.tmp 11) (Operand.tmp 14) (Operand.const (Value.bool false))), 4, none⟩,
    ⟨some 2, (Op.assign (Operand.tmp 15)), 4, none⟩]) .ret))⟩
theorem is_gimmalref1_VersionMay (c : Cfg) (h : c.lendT = []) : isF PP c 83 c_gimmalref1_VersionMay := isF_of (fn := Proofs.Try.f83) (by kernel_rfl) (by kernel_rfl) rfl h (by kernel_rfl) rfl rfl (by kernel_rfl)
def c_gimmalref1_Best : SF := ⟨57, [(ResultVar.cell 4 70), (ResultVar.tmp 5)],
  (.seq (.ops [⟨some 2, (Op.box 70 (Operand.tmp 0)), 0, none⟩,
    ⟨some 3, (Op.box 70 (Operand.tmp 1)), 0, none⟩,
    ⟨some 4, (Op.alloc 70), 0, none⟩,
    ⟨some 5, (Op.assign (Operand.const (Value.int IntKind.i64 0))), 3, none⟩]) (.seq (.seq (.ops [⟨some 8, (Op.load 70 (Operand.tmp 2)), 70, none⟩,
    ⟨some 9, (Op.call ⟨(Callee.value (Operand.func 70)), #[(Operand.tmp 8)], #[70]⟩), 4, none⟩,
    ⟨some 10, (Op.unOp UnOp.not 4 (Operand.tmp 9)), 4, none⟩,
    ⟨some 11, (Op.move (Operand.tmp 10)), 4, none⟩,
    ⟨some 12, (Op.load 70 (Operand.tmp 3)), 70, some (11, false)⟩,
    ⟨some 13, (Op.call ⟨(Callee.value (Operand.func 70)), #[(Operand.tmp 12)], #[70]⟩), 4, some (11, false)⟩,
    ⟨some 14, (Op.unOp UnOp.not 4 (Operand.tmp 13)), 4, some (11, false)⟩,
    ⟨some 15, (Op.pick (Operand.tmp 11) (Operand.const (Value.bool true)) (Operand.tmp 14)), 4, none⟩,
    ⟨some 16, (Op.move (Operand.tmp 15)), 4, none⟩,
    ⟨some 17, (Op.fieldAddr 70 (Operand.tmp 2) 0), 0, some (16, false)⟩,
    ⟨some 18, (Op.load 3 (Operand.tmp 17)), 3, some (16, false)⟩,
    ⟨some 19, (Op.fieldAddr 70 (Operand.tmp 3) 0), 0, some (16, false)⟩,
    ⟨some 20, (Op.load 3 (Operand.tmp 19)), 3, some (16, false)⟩,
    ⟨some 21, (Op.binOp BinOp.neq 3 (Operand.tmp 18) (Operand.tmp 20) 3), 4, some (16, false)⟩,
    ⟨some 22, (Op.pick (Operand.tmp 16) (Operand.const (Value.bool true)) (Operand.tmp 21)), 4, none⟩]) (.cond (Operand.tmp 22) (.seq (.ops [⟨some 23, (Op.build 70 #[]), 70, none⟩,
    ⟨none, (Op.store 70 (Operand.tmp 4) (Operand.tmp 23)), 0, none⟩,
    ⟨some 5, (Op.assign (Operand.const (Value.int IntKind.i64 400))), 3, none⟩]) .ret) .skip)) (.seq (.ops [⟨some 25, (Op.fieldAddr 70 (Operand.tmp 2) 1), 0, none⟩,
    ⟨some 26, (Op.load 68 (Operand.tmp 25)), 68, none⟩,
    ⟨some 27, (Op.fieldAddr 70 (Operand.tmp 3) 1), 0, none⟩,
    ⟨some 28, (Op.load 68 (Operand.tmp 27)), 68, none⟩,
    ⟨some 29, (Op.call ⟨(Callee.value (Operand.func 93)), #[(Operand.tmp 26), (Operand.tmp 28)], #[68, 68]⟩), 45, none⟩,
    ⟨some 24, (Op.move (Operand.tmp 29)), 45, none⟩,
    ⟨some 30, (Op.extract (Operand.tmp 24) 0), 4, none⟩,
    ⟨some 31, (Op.extract (Operand.tmp 24) 1), 3, none⟩,
    ⟨some 6, (Op.assign (Operand.tmp 30)), 4, none⟩,
    ⟨some 7, (Op.assign (Operand.tmp 31)), 3, none⟩]) (.seq (.seq (.ops [⟨some 32, (Op.move (Operand.tmp 6)), 4, none⟩]) (.cond (Operand.tmp 32) (.seq (.ops [⟨some 33, (Op.load 70 (Operand.tmp 2)), 70, none⟩,
    ⟨none, (Op.store 70 (Operand.tmp 4) (Operand.tmp 33)), 0, none⟩,
    ⟨some 5, (Op.assign (Operand.const (Value.int IntKind.i64 0))), 3, none⟩]) .ret) .skip)) (.seq (.seq (.ops [⟨some 34, (Op.fieldAddr 70 (Operand.tmp 2) 1), 0, none⟩,
    ⟨some 35, (Op.load 68 (Operand.tmp 34)), 68, none⟩,
    ⟨some 36, (Op.fieldAddr 70 (Operand.tmp 3) 1), 0, none⟩,
    ⟨some 37, (Op.load 68 (Operand.tmp 36)), 68, none⟩,
    ⟨some 38, (Op.binOp BinOp.neq 68 (Operand.tmp 35) (Operand.tmp 37) 68), 4, none⟩,
    ⟨some 39, (Op.move (Operand.tmp 38)), 4, none⟩,
    ⟨some 40, (Op.fieldAddr 70 (Operand.tmp 3) 3), 0, some (39, false)⟩,
    ⟨some 41, (Op.load 4 (Operand.tmp 40)), 4, some (39, false)⟩,
    ⟨some 42, (Op.pick (Operand.tmp 39) (Operand.const (Value.bool true)) (Operand.tmp 41)), 4, none⟩,
    ⟨some 43, (Op.move (Operand.tmp 42)), 4, none⟩,
    ⟨some 44, (Op.fieldAddr 70 (Operand.tmp 2) 3), 0, some (43, false)⟩,
    ⟨some 45, (Op.load 4 (Operand.tmp 44)), 4, some (43, false)⟩,
    ⟨some 46, (Op.unOp UnOp.not 4 (Operand.tmp 45)), 4, some (43, false)⟩,
    ⟨some 47, (Op.move (Operand.tmp 46)), 4, some (43, false)⟩,
    ⟨some 48, (Op.fieldAddr 70 (Operand.tmp 3) 2), 0, some (47, true)⟩,
    ⟨some 49, (Op.load 3 (Operand.tmp 48)), 3, some (47, true)⟩,
    ⟨some 50, (Op.fieldAddr 70 (Operand.tmp 2) 2), 0, some (47, true)⟩,
    ⟨some 51, (Op.load 3 (Operand.tmp 50)), 3, some (47, true)⟩,
    ⟨some 52, (Op.binOp BinOp.geq 3 (Operand.tmp 49) (Operand.tmp 51) 3), 4, some (47, true)⟩,
    ⟨some 53, (Op.pick (Operand.tmp 47) (Operand.tmp 52) (Operand.const (Value.bool false))), 4, some (43, false)⟩,
    ⟨some 54, (Op.pick (Operand.tmp 43) (Operand.const (Value.bool true)) (Operand.tmp 53)), 4, none⟩]) (.cond (Operand.tmp 54) (.seq (.ops [⟨some 55, (Op.load 70 (Operand.tmp 3)), 70, none⟩,
    ⟨none, (Op.store 70 (Operand.tmp 4) (Operand.tmp 55)), 0, none⟩,
    ⟨some 5, (Op.assign (Operand.const (Value.int IntKind.i64 0))), 3, none⟩]) .ret) .skip)) (.seq (.ops [⟨some 56, (Op.load 70 (Operand.tmp 2)), 70, none⟩,
    ⟨none, (Op.store 70 (Operand.tmp 4) (Operand.tmp 56)), 0, none⟩,
    ⟨some 5, (Op.assign (Operand.const (Value.int IntKind.i64 0))), 3, none⟩]) .ret))))))⟩
theorem is_gimmalref1_Best (c : Cfg) (h : c.lendT = []) : isF PP c 84 c_gimmalref1_Best := isF_of (fn := Proofs.Try.f84) (by kernel_rfl) (by kernel_rfl) rfl h (by kernel_rfl) rfl rfl (by kernel_rfl)
def c_ring_Places_L0 : SC := (.seq (.ops [⟨some 8, (Op.binOp BinOp.lss 3 (Operand.tmp 7) (Operand.tmp 6) 3), 0, none⟩]) (.seq (.cond (Operand.tmp 8) .skip (.exit 0)) (.seq (.block 1 (.seq (.ops [⟨some 9, (Op.indexAddr 23 (Operand.tmp 5) (Operand.tmp 7)), 0, none⟩,
    ⟨some 10, (Op.load 3 (Operand.tmp 9)), 3, none⟩,
    ⟨some 4, (Op.assign (Operand.tmp 10)), 3, none⟩]) (.seq (.ops [⟨some 11, (Op.move (Operand.tmp 4)), 3, none⟩,
    ⟨some 12, (Op.call ⟨(Callee.value (Operand.func 48)), #[(Operand.tmp 11)], #[3]⟩), 4, none⟩,
    ⟨some 13, (Op.unOp UnOp.not 4 (Operand.tmp 12)), 4, none⟩]) (.cond (Operand.tmp 13) (.seq (.ops [⟨some 2, (Op.assign (Operand.const (Value.bool false))), 4, none⟩]) .ret) .skip)))) (.ops [⟨some 14, (Op.binOp BinOp.add 3 (Operand.tmp 7) (Operand.const (Value.int IntKind.i64 1)) 3), 3, none⟩,
    ⟨some 7, (Op.move (Operand.tmp 14)), 3, none⟩]))))
def c_ring_Places : SF := ⟨15, [(ResultVar.tmp 2)],
  (.seq (.ops [⟨some 2, (Op.assign (Operand.const (Value.bool false))), 4, none⟩]) (.seq (.seq (.ops [⟨some 5, (Op.move (Operand.tmp 0)), 23, none⟩,
    ⟨some 6, (Op.call ⟨(Callee.builtin Builtin.len), #[(Operand.tmp 5)], #[23]⟩), 3, none⟩,
    ⟨some 7, (Op.move (Operand.const (Value.int IntKind.i64 0))), 3, none⟩]) (.block 0 (.loop c_ring_Places_L0))) (.seq (.ops [⟨some 2, (Op.assign (Operand.const (Value.bool true))), 4, none⟩]) .ret)))⟩
theorem is_ring_Places (c : Cfg) (h : c.lendT = []) : isF PP c 85 c_ring_Places := isF_of (fn := Proofs.Try.f85) (by kernel_rfl) (by kernel_rfl) rfl h (by kernel_rfl) rfl rfl (by kernel_rfl)
def c_row_By_1 : SF := ⟨13, [(ResultVar.tmp 5)],
  (.seq (.ops [⟨some 5, (Op.assign (Operand.const (Value.int IntKind.i64 0))), 3, none⟩]) (.seq (.ops [⟨some 7, (Op.move (Operand.tmp 0)), 3, none⟩,
    ⟨some 10, (Op.move (Operand.tmp 1)), 3, none⟩,
    ⟨some 6, (Op.load 3 (Operand.tmp 2)), 3, none⟩,
    ⟨some 8, (Op.call ⟨(Callee.value (Operand.func 78)), #[(Operand.tmp 6), (Operand.tmp 7)], #[3, 3]⟩), 3, none⟩,
    ⟨some 9, (Op.load 3 (Operand.tmp 2)), 3, none⟩,
    ⟨some 11, (Op.call ⟨(Callee.value (Operand.func 78)), #[(Operand.tmp 9), (Operand.tmp 10)], #[3, 3]⟩), 3, none⟩,
    ⟨some 12, (Op.call ⟨(Callee.value (Operand.func 87)), #[(Operand.tmp 8), (Operand.tmp 11)], #[3, 3]⟩), 3, none⟩,
    ⟨some 5, (Op.assign (Operand.tmp 12)), 3, none⟩]) .ret))⟩
theorem is_row_By_1 (c : Cfg) (h : c.lendT = []) : isF PP c 86 c_row_By_1 := isF_of (fn := Proofs.Try.f86) (by kernel_rfl) (by kernel_rfl) rfl h (by kernel_rfl) rfl rfl (by kernel_rfl)
def c_cmp_Compare_int : SF := ⟨20, [(ResultVar.tmp 4)],
  (.seq (.ops [⟨some 4, (Op.assign (Operand.const (Value.int IntKind.i64 0))), 3, none⟩]) (.seq (.ops [⟨some 7, (Op.move (Operand.tmp 0)), 3, none⟩,
    ⟨some 8, (Op.call ⟨(Callee.value (Operand.func 94)), #[(Operand.tmp 7)], #[3]⟩), 4, none⟩,
    ⟨some 5, (Op.assign (Operand.tmp 8)), 4, none⟩]) (.seq (.ops [⟨some 9, (Op.move (Operand.tmp 1)), 3, none⟩,
    ⟨some 10, (Op.call ⟨(Callee.value (Operand.func 94)), #[(Operand.tmp 9)], #[3]⟩), 4, none⟩,
    ⟨some 6, (Op.assign (Operand.tmp 10)), 4, none⟩]) (.seq (.seq (.ops [⟨some 11, (Op.move (Operand.tmp 5)), 4, none⟩]) (.cond (Operand.tmp 11) (.seq (.seq (.ops [⟨some 12, (Op.move (Operand.tmp 6)), 4, none⟩]) (.cond (Operand.tmp 12) (.seq (.ops [⟨some 4, (Op.assign (Operand.const (Value.int IntKind.i64 0))), 3, none⟩]) .ret) .skip)) (.seq (.ops [⟨some 4, (Op.assign (Operand.const (Value.int IntKind.i64 (-1)))), 3, none⟩]) .ret)) .skip)) (.seq (.seq (.ops [⟨some 13, (Op.move (Operand.tmp 6)), 4, none⟩]) (.cond (Operand.tmp 13) (.seq (.ops [⟨some 4, (Op.assign (Operand.const (Value.int IntKind.i64 1))), 3, none⟩]) .ret) .skip)) (.seq (.seq (.ops [⟨some 14, (Op.move (Operand.tmp 0)), 3, none⟩,
    ⟨some 15, (Op.move (Operand.tmp 1)), 3, none⟩,
    ⟨some 16, (Op.binOp BinOp.lss 3 (Operand.tmp 14) (Operand.tmp 15) 3), 4, none⟩]) (.cond (Operand.tmp 16) (.seq (.ops [⟨some 4, (Op.assign (Operand.const (Value.int IntKind.i64 (-1)))), 3, none⟩]) .ret) .skip)) (.seq (.seq (.ops [⟨some 17, (Op.move (Operand.tmp 0)), 3, none⟩,
    ⟨some 18, (Op.move (Operand.tmp 1)), 3, none⟩,
    ⟨some 19, (Op.binOp BinOp.gtr 3 (Operand.tmp 17) (Operand.tmp 18) 3), 4, none⟩]) (.cond (Operand.tmp 19) (.seq (.ops [⟨some 4, (Op.assign (Operand.const (Value.int IntKind.i64 1))), 3, none⟩]) .ret) .skip)) (.seq (.ops [⟨some 4, (Op.assign (Operand.const (Value.int IntKind.i64 0))), 3, none⟩]) .ret))))))))⟩
theorem is_cmp_Compare_int (c : Cfg) (h : c.lendT = []) : isF PP c 87 c_cmp_Compare_int := isF_of (fn := Proofs.Try.f87) (by kernel_rfl) (by kernel_rfl) rfl h (by kernel_rfl) rfl rfl (by kernel_rfl)
def c_peers_order_find : SF := ⟨17, [(ResultVar.tmp 6)],
  (.seq (.ops [⟨some 3, (Op.box 114 (Operand.tmp 0)), 0, none⟩,
    ⟨some 4, (Op.box 42 (Operand.tmp 1)), 0, none⟩,
    ⟨some 6, (Op.assign (Operand.const (Value.int IntKind.i64 0))), 3, none⟩]) (.seq (.ops [⟨some 14, (Op.move (Operand.tmp 2)), 3, none⟩,
    ⟨some 7, (Op.fieldAddr 114 (Operand.tmp 3) 0), 0, none⟩,
    ⟨some 8, (Op.load 3 (Operand.tmp 7)), 3, none⟩,
    ⟨some 9, (Op.fieldAddr 42 (Operand.tmp 4) 0), 0, none⟩,
    ⟨some 10, (Op.load 3 (Operand.tmp 9)), 3, none⟩,
    ⟨some 11, (Op.call ⟨(Callee.value (Operand.func 78)), #[(Operand.tmp 8), (Operand.tmp 10)], #[3, 3]⟩), 3, none⟩,
    ⟨some 12, (Op.fieldAddr 114 (Operand.tmp 3) 0), 0, none⟩,
    ⟨some 13, (Op.load 3 (Operand.tmp 12)), 3, none⟩,
    ⟨some 15, (Op.call ⟨(Callee.value (Operand.func 78)), #[(Operand.tmp 13), (Operand.tmp 14)], #[3, 3]⟩), 3, none⟩,
    ⟨some 16, (Op.call ⟨(Callee.value (Operand.func 87)), #[(Operand.tmp 11), (Operand.tmp 15)], #[3, 3]⟩), 3, none⟩,
    ⟨some 6, (Op.assign (Operand.tmp 16)), 3, none⟩]) .ret))⟩
theorem is_peers_order_find (c : Cfg) (h : c.lendT = []) : isF PP c 88 c_peers_order_find := isF_of (fn := Proofs.Try.f88) (by kernel_rfl) (by kernel_rfl) rfl h (by kernel_rfl) rfl rfl (by kernel_rfl)
def c_slices_BinarySearchFunc_api_Peer_api_Peer_int_L0 : SC := (.seq (.seq (.ops [⟨some 15, (Op.move (Operand.tmp 9)), 3, none⟩,
    ⟨some 16, (Op.move (Operand.tmp 10)), 3, none⟩,
    ⟨some 17, (Op.binOp BinOp.lss 3 (Operand.tmp 15) (Operand.tmp 16) 3), 4, none⟩]) (.cond (Operand.tmp 17) .skip (.exit 0))) (.block 1 (.seq (.ops [⟨some 18, (Op.move (Operand.tmp 9)), 3, none⟩,
    ⟨some 19, (Op.move (Operand.tmp 10)), 3, none⟩,
    ⟨some 20, (Op.binOp BinOp.add 3 (Operand.tmp 18) (Operand.tmp 19) 3), 3, none⟩,
    ⟨some 21, (Op.convert 3 40 (Operand.tmp 20)), 40, none⟩,
    ⟨some 22, (Op.binOp BinOp.shr 40 (Operand.tmp 21) (Operand.const (Value.int IntKind.u64 1)) 40), 40, none⟩,
    ⟨some 23, (Op.convert 40 3 (Operand.tmp 22)), 3, none⟩,
    ⟨some 11, (Op.assign (Operand.tmp 23)), 3, none⟩]) (.seq (.ops [⟨some 24, (Op.move (Operand.tmp 2)), 112, none⟩,
    ⟨some 25, (Op.move (Operand.tmp 0)), 22, none⟩,
    ⟨some 26, (Op.move (Operand.tmp 11)), 3, none⟩,
    ⟨some 27, (Op.indexAddr 22 (Operand.tmp 25) (Operand.tmp 26)), 0, none⟩,
    ⟨some 28, (Op.load 42 (Operand.tmp 27)), 42, none⟩,
    ⟨some 29, (Op.move (Operand.tmp 1)), 3, none⟩,
    ⟨some 30, (Op.call ⟨(Callee.value (Operand.tmp 24)), #[(Operand.tmp 28), (Operand.tmp 29)], #[42, 3]⟩), 3, none⟩,
    ⟨some 31, (Op.binOp BinOp.lss 3 (Operand.tmp 30) (Operand.const (Value.int IntKind.i64 0)) 3), 4, none⟩]) (.cond (Operand.tmp 31) (.ops [⟨some 32, (Op.move (Operand.tmp 11)), 3, none⟩,
    ⟨some 33, (Op.binOp BinOp.add 3 (Operand.tmp 32) (Operand.const (Value.int IntKind.i64 1)) 3), 3, none⟩,
    ⟨some 9, (Op.assign (Operand.tmp 33)), 3, none⟩]) (.ops [⟨some 34, (Op.move (Operand.tmp 11)), 3, none⟩,
    ⟨some 10, (Op.assign (Operand.tmp 34)), 3, none⟩]))))))
def c_slices_BinarySearchFunc_api_Peer_api_Peer_int : SF := ⟨49, [(ResultVar.tmp 6), (ResultVar.tmp 7)],
  (.seq (.ops [⟨some 6, (Op.assign (Operand.const (Value.int IntKind.i64 0))), 3, none⟩,
    ⟨some 7, (Op.assign (Operand.const (Value.bool false))), 4, none⟩]) (.seq (.ops [⟨some 12, (Op.move (Operand.tmp 0)), 22, none⟩,
    ⟨some 13, (Op.call ⟨(Callee.builtin Builtin.len), #[(Operand.tmp 12)], #[22]⟩), 3, none⟩,
    ⟨some 8, (Op.assign (Operand.tmp 13)), 3, none⟩]) (.seq (.ops [⟨some 14, (Op.move (Operand.tmp 8)), 3, none⟩,
    ⟨some 9, (Op.assign (Operand.const (Value.int IntKind.i64 0))), 3, none⟩,
    ⟨some 10, (Op.assign (Operand.tmp 14)), 3, none⟩]) (.seq (.block 0 (.loop c_slices_BinarySearchFunc_api_Peer_api_Peer_int_L0)) (.seq (.ops [⟨some 35, (Op.move (Operand.tmp 9)), 3, none⟩,
    ⟨some 36, (Op.move (Operand.tmp 9)), 3, none⟩,
    ⟨some 37, (Op.move (Operand.tmp 8)), 3, none⟩,
    ⟨some 38, (Op.binOp BinOp.lss 3 (Operand.tmp 36) (Operand.tmp 37) 3), 4, none⟩,
    ⟨some 39, (Op.move (Operand.tmp 38)), 4, none⟩,
    ⟨some 40, (Op.move (Operand.tmp 2)), 112, some (39, true)⟩,
    ⟨some 41, (Op.move (Operand.tmp 0)), 22, some (39, true)⟩,
    ⟨some 42, (Op.move (Operand.tmp 9)), 3, some (39, true)⟩,
    ⟨some 43, (Op.indexAddr 22 (Operand.tmp 41) (Operand.tmp 42)), 0, some (39, true)⟩,
    ⟨some 44, (Op.load 42 (Operand.tmp 43)), 42, some (39, true)⟩,
    ⟨some 45, (Op.move (Operand.tmp 1)), 3, some (39, true)⟩,
    ⟨some 46, (Op.call ⟨(Callee.value (Operand.tmp 40)), #[(Operand.tmp 44), (Operand.tmp 45)], #[42, 3]⟩), 3, some (39, true)⟩,
    ⟨some 47, (Op.binOp BinOp.eql 3 (Operand.tmp 46) (Operand.const (Value.int IntKind.i64 0)) 3), 4, some (39, true)⟩,
    ⟨some 48, (Op.pick (Operand.tmp 39) (Operand.tmp 47) (Operand.const (Value.bool false))), 4, none⟩,
    ⟨some 6, (Op.assign (Operand.tmp 35)), 3, none⟩,
    ⟨some 7, (Op.assign (Operand.tmp 48)), 4, none⟩]) .ret)))))⟩
theorem is_slices_BinarySearchFunc_api_Peer_api_Peer_int (c : Cfg) (h : c.lendT = []) : isF PP c 89 c_slices_BinarySearchFunc_api_Peer_api_Peer_int := isF_of (fn := Proofs.Try.f89) (by kernel_rfl) (by kernel_rfl) rfl h (by kernel_rfl) rfl rfl (by kernel_rfl)
def c_store_May_L0 : SC := (.seq (.ops [⟨some 8, (Op.binOp BinOp.lss 3 (Operand.tmp 7) (Operand.tmp 6) 3), 0, none⟩]) (.seq (.cond (Operand.tmp 8) .skip (.exit 0)) (.seq (.block 1 (.seq (.ops [⟨some 9, (Op.move (Operand.tmp 7)), 3, none⟩,
    ⟨some 10, (Op.indexAddr 53 (Operand.tmp 5) (Operand.tmp 7)), 0, none⟩,
    ⟨some 11, (Op.load 70 (Operand.tmp 10)), 70, none⟩,
    ⟨some 4, (Op.alloc 70), 0, none⟩,
    ⟨some 3, (Op.assign (Operand.tmp 9)), 3, none⟩,
    ⟨none, (Op.store 70 (Operand.tmp 4) (Operand.tmp 11)), 0, none⟩]) (.seq (.ops [⟨some 12, (Op.load 70 (Operand.tmp 4)), 70, none⟩,
    ⟨some 13, (Op.call ⟨(Callee.value (Operand.func 95)), #[(Operand.tmp 12)], #[70]⟩), 4, none⟩,
    ⟨some 14, (Op.unOp UnOp.not 4 (Operand.tmp 13)), 4, none⟩,
    ⟨some 15, (Op.move (Operand.tmp 14)), 4, none⟩,
    ⟨some 16, (Op.move (Operand.tmp 3)), 3, some (15, false)⟩,
    ⟨some 17, (Op.binOp BinOp.gtr 3 (Operand.tmp 16) (Operand.const (Value.int IntKind.i64 0)) 3), 4, some (15, false)⟩,
    ⟨some 18, (Op.move (Operand.tmp 17)), 4, some (15, false)⟩,
    ⟨some 19, (Op.move (Operand.tmp 0)), 53, some (18, true)⟩,
    ⟨some 20, (Op.move (Operand.tmp 3)), 3, some (18, true)⟩,
    ⟨some 21, (Op.binOp BinOp.sub 3 (Operand.tmp 20) (Operand.const (Value.int IntKind.i64 1)) 3), 3, some (18, true)⟩,
    ⟨some 22, (Op.indexAddr 53 (Operand.tmp 19) (Operand.tmp 21)), 0, some (18, true)⟩,
    ⟨some 23, (Op.fieldAddr 70 (Operand.tmp 22) 0), 0, some (18, true)⟩,
    ⟨some 24, (Op.load 3 (Operand.tmp 23)), 3, some (18, true)⟩,
    ⟨some 25, (Op.fieldAddr 70 (Operand.tmp 4) 0), 0, some (18, true)⟩,
    ⟨some 26, (Op.load 3 (Operand.tmp 25)), 3, some (18, true)⟩,
    ⟨some 27, (Op.binOp BinOp.geq 3 (Operand.tmp 24) (Operand.tmp 26) 3), 4, some (18, true)⟩,
    ⟨some 28, (Op.pick (Operand.tmp 18) (Operand.tmp 27) (Operand.const (Value.bool false))), 4, some (15, false)⟩,
    ⟨some 29, (Op.pick (Operand.tmp 15) (Operand.const (Value.bool true)) (Operand.tmp 28)), 4, none⟩]) (.cond (Operand.tmp 29) (.seq (.ops [⟨some 2, (Op.assign (Operand.const (Value.bool false))), 4, none⟩]) .ret) .skip)))) (.ops [⟨some 30, (Op.binOp BinOp.add 3 (Operand.tmp 7) (Operand.const (Value.int IntKind.i64 1)) 3), 3, none⟩,
    ⟨some 7, (Op.move (Operand.tmp 30)), 3, none⟩]))))
def c_store_May : SF := ⟨34, [(ResultVar.tmp 2)],
  (.seq (.ops [⟨some 2, (Op.assign (Operand.const (Value.bool false))), 4, none⟩]) (.seq (.seq (.ops [⟨some 5, (Op.move (Operand.tmp 0)), 53, none⟩,
    ⟨some 6, (Op.call ⟨(Callee.builtin Builtin.len), #[(Operand.tmp 5)], #[53]⟩), 3, none⟩,
    ⟨some 7, (Op.move (Operand.const (Value.int IntKind.i64 0))), 3, none⟩]) (.block 0 (.loop c_store_May_L0))) (.seq (.ops [⟨some 31, (Op.move (Operand.tmp 0)), 53, none⟩,
    ⟨some 32, (Op.call ⟨(Callee.builtin Builtin.len), #[(Operand.tmp 31)], #[53]⟩), 3, none⟩,
    ⟨some 33, (Op.binOp BinOp.leq 3 (Operand.tmp 32) (Operand.const (Value.int IntKind.i64 16)) 3), 4, none⟩,
    ⟨some 2, (Op.assign (Operand.tmp 33)), 4, none⟩]) .ret)))⟩
theorem is_store_May (c : Cfg) (h : c.lendT = []) : isF PP c 90 c_store_May := isF_of (fn := Proofs.Try.f90) (by kernel_rfl) (by kernel_rfl) rfl h (by kernel_rfl) rfl rfl (by kernel_rfl)
def c_slices_ContainsFunc_api_Told_api_Told : SF := ⟨9, [(ResultVar.tmp 4)],
  (.seq (.ops [⟨some 4, (Op.assign (Operand.const (Value.bool false))), 4, none⟩]) (.seq (.ops [⟨some 5, (Op.move (Operand.tmp 0)), 54, none⟩,
    ⟨some 6, (Op.move (Operand.tmp 1)), 117, none⟩,
    ⟨some 7, (Op.call ⟨(Callee.value (Operand.func 96)), #[(Operand.tmp 5), (Operand.tmp 6)], #[54, 117]⟩), 3, none⟩,
    ⟨some 8, (Op.binOp BinOp.geq 3 (Operand.tmp 7) (Operand.const (Value.int IntKind.i64 0)) 3), 4, none⟩,
    ⟨some 4, (Op.assign (Operand.tmp 8)), 4, none⟩]) .ret))⟩
theorem is_slices_ContainsFunc_api_Told_api_Told (c : Cfg) (h : c.lendT = []) : isF PP c 91 c_slices_ContainsFunc_api_Told_api_Told := isF_of (fn := Proofs.Try.f91) (by kernel_rfl) (by kernel_rfl) rfl h (by kernel_rfl) rfl rfl (by kernel_rfl)
def c_node_odd : SF := ⟨23, [(ResultVar.tmp 2)],
  (.seq (.ops [⟨some 1, (Op.box 99 (Operand.tmp 0)), 0, none⟩,
    ⟨some 2, (Op.assign (Operand.const (Value.bool false))), 4, none⟩]) (.seq (.ops [⟨some 3, (Op.fieldAddr 99 (Operand.tmp 1) 0), 0, none⟩,
    ⟨some 4, (Op.load 3 (Operand.tmp 3)), 3, none⟩,
    ⟨some 5, (Op.call ⟨(Callee.value (Operand.func 97)), #[(Operand.tmp 4)], #[3]⟩), 4, none⟩,
    ⟨some 6, (Op.unOp UnOp.not 4 (Operand.tmp 5)), 4, none⟩,
    ⟨some 7, (Op.move (Operand.tmp 6)), 4, none⟩,
    ⟨some 8, (Op.fieldAddr 99 (Operand.tmp 1) 2), 0, some (7, false)⟩,
    ⟨some 9, (Op.load 3 (Operand.tmp 8)), 3, some (7, false)⟩,
    ⟨some 10, (Op.call ⟨(Callee.value (Operand.func 97)), #[(Operand.tmp 9)], #[3]⟩), 4, some (7, false)⟩,
    ⟨some 11, (Op.unOp UnOp.not 4 (Operand.tmp 10)), 4, some (7, false)⟩,
    ⟨some 12, (Op.pick (Operand.tmp 7) (Operand.const (Value.bool true)) (Operand.tmp 11)), 4, none⟩,
    ⟨some 13, (Op.move (Operand.tmp 12)), 4, none⟩,
    ⟨some 14, (Op.fieldAddr 99 (Operand.tmp 1) 1), 0, some (13, false)⟩,
    ⟨some 15, (Op.load 4 (Operand.tmp 14)), 4, some (13, false)⟩,
    ⟨some 16, (Op.unOp UnOp.not 4 (Operand.tmp 15)), 4, some (13, false)⟩,
    ⟨some 17, (Op.move (Operand.tmp 16)), 4, some (13, false)⟩,
    ⟨some 18, (Op.fieldAddr 99 (Operand.tmp 1) 2), 0, some (17, true)⟩,
    ⟨some 19, (Op.load 3 (Operand.tmp 18)), 3, some (17, true)⟩,
    ⟨some 20, (Op.binOp BinOp.neq 3 (Operand.tmp 19) (Operand.const (Value.int IntKind.i64 0)) 3), 4, some (17, true)⟩,
    ⟨some 21, (Op.pick (Operand.tmp 17) (Operand.tmp 20) (Operand.const (Value.bool false))), 4, some (13, false)⟩,
    ⟨some 22, (Op.pick (Operand.tmp 13) (Operand.const (Value.bool true)) (Operand.tmp 21)), 4, none⟩,
    ⟨some 2, (Op.assign (Operand.tmp 22)), 4, none⟩]) .ret))⟩
theorem is_node_odd (c : Cfg) (h : c.lendT = []) : isF PP c 92 c_node_odd := isF_of (fn := Proofs.Try.f92) (by kernel_rfl) (by kernel_rfl) rfl h (by kernel_rfl) rfl rfl (by kernel_rfl)
def c_gimmalref1_Newer : SF := ⟨33, [(ResultVar.tmp 4), (ResultVar.tmp 5)],
  (.seq (.ops [⟨some 2, (Op.box 68 (Operand.tmp 0)), 0, none⟩,
    ⟨some 3, (Op.box 68 (Operand.tmp 1)), 0, none⟩,
    ⟨some 4, (Op.assign (Operand.const (Value.bool false))), 4, none⟩,
    ⟨some 5, (Op.assign (Operand.const (Value.int IntKind.i64 0))), 3, none⟩]) (.seq (.seq (.ops [⟨some 6, (Op.load 68 (Operand.tmp 2)), 68, none⟩,
    ⟨some 7, (Op.call ⟨(Callee.value (Operand.func 83)), #[(Operand.tmp 6)], #[68]⟩), 4, none⟩,
    ⟨some 8, (Op.unOp UnOp.not 4 (Operand.tmp 7)), 4, none⟩,
    ⟨some 9, (Op.move (Operand.tmp 8)), 4, none⟩,
    ⟨some 10, (Op.load 68 (Operand.tmp 3)), 68, some (9, false)⟩,
    ⟨some 11, (Op.call ⟨(Callee.value (Operand.func 83)), #[(Operand.tmp 10)], #[68]⟩), 4, some (9, false)⟩,
    ⟨some 12, (Op.unOp UnOp.not 4 (Operand.tmp 11)), 4, some (9, false)⟩,
    ⟨some 13, (Op.pick (Operand.tmp 9) (Operand.const (Value.bool true)) (Operand.tmp 12)), 4, none⟩]) (.cond (Operand.tmp 13) (.seq (.ops [⟨some 4, (Op.assign (Operand.const (Value.bool false))), 4, none⟩,
    ⟨some 5, (Op.assign (Operand.const (Value.int IntKind.i64 300))), 3, none⟩]) .ret) .skip)) (.seq (.ops [⟨some 14, (Op.fieldAddr 68 (Operand.tmp 2) 0), 0, none⟩,
    ⟨some 15, (Op.load 3 (Operand.tmp 14)), 3, none⟩,
    ⟨some 16, (Op.fieldAddr 68 (Operand.tmp 3) 0), 0, none⟩,
    ⟨some 17, (Op.load 3 (Operand.tmp 16)), 3, none⟩,
    ⟨some 18, (Op.binOp BinOp.gtr 3 (Operand.tmp 15) (Operand.tmp 17) 3), 4, none⟩,
    ⟨some 19, (Op.move (Operand.tmp 18)), 4, none⟩,
    ⟨some 20, (Op.fieldAddr 68 (Operand.tmp 2) 0), 0, some (19, false)⟩,
    ⟨some 21, (Op.load 3 (Operand.tmp 20)), 3, some (19, false)⟩,
    ⟨some 22, (Op.fieldAddr 68 (Operand.tmp 3) 0), 0, some (19, false)⟩,
    ⟨some 23, (Op.load 3 (Operand.tmp 22)), 3, some (19, false)⟩,
    ⟨some 24, (Op.binOp BinOp.eql 3 (Operand.tmp 21) (Operand.tmp 23) 3), 4, some (19, false)⟩,
    ⟨some 25, (Op.move (Operand.tmp 24)), 4, some (19, false)⟩,
    ⟨some 26, (Op.fieldAddr 68 (Operand.tmp 2) 1), 0, some (25, true)⟩,
    ⟨some 27, (Op.load 3 (Operand.tmp 26)), 3, some (25, true)⟩,
    ⟨some 28, (Op.fieldAddr 68 (Operand.tmp 3) 1), 0, some (25, true)⟩,
    ⟨some 29, (Op.load 3 (Operand.tmp 28)), 3, some (25, true)⟩,
    ⟨some 30, (Op.binOp BinOp.gtr 3 (Operand.tmp 27) (Operand.tmp 29) 3), 4, some (25, true)⟩,
    ⟨some 31, (Op.pick (Operand.tmp 25) (Operand.tmp 30) (Operand.const (Value.bool false))), 4, some (19, false)⟩,
    ⟨some 32, (Op.pick (Operand.tmp 19) (Operand.const (Value.bool true)) (Operand.tmp 31)), 4, none⟩,
    ⟨some 4, (Op.assign (Operand.tmp 32)), 4, none⟩,
    ⟨some 5, (Op.assign (Operand.const (Value.int IntKind.i64 0))), 3, none⟩]) .ret)))⟩
theorem is_gimmalref1_Newer (c : Cfg) (h : c.lendT = []) : isF PP c 93 c_gimmalref1_Newer := isF_of (fn := Proofs.Try.f93) (by kernel_rfl) (by kernel_rfl) rfl h (by kernel_rfl) rfl rfl (by kernel_rfl)
def c_cmp_isNaN_int : SF := ⟨6, [(ResultVar.tmp 2)],
  (.seq (.ops [⟨some 2, (Op.assign (Operand.const (Value.bool false))), 4, none⟩]) (.seq (.ops [⟨some 3, (Op.move (Operand.tmp 0)), 3, none⟩,
    ⟨some 4, (Op.move (Operand.tmp 0)), 3, none⟩,
    ⟨some 5, (Op.binOp BinOp.neq 3 (Operand.tmp 3) (Operand.tmp 4) 3), 4, none⟩,
    ⟨some 2, (Op.assign (Operand.tmp 5)), 4, none⟩]) .ret))⟩
theorem is_cmp_isNaN_int (c : Cfg) (h : c.lendT = []) : isF PP c 94 c_cmp_isNaN_int := isF_of (fn := Proofs.Try.f94) (by kernel_rfl) (by kernel_rfl) rfl h (by kernel_rfl) rfl rfl (by kernel_rfl)
def c_item_May : SF := ⟨26, [(ResultVar.tmp 2)],
  (.seq (.ops [⟨some 1, (Op.box 70 (Operand.tmp 0)), 0, none⟩,
    ⟨some 2, (Op.assign (Operand.const (Value.bool false))), 4, none⟩]) (.seq (.ops [⟨some 3, (Op.fieldAddr 70 (Operand.tmp 1) 0), 0, none⟩,
    ⟨some 4, (Op.load 3 (Operand.tmp 3)), 3, none⟩,
    ⟨some 5, (Op.call ⟨(Callee.value (Operand.func 97)), #[(Operand.tmp 4)], #[3]⟩), 4, none⟩,
    ⟨some 6, (Op.move (Operand.tmp 5)), 4, none⟩,
    ⟨some 7, (Op.fieldAddr 70 (Operand.tmp 1) 2), 0, some (6, true)⟩,
    ⟨some 8, (Op.load 3 (Operand.tmp 7)), 3, some (6, true)⟩,
    ⟨some 9, (Op.call ⟨(Callee.value (Operand.func 97)), #[(Operand.tmp 8)], #[3]⟩), 4, some (6, true)⟩,
    ⟨some 10, (Op.pick (Operand.tmp 6) (Operand.tmp 9) (Operand.const (Value.bool false))), 4, none⟩,
    ⟨some 11, (Op.move (Operand.tmp 10)), 4, none⟩,
    ⟨some 12, (Op.fieldAddr 70 (Operand.tmp 1) 1), 0, some (11, true)⟩,
    ⟨some 13, (Op.load 68 (Operand.tmp 12)), 68, some (11, true)⟩,
    ⟨some 14, (Op.call ⟨(Callee.value (Operand.func 98)), #[(Operand.tmp 13)], #[68]⟩), 4, some (11, true)⟩,
    ⟨some 15, (Op.pick (Operand.tmp 11) (Operand.tmp 14) (Operand.const (Value.bool false))), 4, none⟩,
    ⟨some 16, (Op.move (Operand.tmp 15)), 4, none⟩,
    ⟨some 17, (Op.fieldAddr 70 (Operand.tmp 1) 3), 0, some (16, true)⟩,
    ⟨some 18, (Op.load 4 (Operand.tmp 17)), 4, some (16, true)⟩,
    ⟨some 19, (Op.unOp UnOp.not 4 (Operand.tmp 18)), 4, some (16, true)⟩,
    ⟨some 20, (Op.move (Operand.tmp 19)), 4, some (16, true)⟩,
    ⟨some 21, (Op.fieldAddr 70 (Operand.tmp 1) 2), 0, some (20, false)⟩,
    ⟨some 22, (Op.load 3 (Operand.tmp 21)), 3, some (20, false)⟩,
    ⟨some 23, (Op.binOp BinOp.eql 3 (Operand.tmp 22) (Operand.const (Value.int IntKind.i64 0)) 3), 4, some (20, false)⟩,
    ⟨some 24, (Op.pick (Operand.tmp 20) (Operand.const (Value.bool true)) (Operand.tmp 23)), 4, some (16, true)⟩,
    ⟨some 25, (Op.pick (Operand.tmp 16) (Operand.tmp 24) (Operand.const (Value.bool false))), 4, none⟩,
    ⟨some 2, (Op.assign (Operand.tmp 25)), 4, none⟩]) .ret))⟩
theorem is_item_May (c : Cfg) (h : c.lendT = []) : isF PP c 95 c_item_May := isF_of (fn := Proofs.Try.f95) (by kernel_rfl) (by kernel_rfl) rfl h (by kernel_rfl) rfl rfl (by kernel_rfl)
def c_slices_IndexFunc_api_Told_api_Told_L0 : SC := (.seq (.ops [⟨some 9, (Op.binOp BinOp.lss 3 (Operand.tmp 8) (Operand.tmp 7) 3), 0, none⟩]) (.seq (.cond (Operand.tmp 9) .skip (.exit 0)) (.seq (.block 1 (.seq (.ops [⟨some 10, (Op.move (Operand.tmp 8)), 3, none⟩,
    ⟨some 5, (Op.assign (Operand.tmp 10)), 3, none⟩]) (.seq (.ops [⟨some 11, (Op.move (Operand.tmp 1)), 117, none⟩,
    ⟨some 12, (Op.move (Operand.tmp 0)), 54, none⟩,
    ⟨some 13, (Op.move (Operand.tmp 5)), 3, none⟩,
    ⟨some 14, (Op.indexAddr 54 (Operand.tmp 12) (Operand.tmp 13)), 0, none⟩,
    ⟨some 15, (Op.load 99 (Operand.tmp 14)), 99, none⟩,
    ⟨some 16, (Op.call ⟨(Callee.value (Operand.tmp 11)), #[(Operand.tmp 15)], #[99]⟩), 4, none⟩]) (.cond (Operand.tmp 16) (.seq (.ops [⟨some 17, (Op.move (Operand.tmp 5)), 3, none⟩,
    ⟨some 4, (Op.assign (Operand.tmp 17)), 3, none⟩]) .ret) .skip)))) (.ops [⟨some 18, (Op.binOp BinOp.add 3 (Operand.tmp 8) (Operand.const (Value.int IntKind.i64 1)) 3), 3, none⟩,
    ⟨some 8, (Op.move (Operand.tmp 18)), 3, none⟩]))))
def c_slices_IndexFunc_api_Told_api_Told : SF := ⟨19, [(ResultVar.tmp 4)],
  (.seq (.ops [⟨some 4, (Op.assign (Operand.const (Value.int IntKind.i64 0))), 3, none⟩]) (.seq (.seq (.ops [⟨some 6, (Op.move (Operand.tmp 0)), 54, none⟩,
    ⟨some 7, (Op.call ⟨(Callee.builtin Builtin.len), #[(Operand.tmp 6)], #[54]⟩), 3, none⟩,
    ⟨some 8, (Op.move (Operand.const (Value.int IntKind.i64 0))), 3, none⟩]) (.block 0 (.loop c_slices_IndexFunc_api_Told_api_Told_L0))) (.seq (.ops [⟨some 4, (Op.assign (Operand.const (Value.int IntKind.i64 (-1)))), 3, none⟩]) .ret)))⟩
theorem is_slices_IndexFunc_api_Told_api_Told (c : Cfg) (h : c.lendT = []) : isF PP c 96 c_slices_IndexFunc_api_Told_api_Told := isF_of (fn := Proofs.Try.f96) (by kernel_rfl) (by kernel_rfl) rfl h (by kernel_rfl) rfl rfl (by kernel_rfl)
def c_item_Byte : SF := ⟨9, [(ResultVar.tmp 2)],
  (.seq (.ops [⟨some 2, (Op.assign (Operand.const (Value.bool false))), 4, none⟩]) (.seq (.ops [⟨some 3, (Op.move (Operand.tmp 0)), 3, none⟩,
    ⟨some 4, (Op.binOp BinOp.geq 3 (Operand.tmp 3) (Operand.const (Value.int IntKind.i64 0)) 3), 4, none⟩,
    ⟨some 5, (Op.move (Operand.tmp 4)), 4, none⟩,
    ⟨some 6, (Op.move (Operand.tmp 0)), 3, some (5, true)⟩,
    ⟨some 7, (Op.binOp BinOp.lss 3 (Operand.tmp 6) (Operand.const (Value.int IntKind.i64 256)) 3), 4, some (5, true)⟩,
    ⟨some 8, (Op.pick (Operand.tmp 5) (Operand.tmp 7) (Operand.const (Value.bool false))), 4, none⟩,
    ⟨some 2, (Op.assign (Operand.tmp 8)), 4, none⟩]) .ret))⟩
theorem is_item_Byte (c : Cfg) (h : c.lendT = []) : isF PP c 97 c_item_Byte := isF_of (fn := Proofs.Try.f97) (by kernel_rfl) (by kernel_rfl) rfl h (by kernel_rfl) rfl rfl (by kernel_rfl)
def c_version_May : SF := ⟨16, [(ResultVar.tmp 2)],
  (.seq (.ops [⟨some 1, (Op.box 68 (Operand.tmp 0)), 0, none⟩,
    ⟨some 2, (Op.assign (Operand.const (Value.bool false))), 4, none⟩]) (.seq (.ops [⟨some 3, (Op.fieldAddr 68 (Operand.tmp 1) 0), 0, none⟩,
    ⟨some 4, (Op.load 3 (Operand.tmp 3)), 3, none⟩,
    ⟨some 5, (Op.binOp BinOp.geq 3 (Operand.tmp 4) (Operand.const (Value.int IntKind.i64 1)) 3), 4, none⟩,
    ⟨some 6, (Op.move (Operand.tmp 5)), 4, none⟩,
    ⟨some 7, (Op.fieldAddr 68 (Operand.tmp 1) 0), 0, some (6, true)⟩,
    ⟨some 8, (Op.load 3 (Operand.tmp 7)), 3, some (6, true)⟩,
    ⟨some 9, (Op.binOp BinOp.leq 3 (Operand.tmp 8) (Operand.const (Value.int IntKind.i64 65535)) 3), 4, some (6, true)⟩,
    ⟨some 10, (Op.pick (Operand.tmp 6) (Operand.tmp 9) (Operand.const (Value.bool false))), 4, none⟩,
    ⟨some 11, (Op.move (Operand.tmp 10)), 4, none⟩,
    ⟨some 12, (Op.fieldAddr 68 (Operand.tmp 1) 1), 0, some (11, true)⟩,
    ⟨some 13, (Op.load 3 (Operand.tmp 12)), 3, some (11, true)⟩,
    ⟨some 14, (Op.call ⟨(Callee.value (Operand.func 48)), #[(Operand.tmp 13)], #[3]⟩), 4, some (11, true)⟩,
    ⟨some 15, (Op.pick (Operand.tmp 11) (Operand.tmp 14) (Operand.const (Value.bool false))), 4, none⟩,
    ⟨some 2, (Op.assign (Operand.tmp 15)), 4, none⟩]) .ret))⟩
theorem is_version_May (c : Cfg) (h : c.lendT = []) : isF PP c 98 c_version_May := isF_of (fn := Proofs.Try.f98) (by kernel_rfl) (by kernel_rfl) rfl h (by kernel_rfl) rfl rfl (by kernel_rfl)
end Go.AM
/- AM: contracts: places, peers. -/
namespace Go.AM
set_option linter.unusedSimpArgs false
set_option linter.unusedVariables false
set_option maxRecDepth 8000
set_option maxHeartbeats 0
theorem ring_Far (a b : Int) : Den PP 78 [.int .i64 a, .int .i64 b] [] (.int .i64 (far a b)) [] := by
  refine den_of [] [] is_ring_Far ?_
  simp -implicitDefEqProofs [c_ring_Far, far]

theorem ring_Place (a : Int) : Den PP 48 [.int .i64 a] [] (.bool (place a)) [] := by
  refine den_of [] [] is_ring_Place ?_
  simp -implicitDefEqProofs [c_ring_Place]
  refine gOps_dec (fun h => ?_) (fun h => ?_) <;> simp -implicitDefEqProofs [h, place]

theorem peers_May_loop (base : Int) (ps : List Peer) (hl : ps.length ≤ cap) (Q : Ex → St → Prop) (r : Bool) (hQ1 : ∀ fr, r = true → Q .normal ⟨fr, []⟩) (hQ2 : ∀ fr bs, r = false → fr 4 = .bool false → Q .ret ⟨fr, bs⟩) :
    ∀ (rest : List Peer) (i : Nat) (fr : Nat → D) (last : Int), ps.drop i = rest → i ≤ ps.length → fr 0 = .int .i64 base → fr 5 = .int .i64 last → fr 16 = .sl (ps.map Peer.row) ps.length → fr 17 = .int .i64 ps.length → fr 18 = .int .i64 i →
      peersOk base last rest = r → sLoop (cf 0 [] []) 0 c_peers_May_L0 (blockQ 0 Q) (rest.length + 1) ⟨fr, []⟩ := by
  intro rest
  induction rest with
  | nil =>
    intro i fr last e hi h0 h5 h16 h17 h18 hm
    refine sLoop_body c_peers_May_L0.eq_1 ?_
    have hi' := drop_nil e hi
    simp -implicitDefEqProofs [h0, h5, h16, h17, h18, hi']
    exact hQ1 _ hm.symm
  | cons p rest ih =>
    intro i fr last e hi h0 h5 h16 h17 h18 hm
    refine sLoop_body c_peers_May_L0.eq_1 ?_
    obtain ⟨hlt, hget, hd, hlen⟩ := drop_cons e
    have hlt' : (i : Int) < ps.length := by omega
    simp -implicitDefEqProofs [h0, h5, h16, h17, h18, hlt', hget, Peer.row]
    refine callThen_of (ring_Place p.id) ?_
    simp -implicitDefEqProofs [h0, h5, h16, h17, h18]
    simp only [peersOk] at hm
    refine gOps_split (fun h1 => ?_) (fun h1 => ?_)
    all_goals simp -implicitDefEqProofs [h1, h0, h5, h16, h17, h18]
    rotate_left
    · exact hQ2 _ _ (by rw [← hm, h1]; rfl) (by rfl)
    refine gOps_ndec (fun h2 => ?_) (fun h2 => ?_)
    all_goals simp -implicitDefEqProofs [h2, h0, h5, h16, h17, h18]
    · exact hQ2 _ _ (by rw [← hm]; simp; intros; omega) (by rfl)
    refine gOps_ndec (fun h3 => ?_) (fun h3 => ?_)
    all_goals simp -implicitDefEqProofs [h3, h0, h5, h16, h17, h18]
    · exact hQ2 _ _ (by rw [← hm]; simp; intros; omega) (by rfl)
    refine callThen_of (ring_Far base p.id) ?_
    simp -implicitDefEqProofs [h0, h5, h16, h17, h18]
    refine condC_dec (fun h4 => ?_) (fun h4 => ?_)
    all_goals simp -implicitDefEqProofs [h4, h0, h5, h16, h17, h18]
    · exact hQ2 _ _ (by rw [← hm]; simp; intros; omega) (by rfl)
    refine callThen_of (ring_Far base p.id) ?_
    simp -implicitDefEqProofs [h0, h5, h16, h17, h18, wrap_next (show i ≤ 140737488355328 by unfold cap at hl; omega)]
    exact ih (i + 1) _ (far base p.id) hd (by omega) (by simp [h0, h5, h16, h17, h18]) (by simp) (by simp [h0, h5, h16, h17, h18]) (by simp [h0, h5, h16, h17, h18]) (by simp) (by rw [← hm, h1, decide_eq_true (show 0 ≤ p.missed by omega), decide_eq_true (show p.missed < 3 by omega), decide_eq_true (show last < far base p.id by omega)]; rfl)

theorem peers_May (base : Int) (ps : List Peer) (hl : ps.length ≤ cap) : Den PP 53 [.int .i64 base, .sl (ps.map Peer.row) ps.length] [] (.bool (peersMay base ps)) [] := by
  refine den_of [] [] is_peers_May ?_
  simp -implicitDefEqProofs [c_peers_May]
  refine callThen_of (ring_Place base) ?_
  simp -implicitDefEqProofs
  cases hp : place base
  · simp -implicitDefEqProofs [peersMay, hp]
  simp -implicitDefEqProofs
  refine condC_dec (fun h16 => ?_) (fun h16 => ?_)
  · simp -implicitDefEqProofs [peersMay, hp, h16]
    omega
  simp -implicitDefEqProofs
  refine anyLoop_of (ps.length + 1) ?_
  have hm : peersMay base ps = peersOk base 0 ps := by simp [peersMay, hp]; intro _; omega
  rw [hm]
  refine peers_May_loop base ps hl _ (peersOk base 0 ps) (fun fr h => ?_) (fun fr bs h h4 => ?_) ps 0 _ 0 rfl (Nat.zero_le _) rfl rfl rfl rfl rfl rfl
  all_goals simp -implicitDefEqProofs [h]
  simp -implicitDefEqProofs [h4]
end Go.AM
/- AM: contracts: small parts. -/
namespace Go.AM
set_option linter.unusedSimpArgs false
set_option linter.unusedVariables false
set_option maxRecDepth 8000
set_option maxHeartbeats 0
theorem law_Num (a : Int) : Den PP 21 [.int .i64 a] [] (.int .i64 a) [] := by
  refine den_of [] [] is_gimmallaw0_Num ?_
  simp -implicitDefEqProofs [c_gimmallaw0_Num]

theorem ref_PlaceMay (a : Int) : Den PP 27 [.int .i64 a] [] (.bool (place a)) [] := by
  refine den_of [] [] is_gimmalref1_PlaceMay ?_
  simp -implicitDefEqProofs [c_gimmalref1_PlaceMay]
  refine gOps_dec (fun h => ?_) (fun h => ?_) <;> simp -implicitDefEqProofs [h, place]

theorem ref_far (a b : Int) : Den PP 63 [.int .i64 a, .int .i64 b] [] (.int .i64 (far a b)) [] := by
  refine den_of [] [] is_gimmalref1_far ?_
  simp -implicitDefEqProofs [c_gimmalref1_far, far]

theorem cmp_isNaN (a : Int) : Den PP 94 [.int .i64 a] [] (.bool false) [] := by
  refine den_of [] [] is_cmp_isNaN_int ?_
  simp -implicitDefEqProofs [c_cmp_isNaN_int]

theorem cmp_Compare (a b : Int) : Den PP 87 [.int .i64 a, .int .i64 b] [] (.int .i64 (cmpI a b)) [] := by
  refine den_of [] [] is_cmp_Compare_int ?_
  simp -implicitDefEqProofs [c_cmp_Compare_int]
  refine callThen_of (cmp_isNaN a) ?_
  simp -implicitDefEqProofs
  refine callThen_of (cmp_isNaN b) ?_
  simp -implicitDefEqProofs
  refine condC_dec (fun h => ?_) (fun h => ?_) <;> simp -implicitDefEqProofs [h, cmpI]
  refine condC_dec (fun h2 => ?_) (fun h2 => ?_) <;> simp -implicitDefEqProofs [h2]

theorem row_By (a : Int) : Den PP 77 [.int .i64 a] [] (.fn 86 [] [.mem [.int .i64 a]]) [] := by
  refine den_of [] [] is_row_By ?_
  simp -implicitDefEqProofs [c_row_By, expPtr]
theorem row_By_1 (base a b : Int) : Den PP 86 [.int .i64 a, .int .i64 b, .mem [.int .i64 base]] [] (.int .i64 (cmpI (far base a) (far base b))) [] := by
  refine den_of [] [] is_row_By_1 ?_
  simp -implicitDefEqProofs [c_row_By_1]
  refine callThen_of (ring_Far base a) ?_
  simp -implicitDefEqProofs
  refine callThen_of (ring_Far base b) ?_
  simp -implicitDefEqProofs
  refine callThen_of (cmp_Compare _ _) ?_
  simp -implicitDefEqProofs

theorem peers_order_find (base : Int) (p : Peer) (id : Int) : Den PP 88 [.agg [.int .i64 base], .agg p.row, .int .i64 id] [] (.int .i64 (cmpI (far base p.id) (far base id))) [] := by
  refine den_of [] [] is_peers_order_find ?_
  simp -implicitDefEqProofs [c_peers_order_find, Peer.row]
  refine callThen_of (ring_Far base p.id) ?_
  simp -implicitDefEqProofs
  refine callThen_of (ring_Far base id) ?_
  simp -implicitDefEqProofs
  refine callThen_of (cmp_Compare _ _) ?_
  simp -implicitDefEqProofs

theorem view_Succ_1 (x : Int) (xs : List Int) : Den PP 46 [intsD (x :: xs)] [] (.int .i64 x) [] := by
  refine den_of [] [] is_view_Succ_1 ?_
  simp -implicitDefEqProofs [c_view_Succ_1, intsD, irow]
theorem view_Pred_1 (x : Int) (xs : List Int) (hl : xs.length < cap) : Den PP 47 [intsD (xs ++ [x])] [] (.int .i64 x) [] := by
  refine den_of [] [] is_view_Pred_1 ?_
  have h1 : IntKind.wrap .i64 (xs.length : Int) = xs.length := by unfold cap at hl; rw [wrap_in (by omega) (by omega)]
  have h2 : (List.map irow xs ++ [[D.int IntKind.i64 x]])[xs.length]? = some [D.int IntKind.i64 x] := by simp
  have h3 : (xs.length : Int) < xs.length + 1 := by omega
  simp -implicitDefEqProofs [c_view_Pred_1, intsD, irow, h1, h2, h3]
end Go.AM
/- AM: contracts: loops over places. -/
namespace Go.AM
set_option linter.unusedSimpArgs false
set_option linter.unusedVariables false
set_option maxRecDepth 8000
set_option maxHeartbeats 0
theorem ring_Places (xs : List Int) (hl : xs.length ≤ cap) : Den PP 85 [intsD xs] [] (.bool (xs.all place)) [] := by
  refine den_of [] [] is_ring_Places ?_
  simp -implicitDefEqProofs [c_ring_Places, intsD]
  refine anyLoop_of (xs.length + 1) ?_
  have key : ∀ (Q : Ex → St → Prop) (r : Bool) (hQ1 : ∀ fr, r = true → Q .normal ⟨fr, []⟩) (hQ2 : ∀ fr bs, r = false → fr 2 = .bool false → Q .ret ⟨fr, bs⟩) (rest : List Int) (i : Nat) (fr : Nat → D), xs.drop i = rest → i ≤ xs.length →
      fr 0 = intsD xs → fr 5 = intsD xs → fr 6 = .int .i64 xs.length → fr 7 = .int .i64 i → rest.all place = r → sLoop (cf 0 [] []) 0 c_ring_Places_L0 (blockQ 0 Q) (rest.length + 1) ⟨fr, []⟩ := by
    intro Q r hQ1 hQ2 rest
    induction rest with
    | nil =>
      intro i fr e hi h0 h5 h6 h7 hm
      refine sLoop_body c_ring_Places_L0.eq_1 ?_
      have hi' := drop_nil e hi
      simp -implicitDefEqProofs [h0, h5, h6, h7, hi']
      exact hQ1 _ hm.symm
    | cons x rest ih =>
      intro i fr e hi h0 h5 h6 h7 hm
      refine sLoop_body c_ring_Places_L0.eq_1 ?_
      obtain ⟨hlt, hget, hd, hlen⟩ := drop_cons e
      have hlt' : (i : Int) < xs.length := by omega
      simp -implicitDefEqProofs [h0, h5, h6, h7, hlt', hget, intsD, irow]
      refine callThen_of (ring_Place x) ?_
      simp -implicitDefEqProofs
      refine condC_not (fun h1 => ?_) (fun h1 => ?_)
      all_goals simp -implicitDefEqProofs [h1, h0, h5, h6, h7, wrap_next (show i ≤ 140737488355328 by unfold cap at hl; omega)]
      · exact ih (i + 1) _ hd (by omega) (by simp [h0, h5, h6, h7, intsD]) (by simp [h0, h5, h6, h7, intsD]) (by simp [h0, h5, h6, h7]) (by simp) (by rw [← hm]; simp [h1])
      · exact hQ2 _ _ (by rw [← hm]; simp [h1]) (by rfl)
  refine key _ (xs.all place) (fun fr h => ?_) (fun fr bs h h2 => ?_) xs 0 _ rfl (Nat.zero_le _) rfl rfl rfl rfl rfl
  · simp -implicitDefEqProofs [h]
  · simp -implicitDefEqProofs [h, h2]

theorem ref_placesMay (xs : List Int) (hl : xs.length ≤ cap) : Den PP 69 [intsD xs] [] (.bool (xs.all place)) [] := by
  refine den_of [] [] is_gimmalref1_placesMay ?_
  simp -implicitDefEqProofs [c_gimmalref1_placesMay, intsD]
  refine anyLoop_of (xs.length + 1) ?_
  have key : ∀ (Q : Ex → St → Prop) (r : Bool) (hQ1 : ∀ fr, r = true → Q .normal ⟨fr, []⟩) (hQ2 : ∀ fr bs, r = false → fr 2 = .bool false → Q .ret ⟨fr, bs⟩) (rest : List Int) (i : Nat) (fr : Nat → D), xs.drop i = rest → i ≤ xs.length →
      fr 0 = .sl (xs.map irow) xs.length → fr 3 = .int .i64 i → rest.all place = r → sLoop (cf 0 [] []) 0 c_gimmalref1_placesMay_L0 (blockQ 0 Q) (rest.length + 1) ⟨fr, []⟩ := by
    intro Q r hQ1 hQ2 rest
    induction rest with
    | nil =>
      intro i fr e hi h0 h3 hm
      refine sLoop_body c_gimmalref1_placesMay_L0.eq_1 ?_
      have hi' := drop_nil e hi
      simp -implicitDefEqProofs [h0, h3, hi']
      exact hQ1 _ hm.symm
    | cons x rest ih =>
      intro i fr e hi h0 h3 hm
      refine sLoop_body c_gimmalref1_placesMay_L0.eq_1 ?_
      obtain ⟨hlt, hget, hd, hlen⟩ := drop_cons e
      have hlt' : (i : Int) < xs.length := by omega
      simp -implicitDefEqProofs [h0, h3, hlt', hget, irow]
      refine callThen_of (ref_PlaceMay x) ?_
      simp -implicitDefEqProofs
      refine condC_not (fun h1 => ?_) (fun h1 => ?_)
      all_goals simp -implicitDefEqProofs [h1, h0, h3, wrap_next (show i ≤ 140737488355328 by unfold cap at hl; omega)]
      · exact ih (i + 1) _ hd (by omega) (by simp [h0, h3, intsD]) (by simp) (by rw [← hm]; simp [h1])
      · exact hQ2 _ _ (by rw [← hm]; simp [h1]) (by rfl)
  refine key _ (xs.all place) (fun fr h => ?_) (fun fr bs h h2 => ?_) xs 0 _ rfl (Nat.zero_le _) rfl rfl rfl
  · simp -implicitDefEqProofs [h]
  · simp -implicitDefEqProofs [h, h2]

theorem passive_May (xs : List Int) (hl : xs.length ≤ cap) : Den PP 54 [intsD xs] [] (.bool (passiveMay xs)) [] := by
  refine den_of [] [] is_passive_May ?_
  simp -implicitDefEqProofs [c_passive_May, intsD]
  refine anyLoop_of (xs.length + 1) ?_
  have key : ∀ (Q : Ex → St → Prop) (r : Bool) (hQ1 : ∀ fr, r = true → fr 0 = .sl (xs.map irow) xs.length → Q .normal ⟨fr, []⟩) (hQ2 : ∀ fr bs, r = false → fr 2 = .bool false → Q .ret ⟨fr, bs⟩) (rest : List Int) (i : Nat) (fr : Nat → D), xs.drop i = rest → i ≤ xs.length →
      fr 0 = .sl (xs.map irow) xs.length → fr 5 = .sl (xs.map irow) xs.length → fr 6 = .int .i64 xs.length → fr 7 = .int .i64 i → ups (if i = 0 then none else xs[i - 1]?) rest = r → sLoop (cf 0 [] []) 0 c_passive_May_L0 (blockQ 0 Q) (rest.length + 1) ⟨fr, []⟩ := by
    intro Q r hQ1 hQ2 rest
    induction rest with
    | nil =>
      intro i fr e hi h0 h5 h6 h7 hm
      refine sLoop_body c_passive_May_L0.eq_1 ?_
      have hi' := drop_nil e hi
      simp -implicitDefEqProofs [h0, h5, h6, h7, hi']
      exact hQ1 _ hm.symm (by simp [h0, h5, h6, h7])
    | cons x rest ih =>
      intro i fr e hi h0 h5 h6 h7 hm
      refine sLoop_body c_passive_May_L0.eq_1 ?_
      obtain ⟨hlt, hget, hd, hlen⟩ := drop_cons e
      have hlt' : (i : Int) < xs.length := by omega
      have hw := wrap_next (show i ≤ 140737488355328 by unfold cap at hl; omega)
      have hprev : (if i + 1 = 0 then none else xs[i + 1 - 1]?) = some x := by simp [hget]
      simp only [ups] at hm
      simp -implicitDefEqProofs [h0, h5, h6, h7, hlt', hget, irow]
      refine callThen_of (ring_Place x) ?_
      simp -implicitDefEqProofs [h0, h5, h6, h7]
      refine gOps_split (fun h1 => ?_) (fun h1 => ?_)
      rotate_left
      · simp -implicitDefEqProofs [h1, h0, h5, h6, h7]
        exact hQ2 _ _ (by rw [← hm]; simp [h1]) (by rfl)
      simp -implicitDefEqProofs [h1, h0, h5, h6, h7]
      by_cases hi0 : i = 0
      · simp -implicitDefEqProofs [hi0, h0, h5, h6, h7]
        simp -implicitDefEqProofs [hi0] at hw
        simp -implicitDefEqProofs [hw]
        refine ih 1 _ (by rw [← hd, hi0]) (by omega) (by simp [h0, h5, h6, h7]) (by simp [h0, h5, h6, h7]) (by simp [h0, h5, h6, h7]) (by simp) ?_
        rw [hi0] at hprev hm
        rw [← hm]
        simp [h1] at hprev ⊢
        rw [hprev]
      · have hpos : 0 < i := by omega
        have hwp : IntKind.wrap .i64 ((i : Int) - 1) = ((i - 1 : Nat) : Int) := by unfold cap at hl; rw [wrap_in (by omega) (by omega)]; omega
        have hlt2 : ((i - 1 : Nat) : Int) < xs.length := by omega
        obtain ⟨y, hy⟩ : ∃ y, xs[i - 1]? = some y := ⟨xs[i - 1], by simp⟩
        rw [if_neg hi0, hy] at hm
        simp -implicitDefEqProofs [hpos, h0, h5, h6, h7, hwp, hlt2, hy, irow]
        refine condC_dec (fun h2 => ?_) (fun h2 => ?_)
        all_goals simp -implicitDefEqProofs [h2, h0, h5, h6, h7, hw]
        · exact hQ2 _ _ (by rw [← hm]; simp; intros; omega) (by rfl)
        · refine ih (i + 1) _ hd (by omega) (by simp [h0, h5, h6, h7]) (by simp [h0, h5, h6, h7]) (by simp [h0, h5, h6, h7]) (by simp) ?_
          rw [hprev, ← hm, h1]
          simp [show y < x by omega]
  refine key _ (ups none xs) (fun fr h h0 => ?_) (fun fr bs h h2 => ?_) xs 0 _ rfl (Nat.zero_le _) rfl rfl rfl rfl rfl
  · simp -implicitDefEqProofs [h, h0, passiveMay]
    omega
  · simp -implicitDefEqProofs [h, h2, passiveMay]

/-- A function that answers a Bool to a number. -/
def TellsI (f : Nat) (caps : List D) (p : Int → Bool) (xs : List Int) : Prop := (∀ bs, caps.map (D.freeze bs) = caps) ∧ (∀ fr fp, mapRL fr fp caps = caps) ∧ ∀ x ∈ xs, Den PP f (.int .i64 x :: caps) [] (.bool (p x)) []
theorem slices_IndexFunc_int (xs : List Int) (hl : xs.length ≤ cap) (f : Nat) (caps : List D) (p : Int → Bool) (hp : TellsI f caps p xs) : Den PP 80 [intsD xs, .fn f [] caps] [] (.int .i64 (fIdx p 0 xs)) [] := by
  refine den_of [] [] is_slices_IndexFunc_int_int ?_
  simp -implicitDefEqProofs [c_slices_IndexFunc_int_int, intsD]
  refine anyLoop_of (xs.length + 1) ?_
  have key : ∀ (Q : Ex → St → Prop) (r : Int) (hQ1 : ∀ fr, r = -1 → Q .normal ⟨fr, []⟩) (hQ2 : ∀ fr bs, fr 4 = .int .i64 r → Q .ret ⟨fr, bs⟩) (rest : List Int) (i : Nat) (fr : Nat → D), xs.drop i = rest → i ≤ xs.length →
      fr 0 = .sl (xs.map irow) xs.length → fr 1 = .fn f [] caps → fr 7 = .int .i64 xs.length → fr 8 = .int .i64 i → fIdx p i rest = r → sLoop (cf 0 [] []) 0 c_slices_IndexFunc_int_int_L0 (blockQ 0 Q) (rest.length + 1) ⟨fr, []⟩ := by
    intro Q r hQ1 hQ2 rest
    induction rest with
    | nil =>
      intro i fr e hi h0 h1 h7 h8 hm
      refine sLoop_body c_slices_IndexFunc_int_int_L0.eq_1 ?_
      have hi' := drop_nil e hi
      simp -implicitDefEqProofs [h0, h1, h7, h8, hi']
      exact hQ1 _ hm.symm
    | cons x rest ih =>
      intro i fr e hi h0 h1 h7 h8 hm
      refine sLoop_body c_slices_IndexFunc_int_int_L0.eq_1 ?_
      obtain ⟨hlt, hget, hd, hlen⟩ := drop_cons e
      have hlt' : (i : Int) < xs.length := by omega
      have hw := wrap_next (show i ≤ 140737488355328 by unfold cap at hl; omega)
      simp -implicitDefEqProofs [h0, h1, h7, h8, hlt', hget, irow, hp.1]
      refine callThen_of (hp.2.2 x (List.mem_of_getElem? hget)) ?_
      simp only [fIdx] at hm
      simp -implicitDefEqProofs
      refine condC_split (fun h2 => ?_) (fun h2 => ?_)
      all_goals simp -implicitDefEqProofs [h2, h0, h1, h7, h8, hw]
      · exact hQ2 _ _ (by rw [← hm, h2]; simp)
      · exact ih (i + 1) _ hd (by omega) (by simp [h0, h1, h7, h8]) (by simp [h0, h1, h7, h8, hp.2.1]) (by simp [h0, h1, h7, h8]) (by simp) (by rw [← hm, h2]; simp)
  refine key _ (fIdx p 0 xs) (fun fr h => ?_) (fun fr bs h => ?_) xs 0 _ rfl (Nat.zero_le _) rfl rfl rfl rfl rfl
  · simp -implicitDefEqProofs [h]
  · simp -implicitDefEqProofs [h]

theorem slices_ContainsFunc_int (xs : List Int) (hl : xs.length ≤ cap) (f : Nat) (caps : List D) (p : Int → Bool) (hp : TellsI f caps p xs) : Den PP 57 [intsD xs, .fn f [] caps] [] (.bool (xs.any p)) [] := by
  refine den_of [] [] is_slices_ContainsFunc_int_int ?_
  simp -implicitDefEqProofs [c_slices_ContainsFunc_int_int, intsD, hp.2.1]
  refine callThen_of (slices_IndexFunc_int xs hl f caps p hp) ?_
  have := fIdx_any p xs 0
  simp -implicitDefEqProofs [← this]

/-- Below at: less; from at on: not. -/
theorem bsearch_Peer (base : Int) (ps : List Peer) (id : Int) (hl : ps.length ≤ cap) (at_ : Nat) (hat : at_ ≤ ps.length)
    (hlo : ∀ i p, i < at_ → ps[i]? = some p → far base p.id < far base id) (hhi : ∀ i p, at_ ≤ i → ps[i]? = some p → far base id ≤ far base p.id) :
    Den PP 89 [peersD ps, .int .i64 id, .fn 88 [.agg [.int .i64 base]] []] [] (.tup [.int .i64 at_, .bool (isFar base id ps[at_]?)]) [] := by
  refine den_of [] [] is_slices_BinarySearchFunc_api_Peer_api_Peer_int ?_
  simp -implicitDefEqProofs [c_slices_BinarySearchFunc_api_Peer_api_Peer_int, peersD]
  refine anyLoop_of (ps.length + 1) ?_
  have key : ∀ (Q : Ex → St → Prop) (hQ1 : ∀ fr, fr 0 = .sl (ps.map Peer.row) ps.length → fr 1 = .int .i64 id → fr 2 = .fn 88 [.agg [.int .i64 base]] [] → fr 8 = .int .i64 ps.length → fr 9 = .int .i64 at_ → Q .normal ⟨fr, []⟩) (d lo hi : Nat) (fr : Nat → D), hi - lo ≤ d → lo ≤ at_ → at_ ≤ hi → hi ≤ ps.length →
      fr 0 = .sl (ps.map Peer.row) ps.length → fr 1 = .int .i64 id → fr 2 = .fn 88 [.agg [.int .i64 base]] [] → fr 8 = .int .i64 ps.length → fr 9 = .int .i64 lo → fr 10 = .int .i64 hi → sLoop (cf 0 [] []) 0 c_slices_BinarySearchFunc_api_Peer_api_Peer_int_L0 (blockQ 0 Q) (d + 1) ⟨fr, []⟩ := by
    intro Q hQ1 d
    induction d with
    | zero =>
      intro lo hi fr hd h3 h4 h5 h0 h1 h2 h8 h9 h10
      refine sLoop_body c_slices_BinarySearchFunc_api_Peer_api_Peer_int_L0.eq_1 ?_
      have e1 : lo = at_ := by omega
      have e2 : hi = at_ := by omega
      simp -implicitDefEqProofs [h0, h1, h2, h8, h9, h10, e1, e2]
      exact hQ1 _ (by simp [h0, h1, h2, h8, h9, h10]) (by simp [h0, h1, h2, h8, h9, h10]) (by simp [h0, h1, h2, h8, h9, h10]) (by simp [h0, h1, h2, h8, h9, h10]) (by simp [h0, h1, h2, h8, h9, h10, e1])
    | succ d ih =>
      intro lo hi fr hd h3 h4 h5 h0 h1 h2 h8 h9 h10
      refine sLoop_body c_slices_BinarySearchFunc_api_Peer_api_Peer_int_L0.eq_1 ?_
      by_cases hlt : lo < hi
      · have hlt' : (lo : Int) < hi := by omega
        have hm := mid_eq (lo := lo) (hi := hi) (by omega) (by omega)
        have hml : (lo + hi) / 2 < ps.length := by omega
        have hml' : (((lo + hi) / 2 : Nat) : Int) < ps.length := by omega
        have hw := wrap_next (n := (lo + hi) / 2) (by unfold cap at hl; omega)
        have hb1 : lo ≤ (lo + hi) / 2 := by omega
        have hb2 : (lo + hi) / 2 < hi := by omega
        generalize (lo + hi) / 2 = mid at *
        simp -implicitDefEqProofs [h0, h1, h2, h8, h9, h10, hlt', hlt, hm, hml, hml', Peer.row]
        refine callThen_of (peers_order_find base ps[mid] id) ?_
        simp -implicitDefEqProofs [cmpI_neg]
        refine condC_dec (fun hc => ?_) (fun hc => ?_)
        all_goals simp -implicitDefEqProofs [h0, h1, h2, h8, h9, h10, hc, hw]
        · have : mid < at_ := by
            apply Classical.byContradiction
            intro hx
            have := hhi mid ps[mid] (by omega) (by simp)
            omega
          refine ih (mid + 1) hi _ (by omega) (by omega) (by omega) (by omega) (by simp [h0, h1, h2, h8, h9, h10]) (by simp [h0, h1, h2, h8, h9, h10]) (by simp [h0, h1, h2, h8, h9, h10]) (by simp [h0, h1, h2, h8, h9, h10]) (by simp) (by simp [h0, h1, h2, h8, h9, h10])
        · have : at_ ≤ mid := by
            apply Classical.byContradiction
            intro hx
            have := hlo mid ps[mid] (by omega) (by simp)
            omega
          refine ih lo mid _ (by omega) (by omega) (by omega) (by omega) (by simp [h0, h1, h2, h8, h9, h10]) (by simp [h0, h1, h2, h8, h9, h10]) (by simp [h0, h1, h2, h8, h9, h10]) (by simp [h0, h1, h2, h8, h9, h10]) (by simp [h0, h1, h2, h8, h9, h10]) (by simp)
      · have e1 : lo = at_ := by omega
        have e2 : hi = at_ := by omega
        simp -implicitDefEqProofs [h0, h1, h2, h8, h9, h10, e1, e2]
        exact hQ1 _ (by simp [h0, h1, h2, h8, h9, h10]) (by simp [h0, h1, h2, h8, h9, h10]) (by simp [h0, h1, h2, h8, h9, h10]) (by simp [h0, h1, h2, h8, h9, h10]) (by simp [h0, h1, h2, h8, h9, h10, e1])
  refine key _ (fun fr h0 h1 h2 h8 h9 => ?_) ps.length 0 ps.length _ (by omega) (by omega) hat (Nat.le_refl _) rfl rfl rfl rfl rfl rfl
  simp -implicitDefEqProofs [h0, h1, h2, h8, h9]
  refine gOps_dec (fun hc => ?_) (fun hc => ?_)
  · simp -implicitDefEqProofs [h0, h1, h2, h8, h9, hc, Peer.row]
    refine callThen_of (peers_order_find base ps[at_] id) ?_
    simp -implicitDefEqProofs [cmpI_beq, cmpI_zero, hc, isFar]
  · have hp : ps[at_]? = none := by rw [List.getElem?_eq_none]; omega
    simp -implicitDefEqProofs [h0, h1, h2, h8, h9, hc, hp, isFar]

theorem peers_Find (base : Int) (ps : List Peer) (id : Int) (hl : ps.length ≤ cap) (hr : Rowed base ps) :
    Den PP 79 [.int .i64 base, peersD ps, .int .i64 id] [] (.tup [.int .i64 (findAt base ps id), .bool (peerIs base ps id)]) [] := by
  refine den_of [] [] is_peers_Find ?_
  simp -implicitDefEqProofs [c_peers_Find, peersD]
  refine callThen_of (bsearch_Peer base ps id hl (findAt base ps id) (findAt_le _ _ _) findAt_lo (findAt_hi hr)) ?_
  simp -implicitDefEqProofs [peerIs]

theorem view_Peer (v : View) (id : Int) (hl : v.peers.length ≤ cap) (hr : Rowed v.id v.peers) : Den PP 56 [.mem v.cells, .int .i64 id] [] (.bool (peerIs v.id v.peers id)) [] := by
  refine den_of [] [] is_view_Peer ?_
  simp -implicitDefEqProofs [c_view_Peer, View.cells, peersD]
  refine callThen_of (peers_Find v.id v.peers id hl hr) ?_
  simp -implicitDefEqProofs

theorem view_May_1 (v : View) (id : Int) (hl : v.peers.length ≤ cap) (hr : Rowed v.id v.peers) : Den PP 55 [.int .i64 id, .mem v.cells] [] (.bool (oddIn v id)) [] := by
  refine den_of [] [] is_view_May_1 ?_
  simp -implicitDefEqProofs [c_view_May_1, View.cells, peersD]
  refine gOps_not (fun h => ?_) (fun h => ?_) <;> simp -implicitDefEqProofs [h, oddIn]
  refine callThen_of (view_Peer v id hl hr) ?_
  simp -implicitDefEqProofs

theorem view_May (v : View) (hs : v.small) : Den PP 22 [viewD v] [] (.bool (viewMay v)) [] := by
  refine den_of [] [] is_view_May ?_
  simp -implicitDefEqProofs [c_view_May, viewD, View.cells, peersD, intsD]
  refine callThen_of (peers_May v.id v.peers (cap_of hs.1)) ?_
  simp -implicitDefEqProofs
  refine gOps_split (fun h1 => ?_) (fun h1 => ?_)
  rotate_left
  · simp -implicitDefEqProofs [h1, viewMay]
  simp -implicitDefEqProofs [h1]
  refine callThen_of (passive_May v.passive hs.2) ?_
  simp -implicitDefEqProofs
  refine gOps_split (fun h2 => ?_) (fun h2 => ?_)
  rotate_left
  · simp -implicitDefEqProofs [h2, h1, viewMay]
  have hw : IntKind.wrap .i64 ((v.peers.length : Int) + v.passive.length) = v.peers.length + v.passive.length := by
    obtain ⟨a, b⟩ := hs
    unfold cap16 at a
    unfold cap at b
    exact wrap_in (by omega) (by omega)
  simp -implicitDefEqProofs [h2, hw]
  refine condC_dec (fun h3 => ?_) (fun h3 => ?_)
  · simp -implicitDefEqProofs [h3, viewMay]
    intros
    omega
  simp -implicitDefEqProofs [h3]
  refine callThen_of (slices_ContainsFunc_int v.passive hs.2 _ _ (oddIn v) ⟨fun bs => rfl, fun fr fp => rfl, fun x _ => view_May_1 v x (cap_of hs.1) (peersMay_rowed h1)⟩) ?_
  simp -implicitDefEqProofs [viewMay, h1, h2]
  intros
  omega
end Go.AM
/- AM: contracts: a view's ends. -/
namespace Go.AM
set_option linter.unusedSimpArgs false
set_option linter.unusedVariables false
set_option maxRecDepth 8000
set_option maxHeartbeats 0
theorem view_Ids (v : View) (hl : v.peers.length ≤ cap16) : Den PP 50 [.mem v.cells] [] (.ref 0 0 v.peers.length) [⟨v.peers.map fun p => irow p.id, 1, .mut⟩] := by
  refine den_of [] [] is_view_Ids ?_
  simp -implicitDefEqProofs [c_view_Ids, View.cells, peersD]
  refine anyLoop_of (v.peers.length + 1) ?_
  have key : ∀ (Q : Ex → St → Prop) (hQ1 : ∀ fr, fr 3 = .ref 1 0 v.peers.length → Q .normal ⟨fr, [⟨[], 1, .mut⟩, ⟨v.peers.map fun p => irow p.id, 1, .mut⟩]⟩) (rest : List Peer) (i : Nat) (fr : Nat → D), v.peers.drop i = rest → i ≤ v.peers.length →
      fr 3 = .ref 1 0 i → fr 9 = .sl (v.peers.map Peer.row) v.peers.length → fr 10 = .int .i64 v.peers.length → fr 11 = .int .i64 i → sLoop (cf 0 [] []) 2 c_view_Ids_L0 (blockQ 0 Q) (rest.length + 1) ⟨fr, [⟨[], 1, .mut⟩, ⟨(v.peers.map fun p => irow p.id).take i, 1, .mut⟩]⟩ := by
    intro Q hQ1 rest
    induction rest with
    | nil =>
      intro i fr e hi h3 h9 h10 h11
      refine sLoop_body c_view_Ids_L0.eq_1 ?_
      have hi' := drop_nil e hi
      have hall : (v.peers.map fun p => irow p.id).take v.peers.length = v.peers.map fun p => irow p.id := List.take_of_length_le (by simp)
      simp -implicitDefEqProofs [h3, h9, h10, h11, hi', hall]
      exact hQ1 _ (by simp [h3, h9, h10, h11, hi'])
    | cons p rest ih =>
      intro i fr e hi h3 h9 h10 h11
      refine sLoop_body c_view_Ids_L0.eq_1 ?_
      obtain ⟨hlt, hget, hd, hlen⟩ := drop_cons e
      have hlt' : (i : Int) < v.peers.length := by omega
      have hw := wrap_next (n := i) (by unfold cap16 at hl; omega)
      have hb1 : (i + 1) * 8 ≤ 140737488355328 := by unfold cap16 at hl; omega
      have hb2 : i ≤ 9223372036854775806 := by unfold cap16 at hl; omega
      have hmin : min i v.peers.length = i := Nat.min_eq_left hi
      have htk : (v.peers.map fun p => irow p.id).take (i + 1) = (v.peers.map fun p => irow p.id).take i ++ [[.int .i64 p.id]] := by
        rw [List.take_add_one, List.getElem?_map, hget]
        rfl
      have := ih (i + 1)
      rw [htk] at this
      simp -implicitDefEqProofs [h3, h9, h10, h11, hlt', hget, Peer.row, hw, hb1, hb2, hmin, Fits]
      exact this _ hd (by omega) (by simp [h3, h9, h10, h11]) (by simp [h3, h9, h10, h11]) (by simp [h3, h9, h10, h11]) (by simp)
  refine key _ (fun fr h3 => ?_) v.peers 0 _ rfl (Nat.zero_le _) rfl rfl rfl rfl
  simp -implicitDefEqProofs [h3]

theorem ref_Names (ps : List Peer) (hl : ps.length ≤ cap16) : Den PP 51 [peersD ps] [] (.ref 0 0 ps.length) [⟨ps.map fun p => irow p.id, 1, .mut⟩] := by
  refine den_of [] [] is_gimmalref1_Names ?_
  simp -implicitDefEqProofs [c_gimmalref1_Names, peersD]
  refine anyLoop_of (ps.length + 1) ?_
  have key : ∀ (Q : Ex → St → Prop) (hQ1 : ∀ fr, fr 3 = .ref 1 0 ps.length → Q .normal ⟨fr, [⟨[], 1, .mut⟩, ⟨ps.map fun p => irow p.id, 1, .mut⟩]⟩) (rest : List Peer) (i : Nat) (fr : Nat → D), ps.drop i = rest → i ≤ ps.length →
      fr 3 = .ref 1 0 i → fr 0 = .sl (ps.map Peer.row) ps.length → fr 4 = .int .i64 i → sLoop (cf 0 [] []) 2 c_gimmalref1_Names_L0 (blockQ 0 Q) (rest.length + 1) ⟨fr, [⟨[], 1, .mut⟩, ⟨(ps.map fun p => irow p.id).take i, 1, .mut⟩]⟩ := by
    intro Q hQ1 rest
    induction rest with
    | nil =>
      intro i fr e hi h3 h0 h4
      refine sLoop_body c_gimmalref1_Names_L0.eq_1 ?_
      have hi' := drop_nil e hi
      have hall : (ps.map fun p => irow p.id).take ps.length = ps.map fun p => irow p.id := List.take_of_length_le (by simp)
      simp -implicitDefEqProofs [h0, h3, h4, hi', hall]
      exact hQ1 _ (by simp [h0, h3, h4, hi'])
    | cons p rest ih =>
      intro i fr e hi h3 h0 h4
      refine sLoop_body c_gimmalref1_Names_L0.eq_1 ?_
      obtain ⟨hlt, hget, hd, hlen⟩ := drop_cons e
      have hlt' : (i : Int) < ps.length := by omega
      have hw := wrap_next (n := i) (by unfold cap16 at hl; omega)
      have hb1 : (i + 1) * 8 ≤ 140737488355328 := by unfold cap16 at hl; omega
      have hb2 : i ≤ 9223372036854775806 := by unfold cap16 at hl; omega
      have hmin : min i ps.length = i := Nat.min_eq_left hi
      have htk : (ps.map fun p => irow p.id).take (i + 1) = (ps.map fun p => irow p.id).take i ++ [[.int .i64 p.id]] := by
        rw [List.take_add_one, List.getElem?_map, hget]
        rfl
      have := ih (i + 1)
      rw [htk] at this
      simp -implicitDefEqProofs [h0, h3, h4, hlt', hget, Peer.row, hw, hb1, hb2, hmin, Fits]
      exact this _ hd (by omega) (by simp [h0, h3, h4]) (by simp [h0, h3, h4]) (by simp)
  refine key _ (fun fr h3 => ?_) ps 0 _ rfl (Nat.zero_le _) rfl rfl rfl
  simp -implicitDefEqProofs [h3]

theorem ref_has (xs : List Int) (x : Int) (hl : xs.length ≤ cap) : Den PP 58 [intsD xs, .int .i64 x] [] (.bool (xs.contains x)) [] := by
  refine den_of [] [] is_gimmalref1_has ?_
  simp -implicitDefEqProofs [c_gimmalref1_has, intsD]
  refine anyLoop_of (xs.length + 1) ?_
  have key : ∀ (Q : Ex → St → Prop) (r : Bool) (hQ1 : ∀ fr, r = false → Q .normal ⟨fr, []⟩) (hQ2 : ∀ fr bs, r = true → fr 4 = .bool true → Q .ret ⟨fr, bs⟩) (rest : List Int) (i : Nat) (fr : Nat → D), xs.drop i = rest → i ≤ xs.length →
      fr 0 = .sl (xs.map irow) xs.length → fr 1 = .int .i64 x → fr 5 = .int .i64 i → rest.contains x = r → sLoop (cf 0 [] []) 0 c_gimmalref1_has_L0 (blockQ 0 Q) (rest.length + 1) ⟨fr, []⟩ := by
    intro Q r hQ1 hQ2 rest
    induction rest with
    | nil =>
      intro i fr e hi h0 h1 h5 hm
      refine sLoop_body c_gimmalref1_has_L0.eq_1 ?_
      have hi' := drop_nil e hi
      simp -implicitDefEqProofs [h0, h1, h5, hi']
      exact hQ1 _ hm.symm
    | cons y rest ih =>
      intro i fr e hi h0 h1 h5 hm
      refine sLoop_body c_gimmalref1_has_L0.eq_1 ?_
      obtain ⟨hlt, hget, hd, hlen⟩ := drop_cons e
      have hlt' : (i : Int) < xs.length := by omega
      have hw := wrap_next (n := i) (by unfold cap at hl; omega)
      simp -implicitDefEqProofs [h0, h1, h5, hlt', hget, irow]
      refine condC_split (fun h2 => ?_) (fun h2 => ?_)
      all_goals simp -implicitDefEqProofs [h2, h0, h1, h5, hw]
      · exact hQ2 _ _ (by rw [← hm]; simp at h2; simp [h2]) (by rfl)
      · exact ih (i + 1) _ hd (by omega) (by simp [h0, h1, h5]) (by simp [h0, h1, h5]) (by simp) (by rw [← hm]; simp at h2; simp [Ne.symm h2])
  refine key _ (xs.contains x) (fun fr h => ?_) (fun fr bs h h2 => ?_) xs 0 _ rfl (Nat.zero_le _) rfl rfl rfl rfl
  · simp -implicitDefEqProofs [h]
    simpa using h
  · simp -implicitDefEqProofs [h, h2]
    simpa using h
end Go.AM
/- AM: contracts: a view's ends, a key's owner. -/
namespace Go.AM
set_option linter.unusedSimpArgs false
set_option linter.unusedVariables false
set_option maxRecDepth 8000
set_option maxHeartbeats 0
theorem view_end_Succ (v : View) (hs : v.small) : Den PP 45 [viewD v, .fn 46 [] []] [] (pairD (succV v)) [] := by
  refine den_of [] [] is_view_end ?_
  simp -implicitDefEqProofs [c_view_end, viewD, View.cells, peersD, intsD]
  refine callThen_of (view_May v hs) ?_
  simp -implicitDefEqProofs
  refine condC_not (fun h => ?_) (fun h => ?_)
  rotate_left
  · simp -implicitDefEqProofs [h, succV, pairD]
  simp -implicitDefEqProofs [h]
  refine condC_split (fun h2 => ?_) (fun h2 => ?_)
  · have h3 : v.peers = [] := by simpa using h2
    simp -implicitDefEqProofs [h, h2, h3, succV, pairD]
  simp -implicitDefEqProofs [h2]
  refine callThen_of (view_Ids v hs.1) ?_
  cases hp : v.peers with
  | nil => rw [hp] at h2; simp at h2
  | cons p ps =>
    have hc := view_Succ_1 p.id (ps.map Peer.id)
    simp [intsD] at hc
    simp -implicitDefEqProofs [downTo]
    refine callThen_of hc ?_
    simp -implicitDefEqProofs [h, hp, succV, pairD]

theorem view_end_Pred (v : View) (hs : v.small) : Den PP 45 [viewD v, .fn 47 [] []] [] (pairD (predV v)) [] := by
  refine den_of [] [] is_view_end ?_
  simp -implicitDefEqProofs [c_view_end, viewD, View.cells, peersD, intsD]
  refine callThen_of (view_May v hs) ?_
  simp -implicitDefEqProofs
  refine condC_not (fun h => ?_) (fun h => ?_)
  rotate_left
  · simp -implicitDefEqProofs [h, predV, pairD]
  simp -implicitDefEqProofs [h]
  refine condC_split (fun h2 => ?_) (fun h2 => ?_)
  · have h3 : v.peers = [] := by simpa using h2
    simp -implicitDefEqProofs [h, h2, h3, predV, pairD]
  simp -implicitDefEqProofs [h2]
  refine callThen_of (view_Ids v hs.1) ?_
  rcases List.eq_nil_or_concat v.peers with hp | ⟨ps, p, hp⟩
  · rw [hp] at h2; simp at h2
  · have hl : ps.length < cap := by
      have := hs.1
      rw [hp] at this
      unfold cap16 at this
      unfold cap
      simp at this
      omega
    have hc := view_Pred_1 p.id (ps.map Peer.id) (by simpa using hl)
    simp [intsD] at hc
    rw [hp]
    simp -implicitDefEqProofs [downTo]
    refine callThen_of hc ?_
    simp -implicitDefEqProofs [h, hp, predV, pairD]
theorem view_Succ (v : View) (hs : v.small) : Den PP 15 [viewD v] [] (pairD (succV v)) [] := by
  have hc := view_end_Succ v hs
  simp [viewD, View.cells, peersD, intsD, pairD] at hc
  refine den_of [] [] is_view_Succ ?_
  simp -implicitDefEqProofs [c_view_Succ, viewD, View.cells, peersD, intsD, pairD]
  refine callThen_of hc ?_
  simp -implicitDefEqProofs
theorem view_Pred (v : View) (hs : v.small) : Den PP 17 [viewD v] [] (pairD (predV v)) [] := by
  have hc := view_end_Pred v hs
  simp [viewD, View.cells, peersD, intsD, pairD] at hc
  refine den_of [] [] is_view_Pred ?_
  simp -implicitDefEqProofs [c_view_Pred, viewD, View.cells, peersD, intsD, pairD]
  refine callThen_of hc ?_
  simp -implicitDefEqProofs
end Go.AM
/- AM: contracts: a key's owner. -/
namespace Go.AM
set_option linter.unusedSimpArgs false
set_option linter.unusedVariables false
set_option maxRecDepth 8000
set_option maxHeartbeats 0
theorem row_may (one : Int) (ids : List Int) (hl : ids.length ≤ cap) : Den PP 75 [.int .i64 one, intsD ids] [] (.bool (place one && decide (ids.length ≤ 64) && ids.all place)) [] := by
  have hc := ring_Places ids hl
  simp [intsD] at hc
  refine den_of [] [] is_row_may ?_
  simp -implicitDefEqProofs [c_row_may, intsD]
  refine callThen_of (ring_Place one) ?_
  simp -implicitDefEqProofs
  refine gOps_split (fun h => ?_) (fun h => ?_)
  rotate_left
  · simp -implicitDefEqProofs [h]
  simp -implicitDefEqProofs [h]
  refine gOps_dec (fun h2 => ?_) (fun h2 => ?_)
  rotate_left
  · simp -implicitDefEqProofs [h, h2]
    omega
  simp -implicitDefEqProofs [h2]
  refine callThen_of hc ?_
  simp -implicitDefEqProofs
  intros
  omega
theorem slices_MinFunc (key_ x : Int) (xs : List Int) (hl : xs.length < cap) : Den PP 76 [intsD (x :: xs), .fn 86 [] [.mem [.int .i64 key_]]] [] (.int .i64 (nearest key_ x xs)) [] := by
  refine den_of [] [] is_slices_MinFunc_int_int ?_
  have h0 : ¬ ((xs.length : Int) + 1 < 1) := by omega
  simp -implicitDefEqProofs [c_slices_MinFunc_int_int, intsD, h0, irow]
  refine anyLoop_of (xs.length + 1) ?_
  have key : ∀ (Q : Ex → St → Prop) (r : Int) (hQ1 : ∀ fr, fr 5 = .int .i64 r → Q .normal ⟨fr, []⟩) (ys : List Int) (hys : ys.length ≤ cap) (rest : List Int) (i : Nat) (m : Int) (fr : Nat → D), ys.drop i = rest → i ≤ ys.length →
      fr 0 = .sl (ys.map irow) ys.length → fr 1 = .fn 86 [] [.mem [.int .i64 key_]] → fr 5 = .int .i64 m → fr 6 = .int .i64 i → nearest key_ m rest = r → sLoop (cf 0 [] []) 0 c_slices_MinFunc_int_int_L0 (blockQ 0 Q) (rest.length + 1) ⟨fr, []⟩ := by
    intro Q r hQ1 ys hys rest
    induction rest with
    | nil =>
      intro i m fr e hi h0 h1 h5 h6 hm
      refine sLoop_body c_slices_MinFunc_int_int_L0.eq_1 ?_
      have hi' := drop_nil e hi
      simp -implicitDefEqProofs [h0, h1, h5, h6, hi']
      exact hQ1 _ (by rw [← hm]; simp [h0, h1, h5, h6, nearest])
    | cons y rest ih =>
      intro i m fr e hi h0 h1 h5 h6 hm
      refine sLoop_body c_slices_MinFunc_int_int_L0.eq_1 ?_
      obtain ⟨hlt, hget, hd, hlen⟩ := drop_cons e
      have hlt' : (i : Int) < ys.length := by omega
      have hw := wrap_next (n := i) (by unfold cap at hys; omega)
      simp only [nearest] at hm
      simp -implicitDefEqProofs [h0, h1, h5, h6, hlt', hget, irow]
      refine callThen_of (row_By_1 key_ y m) ?_
      simp -implicitDefEqProofs [cmpI_neg]
      refine condC_dec (fun h2 => ?_) (fun h2 => ?_)
      all_goals simp -implicitDefEqProofs [h2, h0, h1, h5, h6, hw, hlt', hget, irow]
      · exact ih (i + 1) y _ hd (by omega) (by simp [h0, h1, h5, h6]) (by simp [h0, h1, h5, h6]) (by simp) (by simp) (by rw [← hm, if_pos h2])
      · exact ih (i + 1) m _ hd (by omega) (by simp [h0, h1, h5, h6]) (by simp [h0, h1, h5, h6]) (by simp [h0, h1, h5, h6]) (by simp) (by rw [← hm, if_neg h2])
  refine key _ (nearest key_ x xs) (fun fr h => ?_) (x :: xs) (by simp; omega) xs 1 x _ rfl (by simp) rfl rfl rfl rfl rfl
  simp -implicitDefEqProofs [h]
theorem row_Owner (ids : List Int) (key : Int) (hl : ids.length ≤ cap) : Den PP 49 [intsD ids, .int .i64 key] [] (pairD (rowOwner ids key)) [] := by
  have hc := row_may key ids hl
  simp only [rowOwner, pairD]
  generalize (place key && decide (ids.length ≤ 64) && ids.all place) = b at *
  simp [intsD] at hc
  refine den_of [] [] is_row_Owner ?_
  simp -implicitDefEqProofs [c_row_Owner, intsD]
  refine callThen_of hc ?_
  simp -implicitDefEqProofs
  cases b
  · simp -implicitDefEqProofs
  simp -implicitDefEqProofs
  cases ids with
  | nil => simp -implicitDefEqProofs
  | cons x xs =>
    have hm := slices_MinFunc key x xs (by simpa [Nat.lt_iff_add_one_le] using hl)
    simp [intsD] at hm
    simp -implicitDefEqProofs
    refine callThen_of (row_By key) ?_
    simp -implicitDefEqProofs
    refine callThen_of hm ?_
    simp -implicitDefEqProofs
theorem view_Owner (v : View) (key : Int) (hs : v.small) : Den PP 19 [viewD v, .int .i64 key] [] (pairD (ownerV v key)) [] := by
  have hc := view_May v hs
  have hi := view_Ids v hs.1
  simp only [ownerV, pairD]
  simp [viewD, View.cells, peersD, intsD] at hc hi
  refine den_of [17] [] is_view_Owner ?_
  simp -implicitDefEqProofs [c_view_Owner, viewD, View.cells, peersD, intsD]
  refine callThen_of hc ?_
  simp -implicitDefEqProofs
  refine gOps_split (fun h => ?_) (fun h => ?_)
  rotate_left
  · simp -implicitDefEqProofs [h]
  simp -implicitDefEqProofs [h]
  refine callThen_of (ring_Place key) ?_
  simp -implicitDefEqProofs
  refine condC_not (fun h2 => ?_) (fun h2 => ?_)
  rotate_left
  · simp -implicitDefEqProofs [h, h2]
  simp -implicitDefEqProofs [h, h2]
  refine callThen_of hi ?_
  have hb1 : (v.peers.length + 1) * 8 ≤ 140737488355328 := by
    have := hs.1
    unfold cap16 at this
    omega
  have hb2 : v.peers.length ≤ 9223372036854775806 := by omega
  have ho := row_Owner (v.peers.map Peer.id ++ [v.id]) key (by unfold cap; simp; omega)
  simp [intsD, pairD, irow] at ho
  simp -implicitDefEqProofs [downTo, hb1, hb2, Fits]
  refine callThen_of ho ?_
  simp -implicitDefEqProofs
end Go.AM
/- AM: contracts: the document's answers about views. -/
namespace Go.AM
set_option linter.unusedSimpArgs false
set_option linter.unusedVariables false
set_option maxRecDepth 8000
set_option maxHeartbeats 0
theorem law_SameInts (xs ys : List Int) (hl : xs.length ≤ cap) : Den PP 62 [intsD xs, intsD ys] [] (.bool (decide (xs = ys))) [] := by
  refine den_of [] [] is_gimmallaw0_SameInts ?_
  simp -implicitDefEqProofs [c_gimmallaw0_SameInts, intsD]
  refine condC_split (fun h => ?_) (fun h => ?_)
  · simp -implicitDefEqProofs
    intro he
    subst he
    simp at h
  have hlen : xs.length = ys.length := by simp at h; omega
  simp -implicitDefEqProofs
  refine anyLoop_of (xs.length + 1) ?_
  have key : ∀ (Q : Ex → St → Prop) (r : Bool) (hQ1 : ∀ fr, r = true → Q .normal ⟨fr, []⟩) (hQ2 : ∀ fr bs, r = false → fr 4 = .bool false → Q .ret ⟨fr, bs⟩) (rest : List Int) (i : Nat) (fr : Nat → D), xs.drop i = rest → i ≤ xs.length →
      fr 0 = .sl (xs.map irow) xs.length → fr 1 = .sl (ys.map irow) ys.length → fr 5 = .int .i64 i → decide (rest = ys.drop i) = r → sLoop (cf 0 [] []) 0 c_gimmallaw0_SameInts_L0 (blockQ 0 Q) (rest.length + 1) ⟨fr, []⟩ := by
    intro Q r hQ1 hQ2 rest
    induction rest with
    | nil =>
      intro i fr e hi h0 h1 h5 hm
      refine sLoop_body c_gimmallaw0_SameInts_L0.eq_1 ?_
      have hi' := drop_nil e hi
      simp -implicitDefEqProofs [h0, h1, h5, hi']
      exact hQ1 _ (by rw [← hm, hi', hlen]; simp)
    | cons x rest ih =>
      intro i fr e hi h0 h1 h5 hm
      refine sLoop_body c_gimmallaw0_SameInts_L0.eq_1 ?_
      obtain ⟨hlt, hget, hd, hl2⟩ := drop_cons e
      have hlt' : (i : Int) < xs.length := by omega
      have hlt2 : (i : Int) < ys.length := by omega
      have hw := wrap_next (n := i) (by unfold cap at hl; omega)
      obtain ⟨y, hy⟩ : ∃ y, ys[i]? = some y := ⟨ys[i], by simp⟩
      have hyd : ys.drop i = y :: ys.drop (i + 1) := by
        rw [List.drop_eq_getElem_cons (by omega)]
        have : ys[i] = y := by
          have := (List.getElem?_eq_some_iff.1 hy).2
          exact this
        rw [this]
      simp -implicitDefEqProofs [h0, h1, h5, hlt', hlt2, hget, hy, irow]
      refine condC_split (fun h2 => ?_) (fun h2 => ?_)
      all_goals simp -implicitDefEqProofs [h2, h0, h1, h5, hw]
      · refine hQ2 _ _ ?_ (by rfl)
        rw [← hm, hyd]
        simp at h2
        simp [h2]
      · refine ih (i + 1) _ hd (by omega) (by simp [h0, h1, h5]) (by simp [h0, h1, h5]) (by simp) ?_
        rw [← hm, hyd]
        simp at h2
        simp [h2]
  refine key _ (decide (xs = ys)) (fun fr h => ?_) (fun fr bs h h2 => ?_) xs 0 _ rfl (Nat.zero_le _) rfl rfl rfl rfl
  · simp -implicitDefEqProofs [h]
  · simp -implicitDefEqProofs [h, h2]

theorem ref_PassiveMay (xs : List Int) (hl : xs.length ≤ cap) : Den PP 60 [intsD xs] [] (.bool (refPassiveMay xs)) [] := by
  have hc := ref_placesMay xs hl
  simp [intsD] at hc
  refine den_of [] [] is_gimmalref1_PassiveMay ?_
  simp -implicitDefEqProofs [c_gimmalref1_PassiveMay, intsD]
  refine anyLoop_of (xs.length + 1) ?_
  have key : ∀ (Q : Ex → St → Prop) (r : Bool) (hQ1 : ∀ fr, r = true → fr 0 = .sl (xs.map irow) xs.length → Q .normal ⟨fr, []⟩) (hQ2 : ∀ fr bs, r = false → fr 2 = .bool false → Q .ret ⟨fr, bs⟩) (n j : Nat) (fr : Nat → D), xs.length - j ≤ n → 1 ≤ j →
      fr 0 = .sl (xs.map irow) xs.length → fr 3 = .int .i64 j → incrAt xs j = r → sLoop (cf 0 [] []) 0 c_gimmalref1_PassiveMay_L0 (blockQ 0 Q) (n + 1) ⟨fr, []⟩ := by
    intro Q r hQ1 hQ2 n
    induction n with
    | zero =>
      intro j fr hn hj h0 h3 hm
      refine sLoop_body c_gimmalref1_PassiveMay_L0.eq_1 ?_
      have hx : ¬ (j < xs.length) := by omega
      simp -implicitDefEqProofs [h0, h3, hx]
      exact hQ1 _ (by rw [← hm]; exact incrAt_end (List.drop_of_length_le (by omega))) (by simp [h0, h3])
    | succ n ih =>
      intro j fr hn hj h0 h3 hm
      refine sLoop_body c_gimmalref1_PassiveMay_L0.eq_1 ?_
      by_cases hx : j < xs.length
      · have hlt' : (j : Int) < xs.length := by omega
        have hw := wrap_next (n := j) (by unfold cap at hl; omega)
        have hwp : IntKind.wrap .i64 ((j : Int) - 1) = ((j - 1 : Nat) : Int) := by unfold cap at hl; rw [wrap_in (by omega) (by omega)]; omega
        have hlt2 : ((j - 1 : Nat) : Int) < xs.length := by omega
        obtain ⟨x, hxv⟩ : ∃ x, xs[j]? = some x := ⟨xs[j], by simp⟩
        obtain ⟨y, hyv⟩ : ∃ y, xs[j - 1]? = some y := ⟨xs[j - 1], by simp⟩
        rw [incrAt_next hj hyv hxv] at hm
        simp -implicitDefEqProofs [h0, h3, hlt', hwp, hlt2, hxv, hyv, irow]
        refine condC_dec (fun h2 => ?_) (fun h2 => ?_)
        all_goals simp -implicitDefEqProofs [h2, h0, h3, hw]
        · exact hQ2 _ _ (by rw [← hm]; simp; intros; omega) (by rfl)
        · exact ih (j + 1) _ (by omega) (by omega) (by simp [h0, h3]) (by simp) (by rw [← hm]; simp [show y < x by omega])
      · simp -implicitDefEqProofs [h0, h3, hx]
        exact hQ1 _ (by rw [← hm]; exact incrAt_end (List.drop_of_length_le (by omega))) (by simp [h0, h3])
  refine key _ (incr xs) (fun fr h h0 => ?_) (fun fr bs h h2 => ?_) xs.length 1 _ (by omega) (by omega) rfl rfl (incrAt_start xs)
  · simp -implicitDefEqProofs [h, h0]
    refine callThen_of hc ?_
    simp -implicitDefEqProofs
    refine gOps_split (fun h2 => ?_) (fun h2 => ?_)
    all_goals simp -implicitDefEqProofs [h2, h, h0, refPassiveMay]
    omega
  · simp -implicitDefEqProofs [h, h2, refPassiveMay]
end Go.AM
/- AM: contracts: the document's peers. -/
namespace Go.AM
set_option linter.unusedSimpArgs false
set_option linter.unusedVariables false
set_option maxRecDepth 8000
set_option maxHeartbeats 0
theorem ref_PeersMay (base : Int) (ps : List Peer) (hl : ps.length ≤ cap) : Den PP 59 [.int .i64 base, peersD ps] [] (.bool (refPeersMay base ps)) [] := by
  refine den_of [] [] is_gimmalref1_PeersMay ?_
  simp -implicitDefEqProofs [c_gimmalref1_PeersMay, peersD]
  refine anyLoop_of (ps.length + 1) ?_
  have key : ∀ (Q : Ex → St → Prop) (r : Bool) (hQ1 : ∀ fr, r = true → fr 0 = .int .i64 base → fr 1 = .sl (ps.map Peer.row) ps.length → Q .normal ⟨fr, []⟩) (hQ2 : ∀ fr bs, r = false → fr 4 = .bool false → Q .ret ⟨fr, bs⟩) (rest : List Peer) (i : Nat) (fr : Nat → D), ps.drop i = rest → i ≤ ps.length →
      fr 0 = .int .i64 base → fr 1 = .sl (ps.map Peer.row) ps.length → fr 5 = .int .i64 i → refPeersOk base (if i = 0 then none else ps[i - 1]?) rest = r → sLoop (cf 0 [] []) 0 c_gimmalref1_PeersMay_L0 (blockQ 0 Q) (rest.length + 1) ⟨fr, []⟩ := by
    intro Q r hQ1 hQ2 rest
    induction rest with
    | nil =>
      intro i fr e hi h0 h1 h5 hm
      refine sLoop_body c_gimmalref1_PeersMay_L0.eq_1 ?_
      have hi' := drop_nil e hi
      simp -implicitDefEqProofs [h0, h1, h5, hi']
      exact hQ1 _ hm.symm (by simp [h0, h1, h5]) (by simp [h0, h1, h5])
    | cons p rest ih =>
      intro i fr e hi h0 h1 h5 hm
      refine sLoop_body c_gimmalref1_PeersMay_L0.eq_1 ?_
      obtain ⟨hlt, hget, hd, hlen⟩ := drop_cons e
      have hlt' : (i : Int) < ps.length := by omega
      have hw := wrap_next (n := i) (by unfold cap at hl; omega)
      have hprev : (if i + 1 = 0 then none else ps[i + 1 - 1]?) = some p := by simp [hget]
      simp only [refPeersOk] at hm
      simp -implicitDefEqProofs [h0, h1, h5, hlt', hget, Peer.row]
      refine callThen_of (ref_PlaceMay p.id) ?_
      simp -implicitDefEqProofs [h0, h1, h5]
      refine gOps_split (fun g1 => ?_) (fun g1 => ?_)
      rotate_left
      · simp -implicitDefEqProofs [g1, h0, h1, h5]
        exact hQ2 _ _ (by rw [← hm]; simp [g1]) (by rfl)
      simp -implicitDefEqProofs [g1, h0, h1, h5, hlt', hget, Peer.row]
      refine gOps_not (fun g2 => ?_) (fun g2 => ?_)
      · simp -implicitDefEqProofs [g2, h0, h1, h5]
        exact hQ2 _ _ (by rw [← hm]; simp at g2; simp [g2]) (by rfl)
      simp -implicitDefEqProofs [g2, h0, h1, h5, hlt', hget, Peer.row]
      refine gOps_ndec (fun g3 => ?_) (fun g3 => ?_)
      · simp -implicitDefEqProofs [g3, h0, h1, h5]
        exact hQ2 _ _ (by rw [← hm]; simp; intros; omega) (by rfl)
      simp -implicitDefEqProofs [g3, h0, h1, h5, hlt', hget, Peer.row]
      refine gOps_ndec (fun g4 => ?_) (fun g4 => ?_)
      · simp -implicitDefEqProofs [g4, h0, h1, h5]
        exact hQ2 _ _ (by rw [← hm]; simp; intros; omega) (by rfl)
      simp -implicitDefEqProofs [g4, h0, h1, h5, hlt', hget, Peer.row]
      have g2' : decide (p.id ≠ base) = true := by simp at g2; simp [g2]
      rw [g1, g2', decide_eq_true (show 0 ≤ p.missed by omega), decide_eq_true (show p.missed < 3 by omega)] at hm
      by_cases hi0 : i = 0
      · simp -implicitDefEqProofs [hi0, h0, h1, h5]
        rw [hi0] at hw
        simp -implicitDefEqProofs at hw
        simp -implicitDefEqProofs [hw]
        refine ih 1 _ (by rw [← hd, hi0]) (by omega) (by simp [h0, h1, h5]) (by simp [h0, h1, h5]) (by simp) ?_
        rw [hi0] at hprev hm
        rw [← hm]
        simp at hprev ⊢
        rw [hprev]
      · have hpos : 0 < i := by omega
        have hwp : IntKind.wrap .i64 ((i : Int) - 1) = ((i - 1 : Nat) : Int) := by unfold cap at hl; rw [wrap_in (by omega) (by omega)]; omega
        have hlt2 : ((i - 1 : Nat) : Int) < ps.length := by omega
        obtain ⟨q, hq⟩ : ∃ q, ps[i - 1]? = some q := ⟨ps[i - 1], by simp⟩
        rw [if_neg hi0, hq] at hm
        simp -implicitDefEqProofs [hpos, h0, h1, h5, hwp, hlt2, hq, Peer.row]
        refine callThen_of (ref_far base q.id) ?_
        simp -implicitDefEqProofs [h0, h1, h5, hlt', hget, Peer.row]
        refine callThen_of (ref_far base p.id) ?_
        simp -implicitDefEqProofs [h0, h1, h5]
        refine condC_dec (fun h2 => ?_) (fun h2 => ?_)
        all_goals simp -implicitDefEqProofs [h2, h0, h1, h5, hw]
        · exact hQ2 _ _ (by rw [← hm]; simp; intros; omega) (by rfl)
        · refine ih (i + 1) _ hd (by omega) (by simp [h0, h1, h5]) (by simp [h0, h1, h5]) (by simp) ?_
          rw [hprev, ← hm]
          simp [show far base q.id < far base p.id by omega]
  refine key _ (refPeersOk base none ps) (fun fr h h0 h1 => ?_) (fun fr bs h h4 => ?_) ps 0 _ rfl (Nat.zero_le _) rfl rfl rfl rfl
  · simp -implicitDefEqProofs [h, h0, h1]
    refine callThen_of (ref_PlaceMay base) ?_
    simp -implicitDefEqProofs [h0, h1]
    refine gOps_split (fun h2 => ?_) (fun h2 => ?_)
    all_goals simp -implicitDefEqProofs [h2, h, h0, h1, refPeersMay]
    omega
  · simp -implicitDefEqProofs [h, h4, refPeersMay]
end Go.AM
/- AM: contracts: the document's answers about views. -/
namespace Go.AM
set_option linter.unusedSimpArgs false
set_option linter.unusedVariables false
set_option maxRecDepth 8000
set_option maxHeartbeats 0
def inv_Heard (base : Int) (ps : List Peer) (id : Int) (i : Nat) (rest : List Peer) : St → Prop := fun ⟨fr, bs⟩ => ∃ acc inn, bs = [⟨[], 2, .mut⟩, ⟨acc.map Peer.row, 2, .mut⟩] ∧ acc.length ≤ 2 * i ∧ acc ++ hearG base id inn rest = hearG base id false ps ∧
  fr 0 = .int .i64 base ∧ fr 1 = .sl (ps.map Peer.row) ps.length ∧ fr 2 = .int .i64 id ∧ fr 8 = .ref 1 0 acc.length ∧ fr 9 = .bool inn ∧ fr 10 = .int .i64 i
def end_Heard (base : Int) (ps : List Peer) (id : Int) : St → Prop := fun ⟨fr, bs⟩ => ∃ acc inn, bs = [⟨[], 2, .mut⟩, ⟨acc.map Peer.row, 2, .mut⟩] ∧ acc.length ≤ 2 * ps.length ∧ acc ++ hearG base id inn [] = hearG base id false ps ∧
  fr 2 = .int .i64 id ∧ fr 8 = .ref 1 0 acc.length ∧ fr 9 = .bool inn
theorem ref_Heard (base : Int) (ps : List Peer) (id : Int) (hl : ps.length ≤ cap16) :
    Den PP 30 [.int .i64 base, peersD ps, .int .i64 id] [] (.tup [.ref 0 0 (refHeard base ps id).1.length, .int .i64 (refHeard base ps id).2]) [⟨(refHeard base ps id).1.map Peer.row, 2, .mut⟩] := by
  have hc := ref_PeersMay base ps (cap_of hl)
  simp [peersD] at hc
  refine den_of [] [] is_gimmalref1_Heard ?_
  simp -implicitDefEqProofs [c_gimmalref1_Heard, peersD]
  repeat' (first | (refine callThen_of (by first | exact hc | exact ref_PlaceMay _) ?_; simp -implicitDefEqProofs [*, refHeard]) | (with_reducible refine gOps_dec (fun _ => ?_) (fun _ => ?_) <;> simp -implicitDefEqProofs [*, refHeard]) | (with_reducible refine gOps_ndec (fun _ => ?_) (fun _ => ?_) <;> simp -implicitDefEqProofs [*, refHeard]) | (with_reducible refine gOps_and (fun hq => ?_) (fun hq => ?_) <;> (try simp at hq) <;> simp -implicitDefEqProofs [*, refHeard]) | (with_reducible refine gOps_or (fun hq => ?_) (fun hq => ?_) <;> (try simp at hq) <;> simp -implicitDefEqProofs [*, refHeard]) | (with_reducible refine gOps_not (fun hq => ?_) (fun hq => ?_) <;> (try simp at hq) <;> simp -implicitDefEqProofs [*, refHeard]) | (with_reducible refine gOps_split (fun hq => ?_) (fun hq => ?_) <;> (try simp at hq) <;> simp -implicitDefEqProofs [*, refHeard]) | (with_reducible refine condC_dec (fun _ => ?_) (fun _ => ?_) <;> simp -implicitDefEqProofs [*, refHeard]) | (with_reducible refine condC_ndec (fun _ => ?_) (fun _ => ?_) <;> simp -implicitDefEqProofs [*, refHeard]) | (with_reducible refine condC_and (fun hq => ?_) (fun hq => ?_) <;> (try simp at hq) <;> simp -implicitDefEqProofs [*, refHeard]) | (with_reducible refine condC_or (fun hq => ?_) (fun hq => ?_) <;> (try simp at hq) <;> simp -implicitDefEqProofs [*, refHeard]) | (with_reducible refine condC_not (fun hq => ?_) (fun hq => ?_) <;> (try simp at hq) <;> simp -implicitDefEqProofs [*, refHeard]) | (with_reducible refine condC_split (fun hq => ?_) (fun hq => ?_) <;> (try simp at hq) <;> simp -implicitDefEqProofs [*, refHeard]) | (refine appK2_if (by omega) ?_; simp -implicitDefEqProofs [*, refHeard]) | (refine pureV_if (by omega) ?_; simp -implicitDefEqProofs [*, refHeard]))
  have hps : ps.length ≤ 16 := by
    have := ‹refPeersMay base ps = true›
    simp [refPeersMay] at this
    omega
  refine list_rule ps (inv_Heard base ps id) (end_Heard base ps id) (fun _ => False) c_gimmalref1_Heard_L0.eq_1 ?_ ?_ ?_ ?_ ?_
  · exact ⟨[], false, rfl, by simp, rfl, rfl, rfl, rfl, rfl, rfl, rfl⟩
  · rintro i ⟨fr, bs⟩ hi ⟨acc, inn, hb, hal, he, h0, h1, h2, h8, h9, h10⟩
    simp -implicitDefEqProofs [*]
    exact ⟨acc, inn, by simp [*], by simpa [hi] using hal, he, by simp [*], by simp [*], by simp [*]⟩
  · rintro i p rest ⟨fr, bs⟩ hlt hget hg hd hd2 ⟨acc, inn, hb, hal, he, h0, h1, h2, h8, h9, h10⟩
    have hlt' : (i : Int) < ps.length := by omega
    have hw := wrap_next (n := i) (by unfold cap16 at hl; omega)
    simp only [hearG] at he
    subst hb
    simp -implicitDefEqProofs [h0, h1, h2, h8, h9, h10, hlt', hget, Peer.row]
    have r1 := ref_far base p.id
    have r2 := ref_far base id
    repeat' (first | (refine callThen_of (by first | exact r1 | exact r2) ?_; simp -implicitDefEqProofs [*, Peer.row, Fits]) | (with_reducible refine gOps_dec (fun _ => ?_) (fun _ => ?_) <;> simp -implicitDefEqProofs [*, Peer.row, Fits]) | (with_reducible refine gOps_ndec (fun _ => ?_) (fun _ => ?_) <;> simp -implicitDefEqProofs [*, Peer.row, Fits]) | (with_reducible refine gOps_and (fun hq => ?_) (fun hq => ?_) <;> (try simp at hq) <;> simp -implicitDefEqProofs [*, Peer.row, Fits]) | (with_reducible refine gOps_or (fun hq => ?_) (fun hq => ?_) <;> (try simp at hq) <;> simp -implicitDefEqProofs [*, Peer.row, Fits]) | (with_reducible refine gOps_not (fun hq => ?_) (fun hq => ?_) <;> (try simp at hq) <;> simp -implicitDefEqProofs [*, Peer.row, Fits]) | (with_reducible refine gOps_split (fun hq => ?_) (fun hq => ?_) <;> (try simp at hq) <;> simp -implicitDefEqProofs [*, Peer.row, Fits]) | (with_reducible refine condC_dec (fun _ => ?_) (fun _ => ?_) <;> simp -implicitDefEqProofs [*, Peer.row, Fits]) | (with_reducible refine condC_ndec (fun _ => ?_) (fun _ => ?_) <;> simp -implicitDefEqProofs [*, Peer.row, Fits]) | (with_reducible refine condC_and (fun hq => ?_) (fun hq => ?_) <;> (try simp at hq) <;> simp -implicitDefEqProofs [*, Peer.row, Fits]) | (with_reducible refine condC_or (fun hq => ?_) (fun hq => ?_) <;> (try simp at hq) <;> simp -implicitDefEqProofs [*, Peer.row, Fits]) | (with_reducible refine condC_not (fun hq => ?_) (fun hq => ?_) <;> (try simp at hq) <;> simp -implicitDefEqProofs [*, Peer.row, Fits]) | (with_reducible refine condC_split (fun hq => ?_) (fun hq => ?_) <;> (try simp at hq) <;> simp -implicitDefEqProofs [*, Peer.row, Fits]) | (refine appK2_if (by omega) ?_; simp -implicitDefEqProofs [*, Peer.row, Fits]) | (refine pureV_if (by omega) ?_; simp -implicitDefEqProofs [*, Peer.row, Fits]))
    all_goals
      refine ⟨acc ++ ((if inn = false ∧ far base id ≤ far base p.id then [⟨id, 0⟩] else []) ++ (if p.id = id then [] else [p])), inn || decide (far base id ≤ far base p.id), ?_⟩
      simp [*, Peer.row]
      grind
  · rintro ⟨fr, bs⟩ ⟨acc, inn, rfl, hal, he, h2, h8, h9⟩
    simp only [hearG] at he
    simp -implicitDefEqProofs [h2, h8, h9]
    repeat' (first | (with_reducible refine gOps_dec (fun _ => ?_) (fun _ => ?_) <;> simp -implicitDefEqProofs [*, Fits, Peer.row]) | (with_reducible refine gOps_ndec (fun _ => ?_) (fun _ => ?_) <;> simp -implicitDefEqProofs [*, Fits, Peer.row]) | (with_reducible refine gOps_and (fun hq => ?_) (fun hq => ?_) <;> (try simp at hq) <;> simp -implicitDefEqProofs [*, Fits, Peer.row]) | (with_reducible refine gOps_or (fun hq => ?_) (fun hq => ?_) <;> (try simp at hq) <;> simp -implicitDefEqProofs [*, Fits, Peer.row]) | (with_reducible refine gOps_not (fun hq => ?_) (fun hq => ?_) <;> (try simp at hq) <;> simp -implicitDefEqProofs [*, Fits, Peer.row]) | (with_reducible refine gOps_split (fun hq => ?_) (fun hq => ?_) <;> (try simp at hq) <;> simp -implicitDefEqProofs [*, Fits, Peer.row]) | (with_reducible refine condC_dec (fun _ => ?_) (fun _ => ?_) <;> simp -implicitDefEqProofs [*, Fits, Peer.row]) | (with_reducible refine condC_ndec (fun _ => ?_) (fun _ => ?_) <;> simp -implicitDefEqProofs [*, Fits, Peer.row]) | (with_reducible refine condC_and (fun hq => ?_) (fun hq => ?_) <;> (try simp at hq) <;> simp -implicitDefEqProofs [*, Fits, Peer.row]) | (with_reducible refine condC_or (fun hq => ?_) (fun hq => ?_) <;> (try simp at hq) <;> simp -implicitDefEqProofs [*, Fits, Peer.row]) | (with_reducible refine condC_not (fun hq => ?_) (fun hq => ?_) <;> (try simp at hq) <;> simp -implicitDefEqProofs [*, Fits, Peer.row]) | (with_reducible refine condC_split (fun hq => ?_) (fun hq => ?_) <;> (try simp at hq) <;> simp -implicitDefEqProofs [*, Fits, Peer.row]) | (refine appK2_if (by omega) ?_; simp -implicitDefEqProofs [*, Fits, Peer.row]) | (refine pureV_if (by omega) ?_; simp -implicitDefEqProofs [*, Fits, Peer.row]))
    all_goals grind [Peer.row]
  · rintro ⟨fr, bs⟩ h
    exact h.elim

theorem ref_WithoutPassive (xs : List Int) (x : Int) (hl : xs.length ≤ cap) :
    Den PP 31 [intsD xs, .int .i64 x] [] (.tup [.ref 0 0 (refWithout xs x).1.length, .int .i64 (refWithout xs x).2]) [⟨(refWithout xs x).1.map irow, 1, .mut⟩] := by
  have hc := ref_PassiveMay xs hl
  simp [intsD] at hc
  refine den_of [] [] is_gimmalref1_WithoutPassive ?_
  simp -implicitDefEqProofs [c_gimmalref1_WithoutPassive, intsD]
  repeat' (first | (refine callThen_of (by first | exact hc | exact ref_PlaceMay _) ?_; simp -implicitDefEqProofs [*, refWithout]) | (with_reducible refine gOps_dec (fun _ => ?_) (fun _ => ?_) <;> simp -implicitDefEqProofs [*, refWithout]) | (with_reducible refine gOps_ndec (fun _ => ?_) (fun _ => ?_) <;> simp -implicitDefEqProofs [*, refWithout]) | (with_reducible refine gOps_and (fun hq => ?_) (fun hq => ?_) <;> (try simp at hq) <;> simp -implicitDefEqProofs [*, refWithout]) | (with_reducible refine gOps_or (fun hq => ?_) (fun hq => ?_) <;> (try simp at hq) <;> simp -implicitDefEqProofs [*, refWithout]) | (with_reducible refine gOps_not (fun hq => ?_) (fun hq => ?_) <;> (try simp at hq) <;> simp -implicitDefEqProofs [*, refWithout]) | (with_reducible refine gOps_split (fun hq => ?_) (fun hq => ?_) <;> (try simp at hq) <;> simp -implicitDefEqProofs [*, refWithout]) | (with_reducible refine condC_dec (fun _ => ?_) (fun _ => ?_) <;> simp -implicitDefEqProofs [*, refWithout]) | (with_reducible refine condC_ndec (fun _ => ?_) (fun _ => ?_) <;> simp -implicitDefEqProofs [*, refWithout]) | (with_reducible refine condC_and (fun hq => ?_) (fun hq => ?_) <;> (try simp at hq) <;> simp -implicitDefEqProofs [*, refWithout]) | (with_reducible refine condC_or (fun hq => ?_) (fun hq => ?_) <;> (try simp at hq) <;> simp -implicitDefEqProofs [*, refWithout]) | (with_reducible refine condC_not (fun hq => ?_) (fun hq => ?_) <;> (try simp at hq) <;> simp -implicitDefEqProofs [*, refWithout]) | (with_reducible refine condC_split (fun hq => ?_) (fun hq => ?_) <;> (try simp at hq) <;> simp -implicitDefEqProofs [*, refWithout]) | (refine appK2_if (by omega) ?_; simp -implicitDefEqProofs [*, refWithout]) | (refine pureV_if (by omega) ?_; simp -implicitDefEqProofs [*, refWithout]))
  refine list_rule xs (fun i rest => fun ⟨fr, bs⟩ => bs = [⟨[], 1, .mut⟩, ⟨((xs.take i).filter (fun y => !decide (y = x))).map irow, 1, .mut⟩] ∧ fr 0 = .sl (xs.map irow) xs.length ∧ fr 1 = .int .i64 x ∧ fr 6 = .ref 1 0 ((xs.take i).filter (fun y => !decide (y = x))).length ∧ fr 7 = .int .i64 i)
    (fun ⟨fr, bs⟩ => bs = [⟨[], 1, .mut⟩, ⟨(xs.filter (fun y => !decide (y = x))).map irow, 1, .mut⟩] ∧ fr 6 = .ref 1 0 (xs.filter (fun y => !decide (y = x))).length) (fun _ => False) c_gimmalref1_WithoutPassive_L0.eq_1 ?_ ?_ ?_ ?_ ?_
  · exact ⟨rfl, rfl, rfl, rfl, rfl⟩
  · rintro i ⟨fr, bs⟩ hi ⟨rfl, h0, h1, h6, h7⟩
    simp -implicitDefEqProofs [*]
  · rintro i a rest ⟨fr, bs⟩ hlt hget hg hd hd2 ⟨rfl, h0, h1, h6, h7⟩
    have hlt' : (i : Int) < xs.length := by omega
    have hw := wrap_next (n := i) (by unfold cap at hl; omega)
    have hlf := List.length_filter_le (fun y => !decide (y = x)) (xs.take i)
    have hlt2 : (xs.take i).length ≤ i := by simp; omega
    have htk : xs.take (i + 1) = xs.take i ++ [a] := by rw [List.take_add_one, hget]; rfl
    unfold cap at hl
    simp -implicitDefEqProofs [*, irow]
    repeat' (first | (with_reducible refine gOps_dec (fun _ => ?_) (fun _ => ?_) <;> simp -implicitDefEqProofs [*, irow, Fits]) | (with_reducible refine gOps_ndec (fun _ => ?_) (fun _ => ?_) <;> simp -implicitDefEqProofs [*, irow, Fits]) | (with_reducible refine gOps_and (fun hq => ?_) (fun hq => ?_) <;> (try simp at hq) <;> simp -implicitDefEqProofs [*, irow, Fits]) | (with_reducible refine gOps_or (fun hq => ?_) (fun hq => ?_) <;> (try simp at hq) <;> simp -implicitDefEqProofs [*, irow, Fits]) | (with_reducible refine gOps_not (fun hq => ?_) (fun hq => ?_) <;> (try simp at hq) <;> simp -implicitDefEqProofs [*, irow, Fits]) | (with_reducible refine gOps_split (fun hq => ?_) (fun hq => ?_) <;> (try simp at hq) <;> simp -implicitDefEqProofs [*, irow, Fits]) | (with_reducible refine condC_dec (fun _ => ?_) (fun _ => ?_) <;> simp -implicitDefEqProofs [*, irow, Fits]) | (with_reducible refine condC_ndec (fun _ => ?_) (fun _ => ?_) <;> simp -implicitDefEqProofs [*, irow, Fits]) | (with_reducible refine condC_and (fun hq => ?_) (fun hq => ?_) <;> (try simp at hq) <;> simp -implicitDefEqProofs [*, irow, Fits]) | (with_reducible refine condC_or (fun hq => ?_) (fun hq => ?_) <;> (try simp at hq) <;> simp -implicitDefEqProofs [*, irow, Fits]) | (with_reducible refine condC_not (fun hq => ?_) (fun hq => ?_) <;> (try simp at hq) <;> simp -implicitDefEqProofs [*, irow, Fits]) | (with_reducible refine condC_split (fun hq => ?_) (fun hq => ?_) <;> (try simp at hq) <;> simp -implicitDefEqProofs [*, irow, Fits]) | (refine appK2_if (by omega) ?_; simp -implicitDefEqProofs [*, irow, Fits]) | (refine pureV_if (by omega) ?_; simp -implicitDefEqProofs [*, irow, Fits]))
  · rintro ⟨fr, bs⟩ ⟨rfl, h6⟩
    simp -implicitDefEqProofs [*, refWithout]
  · rintro ⟨fr, bs⟩ h
    exact h.elim

theorem law_SamePeers (xs ys : List Peer) (hl : xs.length ≤ cap) : Den PP 61 [peersD xs, peersD ys] [] (.bool (decide (xs = ys))) [] := by
  refine den_of [] [] is_gimmallaw0_SamePeers ?_
  simp -implicitDefEqProofs [c_gimmallaw0_SamePeers, peersD]
  refine condC_split (fun h => ?_) (fun h => ?_)
  · simp -implicitDefEqProofs
    grind
  have hlen : xs.length = ys.length := by simp at h; omega
  simp -implicitDefEqProofs
  refine list_rule xs (fun i rest => fun ⟨fr, bs⟩ => bs = [] ∧ fr 0 = .sl (xs.map Peer.row) xs.length ∧ fr 1 = .sl (ys.map Peer.row) ys.length ∧ fr 5 = .int .i64 i ∧ (rest = ys.drop i ↔ xs = ys))
    (fun ⟨fr, bs⟩ => bs = [] ∧ xs = ys) (fun ⟨fr, bs⟩ => fr 4 = .bool false ∧ ¬ xs = ys) c_gimmallaw0_SamePeers_L0.eq_1 ?_ ?_ ?_ ?_ ?_
  · exact ⟨rfl, rfl, rfl, rfl, by simp⟩
  · rintro i ⟨fr, bs⟩ hi ⟨rfl, h0, h1, h5, he⟩
    simp -implicitDefEqProofs [*]
    grind
  · rintro i a rest ⟨fr, bs⟩ hlt hget hg hd hd2 ⟨rfl, h0, h1, h5, he⟩
    have hlt' : (i : Int) < xs.length := by omega
    have hlt2 : i < ys.length := by omega
    have hlt3 : (i : Int) < ys.length := by omega
    have hw := wrap_next (n := i) (by unfold cap at hl; omega)
    rw [List.drop_eq_getElem_cons hlt2] at he
    generalize hy : ys[i] = b at he
    simp -implicitDefEqProofs [h0, h1, h5, hlt, hlt', hlt2, hlt3, hget, hg, hy, Peer.row, EQS]
    repeat' (first | (with_reducible refine gOps_dec (fun _ => ?_) (fun _ => ?_) <;> simp -implicitDefEqProofs [*, EQS]) | (with_reducible refine gOps_ndec (fun _ => ?_) (fun _ => ?_) <;> simp -implicitDefEqProofs [*, EQS]) | (with_reducible refine gOps_and (fun hq => ?_) (fun hq => ?_) <;> (try simp at hq) <;> simp -implicitDefEqProofs [*, EQS]) | (with_reducible refine gOps_or (fun hq => ?_) (fun hq => ?_) <;> (try simp at hq) <;> simp -implicitDefEqProofs [*, EQS]) | (with_reducible refine gOps_not (fun hq => ?_) (fun hq => ?_) <;> (try simp at hq) <;> simp -implicitDefEqProofs [*, EQS]) | (with_reducible refine gOps_split (fun hq => ?_) (fun hq => ?_) <;> (try simp at hq) <;> simp -implicitDefEqProofs [*, EQS]) | (with_reducible refine condC_dec (fun _ => ?_) (fun _ => ?_) <;> simp -implicitDefEqProofs [*, EQS]) | (with_reducible refine condC_ndec (fun _ => ?_) (fun _ => ?_) <;> simp -implicitDefEqProofs [*, EQS]) | (with_reducible refine condC_and (fun hq => ?_) (fun hq => ?_) <;> (try simp at hq) <;> simp -implicitDefEqProofs [*, EQS]) | (with_reducible refine condC_or (fun hq => ?_) (fun hq => ?_) <;> (try simp at hq) <;> simp -implicitDefEqProofs [*, EQS]) | (with_reducible refine condC_not (fun hq => ?_) (fun hq => ?_) <;> (try simp at hq) <;> simp -implicitDefEqProofs [*, EQS]) | (with_reducible refine condC_split (fun hq => ?_) (fun hq => ?_) <;> (try simp at hq) <;> simp -implicitDefEqProofs [*, EQS]) | (refine appK2_if (by omega) ?_; simp -implicitDefEqProofs [*, EQS]) | (refine pureV_if (by omega) ?_; simp -implicitDefEqProofs [*, EQS]))
    all_goals (obtain ⟨a1, a2⟩ := a; obtain ⟨b1, b2⟩ := b; grind)
  · rintro ⟨fr, bs⟩ ⟨rfl, h6⟩
    simp -implicitDefEqProofs [*]
  · rintro ⟨fr, bs⟩ h
    simp -implicitDefEqProofs [h.1, h.2]
theorem law_SameView (v w : View) (hs : v.small) : Den PP 24 [viewD v, viewD w] [] (.bool (decide (v = w))) [] := by
  have h1 := law_SamePeers v.peers w.peers (cap_of hs.1)
  have h2 := law_SameInts v.passive w.passive hs.2
  simp [peersD, intsD] at h1 h2
  refine den_of [] [] is_gimmallaw0_SameView ?_
  simp -implicitDefEqProofs [c_gimmallaw0_SameView, viewD, View.cells, peersD, intsD]
  repeat' (first | (refine callThen_of (by first | exact h1 | exact h2) ?_; simp -implicitDefEqProofs [*, peersD]) | (with_reducible refine gOps_dec (fun _ => ?_) (fun _ => ?_) <;> simp -implicitDefEqProofs [*, peersD]) | (with_reducible refine gOps_ndec (fun _ => ?_) (fun _ => ?_) <;> simp -implicitDefEqProofs [*, peersD]) | (with_reducible refine gOps_and (fun hq => ?_) (fun hq => ?_) <;> (try simp at hq) <;> simp -implicitDefEqProofs [*, peersD]) | (with_reducible refine gOps_or (fun hq => ?_) (fun hq => ?_) <;> (try simp at hq) <;> simp -implicitDefEqProofs [*, peersD]) | (with_reducible refine gOps_not (fun hq => ?_) (fun hq => ?_) <;> (try simp at hq) <;> simp -implicitDefEqProofs [*, peersD]) | (with_reducible refine gOps_split (fun hq => ?_) (fun hq => ?_) <;> (try simp at hq) <;> simp -implicitDefEqProofs [*, peersD]) | (with_reducible refine condC_dec (fun _ => ?_) (fun _ => ?_) <;> simp -implicitDefEqProofs [*, peersD]) | (with_reducible refine condC_ndec (fun _ => ?_) (fun _ => ?_) <;> simp -implicitDefEqProofs [*, peersD]) | (with_reducible refine condC_and (fun hq => ?_) (fun hq => ?_) <;> (try simp at hq) <;> simp -implicitDefEqProofs [*, peersD]) | (with_reducible refine condC_or (fun hq => ?_) (fun hq => ?_) <;> (try simp at hq) <;> simp -implicitDefEqProofs [*, peersD]) | (with_reducible refine condC_not (fun hq => ?_) (fun hq => ?_) <;> (try simp at hq) <;> simp -implicitDefEqProofs [*, peersD]) | (with_reducible refine condC_split (fun hq => ?_) (fun hq => ?_) <;> (try simp at hq) <;> simp -implicitDefEqProofs [*, peersD]) | (refine appK2_if (by omega) ?_; simp -implicitDefEqProofs [*, peersD]) | (refine pureV_if (by omega) ?_; simp -implicitDefEqProofs [*, peersD]))
  all_goals (obtain ⟨a, b, c⟩ := v; obtain ⟨a', b', c'⟩ := w; grind)
theorem ref_Distance (a b : Int) : Den PP 29 [.int .i64 a, .int .i64 b] [] (pairD (refDistance a b)) [] := by
  refine den_of [] [] is_gimmalref1_Distance ?_
  simp -implicitDefEqProofs [c_gimmalref1_Distance]
  repeat' (first | (refine callThen_of (by first | exact ref_PlaceMay _ | exact ref_far _ _) ?_; simp -implicitDefEqProofs [*, refDistance, pairD]) | (with_reducible refine gOps_dec (fun _ => ?_) (fun _ => ?_) <;> simp -implicitDefEqProofs [*, refDistance, pairD]) | (with_reducible refine gOps_ndec (fun _ => ?_) (fun _ => ?_) <;> simp -implicitDefEqProofs [*, refDistance, pairD]) | (with_reducible refine gOps_and (fun hq => ?_) (fun hq => ?_) <;> (try simp at hq) <;> simp -implicitDefEqProofs [*, refDistance, pairD]) | (with_reducible refine gOps_or (fun hq => ?_) (fun hq => ?_) <;> (try simp at hq) <;> simp -implicitDefEqProofs [*, refDistance, pairD]) | (with_reducible refine gOps_not (fun hq => ?_) (fun hq => ?_) <;> (try simp at hq) <;> simp -implicitDefEqProofs [*, refDistance, pairD]) | (with_reducible refine gOps_split (fun hq => ?_) (fun hq => ?_) <;> (try simp at hq) <;> simp -implicitDefEqProofs [*, refDistance, pairD]) | (with_reducible refine condC_dec (fun _ => ?_) (fun _ => ?_) <;> simp -implicitDefEqProofs [*, refDistance, pairD]) | (with_reducible refine condC_ndec (fun _ => ?_) (fun _ => ?_) <;> simp -implicitDefEqProofs [*, refDistance, pairD]) | (with_reducible refine condC_and (fun hq => ?_) (fun hq => ?_) <;> (try simp at hq) <;> simp -implicitDefEqProofs [*, refDistance, pairD]) | (with_reducible refine condC_or (fun hq => ?_) (fun hq => ?_) <;> (try simp at hq) <;> simp -implicitDefEqProofs [*, refDistance, pairD]) | (with_reducible refine condC_not (fun hq => ?_) (fun hq => ?_) <;> (try simp at hq) <;> simp -implicitDefEqProofs [*, refDistance, pairD]) | (with_reducible refine condC_split (fun hq => ?_) (fun hq => ?_) <;> (try simp at hq) <;> simp -implicitDefEqProofs [*, refDistance, pairD]) | (refine appK2_if (by omega) ?_; simp -implicitDefEqProofs [*, refDistance, pairD]) | (refine pureV_if (by omega) ?_; simp -implicitDefEqProofs [*, refDistance, pairD]))
theorem ref_Within (a x b : Int) : Den PP 28 [.int .i64 a, .int .i64 x, .int .i64 b] [] (.tup [.bool (refWithin a x b).1, .int .i64 (refWithin a x b).2]) [] := by
  refine den_of [] [] is_gimmalref1_Within ?_
  simp -implicitDefEqProofs [c_gimmalref1_Within]
  repeat' (first | (refine callThen_of (by first | exact ref_PlaceMay _ | exact ref_far _ _) ?_; simp -implicitDefEqProofs [*, refWithin]) | (with_reducible refine gOps_dec (fun _ => ?_) (fun _ => ?_) <;> simp -implicitDefEqProofs [*, refWithin]) | (with_reducible refine gOps_ndec (fun _ => ?_) (fun _ => ?_) <;> simp -implicitDefEqProofs [*, refWithin]) | (with_reducible refine gOps_and (fun hq => ?_) (fun hq => ?_) <;> (try simp at hq) <;> simp -implicitDefEqProofs [*, refWithin]) | (with_reducible refine gOps_or (fun hq => ?_) (fun hq => ?_) <;> (try simp at hq) <;> simp -implicitDefEqProofs [*, refWithin]) | (with_reducible refine gOps_not (fun hq => ?_) (fun hq => ?_) <;> (try simp at hq) <;> simp -implicitDefEqProofs [*, refWithin]) | (with_reducible refine gOps_split (fun hq => ?_) (fun hq => ?_) <;> (try simp at hq) <;> simp -implicitDefEqProofs [*, refWithin]) | (with_reducible refine condC_dec (fun _ => ?_) (fun _ => ?_) <;> simp -implicitDefEqProofs [*, refWithin]) | (with_reducible refine condC_ndec (fun _ => ?_) (fun _ => ?_) <;> simp -implicitDefEqProofs [*, refWithin]) | (with_reducible refine condC_and (fun hq => ?_) (fun hq => ?_) <;> (try simp at hq) <;> simp -implicitDefEqProofs [*, refWithin]) | (with_reducible refine condC_or (fun hq => ?_) (fun hq => ?_) <;> (try simp at hq) <;> simp -implicitDefEqProofs [*, refWithin]) | (with_reducible refine condC_not (fun hq => ?_) (fun hq => ?_) <;> (try simp at hq) <;> simp -implicitDefEqProofs [*, refWithin]) | (with_reducible refine condC_split (fun hq => ?_) (fun hq => ?_) <;> (try simp at hq) <;> simp -implicitDefEqProofs [*, refWithin]) | (refine appK2_if (by omega) ?_; simp -implicitDefEqProofs [*, refWithin]) | (refine pureV_if (by omega) ?_; simp -implicitDefEqProofs [*, refWithin]))
theorem law_CopyView (v : View) (hs : v.small) : Den PP 14 [viewD v] [] (.agg [.int .i64 v.id, .ref 0 0 v.peers.length, .ref 1 0 v.passive.length]) [⟨v.peers.map Peer.row, 2, .mut⟩, ⟨v.passive.map irow, 1, .mut⟩] := by
  obtain ⟨h1, h2⟩ := hs
  unfold cap16 at h1
  unfold cap at h2
  refine den_of [] [] is_gimmallaw0_CopyView ?_
  simp -implicitDefEqProofs [c_gimmallaw0_CopyView, viewD, View.cells, peersD, intsD]
  repeat' (first | (with_reducible refine gOps_dec (fun _ => ?_) (fun _ => ?_) <;> simp -implicitDefEqProofs [*]) | (with_reducible refine gOps_ndec (fun _ => ?_) (fun _ => ?_) <;> simp -implicitDefEqProofs [*]) | (with_reducible refine gOps_and (fun hq => ?_) (fun hq => ?_) <;> (try simp at hq) <;> simp -implicitDefEqProofs [*]) | (with_reducible refine gOps_or (fun hq => ?_) (fun hq => ?_) <;> (try simp at hq) <;> simp -implicitDefEqProofs [*]) | (with_reducible refine gOps_not (fun hq => ?_) (fun hq => ?_) <;> (try simp at hq) <;> simp -implicitDefEqProofs [*]) | (with_reducible refine gOps_split (fun hq => ?_) (fun hq => ?_) <;> (try simp at hq) <;> simp -implicitDefEqProofs [*]) | (with_reducible refine condC_dec (fun _ => ?_) (fun _ => ?_) <;> simp -implicitDefEqProofs [*]) | (with_reducible refine condC_ndec (fun _ => ?_) (fun _ => ?_) <;> simp -implicitDefEqProofs [*]) | (with_reducible refine condC_and (fun hq => ?_) (fun hq => ?_) <;> (try simp at hq) <;> simp -implicitDefEqProofs [*]) | (with_reducible refine condC_or (fun hq => ?_) (fun hq => ?_) <;> (try simp at hq) <;> simp -implicitDefEqProofs [*]) | (with_reducible refine condC_not (fun hq => ?_) (fun hq => ?_) <;> (try simp at hq) <;> simp -implicitDefEqProofs [*]) | (with_reducible refine condC_split (fun hq => ?_) (fun hq => ?_) <;> (try simp at hq) <;> simp -implicitDefEqProofs [*]) | (refine appK2_if (by omega) ?_; simp -implicitDefEqProofs [*]) | (refine pureV_if (by omega) ?_; simp -implicitDefEqProofs [*]))
end Go.AM
/- AM: contracts: the document's answers about views, more. -/
namespace Go.AM
set_option linter.unusedSimpArgs false
set_option linter.unusedVariables false
set_option maxRecDepth 8000
set_option maxHeartbeats 0
theorem ref_ViewMay (v : View) (hs : v.small) : Den PP 23 [viewD v] [] (.bool (refViewMay v)) [] := by
  have c1 := ref_Names v.peers hs.1
  have c2 := ref_has (v.peers.map Peer.id)
  have c3 := ref_PeersMay v.id v.peers (cap_of hs.1)
  have c4 := ref_PassiveMay v.passive hs.2
  simp [peersD, intsD, irow] at c1 c2 c3 c4
  have hw : IntKind.wrap .i64 ((v.peers.length : Int) + v.passive.length) = v.peers.length + v.passive.length := by
    obtain ⟨a, b⟩ := hs
    unfold cap16 at a
    unfold cap at b
    exact wrap_in (by omega) (by omega)
  obtain ⟨A, hA⟩ : ∃ A, v.passive.any (refOdd v) = A := ⟨_, rfl⟩
  refine den_of [] [] is_gimmalref1_ViewMay ?_
  simp -implicitDefEqProofs [c_gimmalref1_ViewMay, viewD, View.cells, peersD, intsD]
  refine callThen_of c1 ?_
  simp -implicitDefEqProofs
  refine list_rule v.passive (fun i rest => fun ⟨fr, bs⟩ => bs = [⟨[v.cells], 3, .box⟩] ∧ fr 1 = .ptr 0 0 0 ∧ fr 3 = .sl (v.peers.map fun p => irow p.id) v.peers.length ∧ fr 4 = .int .i64 i ∧ rest.any (refOdd v) = A)
    (fun ⟨fr, bs⟩ => bs = [⟨[v.cells], 3, .box⟩] ∧ fr 1 = .ptr 0 0 0 ∧ A = false) (fun ⟨fr, bs⟩ => fr 2 = .bool false ∧ A = true) c_gimmalref1_ViewMay_L0.eq_1 ?_ ?_ ?_ ?_ ?_
  · exact ⟨rfl, rfl, rfl, rfl, hA⟩
  · rintro i ⟨fr, bs⟩ hi ⟨rfl, h1, h3, h4, he⟩
    simp -implicitDefEqProofs [h1, h3, h4, hi, View.cells, intsD]
    simpa using he.symm
  · rintro i a rest ⟨fr, bs⟩ hlt hget hg hd hd2 ⟨rfl, h1, h3, h4, he⟩
    have hlt' : (i : Int) < v.passive.length := by omega
    have hw2 := wrap_next (n := i) (by have := hs.2; unfold cap at this; omega)
    have c2' := c2 a (cap_of hs.1)
    simp -implicitDefEqProofs [h1, h3, h4, hlt, hlt', hget, hg, hw2, View.cells, intsD, irow]
    repeat' (first | (refine callThen_of (by first | exact c2') ?_; simp -implicitDefEqProofs [*, View.cells, peersD]) | (with_reducible refine gOps_dec (fun _ => ?_) (fun _ => ?_) <;> simp -implicitDefEqProofs [*, View.cells, peersD]) | (with_reducible refine gOps_ndec (fun _ => ?_) (fun _ => ?_) <;> simp -implicitDefEqProofs [*, View.cells, peersD]) | (with_reducible refine gOps_and (fun hq => ?_) (fun hq => ?_) <;> (try simp at hq) <;> simp -implicitDefEqProofs [*, View.cells, peersD]) | (with_reducible refine gOps_or (fun hq => ?_) (fun hq => ?_) <;> (try simp at hq) <;> simp -implicitDefEqProofs [*, View.cells, peersD]) | (with_reducible refine gOps_not (fun hq => ?_) (fun hq => ?_) <;> (try simp at hq) <;> simp -implicitDefEqProofs [*, View.cells, peersD]) | (with_reducible refine gOps_split (fun hq => ?_) (fun hq => ?_) <;> (try simp at hq) <;> simp -implicitDefEqProofs [*, View.cells, peersD]) | (with_reducible refine condC_dec (fun _ => ?_) (fun _ => ?_) <;> simp -implicitDefEqProofs [*, View.cells, peersD]) | (with_reducible refine condC_ndec (fun _ => ?_) (fun _ => ?_) <;> simp -implicitDefEqProofs [*, View.cells, peersD]) | (with_reducible refine condC_and (fun hq => ?_) (fun hq => ?_) <;> (try simp at hq) <;> simp -implicitDefEqProofs [*, View.cells, peersD]) | (with_reducible refine condC_or (fun hq => ?_) (fun hq => ?_) <;> (try simp at hq) <;> simp -implicitDefEqProofs [*, View.cells, peersD]) | (with_reducible refine condC_not (fun hq => ?_) (fun hq => ?_) <;> (try simp at hq) <;> simp -implicitDefEqProofs [*, View.cells, peersD]) | (with_reducible refine condC_split (fun hq => ?_) (fun hq => ?_) <;> (try simp at hq) <;> simp -implicitDefEqProofs [*, View.cells, peersD]) | (refine appK2_if (by omega) ?_; simp -implicitDefEqProofs [*, View.cells, peersD]) | (refine pureV_if (by omega) ?_; simp -implicitDefEqProofs [*, View.cells, peersD]))
    all_goals grind [refOdd, irow]
  · rintro ⟨fr, bs⟩ ⟨rfl, h1, he⟩
    simp -implicitDefEqProofs [h1, he, hA, View.cells, intsD, peersD]
    repeat' (first | (refine callThen_of (by first | exact c3 | exact c4) ?_; simp -implicitDefEqProofs [*, refViewMay, hw]) | (with_reducible refine gOps_dec (fun _ => ?_) (fun _ => ?_) <;> simp -implicitDefEqProofs [*, refViewMay, hw]) | (with_reducible refine gOps_ndec (fun _ => ?_) (fun _ => ?_) <;> simp -implicitDefEqProofs [*, refViewMay, hw]) | (with_reducible refine gOps_and (fun hq => ?_) (fun hq => ?_) <;> (try simp at hq) <;> simp -implicitDefEqProofs [*, refViewMay, hw]) | (with_reducible refine gOps_or (fun hq => ?_) (fun hq => ?_) <;> (try simp at hq) <;> simp -implicitDefEqProofs [*, refViewMay, hw]) | (with_reducible refine gOps_not (fun hq => ?_) (fun hq => ?_) <;> (try simp at hq) <;> simp -implicitDefEqProofs [*, refViewMay, hw]) | (with_reducible refine gOps_split (fun hq => ?_) (fun hq => ?_) <;> (try simp at hq) <;> simp -implicitDefEqProofs [*, refViewMay, hw]) | (with_reducible refine condC_dec (fun _ => ?_) (fun _ => ?_) <;> simp -implicitDefEqProofs [*, refViewMay, hw]) | (with_reducible refine condC_ndec (fun _ => ?_) (fun _ => ?_) <;> simp -implicitDefEqProofs [*, refViewMay, hw]) | (with_reducible refine condC_and (fun hq => ?_) (fun hq => ?_) <;> (try simp at hq) <;> simp -implicitDefEqProofs [*, refViewMay, hw]) | (with_reducible refine condC_or (fun hq => ?_) (fun hq => ?_) <;> (try simp at hq) <;> simp -implicitDefEqProofs [*, refViewMay, hw]) | (with_reducible refine condC_not (fun hq => ?_) (fun hq => ?_) <;> (try simp at hq) <;> simp -implicitDefEqProofs [*, refViewMay, hw]) | (with_reducible refine condC_split (fun hq => ?_) (fun hq => ?_) <;> (try simp at hq) <;> simp -implicitDefEqProofs [*, refViewMay, hw]) | (refine appK2_if (by omega) ?_; simp -implicitDefEqProofs [*, refViewMay, hw]) | (refine pureV_if (by omega) ?_; simp -implicitDefEqProofs [*, refViewMay, hw]))
    omega
  · rintro ⟨fr, bs⟩ h
    simp -implicitDefEqProofs [h.1, h.2, hA, refViewMay]
theorem ref_ViewMay' (v : View) (hs : v.small) : Den PP 23 [viewD v] [] (.bool (viewMay v)) [] := by
  rw [← viewMay_eq]
  exact ref_ViewMay v hs
theorem ref_Succ (v : View) (hs : v.small) : Den PP 16 [viewD v] [] (pairD (succV v)) [] := by
  have c1 := ref_ViewMay' v hs
  simp [viewD, View.cells, peersD, intsD] at c1
  refine den_of [] [] is_gimmalref1_Succ ?_
  simp -implicitDefEqProofs [c_gimmalref1_Succ, viewD, View.cells, peersD, intsD]
  cases hp : v.peers with
  | nil =>
    simp [hp] at c1
    simp -implicitDefEqProofs [hp]
    repeat' (first | (refine callThen_of (by first | exact c1) ?_; simp -implicitDefEqProofs [*, pairD, succV, hp]) | (with_reducible refine gOps_dec (fun _ => ?_) (fun _ => ?_) <;> simp -implicitDefEqProofs [*, pairD, succV, hp]) | (with_reducible refine gOps_ndec (fun _ => ?_) (fun _ => ?_) <;> simp -implicitDefEqProofs [*, pairD, succV, hp]) | (with_reducible refine gOps_and (fun hq => ?_) (fun hq => ?_) <;> (try simp at hq) <;> simp -implicitDefEqProofs [*, pairD, succV, hp]) | (with_reducible refine gOps_or (fun hq => ?_) (fun hq => ?_) <;> (try simp at hq) <;> simp -implicitDefEqProofs [*, pairD, succV, hp]) | (with_reducible refine gOps_not (fun hq => ?_) (fun hq => ?_) <;> (try simp at hq) <;> simp -implicitDefEqProofs [*, pairD, succV, hp]) | (with_reducible refine gOps_split (fun hq => ?_) (fun hq => ?_) <;> (try simp at hq) <;> simp -implicitDefEqProofs [*, pairD, succV, hp]) | (with_reducible refine condC_dec (fun _ => ?_) (fun _ => ?_) <;> simp -implicitDefEqProofs [*, pairD, succV, hp]) | (with_reducible refine condC_ndec (fun _ => ?_) (fun _ => ?_) <;> simp -implicitDefEqProofs [*, pairD, succV, hp]) | (with_reducible refine condC_and (fun hq => ?_) (fun hq => ?_) <;> (try simp at hq) <;> simp -implicitDefEqProofs [*, pairD, succV, hp]) | (with_reducible refine condC_or (fun hq => ?_) (fun hq => ?_) <;> (try simp at hq) <;> simp -implicitDefEqProofs [*, pairD, succV, hp]) | (with_reducible refine condC_not (fun hq => ?_) (fun hq => ?_) <;> (try simp at hq) <;> simp -implicitDefEqProofs [*, pairD, succV, hp]) | (with_reducible refine condC_split (fun hq => ?_) (fun hq => ?_) <;> (try simp at hq) <;> simp -implicitDefEqProofs [*, pairD, succV, hp]) | (refine appK2_if (by omega) ?_; simp -implicitDefEqProofs [*, pairD, succV, hp]) | (refine pureV_if (by omega) ?_; simp -implicitDefEqProofs [*, pairD, succV, hp]))
  | cons p ps =>
    simp [hp] at c1
    simp -implicitDefEqProofs [hp]
    repeat' (first | (refine callThen_of (by first | exact c1) ?_; simp -implicitDefEqProofs [*, pairD, succV, hp, Peer.row]) | (with_reducible refine gOps_dec (fun _ => ?_) (fun _ => ?_) <;> simp -implicitDefEqProofs [*, pairD, succV, hp, Peer.row]) | (with_reducible refine gOps_ndec (fun _ => ?_) (fun _ => ?_) <;> simp -implicitDefEqProofs [*, pairD, succV, hp, Peer.row]) | (with_reducible refine gOps_and (fun hq => ?_) (fun hq => ?_) <;> (try simp at hq) <;> simp -implicitDefEqProofs [*, pairD, succV, hp, Peer.row]) | (with_reducible refine gOps_or (fun hq => ?_) (fun hq => ?_) <;> (try simp at hq) <;> simp -implicitDefEqProofs [*, pairD, succV, hp, Peer.row]) | (with_reducible refine gOps_not (fun hq => ?_) (fun hq => ?_) <;> (try simp at hq) <;> simp -implicitDefEqProofs [*, pairD, succV, hp, Peer.row]) | (with_reducible refine gOps_split (fun hq => ?_) (fun hq => ?_) <;> (try simp at hq) <;> simp -implicitDefEqProofs [*, pairD, succV, hp, Peer.row]) | (with_reducible refine condC_dec (fun _ => ?_) (fun _ => ?_) <;> simp -implicitDefEqProofs [*, pairD, succV, hp, Peer.row]) | (with_reducible refine condC_ndec (fun _ => ?_) (fun _ => ?_) <;> simp -implicitDefEqProofs [*, pairD, succV, hp, Peer.row]) | (with_reducible refine condC_and (fun hq => ?_) (fun hq => ?_) <;> (try simp at hq) <;> simp -implicitDefEqProofs [*, pairD, succV, hp, Peer.row]) | (with_reducible refine condC_or (fun hq => ?_) (fun hq => ?_) <;> (try simp at hq) <;> simp -implicitDefEqProofs [*, pairD, succV, hp, Peer.row]) | (with_reducible refine condC_not (fun hq => ?_) (fun hq => ?_) <;> (try simp at hq) <;> simp -implicitDefEqProofs [*, pairD, succV, hp, Peer.row]) | (with_reducible refine condC_split (fun hq => ?_) (fun hq => ?_) <;> (try simp at hq) <;> simp -implicitDefEqProofs [*, pairD, succV, hp, Peer.row]) | (refine appK2_if (by omega) ?_; simp -implicitDefEqProofs [*, pairD, succV, hp, Peer.row]) | (refine pureV_if (by omega) ?_; simp -implicitDefEqProofs [*, pairD, succV, hp, Peer.row]))
theorem ref_Pred (v : View) (hs : v.small) : Den PP 18 [viewD v] [] (pairD (predV v)) [] := by
  have c1 := ref_ViewMay' v hs
  simp [viewD, View.cells, peersD, intsD] at c1
  refine den_of [] [] is_gimmalref1_Pred ?_
  simp -implicitDefEqProofs [c_gimmalref1_Pred, viewD, View.cells, peersD, intsD]
  rcases List.eq_nil_or_concat v.peers with hp | ⟨ps, p, hp⟩
  · simp [hp] at c1
    simp -implicitDefEqProofs [hp]
    repeat' (first | (refine callThen_of (by first | exact c1) ?_; simp -implicitDefEqProofs [*, pairD, predV, hp]) | (with_reducible refine gOps_dec (fun _ => ?_) (fun _ => ?_) <;> simp -implicitDefEqProofs [*, pairD, predV, hp]) | (with_reducible refine gOps_ndec (fun _ => ?_) (fun _ => ?_) <;> simp -implicitDefEqProofs [*, pairD, predV, hp]) | (with_reducible refine gOps_and (fun hq => ?_) (fun hq => ?_) <;> (try simp at hq) <;> simp -implicitDefEqProofs [*, pairD, predV, hp]) | (with_reducible refine gOps_or (fun hq => ?_) (fun hq => ?_) <;> (try simp at hq) <;> simp -implicitDefEqProofs [*, pairD, predV, hp]) | (with_reducible refine gOps_not (fun hq => ?_) (fun hq => ?_) <;> (try simp at hq) <;> simp -implicitDefEqProofs [*, pairD, predV, hp]) | (with_reducible refine gOps_split (fun hq => ?_) (fun hq => ?_) <;> (try simp at hq) <;> simp -implicitDefEqProofs [*, pairD, predV, hp]) | (with_reducible refine condC_dec (fun _ => ?_) (fun _ => ?_) <;> simp -implicitDefEqProofs [*, pairD, predV, hp]) | (with_reducible refine condC_ndec (fun _ => ?_) (fun _ => ?_) <;> simp -implicitDefEqProofs [*, pairD, predV, hp]) | (with_reducible refine condC_and (fun hq => ?_) (fun hq => ?_) <;> (try simp at hq) <;> simp -implicitDefEqProofs [*, pairD, predV, hp]) | (with_reducible refine condC_or (fun hq => ?_) (fun hq => ?_) <;> (try simp at hq) <;> simp -implicitDefEqProofs [*, pairD, predV, hp]) | (with_reducible refine condC_not (fun hq => ?_) (fun hq => ?_) <;> (try simp at hq) <;> simp -implicitDefEqProofs [*, pairD, predV, hp]) | (with_reducible refine condC_split (fun hq => ?_) (fun hq => ?_) <;> (try simp at hq) <;> simp -implicitDefEqProofs [*, pairD, predV, hp]) | (refine appK2_if (by omega) ?_; simp -implicitDefEqProofs [*, pairD, predV, hp]) | (refine pureV_if (by omega) ?_; simp -implicitDefEqProofs [*, pairD, predV, hp]))
  · simp [hp] at c1
    have hl := hs.1
    rw [hp] at hl
    unfold cap16 at hl
    simp at hl
    have h1 : IntKind.wrap .i64 (ps.length : Int) = ps.length := by rw [wrap_in (by omega) (by omega)]
    simp -implicitDefEqProofs [hp]
    repeat' (first | (refine callThen_of (by first | exact c1) ?_; simp -implicitDefEqProofs [*, pairD, predV, hp, Peer.row]) | (with_reducible refine gOps_dec (fun _ => ?_) (fun _ => ?_) <;> simp -implicitDefEqProofs [*, pairD, predV, hp, Peer.row]) | (with_reducible refine gOps_ndec (fun _ => ?_) (fun _ => ?_) <;> simp -implicitDefEqProofs [*, pairD, predV, hp, Peer.row]) | (with_reducible refine gOps_and (fun hq => ?_) (fun hq => ?_) <;> (try simp at hq) <;> simp -implicitDefEqProofs [*, pairD, predV, hp, Peer.row]) | (with_reducible refine gOps_or (fun hq => ?_) (fun hq => ?_) <;> (try simp at hq) <;> simp -implicitDefEqProofs [*, pairD, predV, hp, Peer.row]) | (with_reducible refine gOps_not (fun hq => ?_) (fun hq => ?_) <;> (try simp at hq) <;> simp -implicitDefEqProofs [*, pairD, predV, hp, Peer.row]) | (with_reducible refine gOps_split (fun hq => ?_) (fun hq => ?_) <;> (try simp at hq) <;> simp -implicitDefEqProofs [*, pairD, predV, hp, Peer.row]) | (with_reducible refine condC_dec (fun _ => ?_) (fun _ => ?_) <;> simp -implicitDefEqProofs [*, pairD, predV, hp, Peer.row]) | (with_reducible refine condC_ndec (fun _ => ?_) (fun _ => ?_) <;> simp -implicitDefEqProofs [*, pairD, predV, hp, Peer.row]) | (with_reducible refine condC_and (fun hq => ?_) (fun hq => ?_) <;> (try simp at hq) <;> simp -implicitDefEqProofs [*, pairD, predV, hp, Peer.row]) | (with_reducible refine condC_or (fun hq => ?_) (fun hq => ?_) <;> (try simp at hq) <;> simp -implicitDefEqProofs [*, pairD, predV, hp, Peer.row]) | (with_reducible refine condC_not (fun hq => ?_) (fun hq => ?_) <;> (try simp at hq) <;> simp -implicitDefEqProofs [*, pairD, predV, hp, Peer.row]) | (with_reducible refine condC_split (fun hq => ?_) (fun hq => ?_) <;> (try simp at hq) <;> simp -implicitDefEqProofs [*, pairD, predV, hp, Peer.row]) | (refine appK2_if (by omega) ?_; simp -implicitDefEqProofs [*, pairD, predV, hp, Peer.row]) | (refine pureV_if (by omega) ?_; simp -implicitDefEqProofs [*, pairD, predV, hp, Peer.row]))
theorem ref_OwnerOf (ids : List Int) (key : Int) (hl : ids.length ≤ cap) : Den PP 52 [intsD ids, .int .i64 key] [] (pairD (rowOwner ids key)) [] := by
  have c1 := ref_placesMay ids hl
  simp [intsD] at c1
  obtain ⟨A, hA⟩ : ∃ A, ids.all place = A := ⟨_, rfl⟩
  rw [hA] at c1
  refine den_of [] [] is_gimmalref1_OwnerOf ?_
  simp -implicitDefEqProofs [c_gimmalref1_OwnerOf, intsD, pairD]
  cases ids with
  | nil =>
    simp at c1 hA
    subst hA
    simp -implicitDefEqProofs
    repeat' (first | (refine callThen_of (by first | exact c1 | exact ref_PlaceMay _) ?_; simp -implicitDefEqProofs [*, rowOwner]) | (with_reducible refine gOps_dec (fun _ => ?_) (fun _ => ?_) <;> simp -implicitDefEqProofs [*, rowOwner]) | (with_reducible refine gOps_ndec (fun _ => ?_) (fun _ => ?_) <;> simp -implicitDefEqProofs [*, rowOwner]) | (with_reducible refine gOps_and (fun hq => ?_) (fun hq => ?_) <;> (try simp at hq) <;> simp -implicitDefEqProofs [*, rowOwner]) | (with_reducible refine gOps_or (fun hq => ?_) (fun hq => ?_) <;> (try simp at hq) <;> simp -implicitDefEqProofs [*, rowOwner]) | (with_reducible refine gOps_not (fun hq => ?_) (fun hq => ?_) <;> (try simp at hq) <;> simp -implicitDefEqProofs [*, rowOwner]) | (with_reducible refine gOps_split (fun hq => ?_) (fun hq => ?_) <;> (try simp at hq) <;> simp -implicitDefEqProofs [*, rowOwner]) | (with_reducible refine condC_dec (fun _ => ?_) (fun _ => ?_) <;> simp -implicitDefEqProofs [*, rowOwner]) | (with_reducible refine condC_ndec (fun _ => ?_) (fun _ => ?_) <;> simp -implicitDefEqProofs [*, rowOwner]) | (with_reducible refine condC_and (fun hq => ?_) (fun hq => ?_) <;> (try simp at hq) <;> simp -implicitDefEqProofs [*, rowOwner]) | (with_reducible refine condC_or (fun hq => ?_) (fun hq => ?_) <;> (try simp at hq) <;> simp -implicitDefEqProofs [*, rowOwner]) | (with_reducible refine condC_not (fun hq => ?_) (fun hq => ?_) <;> (try simp at hq) <;> simp -implicitDefEqProofs [*, rowOwner]) | (with_reducible refine condC_split (fun hq => ?_) (fun hq => ?_) <;> (try simp at hq) <;> simp -implicitDefEqProofs [*, rowOwner]) | (refine appK2_if (by omega) ?_; simp -implicitDefEqProofs [*, rowOwner]) | (refine pureV_if (by omega) ?_; simp -implicitDefEqProofs [*, rowOwner]))
  | cons x xs =>
    simp at c1
    unfold cap at hl
    simp at hl
    obtain ⟨R, hR⟩ : ∃ R, rowOwner (x :: xs) key = R := ⟨_, rfl⟩
    unfold rowOwner at hR
    rw [hA] at hR
    simp -implicitDefEqProofs
    repeat' (first | (refine callThen_of (by first | exact c1 | exact ref_PlaceMay _) ?_; simp -implicitDefEqProofs [*, irow]) | (with_reducible refine gOps_dec (fun _ => ?_) (fun _ => ?_) <;> simp -implicitDefEqProofs [*, irow]) | (with_reducible refine gOps_ndec (fun _ => ?_) (fun _ => ?_) <;> simp -implicitDefEqProofs [*, irow]) | (with_reducible refine gOps_and (fun hq => ?_) (fun hq => ?_) <;> (try simp at hq) <;> simp -implicitDefEqProofs [*, irow]) | (with_reducible refine gOps_or (fun hq => ?_) (fun hq => ?_) <;> (try simp at hq) <;> simp -implicitDefEqProofs [*, irow]) | (with_reducible refine gOps_not (fun hq => ?_) (fun hq => ?_) <;> (try simp at hq) <;> simp -implicitDefEqProofs [*, irow]) | (with_reducible refine gOps_split (fun hq => ?_) (fun hq => ?_) <;> (try simp at hq) <;> simp -implicitDefEqProofs [*, irow]) | (with_reducible refine condC_dec (fun _ => ?_) (fun _ => ?_) <;> simp -implicitDefEqProofs [*, irow]) | (with_reducible refine condC_ndec (fun _ => ?_) (fun _ => ?_) <;> simp -implicitDefEqProofs [*, irow]) | (with_reducible refine condC_and (fun hq => ?_) (fun hq => ?_) <;> (try simp at hq) <;> simp -implicitDefEqProofs [*, irow]) | (with_reducible refine condC_or (fun hq => ?_) (fun hq => ?_) <;> (try simp at hq) <;> simp -implicitDefEqProofs [*, irow]) | (with_reducible refine condC_not (fun hq => ?_) (fun hq => ?_) <;> (try simp at hq) <;> simp -implicitDefEqProofs [*, irow]) | (with_reducible refine condC_split (fun hq => ?_) (fun hq => ?_) <;> (try simp at hq) <;> simp -implicitDefEqProofs [*, irow]) | (refine appK2_if (by omega) ?_; simp -implicitDefEqProofs [*, irow]) | (refine pureV_if (by omega) ?_; simp -implicitDefEqProofs [*, irow]))
    rotate_left
    all_goals try grind [rowOwner]
    refine list_rule xs (fun i rest => fun ⟨fr, bs⟩ => ∃ m, bs = [] ∧ fr 0 = .sl ((x :: xs).map irow) (xs.length + 1) ∧ fr 1 = .int .i64 key ∧ fr 6 = .int .i64 m ∧ fr 7 = .int .i64 (i + 1 : Nat) ∧ nearest key m rest = nearest key x xs)
      (fun ⟨fr, bs⟩ => bs = [] ∧ fr 6 = .int .i64 (nearest key x xs)) (fun ⟨fr, bs⟩ => False) c_gimmalref1_OwnerOf_L0.eq_1 ?_ ?_ ?_ ?_ ?_
    · exact ⟨x, rfl, rfl, rfl, rfl, rfl, rfl⟩
    · rintro i ⟨fr, bs⟩ hi ⟨m, rfl, h0, h1, h6, h7, he⟩
      simp -implicitDefEqProofs [h0, h1, h6, h7, hi]
      simpa [nearest] using he
    · rintro i a rest ⟨fr, bs⟩ hlt hget hg hd hd2 ⟨m, rfl, h0, h1, h6, h7, he⟩
      have hlt' : (i : Int) < xs.length := by omega
      have hlt2 : (i : Int) + 1 < xs.length + 1 := by omega
      have hw2 : IntKind.wrap .i64 ((i : Int) + 1 + 1) = (i : Int) + 1 + 1 := wrap_in (by omega) (by omega)
      have e1 : ((i : Int) + 1).toNat = i + 1 := by omega
      have e2 : (0 : Int) ≤ i + 1 := by omega
      simp -implicitDefEqProofs [h0, h1, h6, h7, hlt, hlt', hlt2, e1, e2, hget, hg, hw2, irow]
      repeat' (first | (refine callThen_of (by first | exact ref_far _ _) ?_; simp -implicitDefEqProofs [*, irow]) | (with_reducible refine gOps_dec (fun _ => ?_) (fun _ => ?_) <;> simp -implicitDefEqProofs [*, irow]) | (with_reducible refine gOps_ndec (fun _ => ?_) (fun _ => ?_) <;> simp -implicitDefEqProofs [*, irow]) | (with_reducible refine gOps_and (fun hq => ?_) (fun hq => ?_) <;> (try simp at hq) <;> simp -implicitDefEqProofs [*, irow]) | (with_reducible refine gOps_or (fun hq => ?_) (fun hq => ?_) <;> (try simp at hq) <;> simp -implicitDefEqProofs [*, irow]) | (with_reducible refine gOps_not (fun hq => ?_) (fun hq => ?_) <;> (try simp at hq) <;> simp -implicitDefEqProofs [*, irow]) | (with_reducible refine gOps_split (fun hq => ?_) (fun hq => ?_) <;> (try simp at hq) <;> simp -implicitDefEqProofs [*, irow]) | (with_reducible refine condC_dec (fun _ => ?_) (fun _ => ?_) <;> simp -implicitDefEqProofs [*, irow]) | (with_reducible refine condC_ndec (fun _ => ?_) (fun _ => ?_) <;> simp -implicitDefEqProofs [*, irow]) | (with_reducible refine condC_and (fun hq => ?_) (fun hq => ?_) <;> (try simp at hq) <;> simp -implicitDefEqProofs [*, irow]) | (with_reducible refine condC_or (fun hq => ?_) (fun hq => ?_) <;> (try simp at hq) <;> simp -implicitDefEqProofs [*, irow]) | (with_reducible refine condC_not (fun hq => ?_) (fun hq => ?_) <;> (try simp at hq) <;> simp -implicitDefEqProofs [*, irow]) | (with_reducible refine condC_split (fun hq => ?_) (fun hq => ?_) <;> (try simp at hq) <;> simp -implicitDefEqProofs [*, irow]) | (refine appK2_if (by omega) ?_; simp -implicitDefEqProofs [*, irow]) | (refine pureV_if (by omega) ?_; simp -implicitDefEqProofs [*, irow]))
      all_goals grind [nearest]
    · rintro ⟨fr, bs⟩ ⟨rfl, h1⟩
      simp -implicitDefEqProofs [h1]
      grind [rowOwner]
    · rintro ⟨fr, bs⟩ h
      exact h.elim
theorem ref_Owner (v : View) (key : Int) (hs : v.small) : Den PP 20 [viewD v, .int .i64 key] [] (pairD (ownerV v key)) [] := by
  rw [← refOwnerV_eq]
  have c1 := ref_ViewMay' v hs
  have c2 := ref_Names v.peers hs.1
  have hl := hs.1
  unfold cap16 at hl
  have c3 := ref_OwnerOf (v.id :: v.peers.map Peer.id) key (by unfold cap; simp; omega)
  simp [viewD, View.cells, peersD, intsD, irow, pairD] at c1 c2 c3
  rw [Nat.add_comm v.peers.length 1] at c3
  refine den_of [] [] is_gimmalref1_Owner ?_
  simp -implicitDefEqProofs [c_gimmalref1_Owner, viewD, View.cells, peersD, intsD]
  repeat' (first | (refine callThen_of (by first | exact c1 | exact c2 | exact c3 | exact ref_PlaceMay _) ?_; simp -implicitDefEqProofs [*, refOwnerV, pairD, irow, Fits]) | (with_reducible refine gOps_dec (fun _ => ?_) (fun _ => ?_) <;> simp -implicitDefEqProofs [*, refOwnerV, pairD, irow, Fits]) | (with_reducible refine gOps_ndec (fun _ => ?_) (fun _ => ?_) <;> simp -implicitDefEqProofs [*, refOwnerV, pairD, irow, Fits]) | (with_reducible refine gOps_and (fun hq => ?_) (fun hq => ?_) <;> (try simp at hq) <;> simp -implicitDefEqProofs [*, refOwnerV, pairD, irow, Fits]) | (with_reducible refine gOps_or (fun hq => ?_) (fun hq => ?_) <;> (try simp at hq) <;> simp -implicitDefEqProofs [*, refOwnerV, pairD, irow, Fits]) | (with_reducible refine gOps_not (fun hq => ?_) (fun hq => ?_) <;> (try simp at hq) <;> simp -implicitDefEqProofs [*, refOwnerV, pairD, irow, Fits]) | (with_reducible refine gOps_split (fun hq => ?_) (fun hq => ?_) <;> (try simp at hq) <;> simp -implicitDefEqProofs [*, refOwnerV, pairD, irow, Fits]) | (with_reducible refine condC_dec (fun _ => ?_) (fun _ => ?_) <;> simp -implicitDefEqProofs [*, refOwnerV, pairD, irow, Fits]) | (with_reducible refine condC_ndec (fun _ => ?_) (fun _ => ?_) <;> simp -implicitDefEqProofs [*, refOwnerV, pairD, irow, Fits]) | (with_reducible refine condC_and (fun hq => ?_) (fun hq => ?_) <;> (try simp at hq) <;> simp -implicitDefEqProofs [*, refOwnerV, pairD, irow, Fits]) | (with_reducible refine condC_or (fun hq => ?_) (fun hq => ?_) <;> (try simp at hq) <;> simp -implicitDefEqProofs [*, refOwnerV, pairD, irow, Fits]) | (with_reducible refine condC_not (fun hq => ?_) (fun hq => ?_) <;> (try simp at hq) <;> simp -implicitDefEqProofs [*, refOwnerV, pairD, irow, Fits]) | (with_reducible refine condC_split (fun hq => ?_) (fun hq => ?_) <;> (try simp at hq) <;> simp -implicitDefEqProofs [*, refOwnerV, pairD, irow, Fits]) | (refine appK2_if (by omega) ?_; simp -implicitDefEqProofs [*, refOwnerV, pairD, irow, Fits]) | (refine pureV_if (by omega) ?_; simp -implicitDefEqProofs [*, refOwnerV, pairD, irow, Fits]))
end Go.AM
/- AM: contracts: what chapter 9's statements build on. -/
namespace Go.AM
set_option linter.unusedSimpArgs false
set_option linter.unusedVariables false
set_option maxRecDepth 8000
set_option maxHeartbeats 0
def givenV : View := ⟨100, [⟨101, 2⟩, ⟨200, 0⟩, ⟨90, 1⟩], [7, 150]⟩
theorem small_givenV : givenV.small := by unfold View.small cap16 cap; decide
theorem law9_given : Den PP 26 [] [] (.agg [.int .i64 100, .ref 0 0 3, .ref 1 0 2]) [⟨givenV.peers.map Peer.row, 2, .mut⟩, ⟨givenV.passive.map irow, 1, .mut⟩] := by
  refine den_of [] [] is_gimmallaw9_given ?_
  simp -implicitDefEqProofs [c_gimmallaw9_given, givenV, Peer.row, irow]
theorem law9_awake : Den PP 25 [] [] (.bool true) [] := by
  have g1 := view_Succ givenV small_givenV
  have g2 := view_Pred givenV small_givenV
  have g3 := view_Owner givenV 91 small_givenV
  have g4 := view_Succ ⟨5, [], []⟩ (by unfold View.small cap16 cap; decide)
  have g5 := view_Pred ⟨5, [], [5]⟩ (by unfold View.small cap16 cap; decide)
  have g6 := view_Owner givenV 256 small_givenV
  have g7 := view_May givenV small_givenV
  have e1 : succV givenV = (101, 0) := by decide +kernel
  have e2 : predV givenV = (90, 0) := by decide +kernel
  have e3 : ownerV givenV 91 = (100, 0) := by decide +kernel
  have e4 : succV ⟨5, [], []⟩ = (5, 0) := by decide +kernel
  have e5 : predV ⟨5, [], [5]⟩ = (0, 900) := by decide +kernel
  have e6 : ownerV givenV 256 = (0, 900) := by decide +kernel
  have e7 : viewMay givenV = true := by decide +kernel
  rw [e1] at g1
  rw [e2] at g2
  rw [e3] at g3
  rw [e4] at g4
  rw [e5] at g5
  rw [e6] at g6
  rw [e7] at g7
  clear e1 e2 e3 e4 e5 e6 e7
  simp [givenV, viewD, View.cells, peersD, intsD, Peer.row, irow, pairD] at g1 g2 g3 g4 g5 g6 g7
  refine den_of [] [] is_gimmallaw9_awake ?_
  simp -implicitDefEqProofs [c_gimmallaw9_awake]
  refine callThen_of law9_given ?_
  simp -implicitDefEqProofs [givenV, Peer.row, irow]
  repeat' (first | (refine callThen_of (by first | exact law9_given | exact g1 | exact g2 | exact g3 | exact g4 | exact den_nrm (g4) | exact den_nrm (by simpa using g4) | exact g5 | exact den_nrm (g5) | exact den_nrm (by simpa using g5) | exact g6 | exact g7 | exact law_Num _) ?_; simp -implicitDefEqProofs [*, givenV, Peer.row, irow]) | (with_reducible refine gOps_dec (fun _ => ?_) (fun _ => ?_) <;> simp -implicitDefEqProofs [*, givenV, Peer.row, irow]) | (with_reducible refine gOps_ndec (fun _ => ?_) (fun _ => ?_) <;> simp -implicitDefEqProofs [*, givenV, Peer.row, irow]) | (with_reducible refine gOps_and (fun hq => ?_) (fun hq => ?_) <;> (try simp at hq) <;> simp -implicitDefEqProofs [*, givenV, Peer.row, irow]) | (with_reducible refine gOps_or (fun hq => ?_) (fun hq => ?_) <;> (try simp at hq) <;> simp -implicitDefEqProofs [*, givenV, Peer.row, irow]) | (with_reducible refine gOps_not (fun hq => ?_) (fun hq => ?_) <;> (try simp at hq) <;> simp -implicitDefEqProofs [*, givenV, Peer.row, irow]) | (with_reducible refine gOps_split (fun hq => ?_) (fun hq => ?_) <;> (try simp at hq) <;> simp -implicitDefEqProofs [*, givenV, Peer.row, irow]) | (with_reducible refine condC_dec (fun _ => ?_) (fun _ => ?_) <;> simp -implicitDefEqProofs [*, givenV, Peer.row, irow]) | (with_reducible refine condC_ndec (fun _ => ?_) (fun _ => ?_) <;> simp -implicitDefEqProofs [*, givenV, Peer.row, irow]) | (with_reducible refine condC_and (fun hq => ?_) (fun hq => ?_) <;> (try simp at hq) <;> simp -implicitDefEqProofs [*, givenV, Peer.row, irow]) | (with_reducible refine condC_or (fun hq => ?_) (fun hq => ?_) <;> (try simp at hq) <;> simp -implicitDefEqProofs [*, givenV, Peer.row, irow]) | (with_reducible refine condC_not (fun hq => ?_) (fun hq => ?_) <;> (try simp at hq) <;> simp -implicitDefEqProofs [*, givenV, Peer.row, irow]) | (with_reducible refine condC_split (fun hq => ?_) (fun hq => ?_) <;> (try simp at hq) <;> simp -implicitDefEqProofs [*, givenV, Peer.row, irow]) | (refine appK2_if (by omega) ?_; simp -implicitDefEqProofs [*, givenV, Peer.row, irow]) | (refine pureV_if (by omega) ?_; simp -implicitDefEqProofs [*, givenV, Peer.row, irow]))
end Go.AM
/- AM: contracts: items, stores, nodes. -/
namespace Go.AM
set_option linter.unusedSimpArgs false
set_option linter.unusedVariables false
set_option maxRecDepth 8000
set_option maxHeartbeats 0
theorem version_May (c w : Int) : Den PP 98 [.agg [.int .i64 c, .int .i64 w]] [] (.bool (verMay c w)) [] := by
  refine den_of [] [] is_version_May ?_
  simp -implicitDefEqProofs [c_version_May]
  repeat' (first | (refine callThen_of (by first | exact ring_Place _) ?_; simp -implicitDefEqProofs [*, verMay]) | (with_reducible refine gOps_dec (fun _ => ?_) (fun _ => ?_) <;> simp -implicitDefEqProofs [*, verMay]) | (with_reducible refine gOps_ndec (fun _ => ?_) (fun _ => ?_) <;> simp -implicitDefEqProofs [*, verMay]) | (with_reducible refine gOps_and (fun hq => ?_) (fun hq => ?_) <;> (try simp at hq) <;> simp -implicitDefEqProofs [*, verMay]) | (with_reducible refine gOps_or (fun hq => ?_) (fun hq => ?_) <;> (try simp at hq) <;> simp -implicitDefEqProofs [*, verMay]) | (with_reducible refine gOps_not (fun hq => ?_) (fun hq => ?_) <;> (try simp at hq) <;> simp -implicitDefEqProofs [*, verMay]) | (with_reducible refine gOps_split (fun hq => ?_) (fun hq => ?_) <;> (try simp at hq) <;> simp -implicitDefEqProofs [*, verMay]) | (with_reducible refine condC_dec (fun _ => ?_) (fun _ => ?_) <;> simp -implicitDefEqProofs [*, verMay]) | (with_reducible refine condC_ndec (fun _ => ?_) (fun _ => ?_) <;> simp -implicitDefEqProofs [*, verMay]) | (with_reducible refine condC_and (fun hq => ?_) (fun hq => ?_) <;> (try simp at hq) <;> simp -implicitDefEqProofs [*, verMay]) | (with_reducible refine condC_or (fun hq => ?_) (fun hq => ?_) <;> (try simp at hq) <;> simp -implicitDefEqProofs [*, verMay]) | (with_reducible refine condC_not (fun hq => ?_) (fun hq => ?_) <;> (try simp at hq) <;> simp -implicitDefEqProofs [*, verMay]) | (with_reducible refine condC_split (fun hq => ?_) (fun hq => ?_) <;> (try simp at hq) <;> simp -implicitDefEqProofs [*, verMay]) | (refine appK2_if (by omega) ?_; simp -implicitDefEqProofs [*, verMay]) | (refine pureV_if (by omega) ?_; simp -implicitDefEqProofs [*, verMay]))
theorem ref_VersionMay (c w : Int) : Den PP 83 [.agg [.int .i64 c, .int .i64 w]] [] (.bool (verMay c w)) [] := by
  refine den_of [] [] is_gimmalref1_VersionMay ?_
  simp -implicitDefEqProofs [c_gimmalref1_VersionMay]
  repeat' (first | (refine callThen_of (by first | exact ref_PlaceMay _) ?_; simp -implicitDefEqProofs [*, verMay]) | (with_reducible refine gOps_dec (fun _ => ?_) (fun _ => ?_) <;> simp -implicitDefEqProofs [*, verMay]) | (with_reducible refine gOps_ndec (fun _ => ?_) (fun _ => ?_) <;> simp -implicitDefEqProofs [*, verMay]) | (with_reducible refine gOps_and (fun hq => ?_) (fun hq => ?_) <;> (try simp at hq) <;> simp -implicitDefEqProofs [*, verMay]) | (with_reducible refine gOps_or (fun hq => ?_) (fun hq => ?_) <;> (try simp at hq) <;> simp -implicitDefEqProofs [*, verMay]) | (with_reducible refine gOps_not (fun hq => ?_) (fun hq => ?_) <;> (try simp at hq) <;> simp -implicitDefEqProofs [*, verMay]) | (with_reducible refine gOps_split (fun hq => ?_) (fun hq => ?_) <;> (try simp at hq) <;> simp -implicitDefEqProofs [*, verMay]) | (with_reducible refine condC_dec (fun _ => ?_) (fun _ => ?_) <;> simp -implicitDefEqProofs [*, verMay]) | (with_reducible refine condC_ndec (fun _ => ?_) (fun _ => ?_) <;> simp -implicitDefEqProofs [*, verMay]) | (with_reducible refine condC_and (fun hq => ?_) (fun hq => ?_) <;> (try simp at hq) <;> simp -implicitDefEqProofs [*, verMay]) | (with_reducible refine condC_or (fun hq => ?_) (fun hq => ?_) <;> (try simp at hq) <;> simp -implicitDefEqProofs [*, verMay]) | (with_reducible refine condC_not (fun hq => ?_) (fun hq => ?_) <;> (try simp at hq) <;> simp -implicitDefEqProofs [*, verMay]) | (with_reducible refine condC_split (fun hq => ?_) (fun hq => ?_) <;> (try simp at hq) <;> simp -implicitDefEqProofs [*, verMay]) | (refine appK2_if (by omega) ?_; simp -implicitDefEqProofs [*, verMay]) | (refine pureV_if (by omega) ?_; simp -implicitDefEqProofs [*, verMay]))
theorem item_Byte (x : Int) : Den PP 97 [.int .i64 x] [] (.bool (byte x)) [] := by
  refine den_of [] [] is_item_Byte ?_
  simp -implicitDefEqProofs [c_item_Byte]
  repeat' (first | (with_reducible refine gOps_dec (fun _ => ?_) (fun _ => ?_) <;> simp -implicitDefEqProofs [*, byte]) | (with_reducible refine gOps_ndec (fun _ => ?_) (fun _ => ?_) <;> simp -implicitDefEqProofs [*, byte]) | (with_reducible refine gOps_and (fun hq => ?_) (fun hq => ?_) <;> (try simp at hq) <;> simp -implicitDefEqProofs [*, byte]) | (with_reducible refine gOps_or (fun hq => ?_) (fun hq => ?_) <;> (try simp at hq) <;> simp -implicitDefEqProofs [*, byte]) | (with_reducible refine gOps_not (fun hq => ?_) (fun hq => ?_) <;> (try simp at hq) <;> simp -implicitDefEqProofs [*, byte]) | (with_reducible refine gOps_split (fun hq => ?_) (fun hq => ?_) <;> (try simp at hq) <;> simp -implicitDefEqProofs [*, byte]) | (with_reducible refine condC_dec (fun _ => ?_) (fun _ => ?_) <;> simp -implicitDefEqProofs [*, byte]) | (with_reducible refine condC_ndec (fun _ => ?_) (fun _ => ?_) <;> simp -implicitDefEqProofs [*, byte]) | (with_reducible refine condC_and (fun hq => ?_) (fun hq => ?_) <;> (try simp at hq) <;> simp -implicitDefEqProofs [*, byte]) | (with_reducible refine condC_or (fun hq => ?_) (fun hq => ?_) <;> (try simp at hq) <;> simp -implicitDefEqProofs [*, byte]) | (with_reducible refine condC_not (fun hq => ?_) (fun hq => ?_) <;> (try simp at hq) <;> simp -implicitDefEqProofs [*, byte]) | (with_reducible refine condC_split (fun hq => ?_) (fun hq => ?_) <;> (try simp at hq) <;> simp -implicitDefEqProofs [*, byte]) | (refine appK2_if (by omega) ?_; simp -implicitDefEqProofs [*, byte]) | (refine pureV_if (by omega) ?_; simp -implicitDefEqProofs [*, byte]))
theorem ref_byteMay (x : Int) : Den PP 82 [.int .i64 x] [] (.bool (byte x)) [] := by
  refine den_of [] [] is_gimmalref1_byteMay ?_
  simp -implicitDefEqProofs [c_gimmalref1_byteMay]
  repeat' (first | (with_reducible refine gOps_dec (fun _ => ?_) (fun _ => ?_) <;> simp -implicitDefEqProofs [*, byte]) | (with_reducible refine gOps_ndec (fun _ => ?_) (fun _ => ?_) <;> simp -implicitDefEqProofs [*, byte]) | (with_reducible refine gOps_and (fun hq => ?_) (fun hq => ?_) <;> (try simp at hq) <;> simp -implicitDefEqProofs [*, byte]) | (with_reducible refine gOps_or (fun hq => ?_) (fun hq => ?_) <;> (try simp at hq) <;> simp -implicitDefEqProofs [*, byte]) | (with_reducible refine gOps_not (fun hq => ?_) (fun hq => ?_) <;> (try simp at hq) <;> simp -implicitDefEqProofs [*, byte]) | (with_reducible refine gOps_split (fun hq => ?_) (fun hq => ?_) <;> (try simp at hq) <;> simp -implicitDefEqProofs [*, byte]) | (with_reducible refine condC_dec (fun _ => ?_) (fun _ => ?_) <;> simp -implicitDefEqProofs [*, byte]) | (with_reducible refine condC_ndec (fun _ => ?_) (fun _ => ?_) <;> simp -implicitDefEqProofs [*, byte]) | (with_reducible refine condC_and (fun hq => ?_) (fun hq => ?_) <;> (try simp at hq) <;> simp -implicitDefEqProofs [*, byte]) | (with_reducible refine condC_or (fun hq => ?_) (fun hq => ?_) <;> (try simp at hq) <;> simp -implicitDefEqProofs [*, byte]) | (with_reducible refine condC_not (fun hq => ?_) (fun hq => ?_) <;> (try simp at hq) <;> simp -implicitDefEqProofs [*, byte]) | (with_reducible refine condC_split (fun hq => ?_) (fun hq => ?_) <;> (try simp at hq) <;> simp -implicitDefEqProofs [*, byte]) | (refine appK2_if (by omega) ?_; simp -implicitDefEqProofs [*, byte]) | (refine pureV_if (by omega) ?_; simp -implicitDefEqProofs [*, byte]))
  all_goals omega
theorem ref16_byteMay (x : Int) : Den PP 71 [.int .i64 x] [] (.bool (byte x)) [] := by
  refine den_of [] [] is_gimmalref16_byteMay ?_
  simp -implicitDefEqProofs [c_gimmalref16_byteMay]
  repeat' (first | (with_reducible refine gOps_dec (fun _ => ?_) (fun _ => ?_) <;> simp -implicitDefEqProofs [*, byte]) | (with_reducible refine gOps_ndec (fun _ => ?_) (fun _ => ?_) <;> simp -implicitDefEqProofs [*, byte]) | (with_reducible refine gOps_and (fun hq => ?_) (fun hq => ?_) <;> (try simp at hq) <;> simp -implicitDefEqProofs [*, byte]) | (with_reducible refine gOps_or (fun hq => ?_) (fun hq => ?_) <;> (try simp at hq) <;> simp -implicitDefEqProofs [*, byte]) | (with_reducible refine gOps_not (fun hq => ?_) (fun hq => ?_) <;> (try simp at hq) <;> simp -implicitDefEqProofs [*, byte]) | (with_reducible refine gOps_split (fun hq => ?_) (fun hq => ?_) <;> (try simp at hq) <;> simp -implicitDefEqProofs [*, byte]) | (with_reducible refine condC_dec (fun _ => ?_) (fun _ => ?_) <;> simp -implicitDefEqProofs [*, byte]) | (with_reducible refine condC_ndec (fun _ => ?_) (fun _ => ?_) <;> simp -implicitDefEqProofs [*, byte]) | (with_reducible refine condC_and (fun hq => ?_) (fun hq => ?_) <;> (try simp at hq) <;> simp -implicitDefEqProofs [*, byte]) | (with_reducible refine condC_or (fun hq => ?_) (fun hq => ?_) <;> (try simp at hq) <;> simp -implicitDefEqProofs [*, byte]) | (with_reducible refine condC_not (fun hq => ?_) (fun hq => ?_) <;> (try simp at hq) <;> simp -implicitDefEqProofs [*, byte]) | (with_reducible refine condC_split (fun hq => ?_) (fun hq => ?_) <;> (try simp at hq) <;> simp -implicitDefEqProofs [*, byte]) | (refine appK2_if (by omega) ?_; simp -implicitDefEqProofs [*, byte]) | (refine pureV_if (by omega) ?_; simp -implicitDefEqProofs [*, byte]))
  all_goals omega
theorem item_May (i : Item) : Den PP 95 [.agg i.row] [] (.bool (itemMay i)) [] := by
  refine den_of [] [] is_item_May ?_
  simp -implicitDefEqProofs [c_item_May, Item.row]
  repeat' (first | (refine callThen_of (by first | exact item_Byte _ | exact version_May _ _) ?_; simp -implicitDefEqProofs [*, itemMay]) | (with_reducible refine gOps_dec (fun _ => ?_) (fun _ => ?_) <;> simp -implicitDefEqProofs [*, itemMay]) | (with_reducible refine gOps_ndec (fun _ => ?_) (fun _ => ?_) <;> simp -implicitDefEqProofs [*, itemMay]) | (with_reducible refine gOps_and (fun hq => ?_) (fun hq => ?_) <;> (try simp at hq) <;> simp -implicitDefEqProofs [*, itemMay]) | (with_reducible refine gOps_or (fun hq => ?_) (fun hq => ?_) <;> (try simp at hq) <;> simp -implicitDefEqProofs [*, itemMay]) | (with_reducible refine gOps_not (fun hq => ?_) (fun hq => ?_) <;> (try simp at hq) <;> simp -implicitDefEqProofs [*, itemMay]) | (with_reducible refine gOps_split (fun hq => ?_) (fun hq => ?_) <;> (try simp at hq) <;> simp -implicitDefEqProofs [*, itemMay]) | (with_reducible refine condC_dec (fun _ => ?_) (fun _ => ?_) <;> simp -implicitDefEqProofs [*, itemMay]) | (with_reducible refine condC_ndec (fun _ => ?_) (fun _ => ?_) <;> simp -implicitDefEqProofs [*, itemMay]) | (with_reducible refine condC_and (fun hq => ?_) (fun hq => ?_) <;> (try simp at hq) <;> simp -implicitDefEqProofs [*, itemMay]) | (with_reducible refine condC_or (fun hq => ?_) (fun hq => ?_) <;> (try simp at hq) <;> simp -implicitDefEqProofs [*, itemMay]) | (with_reducible refine condC_not (fun hq => ?_) (fun hq => ?_) <;> (try simp at hq) <;> simp -implicitDefEqProofs [*, itemMay]) | (with_reducible refine condC_split (fun hq => ?_) (fun hq => ?_) <;> (try simp at hq) <;> simp -implicitDefEqProofs [*, itemMay]) | (refine appK2_if (by omega) ?_; simp -implicitDefEqProofs [*, itemMay]) | (refine pureV_if (by omega) ?_; simp -implicitDefEqProofs [*, itemMay]))
theorem ref_ItemMay (i : Item) : Den PP 70 [.agg i.row] [] (.bool (itemMay i)) [] := by
  refine den_of [] [] is_gimmalref1_ItemMay ?_
  simp -implicitDefEqProofs [c_gimmalref1_ItemMay, Item.row]
  repeat' (first | (refine callThen_of (by first | exact ref_byteMay _ | exact ref_VersionMay _ _) ?_; simp -implicitDefEqProofs [*, itemMay]) | (with_reducible refine gOps_dec (fun _ => ?_) (fun _ => ?_) <;> simp -implicitDefEqProofs [*, itemMay]) | (with_reducible refine gOps_ndec (fun _ => ?_) (fun _ => ?_) <;> simp -implicitDefEqProofs [*, itemMay]) | (with_reducible refine gOps_and (fun hq => ?_) (fun hq => ?_) <;> (try simp at hq) <;> simp -implicitDefEqProofs [*, itemMay]) | (with_reducible refine gOps_or (fun hq => ?_) (fun hq => ?_) <;> (try simp at hq) <;> simp -implicitDefEqProofs [*, itemMay]) | (with_reducible refine gOps_not (fun hq => ?_) (fun hq => ?_) <;> (try simp at hq) <;> simp -implicitDefEqProofs [*, itemMay]) | (with_reducible refine gOps_split (fun hq => ?_) (fun hq => ?_) <;> (try simp at hq) <;> simp -implicitDefEqProofs [*, itemMay]) | (with_reducible refine condC_dec (fun _ => ?_) (fun _ => ?_) <;> simp -implicitDefEqProofs [*, itemMay]) | (with_reducible refine condC_ndec (fun _ => ?_) (fun _ => ?_) <;> simp -implicitDefEqProofs [*, itemMay]) | (with_reducible refine condC_and (fun hq => ?_) (fun hq => ?_) <;> (try simp at hq) <;> simp -implicitDefEqProofs [*, itemMay]) | (with_reducible refine condC_or (fun hq => ?_) (fun hq => ?_) <;> (try simp at hq) <;> simp -implicitDefEqProofs [*, itemMay]) | (with_reducible refine condC_not (fun hq => ?_) (fun hq => ?_) <;> (try simp at hq) <;> simp -implicitDefEqProofs [*, itemMay]) | (with_reducible refine condC_split (fun hq => ?_) (fun hq => ?_) <;> (try simp at hq) <;> simp -implicitDefEqProofs [*, itemMay]) | (refine appK2_if (by omega) ?_; simp -implicitDefEqProofs [*, itemMay]) | (refine pureV_if (by omega) ?_; simp -implicitDefEqProofs [*, itemMay]))
theorem ref_ItemMay_raw (k c w v : Int) (g : Bool) : Den PP 70 [.agg [.int .i64 k, .int .i64 c, .int .i64 w, .int .i64 v, .bool g]] [] (.bool (itemMay ⟨k, c, w, v, g⟩)) [] := ref_ItemMay ⟨k, c, w, v, g⟩
theorem item_May_raw (k c w v : Int) (g : Bool) : Den PP 95 [.agg [.int .i64 k, .int .i64 c, .int .i64 w, .int .i64 v, .bool g]] [] (.bool (itemMay ⟨k, c, w, v, g⟩)) [] := item_May ⟨k, c, w, v, g⟩
def prevKey (is : List Item) (i : Nat) : Option Int := if i = 0 then none else (is[i - 1]?).map Item.key
theorem store_May (is : List Item) (hl : is.length ≤ cap16) : Den PP 90 [itemsD is] [] (.bool (storeMay is)) [] := by
  obtain ⟨A, hA⟩ : ∃ A, itemsOk none is = A := ⟨_, rfl⟩
  unfold cap16 at hl
  refine den_of [] [] is_store_May ?_
  simp -implicitDefEqProofs [c_store_May, itemsD]
  refine list_rule is (fun i rest => fun ⟨fr, bs⟩ => bs = [] ∧ fr 0 = itemsD is ∧ fr 5 = itemsD is ∧ fr 6 = .int .i64 is.length ∧ fr 7 = .int .i64 i ∧ itemsOk (prevKey is i) rest = A)
    (fun ⟨fr, bs⟩ => bs = [] ∧ fr 0 = itemsD is ∧ A = true) (fun ⟨fr, bs⟩ => fr 2 = .bool false ∧ A = false) c_store_May_L0.eq_1 ?_ ?_ ?_ ?_ ?_
  · exact ⟨rfl, rfl, rfl, rfl, rfl, hA⟩
  · rintro i ⟨fr, bs⟩ hi ⟨rfl, h0, h5, h6, h7, he⟩
    simp -implicitDefEqProofs [h0, h5, h6, h7, hi]
    simpa [itemsOk] using he.symm
  · rintro i a rest ⟨fr, bs⟩ hlt hget hg hd hd2 ⟨rfl, h0, h5, h6, h7, he⟩
    have hlt' : (i : Int) < is.length := by omega
    have hw := wrap_next (n := i) (by omega)
    have c1 := item_May a
    simp [Item.row] at c1
    simp only [itemsOk] at he
    have hp : prevKey is (i + 1) = some a.key := by simp [prevKey, hget]
    cases i with
    | zero =>
      simp [prevKey] at he
      simp -implicitDefEqProofs [h0, h5, h6, h7, hlt, hlt', hget, hg, itemsD, Item.row]
      repeat' (first | (refine callThen_of (by first | exact c1) ?_; simp -implicitDefEqProofs [*, itemsD, Item.row, hw]) | (with_reducible refine gOps_dec (fun _ => ?_) (fun _ => ?_) <;> simp -implicitDefEqProofs [*, itemsD, Item.row, hw]) | (with_reducible refine gOps_ndec (fun _ => ?_) (fun _ => ?_) <;> simp -implicitDefEqProofs [*, itemsD, Item.row, hw]) | (with_reducible refine gOps_and (fun hq => ?_) (fun hq => ?_) <;> (try simp at hq) <;> simp -implicitDefEqProofs [*, itemsD, Item.row, hw]) | (with_reducible refine gOps_or (fun hq => ?_) (fun hq => ?_) <;> (try simp at hq) <;> simp -implicitDefEqProofs [*, itemsD, Item.row, hw]) | (with_reducible refine gOps_not (fun hq => ?_) (fun hq => ?_) <;> (try simp at hq) <;> simp -implicitDefEqProofs [*, itemsD, Item.row, hw]) | (with_reducible refine gOps_split (fun hq => ?_) (fun hq => ?_) <;> (try simp at hq) <;> simp -implicitDefEqProofs [*, itemsD, Item.row, hw]) | (with_reducible refine condC_dec (fun _ => ?_) (fun _ => ?_) <;> simp -implicitDefEqProofs [*, itemsD, Item.row, hw]) | (with_reducible refine condC_ndec (fun _ => ?_) (fun _ => ?_) <;> simp -implicitDefEqProofs [*, itemsD, Item.row, hw]) | (with_reducible refine condC_and (fun hq => ?_) (fun hq => ?_) <;> (try simp at hq) <;> simp -implicitDefEqProofs [*, itemsD, Item.row, hw]) | (with_reducible refine condC_or (fun hq => ?_) (fun hq => ?_) <;> (try simp at hq) <;> simp -implicitDefEqProofs [*, itemsD, Item.row, hw]) | (with_reducible refine condC_not (fun hq => ?_) (fun hq => ?_) <;> (try simp at hq) <;> simp -implicitDefEqProofs [*, itemsD, Item.row, hw]) | (with_reducible refine condC_split (fun hq => ?_) (fun hq => ?_) <;> (try simp at hq) <;> simp -implicitDefEqProofs [*, itemsD, Item.row, hw]) | (refine appK2_if (by omega) ?_; simp -implicitDefEqProofs [*, itemsD, Item.row, hw]) | (refine pureV_if (by omega) ?_; simp -implicitDefEqProofs [*, itemsD, Item.row, hw]))
      all_goals grind
    | succ j =>
      have hj : j < is.length := by omega
      have hj' : (j : Int) < is.length := by omega
      have hjw : IntKind.wrap .i64 (j : Int) = j := wrap_in (by omega) (by omega)
      obtain ⟨b, hb⟩ : ∃ b, is[j] = b := ⟨_, rfl⟩
      have hpj : prevKey is (j + 1) = some b.key := by simp [prevKey, hj, hb]
      rw [hpj] at he
      simp -implicitDefEqProofs [h0, h5, h6, h7, hlt, hlt', hget, hg, itemsD, Item.row]
      repeat' (first | (refine callThen_of (by first | exact c1) ?_; simp -implicitDefEqProofs [*, itemsD, Item.row, hw, hb]) | (with_reducible refine gOps_dec (fun _ => ?_) (fun _ => ?_) <;> simp -implicitDefEqProofs [*, itemsD, Item.row, hw, hb]) | (with_reducible refine gOps_ndec (fun _ => ?_) (fun _ => ?_) <;> simp -implicitDefEqProofs [*, itemsD, Item.row, hw, hb]) | (with_reducible refine gOps_and (fun hq => ?_) (fun hq => ?_) <;> (try simp at hq) <;> simp -implicitDefEqProofs [*, itemsD, Item.row, hw, hb]) | (with_reducible refine gOps_or (fun hq => ?_) (fun hq => ?_) <;> (try simp at hq) <;> simp -implicitDefEqProofs [*, itemsD, Item.row, hw, hb]) | (with_reducible refine gOps_not (fun hq => ?_) (fun hq => ?_) <;> (try simp at hq) <;> simp -implicitDefEqProofs [*, itemsD, Item.row, hw, hb]) | (with_reducible refine gOps_split (fun hq => ?_) (fun hq => ?_) <;> (try simp at hq) <;> simp -implicitDefEqProofs [*, itemsD, Item.row, hw, hb]) | (with_reducible refine condC_dec (fun _ => ?_) (fun _ => ?_) <;> simp -implicitDefEqProofs [*, itemsD, Item.row, hw, hb]) | (with_reducible refine condC_ndec (fun _ => ?_) (fun _ => ?_) <;> simp -implicitDefEqProofs [*, itemsD, Item.row, hw, hb]) | (with_reducible refine condC_and (fun hq => ?_) (fun hq => ?_) <;> (try simp at hq) <;> simp -implicitDefEqProofs [*, itemsD, Item.row, hw, hb]) | (with_reducible refine condC_or (fun hq => ?_) (fun hq => ?_) <;> (try simp at hq) <;> simp -implicitDefEqProofs [*, itemsD, Item.row, hw, hb]) | (with_reducible refine condC_not (fun hq => ?_) (fun hq => ?_) <;> (try simp at hq) <;> simp -implicitDefEqProofs [*, itemsD, Item.row, hw, hb]) | (with_reducible refine condC_split (fun hq => ?_) (fun hq => ?_) <;> (try simp at hq) <;> simp -implicitDefEqProofs [*, itemsD, Item.row, hw, hb]) | (refine appK2_if (by omega) ?_; simp -implicitDefEqProofs [*, itemsD, Item.row, hw, hb]) | (refine pureV_if (by omega) ?_; simp -implicitDefEqProofs [*, itemsD, Item.row, hw, hb]))
      all_goals grind
  · rintro ⟨fr, bs⟩ ⟨rfl, h0, h1⟩
    simp -implicitDefEqProofs [h0, itemsD, storeMay, hA, h1]
    omega
  · rintro ⟨fr, bs⟩ h
    simp -implicitDefEqProofs [h.1, h.2, storeMay, hA]
theorem ref_StoreMay (is : List Item) (hl : is.length ≤ cap16) : Den PP 72 [itemsD is] [] (.bool (storeMay is)) [] := by
  obtain ⟨A, hA⟩ : ∃ A, itemsOk none is = A := ⟨_, rfl⟩
  unfold cap16 at hl
  refine den_of [] [] is_gimmalref1_StoreMay ?_
  simp -implicitDefEqProofs [c_gimmalref1_StoreMay, itemsD]
  refine list_rule is (fun i rest => fun ⟨fr, bs⟩ => bs = [] ∧ fr 0 = itemsD is ∧ fr 3 = .int .i64 i ∧ itemsOk (prevKey is i) rest = A)
    (fun ⟨fr, bs⟩ => bs = [] ∧ fr 0 = itemsD is ∧ A = true) (fun ⟨fr, bs⟩ => fr 2 = .bool false ∧ A = false) c_gimmalref1_StoreMay_L0.eq_1 ?_ ?_ ?_ ?_ ?_
  · exact ⟨rfl, rfl, rfl, hA⟩
  · rintro i ⟨fr, bs⟩ hi ⟨rfl, h0, h3, he⟩
    simp -implicitDefEqProofs [h0, h3, hi, itemsD]
    simpa [itemsOk] using he.symm
  · rintro i a rest ⟨fr, bs⟩ hlt hget hg hd hd2 ⟨rfl, h0, h3, he⟩
    have hlt' : (i : Int) < is.length := by omega
    have hw := wrap_next (n := i) (by omega)
    have c1 := ref_ItemMay a
    simp [Item.row] at c1
    simp only [itemsOk] at he
    have hp : prevKey is (i + 1) = some a.key := by simp [prevKey, hget]
    cases i with
    | zero =>
      simp [prevKey] at he
      simp -implicitDefEqProofs [h0, h3, hlt, hlt', hget, hg, itemsD, Item.row]
      repeat' (first | (refine callThen_of (by first | exact c1) ?_; simp -implicitDefEqProofs [*, itemsD, Item.row, hw]) | (with_reducible refine gOps_dec (fun _ => ?_) (fun _ => ?_) <;> simp -implicitDefEqProofs [*, itemsD, Item.row, hw]) | (with_reducible refine gOps_ndec (fun _ => ?_) (fun _ => ?_) <;> simp -implicitDefEqProofs [*, itemsD, Item.row, hw]) | (with_reducible refine gOps_and (fun hq => ?_) (fun hq => ?_) <;> (try simp at hq) <;> simp -implicitDefEqProofs [*, itemsD, Item.row, hw]) | (with_reducible refine gOps_or (fun hq => ?_) (fun hq => ?_) <;> (try simp at hq) <;> simp -implicitDefEqProofs [*, itemsD, Item.row, hw]) | (with_reducible refine gOps_not (fun hq => ?_) (fun hq => ?_) <;> (try simp at hq) <;> simp -implicitDefEqProofs [*, itemsD, Item.row, hw]) | (with_reducible refine gOps_split (fun hq => ?_) (fun hq => ?_) <;> (try simp at hq) <;> simp -implicitDefEqProofs [*, itemsD, Item.row, hw]) | (with_reducible refine condC_dec (fun _ => ?_) (fun _ => ?_) <;> simp -implicitDefEqProofs [*, itemsD, Item.row, hw]) | (with_reducible refine condC_ndec (fun _ => ?_) (fun _ => ?_) <;> simp -implicitDefEqProofs [*, itemsD, Item.row, hw]) | (with_reducible refine condC_and (fun hq => ?_) (fun hq => ?_) <;> (try simp at hq) <;> simp -implicitDefEqProofs [*, itemsD, Item.row, hw]) | (with_reducible refine condC_or (fun hq => ?_) (fun hq => ?_) <;> (try simp at hq) <;> simp -implicitDefEqProofs [*, itemsD, Item.row, hw]) | (with_reducible refine condC_not (fun hq => ?_) (fun hq => ?_) <;> (try simp at hq) <;> simp -implicitDefEqProofs [*, itemsD, Item.row, hw]) | (with_reducible refine condC_split (fun hq => ?_) (fun hq => ?_) <;> (try simp at hq) <;> simp -implicitDefEqProofs [*, itemsD, Item.row, hw]) | (refine appK2_if (by omega) ?_; simp -implicitDefEqProofs [*, itemsD, Item.row, hw]) | (refine pureV_if (by omega) ?_; simp -implicitDefEqProofs [*, itemsD, Item.row, hw]))
      all_goals grind
    | succ j =>
      have hj : j < is.length := by omega
      have hj' : (j : Int) < is.length := by omega
      have hjw : IntKind.wrap .i64 (j : Int) = j := wrap_in (by omega) (by omega)
      obtain ⟨b, hb⟩ : ∃ b, is[j] = b := ⟨_, rfl⟩
      have hpj : prevKey is (j + 1) = some b.key := by simp [prevKey, hj, hb]
      rw [hpj] at he
      simp -implicitDefEqProofs [h0, h3, hlt, hlt', hget, hg, itemsD, Item.row]
      repeat' (first | (refine callThen_of (by first | exact c1) ?_; simp -implicitDefEqProofs [*, itemsD, Item.row, hw, hb]) | (with_reducible refine gOps_dec (fun _ => ?_) (fun _ => ?_) <;> simp -implicitDefEqProofs [*, itemsD, Item.row, hw, hb]) | (with_reducible refine gOps_ndec (fun _ => ?_) (fun _ => ?_) <;> simp -implicitDefEqProofs [*, itemsD, Item.row, hw, hb]) | (with_reducible refine gOps_and (fun hq => ?_) (fun hq => ?_) <;> (try simp at hq) <;> simp -implicitDefEqProofs [*, itemsD, Item.row, hw, hb]) | (with_reducible refine gOps_or (fun hq => ?_) (fun hq => ?_) <;> (try simp at hq) <;> simp -implicitDefEqProofs [*, itemsD, Item.row, hw, hb]) | (with_reducible refine gOps_not (fun hq => ?_) (fun hq => ?_) <;> (try simp at hq) <;> simp -implicitDefEqProofs [*, itemsD, Item.row, hw, hb]) | (with_reducible refine gOps_split (fun hq => ?_) (fun hq => ?_) <;> (try simp at hq) <;> simp -implicitDefEqProofs [*, itemsD, Item.row, hw, hb]) | (with_reducible refine condC_dec (fun _ => ?_) (fun _ => ?_) <;> simp -implicitDefEqProofs [*, itemsD, Item.row, hw, hb]) | (with_reducible refine condC_ndec (fun _ => ?_) (fun _ => ?_) <;> simp -implicitDefEqProofs [*, itemsD, Item.row, hw, hb]) | (with_reducible refine condC_and (fun hq => ?_) (fun hq => ?_) <;> (try simp at hq) <;> simp -implicitDefEqProofs [*, itemsD, Item.row, hw, hb]) | (with_reducible refine condC_or (fun hq => ?_) (fun hq => ?_) <;> (try simp at hq) <;> simp -implicitDefEqProofs [*, itemsD, Item.row, hw, hb]) | (with_reducible refine condC_not (fun hq => ?_) (fun hq => ?_) <;> (try simp at hq) <;> simp -implicitDefEqProofs [*, itemsD, Item.row, hw, hb]) | (with_reducible refine condC_split (fun hq => ?_) (fun hq => ?_) <;> (try simp at hq) <;> simp -implicitDefEqProofs [*, itemsD, Item.row, hw, hb]) | (refine appK2_if (by omega) ?_; simp -implicitDefEqProofs [*, itemsD, Item.row, hw, hb]) | (refine pureV_if (by omega) ?_; simp -implicitDefEqProofs [*, itemsD, Item.row, hw, hb]))
      all_goals grind
  · rintro ⟨fr, bs⟩ ⟨rfl, h0, h1⟩
    simp -implicitDefEqProofs [h0, itemsD, storeMay, hA, h1]
    omega
  · rintro ⟨fr, bs⟩ h
    simp -implicitDefEqProofs [h.1, h.2, storeMay, hA]
theorem node_odd (t : Told) : Den PP 92 [.agg t.row] [] (.bool (toldOdd t)) [] := by
  refine den_of [] [] is_node_odd ?_
  simp -implicitDefEqProofs [c_node_odd, Told.row]
  repeat' (first | (refine callThen_of (by first | exact item_Byte _) ?_; simp -implicitDefEqProofs [*, toldOdd]) | (with_reducible refine gOps_dec (fun _ => ?_) (fun _ => ?_) <;> simp -implicitDefEqProofs [*, toldOdd]) | (with_reducible refine gOps_ndec (fun _ => ?_) (fun _ => ?_) <;> simp -implicitDefEqProofs [*, toldOdd]) | (with_reducible refine gOps_and (fun hq => ?_) (fun hq => ?_) <;> (try simp at hq) <;> simp -implicitDefEqProofs [*, toldOdd]) | (with_reducible refine gOps_or (fun hq => ?_) (fun hq => ?_) <;> (try simp at hq) <;> simp -implicitDefEqProofs [*, toldOdd]) | (with_reducible refine gOps_not (fun hq => ?_) (fun hq => ?_) <;> (try simp at hq) <;> simp -implicitDefEqProofs [*, toldOdd]) | (with_reducible refine gOps_split (fun hq => ?_) (fun hq => ?_) <;> (try simp at hq) <;> simp -implicitDefEqProofs [*, toldOdd]) | (with_reducible refine condC_dec (fun _ => ?_) (fun _ => ?_) <;> simp -implicitDefEqProofs [*, toldOdd]) | (with_reducible refine condC_ndec (fun _ => ?_) (fun _ => ?_) <;> simp -implicitDefEqProofs [*, toldOdd]) | (with_reducible refine condC_and (fun hq => ?_) (fun hq => ?_) <;> (try simp at hq) <;> simp -implicitDefEqProofs [*, toldOdd]) | (with_reducible refine condC_or (fun hq => ?_) (fun hq => ?_) <;> (try simp at hq) <;> simp -implicitDefEqProofs [*, toldOdd]) | (with_reducible refine condC_not (fun hq => ?_) (fun hq => ?_) <;> (try simp at hq) <;> simp -implicitDefEqProofs [*, toldOdd]) | (with_reducible refine condC_split (fun hq => ?_) (fun hq => ?_) <;> (try simp at hq) <;> simp -implicitDefEqProofs [*, toldOdd]) | (refine appK2_if (by omega) ?_; simp -implicitDefEqProofs [*, toldOdd]) | (refine pureV_if (by omega) ?_; simp -implicitDefEqProofs [*, toldOdd]))
end Go.AM
/- AM: contracts: nodes, sharing. -/
namespace Go.AM
set_option linter.unusedSimpArgs false
set_option linter.unusedVariables false
set_option maxRecDepth 8000
set_option maxHeartbeats 0
theorem slices_IndexFunc_Told (xs : List Told) (hl : xs.length ≤ cap) : Den PP 96 [toldsD xs, .fn 92 [] []] [] (.int .i64 (gIdx toldOdd 0 xs)) [] := by
  obtain ⟨A, hA⟩ : ∃ A, gIdx toldOdd 0 xs = A := ⟨_, rfl⟩
  unfold cap at hl
  refine den_of [] [] is_slices_IndexFunc_api_Told_api_Told ?_
  simp -implicitDefEqProofs [c_slices_IndexFunc_api_Told_api_Told, toldsD, hA]
  refine list_rule xs (fun i rest => fun ⟨fr, bs⟩ => bs = [] ∧ fr 0 = toldsD xs ∧ fr 1 = .fn 92 [] [] ∧ fr 7 = .int .i64 xs.length ∧ fr 8 = .int .i64 i ∧ gIdx toldOdd i rest = A)
    (fun ⟨fr, bs⟩ => bs = [] ∧ A = -1) (fun ⟨fr, bs⟩ => fr 4 = .int .i64 A) c_slices_IndexFunc_api_Told_api_Told_L0.eq_1 ?_ ?_ ?_ ?_ ?_
  · exact ⟨rfl, rfl, rfl, rfl, rfl, hA⟩
  · rintro i ⟨fr, bs⟩ hi ⟨rfl, h0, h1, h7, h8, he⟩
    simp -implicitDefEqProofs [h0, h1, h7, h8, hi]
    simpa [gIdx] using he.symm
  · rintro i a rest ⟨fr, bs⟩ hlt hget hg hd hd2 ⟨rfl, h0, h1, h7, h8, he⟩
    have hlt' : (i : Int) < xs.length := by omega
    have hw := wrap_next (n := i) (by omega)
    have c1 := node_odd a
    simp [Told.row] at c1
    simp only [gIdx] at he
    simp -implicitDefEqProofs [h0, h1, h7, h8, hlt, hlt', hget, hg, toldsD, Told.row]
    repeat' (first | (refine callThen_of (by first | exact c1) ?_; simp -implicitDefEqProofs [*, toldsD, Told.row, hw]) | (with_reducible refine gOps_dec (fun _ => ?_) (fun _ => ?_) <;> simp -implicitDefEqProofs [*, toldsD, Told.row, hw]) | (with_reducible refine gOps_ndec (fun _ => ?_) (fun _ => ?_) <;> simp -implicitDefEqProofs [*, toldsD, Told.row, hw]) | (with_reducible refine gOps_and (fun hq => ?_) (fun hq => ?_) <;> (try simp at hq) <;> simp -implicitDefEqProofs [*, toldsD, Told.row, hw]) | (with_reducible refine gOps_or (fun hq => ?_) (fun hq => ?_) <;> (try simp at hq) <;> simp -implicitDefEqProofs [*, toldsD, Told.row, hw]) | (with_reducible refine gOps_not (fun hq => ?_) (fun hq => ?_) <;> (try simp at hq) <;> simp -implicitDefEqProofs [*, toldsD, Told.row, hw]) | (with_reducible refine gOps_split (fun hq => ?_) (fun hq => ?_) <;> (try simp at hq) <;> simp -implicitDefEqProofs [*, toldsD, Told.row, hw]) | (with_reducible refine condC_dec (fun _ => ?_) (fun _ => ?_) <;> simp -implicitDefEqProofs [*, toldsD, Told.row, hw]) | (with_reducible refine condC_ndec (fun _ => ?_) (fun _ => ?_) <;> simp -implicitDefEqProofs [*, toldsD, Told.row, hw]) | (with_reducible refine condC_and (fun hq => ?_) (fun hq => ?_) <;> (try simp at hq) <;> simp -implicitDefEqProofs [*, toldsD, Told.row, hw]) | (with_reducible refine condC_or (fun hq => ?_) (fun hq => ?_) <;> (try simp at hq) <;> simp -implicitDefEqProofs [*, toldsD, Told.row, hw]) | (with_reducible refine condC_not (fun hq => ?_) (fun hq => ?_) <;> (try simp at hq) <;> simp -implicitDefEqProofs [*, toldsD, Told.row, hw]) | (with_reducible refine condC_split (fun hq => ?_) (fun hq => ?_) <;> (try simp at hq) <;> simp -implicitDefEqProofs [*, toldsD, Told.row, hw]) | (refine appK2_if (by omega) ?_; simp -implicitDefEqProofs [*, toldsD, Told.row, hw]) | (refine pureV_if (by omega) ?_; simp -implicitDefEqProofs [*, toldsD, Told.row, hw]))
    all_goals grind
  · rintro ⟨fr, bs⟩ ⟨rfl, h1⟩
    simp -implicitDefEqProofs [h1]
  · rintro ⟨fr, bs⟩ h
    simp -implicitDefEqProofs [h]
theorem slices_ContainsFunc_Told (xs : List Told) (hl : xs.length ≤ cap) : Den PP 91 [toldsD xs, .fn 92 [] []] [] (.bool (xs.any toldOdd)) [] := by
  have c1 := slices_IndexFunc_Told xs hl
  have h1 := gIdx_any toldOdd xs 0
  obtain ⟨A, hA⟩ : ∃ A, xs.any toldOdd = A := ⟨_, rfl⟩
  rw [hA] at h1
  simp [toldsD] at c1
  refine den_of [] [] is_slices_ContainsFunc_api_Told_api_Told ?_
  simp -implicitDefEqProofs [c_slices_ContainsFunc_api_Told_api_Told, toldsD]
  refine callThen_of c1 ?_
  simp -implicitDefEqProofs [h1, hA]
theorem node_May (x : Node) (hs : x.small) : Den PP 81 [nodeD x] [] (.bool (nodeMay x)) [] := by
  obtain ⟨h1, h2, h3⟩ := hs
  have c1 := view_May x.view h1
  have c2 := store_May x.items (by unfold cap16; omega)
  have c3 := slices_ContainsFunc_Told x.log (by unfold cap; omega)
  obtain ⟨A, hA⟩ : ∃ A, x.log.any toldOdd = A := ⟨_, rfl⟩
  rw [hA] at c3
  simp [viewD, View.cells, peersD, intsD, itemsD, toldsD] at c1 c2 c3
  obtain ⟨hp, hq⟩ := h1
  unfold cap16 at hp
  unfold cap at hq
  have w1 : IntKind.wrap .i64 ((x.view.peers.length : Int) + x.view.passive.length) = x.view.peers.length + x.view.passive.length := wrap_in (by omega) (by omega)
  have w2 : IntKind.wrap .i64 ((x.view.peers.length : Int) + x.view.passive.length + x.items.length) = x.view.peers.length + x.view.passive.length + x.items.length := wrap_in (by omega) (by omega)
  have w3 : IntKind.wrap .i64 ((x.view.peers.length : Int) + x.view.passive.length + x.items.length + x.log.length) = x.view.peers.length + x.view.passive.length + x.items.length + x.log.length := wrap_in (by omega) (by omega)
  refine den_of [] [] is_node_May ?_
  simp -implicitDefEqProofs [c_node_May, nodeD, Node.cells, peersD, intsD, itemsD, toldsD]
  repeat' (first | (refine callThen_of (by first | exact c1 | exact c2 | exact c3) ?_; simp -implicitDefEqProofs [*, w1, w2, w3]) | (with_reducible refine gOps_dec (fun _ => ?_) (fun _ => ?_) <;> simp -implicitDefEqProofs [*, w1, w2, w3]) | (with_reducible refine gOps_ndec (fun _ => ?_) (fun _ => ?_) <;> simp -implicitDefEqProofs [*, w1, w2, w3]) | (with_reducible refine gOps_and (fun hq => ?_) (fun hq => ?_) <;> (try simp at hq) <;> simp -implicitDefEqProofs [*, w1, w2, w3]) | (with_reducible refine gOps_or (fun hq => ?_) (fun hq => ?_) <;> (try simp at hq) <;> simp -implicitDefEqProofs [*, w1, w2, w3]) | (with_reducible refine gOps_not (fun hq => ?_) (fun hq => ?_) <;> (try simp at hq) <;> simp -implicitDefEqProofs [*, w1, w2, w3]) | (with_reducible refine gOps_split (fun hq => ?_) (fun hq => ?_) <;> (try simp at hq) <;> simp -implicitDefEqProofs [*, w1, w2, w3]) | (with_reducible refine condC_dec (fun _ => ?_) (fun _ => ?_) <;> simp -implicitDefEqProofs [*, w1, w2, w3]) | (with_reducible refine condC_ndec (fun _ => ?_) (fun _ => ?_) <;> simp -implicitDefEqProofs [*, w1, w2, w3]) | (with_reducible refine condC_and (fun hq => ?_) (fun hq => ?_) <;> (try simp at hq) <;> simp -implicitDefEqProofs [*, w1, w2, w3]) | (with_reducible refine condC_or (fun hq => ?_) (fun hq => ?_) <;> (try simp at hq) <;> simp -implicitDefEqProofs [*, w1, w2, w3]) | (with_reducible refine condC_not (fun hq => ?_) (fun hq => ?_) <;> (try simp at hq) <;> simp -implicitDefEqProofs [*, w1, w2, w3]) | (with_reducible refine condC_split (fun hq => ?_) (fun hq => ?_) <;> (try simp at hq) <;> simp -implicitDefEqProofs [*, w1, w2, w3]) | (refine appK2_if (by omega) ?_; simp -implicitDefEqProofs [*, w1, w2, w3]) | (refine pureV_if (by omega) ?_; simp -implicitDefEqProofs [*, w1, w2, w3]))
  all_goals simp only [nodeMay, emptyN, hA]
  all_goals grind
theorem node_Up (x : Node) (hs : x.small) : Den PP 64 [nodeD x] [] (.bool (nodeUp x)) [] := by
  have c1 := node_May x hs
  simp only [nodeD, Node.cells, peersD, intsD, itemsD, toldsD] at c1
  refine den_of [] [] is_node_Up ?_
  cases hu : x.up
  all_goals
    rw [hu] at c1
    simp -implicitDefEqProofs [c_node_Up, nodeD, Node.cells, peersD, intsD, itemsD, toldsD, hu]
    repeat' (first | (refine callThen_of (by first | exact c1) ?_; simp -implicitDefEqProofs [*]) | (with_reducible refine gOps_dec (fun _ => ?_) (fun _ => ?_) <;> simp -implicitDefEqProofs [*]) | (with_reducible refine gOps_ndec (fun _ => ?_) (fun _ => ?_) <;> simp -implicitDefEqProofs [*]) | (with_reducible refine gOps_and (fun hq => ?_) (fun hq => ?_) <;> (try simp at hq) <;> simp -implicitDefEqProofs [*]) | (with_reducible refine gOps_or (fun hq => ?_) (fun hq => ?_) <;> (try simp at hq) <;> simp -implicitDefEqProofs [*]) | (with_reducible refine gOps_not (fun hq => ?_) (fun hq => ?_) <;> (try simp at hq) <;> simp -implicitDefEqProofs [*]) | (with_reducible refine gOps_split (fun hq => ?_) (fun hq => ?_) <;> (try simp at hq) <;> simp -implicitDefEqProofs [*]) | (with_reducible refine condC_dec (fun _ => ?_) (fun _ => ?_) <;> simp -implicitDefEqProofs [*]) | (with_reducible refine condC_ndec (fun _ => ?_) (fun _ => ?_) <;> simp -implicitDefEqProofs [*]) | (with_reducible refine condC_and (fun hq => ?_) (fun hq => ?_) <;> (try simp at hq) <;> simp -implicitDefEqProofs [*]) | (with_reducible refine condC_or (fun hq => ?_) (fun hq => ?_) <;> (try simp at hq) <;> simp -implicitDefEqProofs [*]) | (with_reducible refine condC_not (fun hq => ?_) (fun hq => ?_) <;> (try simp at hq) <;> simp -implicitDefEqProofs [*]) | (with_reducible refine condC_split (fun hq => ?_) (fun hq => ?_) <;> (try simp at hq) <;> simp -implicitDefEqProofs [*]) | (refine appK2_if (by omega) ?_; simp -implicitDefEqProofs [*]) | (refine pureV_if (by omega) ?_; simp -implicitDefEqProofs [*]))
    all_goals simp [nodeUp, hu]
theorem share_Of (x : Node) (hs : x.small) : Den PP 33 [nodeD x] [] (.tup [.ref 0 0 (shareOf x).1.length, .int .i64 (shareOf x).2]) [⟨(shareOf x).1.map Msg.row0, 11, .mut⟩] := by
  have c1 := node_Up x hs
  have c2 := view_Succ x.view hs.1
  have c3 := fun k => view_Owner x.view k hs.1
  simp only [nodeD, Node.cells, viewD, View.cells, peersD, intsD, itemsD, toldsD, pairD] at c1 c2 c3
  obtain ⟨h1, h2, h3⟩ := hs
  refine den_of [] [] is_share_Of ?_
  simp -implicitDefEqProofs [c_share_Of, nodeD, Node.cells, peersD, intsD, itemsD, toldsD]
  repeat' (first | (refine callThen_of (by first | exact c1 | exact c2) ?_; simp -implicitDefEqProofs [*, shareOf]) | (with_reducible refine gOps_dec (fun _ => ?_) (fun _ => ?_) <;> simp -implicitDefEqProofs [*, shareOf]) | (with_reducible refine gOps_ndec (fun _ => ?_) (fun _ => ?_) <;> simp -implicitDefEqProofs [*, shareOf]) | (with_reducible refine gOps_and (fun hq => ?_) (fun hq => ?_) <;> (try simp at hq) <;> simp -implicitDefEqProofs [*, shareOf]) | (with_reducible refine gOps_or (fun hq => ?_) (fun hq => ?_) <;> (try simp at hq) <;> simp -implicitDefEqProofs [*, shareOf]) | (with_reducible refine gOps_not (fun hq => ?_) (fun hq => ?_) <;> (try simp at hq) <;> simp -implicitDefEqProofs [*, shareOf]) | (with_reducible refine gOps_split (fun hq => ?_) (fun hq => ?_) <;> (try simp at hq) <;> simp -implicitDefEqProofs [*, shareOf]) | (with_reducible refine condC_dec (fun _ => ?_) (fun _ => ?_) <;> simp -implicitDefEqProofs [*, shareOf]) | (with_reducible refine condC_ndec (fun _ => ?_) (fun _ => ?_) <;> simp -implicitDefEqProofs [*, shareOf]) | (with_reducible refine condC_and (fun hq => ?_) (fun hq => ?_) <;> (try simp at hq) <;> simp -implicitDefEqProofs [*, shareOf]) | (with_reducible refine condC_or (fun hq => ?_) (fun hq => ?_) <;> (try simp at hq) <;> simp -implicitDefEqProofs [*, shareOf]) | (with_reducible refine condC_not (fun hq => ?_) (fun hq => ?_) <;> (try simp at hq) <;> simp -implicitDefEqProofs [*, shareOf]) | (with_reducible refine condC_split (fun hq => ?_) (fun hq => ?_) <;> (try simp at hq) <;> simp -implicitDefEqProofs [*, shareOf]) | (refine appK2_if (by omega) ?_; simp -implicitDefEqProofs [*, shareOf]) | (refine pureV_if (by omega) ?_; simp -implicitDefEqProofs [*, shareOf]))
  have hu : x.items.length ≤ 16 := by
    have := ‹nodeUp x = true›
    simp only [nodeUp, nodeMay, storeMay, Bool.and_eq_true, decide_eq_true_eq] at this
    exact this.2.1.1.2.2
  have hf : ∀ i, ((x.items.take i).filterMap (shareOne x)).length ≤ 16 := fun i => Nat.le_trans (List.length_filterMap_le _ _) (by simp; omega)
  refine list_rule x.items (fun i rest => fun ⟨fr, bs⟩ => bs = [⟨[x.cells], 6, .box⟩, ⟨[], 11, .mut⟩, ⟨((x.items.take i).filterMap (shareOne x)).map Msg.row0, 11, .mut⟩] ∧ fr 1 = .ptr 0 0 0 ∧ fr 4 = .ref 2 0 ((x.items.take i).filterMap (shareOne x)).length ∧ fr 5 = .int .i64 (succV x.view).1 ∧ fr 21 = itemsD x.items ∧ fr 22 = .int .i64 x.items.length ∧ fr 23 = .int .i64 i)
    (fun ⟨fr, bs⟩ => bs = [⟨[x.cells], 6, .box⟩, ⟨[], 11, .mut⟩, ⟨(x.items.filterMap (shareOne x)).map Msg.row0, 11, .mut⟩] ∧ fr 4 = .ref 2 0 (x.items.filterMap (shareOne x)).length) (fun ⟨fr, bs⟩ => False) c_share_Of_L0.eq_1 ?_ ?_ ?_ ?_ ?_
  · exact ⟨rfl, rfl, rfl, rfl, rfl, rfl, rfl⟩
  · rintro i ⟨fr, bs⟩ hi ⟨rfl, h1', h4, h5, h21, h22, h23⟩
    simp -implicitDefEqProofs [h1', h4, h5, h21, h22, h23, hi]
  · rintro i a rest ⟨fr, bs⟩ hlt hget hg hd hd2 ⟨rfl, h1', h4, h5, h21, h22, h23⟩
    have hlt' : (i : Int) < x.items.length := by omega
    have hw := wrap_next (n := i) (by omega)
    have htk : x.items.take (i + 1) = x.items.take i ++ [a] := by rw [List.take_add_one, hget]; rfl
    have c4 := c3 a.key
    have hfi := hf i
    generalize hacc : (x.items.take i).filterMap (shareOne x) = acc at *
    clear c3 hf
    simp -implicitDefEqProofs [h1', h4, h5, h21, h22, h23, hlt, hlt', hget, hg, Node.cells, peersD, intsD, itemsD, toldsD, Item.row]
    repeat' (first | (refine callThen_of (by first | exact c4) ?_; simp -implicitDefEqProofs [*, Node.cells, peersD, intsD, itemsD, toldsD, Item.row, hw, htk, hacc, Fits, shareOne, Msg.row0]) | (with_reducible refine gOps_dec (fun _ => ?_) (fun _ => ?_) <;> simp -implicitDefEqProofs [*, Node.cells, peersD, intsD, itemsD, toldsD, Item.row, hw, htk, hacc, Fits, shareOne, Msg.row0]) | (with_reducible refine gOps_ndec (fun _ => ?_) (fun _ => ?_) <;> simp -implicitDefEqProofs [*, Node.cells, peersD, intsD, itemsD, toldsD, Item.row, hw, htk, hacc, Fits, shareOne, Msg.row0]) | (with_reducible refine gOps_and (fun hq => ?_) (fun hq => ?_) <;> (try simp at hq) <;> simp -implicitDefEqProofs [*, Node.cells, peersD, intsD, itemsD, toldsD, Item.row, hw, htk, hacc, Fits, shareOne, Msg.row0]) | (with_reducible refine gOps_or (fun hq => ?_) (fun hq => ?_) <;> (try simp at hq) <;> simp -implicitDefEqProofs [*, Node.cells, peersD, intsD, itemsD, toldsD, Item.row, hw, htk, hacc, Fits, shareOne, Msg.row0]) | (with_reducible refine gOps_not (fun hq => ?_) (fun hq => ?_) <;> (try simp at hq) <;> simp -implicitDefEqProofs [*, Node.cells, peersD, intsD, itemsD, toldsD, Item.row, hw, htk, hacc, Fits, shareOne, Msg.row0]) | (with_reducible refine gOps_split (fun hq => ?_) (fun hq => ?_) <;> (try simp at hq) <;> simp -implicitDefEqProofs [*, Node.cells, peersD, intsD, itemsD, toldsD, Item.row, hw, htk, hacc, Fits, shareOne, Msg.row0]) | (with_reducible refine condC_dec (fun _ => ?_) (fun _ => ?_) <;> simp -implicitDefEqProofs [*, Node.cells, peersD, intsD, itemsD, toldsD, Item.row, hw, htk, hacc, Fits, shareOne, Msg.row0]) | (with_reducible refine condC_ndec (fun _ => ?_) (fun _ => ?_) <;> simp -implicitDefEqProofs [*, Node.cells, peersD, intsD, itemsD, toldsD, Item.row, hw, htk, hacc, Fits, shareOne, Msg.row0]) | (with_reducible refine condC_and (fun hq => ?_) (fun hq => ?_) <;> (try simp at hq) <;> simp -implicitDefEqProofs [*, Node.cells, peersD, intsD, itemsD, toldsD, Item.row, hw, htk, hacc, Fits, shareOne, Msg.row0]) | (with_reducible refine condC_or (fun hq => ?_) (fun hq => ?_) <;> (try simp at hq) <;> simp -implicitDefEqProofs [*, Node.cells, peersD, intsD, itemsD, toldsD, Item.row, hw, htk, hacc, Fits, shareOne, Msg.row0]) | (with_reducible refine condC_not (fun hq => ?_) (fun hq => ?_) <;> (try simp at hq) <;> simp -implicitDefEqProofs [*, Node.cells, peersD, intsD, itemsD, toldsD, Item.row, hw, htk, hacc, Fits, shareOne, Msg.row0]) | (with_reducible refine condC_split (fun hq => ?_) (fun hq => ?_) <;> (try simp at hq) <;> simp -implicitDefEqProofs [*, Node.cells, peersD, intsD, itemsD, toldsD, Item.row, hw, htk, hacc, Fits, shareOne, Msg.row0]) | (refine appK2_if (by omega) ?_; simp -implicitDefEqProofs [*, Node.cells, peersD, intsD, itemsD, toldsD, Item.row, hw, htk, hacc, Fits, shareOne, Msg.row0]) | (refine pureV_if (by omega) ?_; simp -implicitDefEqProofs [*, Node.cells, peersD, intsD, itemsD, toldsD, Item.row, hw, htk, hacc, Fits, shareOne, Msg.row0]))
  · rintro ⟨fr, bs⟩ ⟨rfl, h1⟩
    simp -implicitDefEqProofs [h1]
  · rintro ⟨fr, bs⟩ h
    exact h.elim
end Go.AM
/- AM: contracts: what the statements' own helpers do with items, messages, nodes. -/
namespace Go.AM
set_option linter.unusedSimpArgs false
set_option linter.unusedVariables false
set_option maxRecDepth 8000
set_option maxHeartbeats 0
theorem law_SameItems (xs ys : List Item) (hl : xs.length ≤ cap) : Den PP 44 [itemsD xs, itemsD ys] [] (.bool (decide (xs = ys))) [] := by
  refine den_of [] [] is_gimmallaw0_SameItems ?_
  simp -implicitDefEqProofs [c_gimmallaw0_SameItems, itemsD]
  refine condC_split (fun h => ?_) (fun h => ?_)
  · simp -implicitDefEqProofs
    grind
  have hlen : xs.length = ys.length := by simp at h; omega
  simp -implicitDefEqProofs
  refine list_rule xs (fun i rest => fun ⟨fr, bs⟩ => bs = [] ∧ fr 0 = .sl (xs.map Item.row) xs.length ∧ fr 1 = .sl (ys.map Item.row) ys.length ∧ fr 5 = .int .i64 i ∧ (rest = ys.drop i ↔ xs = ys))
    (fun ⟨fr, bs⟩ => bs = [] ∧ xs = ys) (fun ⟨fr, bs⟩ => fr 4 = .bool false ∧ ¬ xs = ys) c_gimmallaw0_SameItems_L0.eq_1 ?_ ?_ ?_ ?_ ?_
  · exact ⟨rfl, rfl, rfl, rfl, by simp⟩
  · rintro i ⟨fr, bs⟩ hi ⟨rfl, h0, h1, h5, he⟩
    simp -implicitDefEqProofs [*]
    grind
  · rintro i a rest ⟨fr, bs⟩ hlt hget hg hd hd2 ⟨rfl, h0, h1, h5, he⟩
    have hlt' : (i : Int) < xs.length := by omega
    have hlt2 : i < ys.length := by omega
    have hlt3 : (i : Int) < ys.length := by omega
    have hw := wrap_next (n := i) (by unfold cap at hl; omega)
    rw [List.drop_eq_getElem_cons hlt2] at he
    generalize hy : ys[i] = b at he
    simp -implicitDefEqProofs [h0, h1, h5, hlt, hlt', hlt2, hlt3, hget, hg, hy, Item.row, EQS]
    repeat' (first | (with_reducible refine gOps_dec (fun _ => ?_) (fun _ => ?_) <;> simp -implicitDefEqProofs [*, EQS, hw, Item.row]) | (with_reducible refine gOps_ndec (fun _ => ?_) (fun _ => ?_) <;> simp -implicitDefEqProofs [*, EQS, hw, Item.row]) | (with_reducible refine gOps_and (fun hq => ?_) (fun hq => ?_) <;> (try simp at hq) <;> simp -implicitDefEqProofs [*, EQS, hw, Item.row]) | (with_reducible refine gOps_or (fun hq => ?_) (fun hq => ?_) <;> (try simp at hq) <;> simp -implicitDefEqProofs [*, EQS, hw, Item.row]) | (with_reducible refine gOps_not (fun hq => ?_) (fun hq => ?_) <;> (try simp at hq) <;> simp -implicitDefEqProofs [*, EQS, hw, Item.row]) | (with_reducible refine gOps_split (fun hq => ?_) (fun hq => ?_) <;> (try simp at hq) <;> simp -implicitDefEqProofs [*, EQS, hw, Item.row]) | (with_reducible refine condC_dec (fun _ => ?_) (fun _ => ?_) <;> simp -implicitDefEqProofs [*, EQS, hw, Item.row]) | (with_reducible refine condC_ndec (fun _ => ?_) (fun _ => ?_) <;> simp -implicitDefEqProofs [*, EQS, hw, Item.row]) | (with_reducible refine condC_and (fun hq => ?_) (fun hq => ?_) <;> (try simp at hq) <;> simp -implicitDefEqProofs [*, EQS, hw, Item.row]) | (with_reducible refine condC_or (fun hq => ?_) (fun hq => ?_) <;> (try simp at hq) <;> simp -implicitDefEqProofs [*, EQS, hw, Item.row]) | (with_reducible refine condC_not (fun hq => ?_) (fun hq => ?_) <;> (try simp at hq) <;> simp -implicitDefEqProofs [*, EQS, hw, Item.row]) | (with_reducible refine condC_split (fun hq => ?_) (fun hq => ?_) <;> (try simp at hq) <;> simp -implicitDefEqProofs [*, EQS, hw, Item.row]) | (refine appK2_if (by omega) ?_; simp -implicitDefEqProofs [*, EQS, hw, Item.row]) | (refine pureV_if (by omega) ?_; simp -implicitDefEqProofs [*, EQS, hw, Item.row]))
    all_goals (obtain ⟨_, _, _, _, _⟩ := a; obtain ⟨_, _, _, _, _⟩ := b; grind)
  · rintro ⟨fr, bs⟩ ⟨rfl, h6⟩
    simp -implicitDefEqProofs [*]
  · rintro ⟨fr, bs⟩ h
    simp -implicitDefEqProofs [h.1, h.2]
theorem law_SameTolds (xs ys : List Told) (hl : xs.length ≤ cap) : Den PP 68 [toldsD xs, toldsD ys] [] (.bool (decide (xs = ys))) [] := by
  refine den_of [] [] is_gimmallaw0_SameTolds ?_
  simp -implicitDefEqProofs [c_gimmallaw0_SameTolds, toldsD]
  refine condC_split (fun h => ?_) (fun h => ?_)
  · simp -implicitDefEqProofs
    grind
  have hlen : xs.length = ys.length := by simp at h; omega
  simp -implicitDefEqProofs
  refine list_rule xs (fun i rest => fun ⟨fr, bs⟩ => bs = [] ∧ fr 0 = .sl (xs.map Told.row) xs.length ∧ fr 1 = .sl (ys.map Told.row) ys.length ∧ fr 5 = .int .i64 i ∧ (rest = ys.drop i ↔ xs = ys))
    (fun ⟨fr, bs⟩ => bs = [] ∧ xs = ys) (fun ⟨fr, bs⟩ => fr 4 = .bool false ∧ ¬ xs = ys) c_gimmallaw0_SameTolds_L0.eq_1 ?_ ?_ ?_ ?_ ?_
  · exact ⟨rfl, rfl, rfl, rfl, by simp⟩
  · rintro i ⟨fr, bs⟩ hi ⟨rfl, h0, h1, h5, he⟩
    simp -implicitDefEqProofs [*]
    grind
  · rintro i a rest ⟨fr, bs⟩ hlt hget hg hd hd2 ⟨rfl, h0, h1, h5, he⟩
    have hlt' : (i : Int) < xs.length := by omega
    have hlt2 : i < ys.length := by omega
    have hlt3 : (i : Int) < ys.length := by omega
    have hw := wrap_next (n := i) (by unfold cap at hl; omega)
    rw [List.drop_eq_getElem_cons hlt2] at he
    generalize hy : ys[i] = b at he
    simp -implicitDefEqProofs [h0, h1, h5, hlt, hlt', hlt2, hlt3, hget, hg, hy, Told.row, EQS]
    repeat' (first | (with_reducible refine gOps_dec (fun _ => ?_) (fun _ => ?_) <;> simp -implicitDefEqProofs [*, EQS, hw, Told.row]) | (with_reducible refine gOps_ndec (fun _ => ?_) (fun _ => ?_) <;> simp -implicitDefEqProofs [*, EQS, hw, Told.row]) | (with_reducible refine gOps_and (fun hq => ?_) (fun hq => ?_) <;> (try simp at hq) <;> simp -implicitDefEqProofs [*, EQS, hw, Told.row]) | (with_reducible refine gOps_or (fun hq => ?_) (fun hq => ?_) <;> (try simp at hq) <;> simp -implicitDefEqProofs [*, EQS, hw, Told.row]) | (with_reducible refine gOps_not (fun hq => ?_) (fun hq => ?_) <;> (try simp at hq) <;> simp -implicitDefEqProofs [*, EQS, hw, Told.row]) | (with_reducible refine gOps_split (fun hq => ?_) (fun hq => ?_) <;> (try simp at hq) <;> simp -implicitDefEqProofs [*, EQS, hw, Told.row]) | (with_reducible refine condC_dec (fun _ => ?_) (fun _ => ?_) <;> simp -implicitDefEqProofs [*, EQS, hw, Told.row]) | (with_reducible refine condC_ndec (fun _ => ?_) (fun _ => ?_) <;> simp -implicitDefEqProofs [*, EQS, hw, Told.row]) | (with_reducible refine condC_and (fun hq => ?_) (fun hq => ?_) <;> (try simp at hq) <;> simp -implicitDefEqProofs [*, EQS, hw, Told.row]) | (with_reducible refine condC_or (fun hq => ?_) (fun hq => ?_) <;> (try simp at hq) <;> simp -implicitDefEqProofs [*, EQS, hw, Told.row]) | (with_reducible refine condC_not (fun hq => ?_) (fun hq => ?_) <;> (try simp at hq) <;> simp -implicitDefEqProofs [*, EQS, hw, Told.row]) | (with_reducible refine condC_split (fun hq => ?_) (fun hq => ?_) <;> (try simp at hq) <;> simp -implicitDefEqProofs [*, EQS, hw, Told.row]) | (refine appK2_if (by omega) ?_; simp -implicitDefEqProofs [*, EQS, hw, Told.row]) | (refine pureV_if (by omega) ?_; simp -implicitDefEqProofs [*, EQS, hw, Told.row]))
    all_goals (obtain ⟨_, _, _⟩ := a; obtain ⟨_, _, _⟩ := b; grind)
  · rintro ⟨fr, bs⟩ ⟨rfl, h6⟩
    simp -implicitDefEqProofs [*]
  · rintro ⟨fr, bs⟩ h
    simp -implicitDefEqProofs [h.1, h.2]
theorem law_SameMsg (a b : Msg) (hl : a.ids.length ≤ cap) : Den PP 66 [msgD a, msgD b] [] (.bool (decide (a = b))) [] := by
  have h1 := law_SameInts a.ids b.ids hl
  simp only [intsD] at h1
  refine den_of [] [] is_gimmallaw0_SameMsg ?_
  simp -implicitDefEqProofs [c_gimmallaw0_SameMsg, msgD, Msg.row, intsD, EQS]
  repeat' (first | (refine callThen_of (by first | exact h1) ?_; simp -implicitDefEqProofs [*, EQS]) | (with_reducible refine gOps_dec (fun _ => ?_) (fun _ => ?_) <;> simp -implicitDefEqProofs [*, EQS]) | (with_reducible refine gOps_ndec (fun _ => ?_) (fun _ => ?_) <;> simp -implicitDefEqProofs [*, EQS]) | (with_reducible refine gOps_and (fun hq => ?_) (fun hq => ?_) <;> (try simp at hq) <;> simp -implicitDefEqProofs [*, EQS]) | (with_reducible refine gOps_or (fun hq => ?_) (fun hq => ?_) <;> (try simp at hq) <;> simp -implicitDefEqProofs [*, EQS]) | (with_reducible refine gOps_not (fun hq => ?_) (fun hq => ?_) <;> (try simp at hq) <;> simp -implicitDefEqProofs [*, EQS]) | (with_reducible refine gOps_split (fun hq => ?_) (fun hq => ?_) <;> (try simp at hq) <;> simp -implicitDefEqProofs [*, EQS]) | (with_reducible refine condC_dec (fun _ => ?_) (fun _ => ?_) <;> simp -implicitDefEqProofs [*, EQS]) | (with_reducible refine condC_ndec (fun _ => ?_) (fun _ => ?_) <;> simp -implicitDefEqProofs [*, EQS]) | (with_reducible refine condC_and (fun hq => ?_) (fun hq => ?_) <;> (try simp at hq) <;> simp -implicitDefEqProofs [*, EQS]) | (with_reducible refine condC_or (fun hq => ?_) (fun hq => ?_) <;> (try simp at hq) <;> simp -implicitDefEqProofs [*, EQS]) | (with_reducible refine condC_not (fun hq => ?_) (fun hq => ?_) <;> (try simp at hq) <;> simp -implicitDefEqProofs [*, EQS]) | (with_reducible refine condC_split (fun hq => ?_) (fun hq => ?_) <;> (try simp at hq) <;> simp -implicitDefEqProofs [*, EQS]) | (refine appK2_if (by omega) ?_; simp -implicitDefEqProofs [*, EQS]) | (refine pureV_if (by omega) ?_; simp -implicitDefEqProofs [*, EQS]))
  all_goals (obtain ⟨_, _, _, _, _, ⟨_, _, _, _, _⟩, _⟩ := a; obtain ⟨_, _, _, _, _, ⟨_, _, _, _, _⟩, _⟩ := b; grind)
theorem law_SameMsgs (xs ys : List Msg) (hl : xs.length ≤ cap16) (hi : ∀ m ∈ xs, m.ids.length ≤ cap) : Den PP 35 [msgsD xs, msgsD ys] [] (.bool (decide (xs = ys))) [] := by
  refine den_of [] [] is_gimmallaw0_SameMsgs ?_
  simp -implicitDefEqProofs [c_gimmallaw0_SameMsgs, msgsD]
  refine condC_split (fun h => ?_) (fun h => ?_)
  · simp -implicitDefEqProofs
    grind
  have hlen : xs.length = ys.length := by simp at h; omega
  simp -implicitDefEqProofs
  refine list_rule xs (fun i rest => fun ⟨fr, bs⟩ => bs = [] ∧ fr 0 = .sl (xs.map Msg.row) xs.length ∧ fr 1 = .sl (ys.map Msg.row) ys.length ∧ fr 5 = .int .i64 i ∧ (rest = ys.drop i ↔ xs = ys))
    (fun ⟨fr, bs⟩ => bs = [] ∧ xs = ys) (fun ⟨fr, bs⟩ => fr 4 = .bool false ∧ ¬ xs = ys) c_gimmallaw0_SameMsgs_L0.eq_1 ?_ ?_ ?_ ?_ ?_
  · exact ⟨rfl, rfl, rfl, rfl, by simp⟩
  · rintro i ⟨fr, bs⟩ hi ⟨rfl, h0, h1, h5, he⟩
    simp -implicitDefEqProofs [*]
    grind
  · rintro i a rest ⟨fr, bs⟩ hlt hget hg hd hd2 ⟨rfl, h0, h1, h5, he⟩
    have hlt' : (i : Int) < xs.length := by omega
    have hlt2 : i < ys.length := by omega
    have hlt3 : (i : Int) < ys.length := by omega
    have hw := wrap_next (n := i) (by unfold cap16 at hl; omega)
    rw [List.drop_eq_getElem_cons hlt2] at he
    generalize hy : ys[i] = b at he
    obtain ⟨e, hab⟩ : ∃ e, decide (a = b) = e := ⟨_, rfl⟩
    have c1 := law_SameMsg a b (hi a (List.mem_of_getElem? hget))
    rw [hab] at c1
    simp only [msgD, Msg.row] at c1
    simp -implicitDefEqProofs [h0, h1, h5, hlt, hlt', hlt2, hlt3, hget, hg, hy, Msg.row, EQS]
    repeat' (first | (refine callThen_of (by first | exact c1) ?_; simp -implicitDefEqProofs [*, EQS, hw, Msg.row]) | (with_reducible refine gOps_dec (fun _ => ?_) (fun _ => ?_) <;> simp -implicitDefEqProofs [*, EQS, hw, Msg.row]) | (with_reducible refine gOps_ndec (fun _ => ?_) (fun _ => ?_) <;> simp -implicitDefEqProofs [*, EQS, hw, Msg.row]) | (with_reducible refine gOps_and (fun hq => ?_) (fun hq => ?_) <;> (try simp at hq) <;> simp -implicitDefEqProofs [*, EQS, hw, Msg.row]) | (with_reducible refine gOps_or (fun hq => ?_) (fun hq => ?_) <;> (try simp at hq) <;> simp -implicitDefEqProofs [*, EQS, hw, Msg.row]) | (with_reducible refine gOps_not (fun hq => ?_) (fun hq => ?_) <;> (try simp at hq) <;> simp -implicitDefEqProofs [*, EQS, hw, Msg.row]) | (with_reducible refine gOps_split (fun hq => ?_) (fun hq => ?_) <;> (try simp at hq) <;> simp -implicitDefEqProofs [*, EQS, hw, Msg.row]) | (with_reducible refine condC_dec (fun _ => ?_) (fun _ => ?_) <;> simp -implicitDefEqProofs [*, EQS, hw, Msg.row]) | (with_reducible refine condC_ndec (fun _ => ?_) (fun _ => ?_) <;> simp -implicitDefEqProofs [*, EQS, hw, Msg.row]) | (with_reducible refine condC_and (fun hq => ?_) (fun hq => ?_) <;> (try simp at hq) <;> simp -implicitDefEqProofs [*, EQS, hw, Msg.row]) | (with_reducible refine condC_or (fun hq => ?_) (fun hq => ?_) <;> (try simp at hq) <;> simp -implicitDefEqProofs [*, EQS, hw, Msg.row]) | (with_reducible refine condC_not (fun hq => ?_) (fun hq => ?_) <;> (try simp at hq) <;> simp -implicitDefEqProofs [*, EQS, hw, Msg.row]) | (with_reducible refine condC_split (fun hq => ?_) (fun hq => ?_) <;> (try simp at hq) <;> simp -implicitDefEqProofs [*, EQS, hw, Msg.row]) | (refine appK2_if (by omega) ?_; simp -implicitDefEqProofs [*, EQS, hw, Msg.row]) | (refine pureV_if (by omega) ?_; simp -implicitDefEqProofs [*, EQS, hw, Msg.row]))
    all_goals (by_cases hq : a = b <;> grind)
  · rintro ⟨fr, bs⟩ ⟨rfl, h6⟩
    simp -implicitDefEqProofs [*]
  · rintro ⟨fr, bs⟩ h
    simp -implicitDefEqProofs [h.1, h.2]
theorem law_SameNode (x y : Node) (hs : x.small) : Den PP 37 [nodeD x, nodeD y] [] (.bool (decide (x = y))) [] := by
  have c1 := law_SameView x.view y.view hs.1
  have c2 := law_SameItems x.items y.items (by have := hs.2.1; unfold cap; omega)
  have c3 := law_SameTolds x.log y.log (by have := hs.2.2; unfold cap; omega)
  simp only [viewD, View.cells, peersD, intsD, itemsD, toldsD] at c1 c2 c3
  refine den_of [] [] is_gimmallaw0_SameNode ?_
  simp -implicitDefEqProofs [c_gimmallaw0_SameNode, nodeD, Node.cells, peersD, intsD, itemsD, toldsD]
  refine gOps_split (fun h => ?_) (fun h => ?_)
  all_goals simp -implicitDefEqProofs [h]
  all_goals repeat' (first | (refine callThen_of (by first | exact c1 | exact c2 | exact c3) ?_; simp -implicitDefEqProofs [*]) | (with_reducible refine gOps_dec (fun _ => ?_) (fun _ => ?_) <;> simp -implicitDefEqProofs [*]) | (with_reducible refine gOps_ndec (fun _ => ?_) (fun _ => ?_) <;> simp -implicitDefEqProofs [*]) | (with_reducible refine gOps_and (fun hq => ?_) (fun hq => ?_) <;> (try simp at hq) <;> simp -implicitDefEqProofs [*]) | (with_reducible refine gOps_or (fun hq => ?_) (fun hq => ?_) <;> (try simp at hq) <;> simp -implicitDefEqProofs [*]) | (with_reducible refine gOps_not (fun hq => ?_) (fun hq => ?_) <;> (try simp at hq) <;> simp -implicitDefEqProofs [*]) | (with_reducible refine gOps_split (fun hq => ?_) (fun hq => ?_) <;> (try simp at hq) <;> simp -implicitDefEqProofs [*]) | (with_reducible refine condC_dec (fun _ => ?_) (fun _ => ?_) <;> simp -implicitDefEqProofs [*]) | (with_reducible refine condC_ndec (fun _ => ?_) (fun _ => ?_) <;> simp -implicitDefEqProofs [*]) | (with_reducible refine condC_and (fun hq => ?_) (fun hq => ?_) <;> (try simp at hq) <;> simp -implicitDefEqProofs [*]) | (with_reducible refine condC_or (fun hq => ?_) (fun hq => ?_) <;> (try simp at hq) <;> simp -implicitDefEqProofs [*]) | (with_reducible refine condC_not (fun hq => ?_) (fun hq => ?_) <;> (try simp at hq) <;> simp -implicitDefEqProofs [*]) | (with_reducible refine condC_split (fun hq => ?_) (fun hq => ?_) <;> (try simp at hq) <;> simp -implicitDefEqProofs [*]) | (refine appK2_if (by omega) ?_; simp -implicitDefEqProofs [*]) | (refine pureV_if (by omega) ?_; simp -implicitDefEqProofs [*]))
  all_goals (obtain ⟨_, _, _, _⟩ := x; obtain ⟨_, _, _, _⟩ := y; grind)
theorem law_CopyNode (x : Node) (hs : x.small) : Den PP 32 [nodeD x] [] (.agg [.bool x.up, .int .i64 x.view.id, .ref 0 0 x.view.peers.length, .ref 1 0 x.view.passive.length, .ref 2 0 x.items.length, .ref 3 0 x.log.length])
    [⟨x.view.peers.map Peer.row, 2, .mut⟩, ⟨x.view.passive.map irow, 1, .mut⟩, ⟨x.items.map Item.row, 5, .mut⟩, ⟨x.log.map Told.row, 3, .mut⟩] := by
  have c1 := law_CopyView x.view hs.1
  simp only [viewD, View.cells, peersD, intsD] at c1
  obtain ⟨⟨h1, h2⟩, h3, h4⟩ := hs
  unfold cap16 at h1
  unfold cap at h2
  refine den_of [5] [] is_gimmallaw0_CopyNode ?_
  simp -implicitDefEqProofs [c_gimmallaw0_CopyNode, nodeD, Node.cells, peersD, intsD, itemsD, toldsD]
  repeat' (first | (refine callThen_of (by first | exact c1) ?_; simp -implicitDefEqProofs [*]) | (with_reducible refine gOps_dec (fun _ => ?_) (fun _ => ?_) <;> simp -implicitDefEqProofs [*]) | (with_reducible refine gOps_ndec (fun _ => ?_) (fun _ => ?_) <;> simp -implicitDefEqProofs [*]) | (with_reducible refine gOps_and (fun hq => ?_) (fun hq => ?_) <;> (try simp at hq) <;> simp -implicitDefEqProofs [*]) | (with_reducible refine gOps_or (fun hq => ?_) (fun hq => ?_) <;> (try simp at hq) <;> simp -implicitDefEqProofs [*]) | (with_reducible refine gOps_not (fun hq => ?_) (fun hq => ?_) <;> (try simp at hq) <;> simp -implicitDefEqProofs [*]) | (with_reducible refine gOps_split (fun hq => ?_) (fun hq => ?_) <;> (try simp at hq) <;> simp -implicitDefEqProofs [*]) | (with_reducible refine condC_dec (fun _ => ?_) (fun _ => ?_) <;> simp -implicitDefEqProofs [*]) | (with_reducible refine condC_ndec (fun _ => ?_) (fun _ => ?_) <;> simp -implicitDefEqProofs [*]) | (with_reducible refine condC_and (fun hq => ?_) (fun hq => ?_) <;> (try simp at hq) <;> simp -implicitDefEqProofs [*]) | (with_reducible refine condC_or (fun hq => ?_) (fun hq => ?_) <;> (try simp at hq) <;> simp -implicitDefEqProofs [*]) | (with_reducible refine condC_not (fun hq => ?_) (fun hq => ?_) <;> (try simp at hq) <;> simp -implicitDefEqProofs [*]) | (with_reducible refine condC_split (fun hq => ?_) (fun hq => ?_) <;> (try simp at hq) <;> simp -implicitDefEqProofs [*]) | (refine appK2_if (by omega) ?_; simp -implicitDefEqProofs [*]) | (refine pureV_if (by omega) ?_; simp -implicitDefEqProofs [*]))
theorem law_SpoilInts_nil : Den PP 67 [.nil] [] (.tup []) [] := by
  refine den_of [] [] is_gimmallaw0_SpoilInts ?_
  simp -implicitDefEqProofs [c_gimmallaw0_SpoilInts]
  refine loop_rule 0 (fun _ ⟨fr, bs⟩ => bs = [] ∧ fr 0 = .nil ∧ fr 2 = .int .i64 0) (fun ⟨fr, bs⟩ => bs = []) (fun _ => False) c_gimmallaw0_SpoilInts_L0.eq_1 ?_ ?_ ?_ ?_ ?_
  · exact ⟨rfl, rfl, rfl⟩
  · rintro ⟨fr, bs⟩ ⟨rfl, h0, h2⟩
    simp -implicitDefEqProofs [h0, h2]
  · rintro m ⟨fr, bs⟩ ⟨rfl, h0, h2⟩
    simp -implicitDefEqProofs [h0, h2]
  · rintro ⟨fr, bs⟩ rfl
    simp -implicitDefEqProofs
  · rintro ⟨fr, bs⟩ h
    exact h.elim
end Go.AM
/- AM: contracts: the document's nodes and sharing; chapter 18's helpers. -/
namespace Go.AM
set_option linter.unusedSimpArgs false
set_option linter.unusedVariables false
set_option maxRecDepth 8000
set_option maxHeartbeats 0
theorem ref_NodeMay (x : Node) (hs : x.small) : Den PP 40 [nodeD x] [] (.bool (nodeMay x)) [] := by
  obtain ⟨h1, h2, h3⟩ := hs
  have c1 := ref_ViewMay' x.view h1
  have c2 := ref_StoreMay x.items (by unfold cap16; omega)
  obtain ⟨A, hA⟩ : ∃ A, x.log.any toldOdd = A := ⟨_, rfl⟩
  simp only [viewD, View.cells, peersD, intsD, itemsD, toldsD] at c1 c2
  obtain ⟨hp, hq⟩ := h1
  unfold cap16 at hp
  unfold cap at hq
  have w1 : IntKind.wrap .i64 ((x.view.peers.length : Int) + x.view.passive.length) = x.view.peers.length + x.view.passive.length := wrap_in (by omega) (by omega)
  have w2 : IntKind.wrap .i64 ((x.view.peers.length : Int) + x.view.passive.length + x.items.length) = x.view.peers.length + x.view.passive.length + x.items.length := wrap_in (by omega) (by omega)
  have w3 : IntKind.wrap .i64 ((x.view.peers.length : Int) + x.view.passive.length + x.items.length + x.log.length) = x.view.peers.length + x.view.passive.length + x.items.length + x.log.length := wrap_in (by omega) (by omega)
  refine den_of [] [] is_gimmalref16_NodeMay ?_
  cases hu : x.up with
  | false =>
    have hm : nodeMay x = (emptyN x && place x.view.id) := by
      cases he : emptyN x with
      | false => simp [nodeMay, hu, he]
      | true =>
        simp only [emptyN, decide_eq_true_eq] at he
        have e1 : x.view.peers = [] := List.eq_nil_of_length_eq_zero (by omega)
        have e2 : x.view.passive = [] := List.eq_nil_of_length_eq_zero (by omega)
        have e3 : x.items = [] := List.eq_nil_of_length_eq_zero (by omega)
        have e4 : x.log = [] := List.eq_nil_of_length_eq_zero (by omega)
        simp [nodeMay, emptyN, hu, e1, e2, e3, e4, viewMay, peersMay, peersOk, passiveMay, ups, storeMay, itemsOk]
    simp -implicitDefEqProofs [c_gimmalref16_NodeMay, nodeD, Node.cells, peersD, intsD, itemsD, toldsD, hu]
    repeat' (first | (refine callThen_of (by first | exact ref_PlaceMay _) ?_; simp -implicitDefEqProofs [*, w1, w2, w3]) | (with_reducible refine gOps_dec (fun _ => ?_) (fun _ => ?_) <;> simp -implicitDefEqProofs [*, w1, w2, w3]) | (with_reducible refine gOps_ndec (fun _ => ?_) (fun _ => ?_) <;> simp -implicitDefEqProofs [*, w1, w2, w3]) | (with_reducible refine gOps_and (fun hq => ?_) (fun hq => ?_) <;> (try simp at hq) <;> simp -implicitDefEqProofs [*, w1, w2, w3]) | (with_reducible refine gOps_or (fun hq => ?_) (fun hq => ?_) <;> (try simp at hq) <;> simp -implicitDefEqProofs [*, w1, w2, w3]) | (with_reducible refine gOps_not (fun hq => ?_) (fun hq => ?_) <;> (try simp at hq) <;> simp -implicitDefEqProofs [*, w1, w2, w3]) | (with_reducible refine gOps_split (fun hq => ?_) (fun hq => ?_) <;> (try simp at hq) <;> simp -implicitDefEqProofs [*, w1, w2, w3]) | (with_reducible refine condC_dec (fun _ => ?_) (fun _ => ?_) <;> simp -implicitDefEqProofs [*, w1, w2, w3]) | (with_reducible refine condC_ndec (fun _ => ?_) (fun _ => ?_) <;> simp -implicitDefEqProofs [*, w1, w2, w3]) | (with_reducible refine condC_and (fun hq => ?_) (fun hq => ?_) <;> (try simp at hq) <;> simp -implicitDefEqProofs [*, w1, w2, w3]) | (with_reducible refine condC_or (fun hq => ?_) (fun hq => ?_) <;> (try simp at hq) <;> simp -implicitDefEqProofs [*, w1, w2, w3]) | (with_reducible refine condC_not (fun hq => ?_) (fun hq => ?_) <;> (try simp at hq) <;> simp -implicitDefEqProofs [*, w1, w2, w3]) | (with_reducible refine condC_split (fun hq => ?_) (fun hq => ?_) <;> (try simp at hq) <;> simp -implicitDefEqProofs [*, w1, w2, w3]) | (refine appK2_if (by omega) ?_; simp -implicitDefEqProofs [*, w1, w2, w3]) | (refine pureV_if (by omega) ?_; simp -implicitDefEqProofs [*, w1, w2, w3]))
    all_goals grind [emptyN]
  | true =>
    simp -implicitDefEqProofs [c_gimmalref16_NodeMay, nodeD, Node.cells, peersD, intsD, itemsD, toldsD, hu]
    refine list_rule x.log (fun i rest => fun ⟨fr, bs⟩ => bs = [⟨[x.cells], 6, .box⟩] ∧ fr 1 = .ptr 0 0 0 ∧ fr 3 = .int .i64 i ∧ rest.any toldOdd = A)
      (fun ⟨fr, bs⟩ => bs = [⟨[x.cells], 6, .box⟩] ∧ fr 1 = .ptr 0 0 0 ∧ A = false) (fun ⟨fr, bs⟩ => fr 2 = .bool false ∧ A = true) c_gimmalref16_NodeMay_L0.eq_1 ?_ ?_ ?_ ?_ ?_
    · refine ⟨?_, rfl, rfl, hA⟩
      simp [Node.cells, hu, peersD, intsD, itemsD, toldsD]
    · rintro i ⟨fr, bs⟩ hi ⟨rfl, h1, h3, he⟩
      simp -implicitDefEqProofs [h1, h3, hi, Node.cells, toldsD]
      simpa using he.symm
    · rintro i a rest ⟨fr, bs⟩ hlt hget hg hd hd2 ⟨rfl, h1, h3, he⟩
      have hlt' : (i : Int) < x.log.length := by omega
      have hw := wrap_next (n := i) (by omega)
      have hodd : toldOdd a = (!byte a.key || !byte a.value || (!a.has && !decide (a.value = 0))) := rfl
      simp -implicitDefEqProofs [h1, h3, hlt, hlt', hget, hg, Node.cells, peersD, intsD, itemsD, toldsD, Told.row]
      repeat' (first | (refine callThen_of (by first | exact ref16_byteMay _) ?_; simp -implicitDefEqProofs [*, Node.cells, peersD, intsD, itemsD, toldsD, Told.row, hw]) | (with_reducible refine gOps_dec (fun _ => ?_) (fun _ => ?_) <;> simp -implicitDefEqProofs [*, Node.cells, peersD, intsD, itemsD, toldsD, Told.row, hw]) | (with_reducible refine gOps_ndec (fun _ => ?_) (fun _ => ?_) <;> simp -implicitDefEqProofs [*, Node.cells, peersD, intsD, itemsD, toldsD, Told.row, hw]) | (with_reducible refine gOps_and (fun hq => ?_) (fun hq => ?_) <;> (try simp at hq) <;> simp -implicitDefEqProofs [*, Node.cells, peersD, intsD, itemsD, toldsD, Told.row, hw]) | (with_reducible refine gOps_or (fun hq => ?_) (fun hq => ?_) <;> (try simp at hq) <;> simp -implicitDefEqProofs [*, Node.cells, peersD, intsD, itemsD, toldsD, Told.row, hw]) | (with_reducible refine gOps_not (fun hq => ?_) (fun hq => ?_) <;> (try simp at hq) <;> simp -implicitDefEqProofs [*, Node.cells, peersD, intsD, itemsD, toldsD, Told.row, hw]) | (with_reducible refine gOps_split (fun hq => ?_) (fun hq => ?_) <;> (try simp at hq) <;> simp -implicitDefEqProofs [*, Node.cells, peersD, intsD, itemsD, toldsD, Told.row, hw]) | (with_reducible refine condC_dec (fun _ => ?_) (fun _ => ?_) <;> simp -implicitDefEqProofs [*, Node.cells, peersD, intsD, itemsD, toldsD, Told.row, hw]) | (with_reducible refine condC_ndec (fun _ => ?_) (fun _ => ?_) <;> simp -implicitDefEqProofs [*, Node.cells, peersD, intsD, itemsD, toldsD, Told.row, hw]) | (with_reducible refine condC_and (fun hq => ?_) (fun hq => ?_) <;> (try simp at hq) <;> simp -implicitDefEqProofs [*, Node.cells, peersD, intsD, itemsD, toldsD, Told.row, hw]) | (with_reducible refine condC_or (fun hq => ?_) (fun hq => ?_) <;> (try simp at hq) <;> simp -implicitDefEqProofs [*, Node.cells, peersD, intsD, itemsD, toldsD, Told.row, hw]) | (with_reducible refine condC_not (fun hq => ?_) (fun hq => ?_) <;> (try simp at hq) <;> simp -implicitDefEqProofs [*, Node.cells, peersD, intsD, itemsD, toldsD, Told.row, hw]) | (with_reducible refine condC_split (fun hq => ?_) (fun hq => ?_) <;> (try simp at hq) <;> simp -implicitDefEqProofs [*, Node.cells, peersD, intsD, itemsD, toldsD, Told.row, hw]) | (refine appK2_if (by omega) ?_; simp -implicitDefEqProofs [*, Node.cells, peersD, intsD, itemsD, toldsD, Told.row, hw]) | (refine pureV_if (by omega) ?_; simp -implicitDefEqProofs [*, Node.cells, peersD, intsD, itemsD, toldsD, Told.row, hw]))
      all_goals grind
    · rintro ⟨fr, bs⟩ ⟨rfl, h1, he⟩
      simp -implicitDefEqProofs [h1, he, Node.cells, peersD, intsD, itemsD, toldsD]
      repeat' (first | (refine callThen_of (by first | exact c1 | exact c2) ?_; simp -implicitDefEqProofs [*]) | (with_reducible refine gOps_dec (fun _ => ?_) (fun _ => ?_) <;> simp -implicitDefEqProofs [*]) | (with_reducible refine gOps_ndec (fun _ => ?_) (fun _ => ?_) <;> simp -implicitDefEqProofs [*]) | (with_reducible refine gOps_and (fun hq => ?_) (fun hq => ?_) <;> (try simp at hq) <;> simp -implicitDefEqProofs [*]) | (with_reducible refine gOps_or (fun hq => ?_) (fun hq => ?_) <;> (try simp at hq) <;> simp -implicitDefEqProofs [*]) | (with_reducible refine gOps_not (fun hq => ?_) (fun hq => ?_) <;> (try simp at hq) <;> simp -implicitDefEqProofs [*]) | (with_reducible refine gOps_split (fun hq => ?_) (fun hq => ?_) <;> (try simp at hq) <;> simp -implicitDefEqProofs [*]) | (with_reducible refine condC_dec (fun _ => ?_) (fun _ => ?_) <;> simp -implicitDefEqProofs [*]) | (with_reducible refine condC_ndec (fun _ => ?_) (fun _ => ?_) <;> simp -implicitDefEqProofs [*]) | (with_reducible refine condC_and (fun hq => ?_) (fun hq => ?_) <;> (try simp at hq) <;> simp -implicitDefEqProofs [*]) | (with_reducible refine condC_or (fun hq => ?_) (fun hq => ?_) <;> (try simp at hq) <;> simp -implicitDefEqProofs [*]) | (with_reducible refine condC_not (fun hq => ?_) (fun hq => ?_) <;> (try simp at hq) <;> simp -implicitDefEqProofs [*]) | (with_reducible refine condC_split (fun hq => ?_) (fun hq => ?_) <;> (try simp at hq) <;> simp -implicitDefEqProofs [*]) | (refine appK2_if (by omega) ?_; simp -implicitDefEqProofs [*]) | (refine pureV_if (by omega) ?_; simp -implicitDefEqProofs [*]))
      all_goals simp only [nodeMay, hA, he, hu]
      all_goals grind
    · rintro ⟨fr, bs⟩ h
      simp -implicitDefEqProofs [h.1, h.2, nodeMay, hA]
theorem ref_upMay (x : Node) (hs : x.small) : Den PP 65 [nodeD x] [] (.bool (nodeUp x)) [] := by
  have c1 := ref_NodeMay x hs
  simp only [nodeD, Node.cells, peersD, intsD, itemsD, toldsD] at c1
  refine den_of [] [] is_gimmalref16_upMay ?_
  cases hu : x.up
  all_goals
    rw [hu] at c1
    simp -implicitDefEqProofs [c_gimmalref16_upMay, nodeD, Node.cells, peersD, intsD, itemsD, toldsD, hu]
    repeat' (first | (refine callThen_of (by first | exact c1) ?_; simp -implicitDefEqProofs [*]) | (with_reducible refine gOps_dec (fun _ => ?_) (fun _ => ?_) <;> simp -implicitDefEqProofs [*]) | (with_reducible refine gOps_ndec (fun _ => ?_) (fun _ => ?_) <;> simp -implicitDefEqProofs [*]) | (with_reducible refine gOps_and (fun hq => ?_) (fun hq => ?_) <;> (try simp at hq) <;> simp -implicitDefEqProofs [*]) | (with_reducible refine gOps_or (fun hq => ?_) (fun hq => ?_) <;> (try simp at hq) <;> simp -implicitDefEqProofs [*]) | (with_reducible refine gOps_not (fun hq => ?_) (fun hq => ?_) <;> (try simp at hq) <;> simp -implicitDefEqProofs [*]) | (with_reducible refine gOps_split (fun hq => ?_) (fun hq => ?_) <;> (try simp at hq) <;> simp -implicitDefEqProofs [*]) | (with_reducible refine condC_dec (fun _ => ?_) (fun _ => ?_) <;> simp -implicitDefEqProofs [*]) | (with_reducible refine condC_ndec (fun _ => ?_) (fun _ => ?_) <;> simp -implicitDefEqProofs [*]) | (with_reducible refine condC_and (fun hq => ?_) (fun hq => ?_) <;> (try simp at hq) <;> simp -implicitDefEqProofs [*]) | (with_reducible refine condC_or (fun hq => ?_) (fun hq => ?_) <;> (try simp at hq) <;> simp -implicitDefEqProofs [*]) | (with_reducible refine condC_not (fun hq => ?_) (fun hq => ?_) <;> (try simp at hq) <;> simp -implicitDefEqProofs [*]) | (with_reducible refine condC_split (fun hq => ?_) (fun hq => ?_) <;> (try simp at hq) <;> simp -implicitDefEqProofs [*]) | (refine appK2_if (by omega) ?_; simp -implicitDefEqProofs [*]) | (refine pureV_if (by omega) ?_; simp -implicitDefEqProofs [*]))
    all_goals simp [nodeUp, hu]
theorem ref_Share (x : Node) (hs : x.small) : Den PP 34 [nodeD x] [] (.tup [.ref 0 0 (shareOf x).1.length, .int .i64 (shareOf x).2]) [⟨(shareOf x).1.map Msg.row0, 11, .mut⟩] := by
  have c1 := ref_upMay x hs
  have c2 := ref_Succ x.view hs.1
  have c3 := fun k => ref_Owner x.view k hs.1
  simp only [nodeD, Node.cells, viewD, View.cells, peersD, intsD, itemsD, toldsD, pairD] at c1 c2 c3
  obtain ⟨h1, h2, h3⟩ := hs
  refine den_of [] [] is_gimmalref16_Share ?_
  simp -implicitDefEqProofs [c_gimmalref16_Share, nodeD, Node.cells, peersD, intsD, itemsD, toldsD]
  repeat' (first | (refine callThen_of (by first | exact c1 | exact c2) ?_; simp -implicitDefEqProofs [*, shareOf]) | (with_reducible refine gOps_dec (fun _ => ?_) (fun _ => ?_) <;> simp -implicitDefEqProofs [*, shareOf]) | (with_reducible refine gOps_ndec (fun _ => ?_) (fun _ => ?_) <;> simp -implicitDefEqProofs [*, shareOf]) | (with_reducible refine gOps_and (fun hq => ?_) (fun hq => ?_) <;> (try simp at hq) <;> simp -implicitDefEqProofs [*, shareOf]) | (with_reducible refine gOps_or (fun hq => ?_) (fun hq => ?_) <;> (try simp at hq) <;> simp -implicitDefEqProofs [*, shareOf]) | (with_reducible refine gOps_not (fun hq => ?_) (fun hq => ?_) <;> (try simp at hq) <;> simp -implicitDefEqProofs [*, shareOf]) | (with_reducible refine gOps_split (fun hq => ?_) (fun hq => ?_) <;> (try simp at hq) <;> simp -implicitDefEqProofs [*, shareOf]) | (with_reducible refine condC_dec (fun _ => ?_) (fun _ => ?_) <;> simp -implicitDefEqProofs [*, shareOf]) | (with_reducible refine condC_ndec (fun _ => ?_) (fun _ => ?_) <;> simp -implicitDefEqProofs [*, shareOf]) | (with_reducible refine condC_and (fun hq => ?_) (fun hq => ?_) <;> (try simp at hq) <;> simp -implicitDefEqProofs [*, shareOf]) | (with_reducible refine condC_or (fun hq => ?_) (fun hq => ?_) <;> (try simp at hq) <;> simp -implicitDefEqProofs [*, shareOf]) | (with_reducible refine condC_not (fun hq => ?_) (fun hq => ?_) <;> (try simp at hq) <;> simp -implicitDefEqProofs [*, shareOf]) | (with_reducible refine condC_split (fun hq => ?_) (fun hq => ?_) <;> (try simp at hq) <;> simp -implicitDefEqProofs [*, shareOf]) | (refine appK2_if (by omega) ?_; simp -implicitDefEqProofs [*, shareOf]) | (refine pureV_if (by omega) ?_; simp -implicitDefEqProofs [*, shareOf]))
  have hu : x.items.length ≤ 16 := by
    have := ‹nodeUp x = true›
    simp only [nodeUp, nodeMay, storeMay, Bool.and_eq_true, decide_eq_true_eq] at this
    exact this.2.1.1.2.2
  have hf : ∀ i, ((x.items.take i).filterMap (shareOne x)).length ≤ 16 := fun i => Nat.le_trans (List.length_filterMap_le _ _) (by simp; omega)
  refine list_rule x.items (fun i rest => fun ⟨fr, bs⟩ => bs = [⟨[x.cells], 6, .box⟩, ⟨[], 11, .mut⟩, ⟨((x.items.take i).filterMap (shareOne x)).map Msg.row0, 11, .mut⟩] ∧ fr 1 = .ptr 0 0 0 ∧ fr 4 = .ref 2 0 ((x.items.take i).filterMap (shareOne x)).length ∧ fr 5 = .int .i64 (succV x.view).1 ∧ fr 7 = .int .i64 i)
    (fun ⟨fr, bs⟩ => bs = [⟨[x.cells], 6, .box⟩, ⟨[], 11, .mut⟩, ⟨(x.items.filterMap (shareOne x)).map Msg.row0, 11, .mut⟩] ∧ fr 4 = .ref 2 0 (x.items.filterMap (shareOne x)).length) (fun ⟨fr, bs⟩ => False) c_gimmalref16_Share_L0.eq_1 ?_ ?_ ?_ ?_ ?_
  · exact ⟨rfl, rfl, rfl, rfl, rfl⟩
  · rintro i ⟨fr, bs⟩ hi ⟨rfl, h1', h4, h5, h7⟩
    simp -implicitDefEqProofs [h1', h4, h5, h7, hi, Node.cells, itemsD]
  · rintro i a rest ⟨fr, bs⟩ hlt hget hg hd hd2 ⟨rfl, h1', h4, h5, h7⟩
    have hlt' : (i : Int) < x.items.length := by omega
    have hw := wrap_next (n := i) (by omega)
    have htk : x.items.take (i + 1) = x.items.take i ++ [a] := by rw [List.take_add_one, hget]; rfl
    have c4 := c3 a.key
    have hfi := hf i
    generalize hacc : (x.items.take i).filterMap (shareOne x) = acc at *
    clear c3 hf
    simp -implicitDefEqProofs [h1', h4, h5, h7, hlt, hlt', hget, hg, Node.cells, peersD, intsD, itemsD, toldsD, Item.row]
    repeat' (first | (refine callThen_of (by first | exact c4) ?_; simp -implicitDefEqProofs [*, Node.cells, peersD, intsD, itemsD, toldsD, Item.row, hw, htk, hacc, Fits, shareOne, Msg.row0]) | (with_reducible refine gOps_dec (fun _ => ?_) (fun _ => ?_) <;> simp -implicitDefEqProofs [*, Node.cells, peersD, intsD, itemsD, toldsD, Item.row, hw, htk, hacc, Fits, shareOne, Msg.row0]) | (with_reducible refine gOps_ndec (fun _ => ?_) (fun _ => ?_) <;> simp -implicitDefEqProofs [*, Node.cells, peersD, intsD, itemsD, toldsD, Item.row, hw, htk, hacc, Fits, shareOne, Msg.row0]) | (with_reducible refine gOps_and (fun hq => ?_) (fun hq => ?_) <;> (try simp at hq) <;> simp -implicitDefEqProofs [*, Node.cells, peersD, intsD, itemsD, toldsD, Item.row, hw, htk, hacc, Fits, shareOne, Msg.row0]) | (with_reducible refine gOps_or (fun hq => ?_) (fun hq => ?_) <;> (try simp at hq) <;> simp -implicitDefEqProofs [*, Node.cells, peersD, intsD, itemsD, toldsD, Item.row, hw, htk, hacc, Fits, shareOne, Msg.row0]) | (with_reducible refine gOps_not (fun hq => ?_) (fun hq => ?_) <;> (try simp at hq) <;> simp -implicitDefEqProofs [*, Node.cells, peersD, intsD, itemsD, toldsD, Item.row, hw, htk, hacc, Fits, shareOne, Msg.row0]) | (with_reducible refine gOps_split (fun hq => ?_) (fun hq => ?_) <;> (try simp at hq) <;> simp -implicitDefEqProofs [*, Node.cells, peersD, intsD, itemsD, toldsD, Item.row, hw, htk, hacc, Fits, shareOne, Msg.row0]) | (with_reducible refine condC_dec (fun _ => ?_) (fun _ => ?_) <;> simp -implicitDefEqProofs [*, Node.cells, peersD, intsD, itemsD, toldsD, Item.row, hw, htk, hacc, Fits, shareOne, Msg.row0]) | (with_reducible refine condC_ndec (fun _ => ?_) (fun _ => ?_) <;> simp -implicitDefEqProofs [*, Node.cells, peersD, intsD, itemsD, toldsD, Item.row, hw, htk, hacc, Fits, shareOne, Msg.row0]) | (with_reducible refine condC_and (fun hq => ?_) (fun hq => ?_) <;> (try simp at hq) <;> simp -implicitDefEqProofs [*, Node.cells, peersD, intsD, itemsD, toldsD, Item.row, hw, htk, hacc, Fits, shareOne, Msg.row0]) | (with_reducible refine condC_or (fun hq => ?_) (fun hq => ?_) <;> (try simp at hq) <;> simp -implicitDefEqProofs [*, Node.cells, peersD, intsD, itemsD, toldsD, Item.row, hw, htk, hacc, Fits, shareOne, Msg.row0]) | (with_reducible refine condC_not (fun hq => ?_) (fun hq => ?_) <;> (try simp at hq) <;> simp -implicitDefEqProofs [*, Node.cells, peersD, intsD, itemsD, toldsD, Item.row, hw, htk, hacc, Fits, shareOne, Msg.row0]) | (with_reducible refine condC_split (fun hq => ?_) (fun hq => ?_) <;> (try simp at hq) <;> simp -implicitDefEqProofs [*, Node.cells, peersD, intsD, itemsD, toldsD, Item.row, hw, htk, hacc, Fits, shareOne, Msg.row0]) | (refine appK2_if (by omega) ?_; simp -implicitDefEqProofs [*, Node.cells, peersD, intsD, itemsD, toldsD, Item.row, hw, htk, hacc, Fits, shareOne, Msg.row0]) | (refine pureV_if (by omega) ?_; simp -implicitDefEqProofs [*, Node.cells, peersD, intsD, itemsD, toldsD, Item.row, hw, htk, hacc, Fits, shareOne, Msg.row0]))
  · rintro ⟨fr, bs⟩ ⟨rfl, h1⟩
    simp -implicitDefEqProofs [h1]
  · rintro ⟨fr, bs⟩ h
    exact h.elim
def spoilM (m : Msg) : Msg := { m with kind := IntKind.wrap .i64 (BitVec.ofInt IntKind.i64.bits m.kind ^^^ BitVec.ofInt IntKind.i64.bits 90).toNat }
theorem law_SpoilMsgs (ms : List Msg) (hl : ms.length ≤ cap16) : Den PP 36 [.ref 0 0 ms.length] [⟨ms.map Msg.row0, 11, .mut⟩] (.tup []) [⟨(ms.map spoilM).map Msg.row0, 11, .mut⟩] := by
  unfold cap16 at hl
  refine den_of [] [] is_gimmallaw0_SpoilMsgs ?_
  simp -implicitDefEqProofs [c_gimmallaw0_SpoilMsgs]
  refine list_rule ms (fun i rest => fun ⟨fr, bs⟩ => ∃ done, bs = [⟨(done ++ rest).map Msg.row0, 11, .mut⟩] ∧ done.length = i ∧ done ++ rest.map spoilM = ms.map spoilM ∧ fr 0 = .ref 0 0 ms.length ∧ fr 2 = .int .i64 i)
    (fun ⟨fr, bs⟩ => bs = [⟨(ms.map spoilM).map Msg.row0, 11, .mut⟩]) (fun ⟨fr, bs⟩ => False) c_gimmallaw0_SpoilMsgs_L0.eq_1 ?_ ?_ ?_ ?_ ?_
  · exact ⟨[], rfl, rfl, rfl, rfl, rfl⟩
  · rintro i ⟨fr, bs⟩ hi ⟨done, rfl, hd, he, h0, h2⟩
    simp -implicitDefEqProofs [h0, h2, hi]
    simp at he
    simp [he]
  · rintro i a rest ⟨fr, bs⟩ hlt hget hg hd hd2 ⟨done, rfl, hdl, he, h0, h2⟩
    have hlt' : (i : Int) < ms.length := by omega
    have hw := wrap_next (n := i) (by omega)
    have h3 : ∀ r, (done.map Msg.row0 ++ r :: rest.map Msg.row0)[i]? = some r := by intro r; simp [← hdl]
    have h4 : ∀ r r', (done.map Msg.row0 ++ r' :: rest.map Msg.row0).set i r = done.map Msg.row0 ++ r :: rest.map Msg.row0 := by intro r r'; simp [← hdl]
    simp -implicitDefEqProofs [h0, h2, hlt', h3, Msg.row0]
    refine callThen_of law_SpoilInts_nil ?_
    simp -implicitDefEqProofs [h0, h2, hlt', h3, h4, Msg.row0, hw, reach, downTo]
    exact ⟨done ++ [spoilM a], by simp [Msg.row0, spoilM]; rfl, by simp [hdl], by simpa using he⟩
  · rintro ⟨fr, bs⟩ rfl
    simp -implicitDefEqProofs
  · rintro ⟨fr, bs⟩ h
    exact h.elim
def itI (key count : Int) : Item := ⟨key, count, 1, count % 256, false⟩
theorem law18_it (key count : Int) : Den PP 42 [.int .i64 key, .int .i64 count] [] (.agg (itI key count).row) [] := by
  refine den_of [] [] is_gimmallaw18_it ?_
  simp -implicitDefEqProofs [c_gimmallaw18_it, itI, Item.row]
def node100 : Node := ⟨true, ⟨100, [⟨101, 2⟩, ⟨200, 0⟩, ⟨90, 1⟩], [7]⟩, [⟨95, 1, 1, 1, false⟩, ⟨99, 3, 1, 3, false⟩, ⟨250, 2, 1, 2, false⟩], []⟩
theorem small_node100 : node100.small := by unfold Node.small View.small cap16 cap; decide
theorem law18_node100 : Den PP 41 [] [] (.agg [.bool true, .int .i64 100, .ref 0 0 3, .ref 1 0 1, .ref 2 0 3, .nil]) [⟨node100.view.peers.map Peer.row, 2, .mut⟩, ⟨node100.view.passive.map irow, 1, .mut⟩, ⟨node100.items.map Item.row, 5, .mut⟩] := by
  have i1 := law18_it 95 1
  have i2 := law18_it 99 3
  have i3 := law18_it 250 2
  simp only [itI, Item.row] at i1 i2 i3
  refine den_of [] [] is_gimmallaw18_node100 ?_
  simp -implicitDefEqProofs [c_gimmallaw18_node100, node100, Peer.row, irow, Item.row]
  repeat' (first | (refine callThen_of (by first | exact i1 | exact i2 | exact i3) ?_; simp -implicitDefEqProofs [*, Peer.row, irow, Item.row]) | (with_reducible refine gOps_dec (fun _ => ?_) (fun _ => ?_) <;> simp -implicitDefEqProofs [*, Peer.row, irow, Item.row]) | (with_reducible refine gOps_ndec (fun _ => ?_) (fun _ => ?_) <;> simp -implicitDefEqProofs [*, Peer.row, irow, Item.row]) | (with_reducible refine gOps_and (fun hq => ?_) (fun hq => ?_) <;> (try simp at hq) <;> simp -implicitDefEqProofs [*, Peer.row, irow, Item.row]) | (with_reducible refine gOps_or (fun hq => ?_) (fun hq => ?_) <;> (try simp at hq) <;> simp -implicitDefEqProofs [*, Peer.row, irow, Item.row]) | (with_reducible refine gOps_not (fun hq => ?_) (fun hq => ?_) <;> (try simp at hq) <;> simp -implicitDefEqProofs [*, Peer.row, irow, Item.row]) | (with_reducible refine gOps_split (fun hq => ?_) (fun hq => ?_) <;> (try simp at hq) <;> simp -implicitDefEqProofs [*, Peer.row, irow, Item.row]) | (with_reducible refine condC_dec (fun _ => ?_) (fun _ => ?_) <;> simp -implicitDefEqProofs [*, Peer.row, irow, Item.row]) | (with_reducible refine condC_ndec (fun _ => ?_) (fun _ => ?_) <;> simp -implicitDefEqProofs [*, Peer.row, irow, Item.row]) | (with_reducible refine condC_and (fun hq => ?_) (fun hq => ?_) <;> (try simp at hq) <;> simp -implicitDefEqProofs [*, Peer.row, irow, Item.row]) | (with_reducible refine condC_or (fun hq => ?_) (fun hq => ?_) <;> (try simp at hq) <;> simp -implicitDefEqProofs [*, Peer.row, irow, Item.row]) | (with_reducible refine condC_not (fun hq => ?_) (fun hq => ?_) <;> (try simp at hq) <;> simp -implicitDefEqProofs [*, Peer.row, irow, Item.row]) | (with_reducible refine condC_split (fun hq => ?_) (fun hq => ?_) <;> (try simp at hq) <;> simp -implicitDefEqProofs [*, Peer.row, irow, Item.row]) | (refine appK2_if (by omega) ?_; simp -implicitDefEqProofs [*, Peer.row, irow, Item.row]) | (refine pureV_if (by omega) ?_; simp -implicitDefEqProofs [*, Peer.row, irow, Item.row]))
theorem law18_awake : Den PP 38 [] [] (.bool true) [] := by
  have g1 := share_Of node100 small_node100
  have g2 := share_Of ⟨false, ⟨0, [], []⟩, [], []⟩ (by unfold Node.small View.small cap16 cap; decide)
  have e1 : shareOf node100 = ([⟨1, 100, 101, [], 0, ⟨95, 1, 1, 1, false⟩, false⟩, ⟨1, 100, 101, [], 0, ⟨99, 3, 1, 3, false⟩, false⟩, ⟨1, 100, 90, [], 0, ⟨250, 2, 1, 2, false⟩, false⟩], 0) := by decide +kernel
  have e2 : shareOf ⟨false, ⟨0, [], []⟩, [], []⟩ = ([], 1800) := by decide +kernel
  rw [e1] at g1
  rw [e2] at g2
  clear e1 e2
  have i3 := law18_it 250 2
  simp [node100, nodeD, Node.cells, peersD, intsD, itemsD, toldsD, Peer.row, irow, Item.row, Msg.row0, itI] at g1 g2 i3
  refine den_of [] [] is_gimmallaw18_awake ?_
  simp -implicitDefEqProofs [c_gimmallaw18_awake]
  repeat' (first | (refine callThen_of (by first | exact law18_node100 | exact g1 | exact den_nrm (g1) | exact den_nrm (by simpa using g1) | exact g2 | exact den_nrm (g2) | exact den_nrm (by simpa using g2) | exact law_Num _ | exact i3) ?_; simp -implicitDefEqProofs [*, node100, Peer.row, irow, Item.row, EQS]) | (with_reducible refine gOps_dec (fun _ => ?_) (fun _ => ?_) <;> simp -implicitDefEqProofs [*, node100, Peer.row, irow, Item.row, EQS]) | (with_reducible refine gOps_ndec (fun _ => ?_) (fun _ => ?_) <;> simp -implicitDefEqProofs [*, node100, Peer.row, irow, Item.row, EQS]) | (with_reducible refine gOps_and (fun hq => ?_) (fun hq => ?_) <;> (try simp at hq) <;> simp -implicitDefEqProofs [*, node100, Peer.row, irow, Item.row, EQS]) | (with_reducible refine gOps_or (fun hq => ?_) (fun hq => ?_) <;> (try simp at hq) <;> simp -implicitDefEqProofs [*, node100, Peer.row, irow, Item.row, EQS]) | (with_reducible refine gOps_not (fun hq => ?_) (fun hq => ?_) <;> (try simp at hq) <;> simp -implicitDefEqProofs [*, node100, Peer.row, irow, Item.row, EQS]) | (with_reducible refine gOps_split (fun hq => ?_) (fun hq => ?_) <;> (try simp at hq) <;> simp -implicitDefEqProofs [*, node100, Peer.row, irow, Item.row, EQS]) | (with_reducible refine condC_dec (fun _ => ?_) (fun _ => ?_) <;> simp -implicitDefEqProofs [*, node100, Peer.row, irow, Item.row, EQS]) | (with_reducible refine condC_ndec (fun _ => ?_) (fun _ => ?_) <;> simp -implicitDefEqProofs [*, node100, Peer.row, irow, Item.row, EQS]) | (with_reducible refine condC_and (fun hq => ?_) (fun hq => ?_) <;> (try simp at hq) <;> simp -implicitDefEqProofs [*, node100, Peer.row, irow, Item.row, EQS]) | (with_reducible refine condC_or (fun hq => ?_) (fun hq => ?_) <;> (try simp at hq) <;> simp -implicitDefEqProofs [*, node100, Peer.row, irow, Item.row, EQS]) | (with_reducible refine condC_not (fun hq => ?_) (fun hq => ?_) <;> (try simp at hq) <;> simp -implicitDefEqProofs [*, node100, Peer.row, irow, Item.row, EQS]) | (with_reducible refine condC_split (fun hq => ?_) (fun hq => ?_) <;> (try simp at hq) <;> simp -implicitDefEqProofs [*, node100, Peer.row, irow, Item.row, EQS]) | (refine appK2_if (by omega) ?_; simp -implicitDefEqProofs [*, node100, Peer.row, irow, Item.row, EQS]) | (refine pureV_if (by omega) ?_; simp -implicitDefEqProofs [*, node100, Peer.row, irow, Item.row, EQS]))
end Go.AM
/- AM: chapter 18's statements: what each comes to. -/
namespace Go.AM
set_option linter.unusedSimpArgs false
set_option linter.unusedVariables false
set_option maxRecDepth 8000
set_option maxHeartbeats 0
theorem shareOne_ids {x : Node} {i : Item} {m : Msg} (h : shareOne x i = some m) : m.bare = m := by
  unfold shareOne at h
  generalize (if (ownerV x.view i.key).1 = x.view.id then (succV x.view).1 else (ownerV x.view i.key).1) = t at h
  split at h
  · cases h
  · cases h; rfl
theorem shareOf_bare (x : Node) : (shareOf x).1.map Msg.bare = (shareOf x).1 := by
  rw [List.map_congr_left (g := id), List.map_id]
  intro m hm
  unfold shareOf at hm
  split at hm
  · obtain ⟨i, _, hi⟩ := List.mem_filterMap.1 hm
    exact shareOne_ids hi
  · simp at hm
theorem shareOf_len (x : Node) : (shareOf x).1.length ≤ 16 := by
  unfold shareOf
  split
  · rename_i h
    have : x.items.length ≤ 16 := by
      simp only [nodeUp, nodeMay, storeMay, Bool.and_eq_true, decide_eq_true_eq] at h
      exact h.2.1.1.2.2
    exact Nat.le_trans (List.length_filterMap_le _ _) this
  · simp
theorem law18_Shares (x : Node) (hs : x.small) : Den PP 8 [nodeD x] [] (.bool true) [] := by
  have g0 := law_CopyNode x hs
  have g1 := share_Of x hs
  have g2 := ref_Share x hs
  have hb := shareOf_bare x
  have hlen := shareOf_len x
  have g3 := law_SameMsgs (shareOf x).1 (shareOf x).1 (by unfold cap16; omega) (by intro m hm; rw [← hb] at hm; obtain ⟨m', _, rfl⟩ := List.mem_map.1 hm; simp [Msg.bare])
  have g4 := law_SpoilMsgs (shareOf x).1 (by unfold cap16; omega)
  have g5 := law_SameNode x x hs
  generalize hms : (shareOf x).1 = ms at *
  generalize (shareOf x).2 = e at *
  simp only [nodeD, Node.cells, peersD, intsD, itemsD, toldsD, msgsD] at g0 g1 g2 g3 g5
  refine den_of [12] [30] is_gimmallaw18_Shares ?_
  simp -implicitDefEqProofs [c_gimmallaw18_Shares, nodeD, Node.cells, peersD, intsD, itemsD, toldsD]
  refine callThen_of g0 ?_
  simp -implicitDefEqProofs [downTo]
  refine callThen_of g1 ?_
  simp -implicitDefEqProofs [downTo]
  refine callThen_of g2 ?_
  simp -implicitDefEqProofs [downTo]
  refine callThen_nil rfl g3 (by simp [hb]) ?_
  simp -implicitDefEqProofs
  repeat' (first | (refine callThen_of (by first | exact law_Num _) ?_; simp -implicitDefEqProofs [*]) | (with_reducible refine gOps_dec (fun _ => ?_) (fun _ => ?_) <;> simp -implicitDefEqProofs [*]) | (with_reducible refine gOps_ndec (fun _ => ?_) (fun _ => ?_) <;> simp -implicitDefEqProofs [*]) | (with_reducible refine gOps_and (fun hq => ?_) (fun hq => ?_) <;> (try simp at hq) <;> simp -implicitDefEqProofs [*]) | (with_reducible refine gOps_or (fun hq => ?_) (fun hq => ?_) <;> (try simp at hq) <;> simp -implicitDefEqProofs [*]) | (with_reducible refine gOps_not (fun hq => ?_) (fun hq => ?_) <;> (try simp at hq) <;> simp -implicitDefEqProofs [*]) | (with_reducible refine gOps_split (fun hq => ?_) (fun hq => ?_) <;> (try simp at hq) <;> simp -implicitDefEqProofs [*]) | (with_reducible refine condC_dec (fun _ => ?_) (fun _ => ?_) <;> simp -implicitDefEqProofs [*]) | (with_reducible refine condC_ndec (fun _ => ?_) (fun _ => ?_) <;> simp -implicitDefEqProofs [*]) | (with_reducible refine condC_and (fun hq => ?_) (fun hq => ?_) <;> (try simp at hq) <;> simp -implicitDefEqProofs [*]) | (with_reducible refine condC_or (fun hq => ?_) (fun hq => ?_) <;> (try simp at hq) <;> simp -implicitDefEqProofs [*]) | (with_reducible refine condC_not (fun hq => ?_) (fun hq => ?_) <;> (try simp at hq) <;> simp -implicitDefEqProofs [*]) | (with_reducible refine condC_split (fun hq => ?_) (fun hq => ?_) <;> (try simp at hq) <;> simp -implicitDefEqProofs [*]) | (refine appK2_if (by omega) ?_; simp -implicitDefEqProofs [*]) | (refine pureV_if (by omega) ?_; simp -implicitDefEqProofs [*]))
  refine lendThen_frame [2] rfl (by decide) (by simp) g4 (by simp) (by simp [lentBs]) ?_
  simp -implicitDefEqProofs [framed]
  repeat' (first | (refine callThen_of (by first | exact g5 | exact law18_awake) ?_; simp -implicitDefEqProofs [*]) | (with_reducible refine gOps_dec (fun _ => ?_) (fun _ => ?_) <;> simp -implicitDefEqProofs [*]) | (with_reducible refine gOps_ndec (fun _ => ?_) (fun _ => ?_) <;> simp -implicitDefEqProofs [*]) | (with_reducible refine gOps_and (fun hq => ?_) (fun hq => ?_) <;> (try simp at hq) <;> simp -implicitDefEqProofs [*]) | (with_reducible refine gOps_or (fun hq => ?_) (fun hq => ?_) <;> (try simp at hq) <;> simp -implicitDefEqProofs [*]) | (with_reducible refine gOps_not (fun hq => ?_) (fun hq => ?_) <;> (try simp at hq) <;> simp -implicitDefEqProofs [*]) | (with_reducible refine gOps_split (fun hq => ?_) (fun hq => ?_) <;> (try simp at hq) <;> simp -implicitDefEqProofs [*]) | (with_reducible refine condC_dec (fun _ => ?_) (fun _ => ?_) <;> simp -implicitDefEqProofs [*]) | (with_reducible refine condC_ndec (fun _ => ?_) (fun _ => ?_) <;> simp -implicitDefEqProofs [*]) | (with_reducible refine condC_and (fun hq => ?_) (fun hq => ?_) <;> (try simp at hq) <;> simp -implicitDefEqProofs [*]) | (with_reducible refine condC_or (fun hq => ?_) (fun hq => ?_) <;> (try simp at hq) <;> simp -implicitDefEqProofs [*]) | (with_reducible refine condC_not (fun hq => ?_) (fun hq => ?_) <;> (try simp at hq) <;> simp -implicitDefEqProofs [*]) | (with_reducible refine condC_split (fun hq => ?_) (fun hq => ?_) <;> (try simp at hq) <;> simp -implicitDefEqProofs [*]) | (refine appK2_if (by omega) ?_; simp -implicitDefEqProofs [*]) | (refine pureV_if (by omega) ?_; simp -implicitDefEqProofs [*]))
end Go.AM
/- AM: chapter 18's statements, more: what each comes to. -/
namespace Go.AM
set_option linter.unusedSimpArgs false
set_option linter.unusedVariables false
set_option maxRecDepth 8000
set_option maxHeartbeats 0
theorem byte_place (x : Int) : byte x = place x := rfl
theorem itemsOk_mem : ∀ (is : List Item) (q : Option Int), itemsOk q is = true → ∀ i ∈ is, itemMay i = true := by
  intro is
  induction is with
  | nil => intro q _ i hi; simp at hi
  | cons a is ih =>
    intro q h i hi
    simp only [itemsOk, Bool.and_eq_true] at h
    rcases List.mem_cons.1 hi with rfl | hi
    · exact h.1.1
    · exact ih _ h.2 i hi
theorem storeMay_mem {is : List Item} (h : storeMay is = true) : ∀ i ∈ is, itemMay i = true := by
  simp only [storeMay, Bool.and_eq_true] at h
  exact itemsOk_mem is none h.1
theorem itemMay_key {i : Item} (h : itemMay i = true) : place i.key = true := by
  simp only [itemMay, Bool.and_eq_true] at h
  exact h.1.1.1
theorem nodeUp_parts {x : Node} (h : nodeUp x = true) : x.up = true ∧ viewMay x.view = true ∧ storeMay x.items = true ∧ x.log.length ≤ 64 ∧ nodeMay x = true := by
  simp only [nodeUp, Bool.and_eq_true] at h
  obtain ⟨h1, h2⟩ := h
  have h3 := h2
  simp only [nodeMay, Bool.and_eq_true, decide_eq_true_eq] at h3
  exact ⟨h1, h3.1.1.1.2, h3.1.1.2, h3.1.2, h2⟩
def shTo (x : Node) (i : Item) : Int := if ownV x.view i.key = x.view.id then (succV x.view).1 else ownV x.view i.key
def shMsg (x : Node) (i : Item) : Msg := ⟨1, x.view.id, shTo x i, [], 0, i, false⟩
theorem shareOne_eq {x : Node} (h : nodeUp x = true) {i : Item} (hi : i ∈ x.items) : shareOne x i = if shTo x i = x.view.id then none else some (shMsg x i) := by
  obtain ⟨_, h2, h3, _⟩ := nodeUp_parts h
  have := ownerV_own h2 (itemMay_key (storeMay_mem h3 i hi))
  unfold shareOne shMsg shTo
  rw [this]
theorem share_mem {x : Node} (h : nodeUp x = true) {m : Msg} (hm : m ∈ (shareOf x).1) : ∃ i ∈ x.items, m = shMsg x i ∧ shTo x i ≠ x.view.id ∧ ownerV x.view i.key = (ownV x.view i.key, 0) := by
  unfold shareOf at hm
  rw [if_pos h] at hm
  obtain ⟨i, hi, hs⟩ := List.mem_filterMap.1 hm
  rw [shareOne_eq h hi] at hs
  obtain ⟨_, h2, h3, _⟩ := nodeUp_parts h
  split at hs
  · cases hs
  · cases hs
    exact ⟨i, hi, rfl, by assumption, ownerV_own h2 (itemMay_key (storeMay_mem h3 i hi))⟩
theorem shTo_peer {x : Node} (h : nodeUp x = true) (hp : x.view.peers ≠ []) (i : Item) : (∃ q ∈ x.view.peers, q.id = shTo x i) ∧ shTo x i ≠ x.view.id := by
  obtain ⟨_, h2, _⟩ := nodeUp_parts h
  cases hq : x.view.peers with
  | nil => exact absurd hq hp
  | cons p ps =>
    unfold shTo
    split
    · have e : (succV x.view).1 = p.id := by simp [succV, h2, hq]
      rw [e]
      exact ⟨⟨p, by simp, rfl⟩, peer_ne h2 (by simp [hq])⟩
    · rename_i hne
      rcases own_mem x.view i.key with h3 | h3
      · exact absurd h3 hne
      · exact ⟨hq ▸ h3, hne⟩
theorem share_all {x : Node} (h : nodeUp x = true) (hp : x.view.peers ≠ []) : shareOf x = (x.items.map (shMsg x), 0) := by
  unfold shareOf
  rw [if_pos h]
  congr 1
  have : ∀ is : List Item, (∀ i ∈ is, i ∈ x.items) → is.filterMap (shareOne x) = is.map (shMsg x) := by
    intro is
    induction is with
    | nil => intro _; rfl
    | cons a is ih =>
      intro hs
      have e : shareOne x a = some (shMsg x a) := by
        rw [shareOne_eq h (hs a (by simp)), if_neg (shTo_peer h hp a).2]
      rw [List.filterMap_cons, e, List.map_cons, ih fun i hi => hs i (by simp [hi])]
  exact this _ fun i hi => hi
theorem share_alone {x : Node} (h : nodeUp x = true) (hp : x.view.peers = []) : shareOf x = ([], 0) := by
  unfold shareOf
  rw [if_pos h]
  congr 1
  rw [List.filterMap_eq_nil_iff]
  intro i hi
  obtain ⟨_, h2, _⟩ := nodeUp_parts h
  rw [shareOne_eq h hi, if_pos]
  have e : (succV x.view).1 = x.view.id := by simp [succV, h2, hp]
  have e2 : ownV x.view i.key = x.view.id := by simp [ownV, hp, nearest]
  simp [shTo, e, e2]
theorem law18_ShareOwner (x : Node) (hs : x.small) : Den PP 10 [nodeD x] [] (.bool true) [] := by
  have g1 := share_Of x hs
  have g2 := ref_Succ x.view hs.1
  have g3 := fun k => ref_Owner x.view k hs.1
  have g4 := ref_NodeMay x hs
  have hlen := shareOf_len x
  refine den_of [] [] is_gimmallaw18_ShareOwner ?_
  cases hu : nodeUp x with
  | false =>
    have e : shareOf x = ([], 1800) := by simp [shareOf, hu]
    rw [e] at g1
    simp [nodeD, Node.cells, peersD, intsD, itemsD, toldsD] at g1
    simp -implicitDefEqProofs [c_gimmallaw18_ShareOwner, nodeD, Node.cells, peersD, intsD, itemsD, toldsD]
    repeat' (first | (refine callThen_of (by first | exact law18_awake | exact g1 | exact law_Num _) ?_; simp -implicitDefEqProofs [*, downTo]) | (with_reducible refine gOps_dec (fun _ => ?_) (fun _ => ?_) <;> simp -implicitDefEqProofs [*, downTo]) | (with_reducible refine gOps_ndec (fun _ => ?_) (fun _ => ?_) <;> simp -implicitDefEqProofs [*, downTo]) | (with_reducible refine gOps_and (fun hq => ?_) (fun hq => ?_) <;> (try simp at hq) <;> simp -implicitDefEqProofs [*, downTo]) | (with_reducible refine gOps_or (fun hq => ?_) (fun hq => ?_) <;> (try simp at hq) <;> simp -implicitDefEqProofs [*, downTo]) | (with_reducible refine gOps_not (fun hq => ?_) (fun hq => ?_) <;> (try simp at hq) <;> simp -implicitDefEqProofs [*, downTo]) | (with_reducible refine gOps_split (fun hq => ?_) (fun hq => ?_) <;> (try simp at hq) <;> simp -implicitDefEqProofs [*, downTo]) | (with_reducible refine condC_dec (fun _ => ?_) (fun _ => ?_) <;> simp -implicitDefEqProofs [*, downTo]) | (with_reducible refine condC_ndec (fun _ => ?_) (fun _ => ?_) <;> simp -implicitDefEqProofs [*, downTo]) | (with_reducible refine condC_and (fun hq => ?_) (fun hq => ?_) <;> (try simp at hq) <;> simp -implicitDefEqProofs [*, downTo]) | (with_reducible refine condC_or (fun hq => ?_) (fun hq => ?_) <;> (try simp at hq) <;> simp -implicitDefEqProofs [*, downTo]) | (with_reducible refine condC_not (fun hq => ?_) (fun hq => ?_) <;> (try simp at hq) <;> simp -implicitDefEqProofs [*, downTo]) | (with_reducible refine condC_split (fun hq => ?_) (fun hq => ?_) <;> (try simp at hq) <;> simp -implicitDefEqProofs [*, downTo]) | (refine appK2_if (by omega) ?_; simp -implicitDefEqProofs [*, downTo]) | (refine pureV_if (by omega) ?_; simp -implicitDefEqProofs [*, downTo]))
  | true =>
    have hm := fun m => @share_mem x hu m
    have e : (shareOf x).2 = 0 := by simp [shareOf, hu]
    rw [e] at g1
    rw [(nodeUp_parts hu).2.2.2.2] at g4
    generalize (shareOf x).1 = ms at *
    simp only [nodeD, Node.cells, viewD, View.cells, peersD, intsD, itemsD, toldsD, pairD] at g1 g2 g3 g4
    simp -implicitDefEqProofs [c_gimmallaw18_ShareOwner, nodeD, Node.cells, peersD, intsD, itemsD, toldsD]
    repeat' (first | (refine callThen_of (by first | exact law18_awake | exact g1 | exact g2 | exact law_Num _) ?_; simp -implicitDefEqProofs [*, downTo]) | (with_reducible refine gOps_dec (fun _ => ?_) (fun _ => ?_) <;> simp -implicitDefEqProofs [*, downTo]) | (with_reducible refine gOps_ndec (fun _ => ?_) (fun _ => ?_) <;> simp -implicitDefEqProofs [*, downTo]) | (with_reducible refine gOps_and (fun hq => ?_) (fun hq => ?_) <;> (try simp at hq) <;> simp -implicitDefEqProofs [*, downTo]) | (with_reducible refine gOps_or (fun hq => ?_) (fun hq => ?_) <;> (try simp at hq) <;> simp -implicitDefEqProofs [*, downTo]) | (with_reducible refine gOps_not (fun hq => ?_) (fun hq => ?_) <;> (try simp at hq) <;> simp -implicitDefEqProofs [*, downTo]) | (with_reducible refine gOps_split (fun hq => ?_) (fun hq => ?_) <;> (try simp at hq) <;> simp -implicitDefEqProofs [*, downTo]) | (with_reducible refine condC_dec (fun _ => ?_) (fun _ => ?_) <;> simp -implicitDefEqProofs [*, downTo]) | (with_reducible refine condC_ndec (fun _ => ?_) (fun _ => ?_) <;> simp -implicitDefEqProofs [*, downTo]) | (with_reducible refine condC_and (fun hq => ?_) (fun hq => ?_) <;> (try simp at hq) <;> simp -implicitDefEqProofs [*, downTo]) | (with_reducible refine condC_or (fun hq => ?_) (fun hq => ?_) <;> (try simp at hq) <;> simp -implicitDefEqProofs [*, downTo]) | (with_reducible refine condC_not (fun hq => ?_) (fun hq => ?_) <;> (try simp at hq) <;> simp -implicitDefEqProofs [*, downTo]) | (with_reducible refine condC_split (fun hq => ?_) (fun hq => ?_) <;> (try simp at hq) <;> simp -implicitDefEqProofs [*, downTo]) | (refine appK2_if (by omega) ?_; simp -implicitDefEqProofs [*, downTo]) | (refine pureV_if (by omega) ?_; simp -implicitDefEqProofs [*, downTo]))
    refine list_rule ms (fun i rest => fun ⟨fr, bs⟩ => bs = [⟨[x.cells], 6, .box⟩] ∧ fr 1 = .ptr 0 0 0 ∧ fr 3 = .sl (ms.map Msg.row0) ms.length ∧ fr 5 = .int .i64 (succV x.view).1 ∧ fr 7 = .int .i64 i)
      (fun ⟨fr, bs⟩ => bs = [⟨[x.cells], 6, .box⟩] ∧ fr 1 = .ptr 0 0 0) (fun ⟨fr, bs⟩ => False) c_gimmallaw18_ShareOwner_L0.eq_1 ?_ ?_ ?_ ?_ ?_
    · exact ⟨rfl, rfl, rfl, rfl, rfl⟩
    · rintro i ⟨fr, bs⟩ hi ⟨rfl, h1, h3, h5, h7⟩
      simp -implicitDefEqProofs [h1, h3, h5, h7, hi]
    · rintro i a rest ⟨fr, bs⟩ hlt hget hg hd hd2 ⟨rfl, h1, h3, h5, h7⟩
      have hlt' : (i : Int) < ms.length := by omega
      have hw := wrap_next (n := i) (by omega)
      obtain ⟨j, hj, rfl, hne, ho⟩ := hm a (List.mem_of_getElem? hget)
      have g5 := g3 j.key
      rw [ho] at g5
      simp only at g5
      clear g3 hm
      have ht : (shMsg x j).to = if ownV x.view j.key = x.view.id then (succV x.view).1 else ownV x.view j.key := rfl
      have hk : (shMsg x j).item.key = j.key := rfl
      simp -implicitDefEqProofs [h1, h3, h5, h7, hlt, hlt', hget, hg, Node.cells, peersD, intsD, itemsD, toldsD, Msg.row0, hk]
      repeat' (first | (refine callThen_of (by first | exact g5) ?_; simp -implicitDefEqProofs [*, Node.cells, peersD, intsD, itemsD, toldsD, Msg.row0, hw, hk]) | (with_reducible refine gOps_dec (fun _ => ?_) (fun _ => ?_) <;> simp -implicitDefEqProofs [*, Node.cells, peersD, intsD, itemsD, toldsD, Msg.row0, hw, hk]) | (with_reducible refine gOps_ndec (fun _ => ?_) (fun _ => ?_) <;> simp -implicitDefEqProofs [*, Node.cells, peersD, intsD, itemsD, toldsD, Msg.row0, hw, hk]) | (with_reducible refine gOps_and (fun hq => ?_) (fun hq => ?_) <;> (try simp at hq) <;> simp -implicitDefEqProofs [*, Node.cells, peersD, intsD, itemsD, toldsD, Msg.row0, hw, hk]) | (with_reducible refine gOps_or (fun hq => ?_) (fun hq => ?_) <;> (try simp at hq) <;> simp -implicitDefEqProofs [*, Node.cells, peersD, intsD, itemsD, toldsD, Msg.row0, hw, hk]) | (with_reducible refine gOps_not (fun hq => ?_) (fun hq => ?_) <;> (try simp at hq) <;> simp -implicitDefEqProofs [*, Node.cells, peersD, intsD, itemsD, toldsD, Msg.row0, hw, hk]) | (with_reducible refine gOps_split (fun hq => ?_) (fun hq => ?_) <;> (try simp at hq) <;> simp -implicitDefEqProofs [*, Node.cells, peersD, intsD, itemsD, toldsD, Msg.row0, hw, hk]) | (with_reducible refine condC_dec (fun _ => ?_) (fun _ => ?_) <;> simp -implicitDefEqProofs [*, Node.cells, peersD, intsD, itemsD, toldsD, Msg.row0, hw, hk]) | (with_reducible refine condC_ndec (fun _ => ?_) (fun _ => ?_) <;> simp -implicitDefEqProofs [*, Node.cells, peersD, intsD, itemsD, toldsD, Msg.row0, hw, hk]) | (with_reducible refine condC_and (fun hq => ?_) (fun hq => ?_) <;> (try simp at hq) <;> simp -implicitDefEqProofs [*, Node.cells, peersD, intsD, itemsD, toldsD, Msg.row0, hw, hk]) | (with_reducible refine condC_or (fun hq => ?_) (fun hq => ?_) <;> (try simp at hq) <;> simp -implicitDefEqProofs [*, Node.cells, peersD, intsD, itemsD, toldsD, Msg.row0, hw, hk]) | (with_reducible refine condC_not (fun hq => ?_) (fun hq => ?_) <;> (try simp at hq) <;> simp -implicitDefEqProofs [*, Node.cells, peersD, intsD, itemsD, toldsD, Msg.row0, hw, hk]) | (with_reducible refine condC_split (fun hq => ?_) (fun hq => ?_) <;> (try simp at hq) <;> simp -implicitDefEqProofs [*, Node.cells, peersD, intsD, itemsD, toldsD, Msg.row0, hw, hk]) | (refine appK2_if (by omega) ?_; simp -implicitDefEqProofs [*, Node.cells, peersD, intsD, itemsD, toldsD, Msg.row0, hw, hk]) | (refine pureV_if (by omega) ?_; simp -implicitDefEqProofs [*, Node.cells, peersD, intsD, itemsD, toldsD, Msg.row0, hw, hk]))
      all_goals grind
    · rintro ⟨fr, bs⟩ ⟨rfl, h1⟩
      simp -implicitDefEqProofs [h1, Node.cells, peersD, intsD, itemsD, toldsD]
      refine callThen_of g4 ?_
      simp -implicitDefEqProofs
    · rintro ⟨fr, bs⟩ h
      exact h.elim
theorem law18_ShareNone (id passive : Int) : Den PP 13 [.int .i64 id, .int .i64 passive] [] (.bool true) [] := by
  have hk := place_mod id
  generalize hkk : id % 256 = k at hk
  have hx := place_mod passive
  generalize hxx : passive % 256 = p at hx
  have key : ∀ (ps : List Int) (its : List Item), ps.length ≤ 1 → (∀ y ∈ ps, y ≠ k ∧ place y = true) → storeMay its = true → (shareOf ⟨true, ⟨k, [], ps⟩, its, []⟩) = ([], 0) := by
    intro ps its hl hps hst
    refine share_alone ?_ rfl
    have hv : viewMay ⟨k, [], ps⟩ = true := by
      match ps, hl with
      | [], _ => simp [viewMay, peersMay, peersOk, passiveMay, ups, hk]
      | [y], _ =>
        have := hps y (by simp)
        have h2 : oddIn ⟨k, [], [y]⟩ y = false := by simp [oddIn, peerIs, isFar, findAt, this.1]
        simp [viewMay, peersMay, peersOk, passiveMay, ups, hk, this.2, h2]
    simp [nodeUp, nodeMay, emptyN, hv, hst]
  have hst : storeMay node100.items = true := by decide +kernel
  have hst2 : storeMay [] = true := by decide
  have g1 := share_Of ⟨true, ⟨k, [], [p]⟩, node100.items, []⟩ (by unfold Node.small View.small cap16 cap; simp [node100])
  have g2 := share_Of ⟨true, ⟨k, [], []⟩, node100.items, []⟩ (by unfold Node.small View.small cap16 cap; simp [node100])
  have e3 : shareOf { node100 with items := [] } = ([], 0) := by decide +kernel
  have g3 := share_Of { node100 with items := [] } (by unfold Node.small View.small cap16 cap; simp [node100])
  rw [e3] at g3
  rw [key [] _ (by simp) (by simp) hst] at g2
  refine den_of [] [] is_gimmallaw18_ShareNone ?_
  by_cases hpk : p = k
  · simp [node100, nodeD, Node.cells, peersD, intsD, itemsD, toldsD, Peer.row, irow, Item.row] at g2 g3
    simp -implicitDefEqProofs [c_gimmallaw18_ShareNone, hkk, hxx, hpk]
    repeat' (first | (refine callThen_of (by first | exact law18_awake | exact law18_node100 | exact g2 | exact den_nrm (g2) | exact den_nrm (by simpa using g2) | exact g3 | exact den_nrm (g3) | exact den_nrm (by simpa using g3) | exact law_Num _) ?_; simp -implicitDefEqProofs [*, node100, Peer.row, irow, Item.row, downTo, hkk, hxx]) | (with_reducible refine gOps_dec (fun _ => ?_) (fun _ => ?_) <;> simp -implicitDefEqProofs [*, node100, Peer.row, irow, Item.row, downTo, hkk, hxx]) | (with_reducible refine gOps_ndec (fun _ => ?_) (fun _ => ?_) <;> simp -implicitDefEqProofs [*, node100, Peer.row, irow, Item.row, downTo, hkk, hxx]) | (with_reducible refine gOps_and (fun hq => ?_) (fun hq => ?_) <;> (try simp at hq) <;> simp -implicitDefEqProofs [*, node100, Peer.row, irow, Item.row, downTo, hkk, hxx]) | (with_reducible refine gOps_or (fun hq => ?_) (fun hq => ?_) <;> (try simp at hq) <;> simp -implicitDefEqProofs [*, node100, Peer.row, irow, Item.row, downTo, hkk, hxx]) | (with_reducible refine gOps_not (fun hq => ?_) (fun hq => ?_) <;> (try simp at hq) <;> simp -implicitDefEqProofs [*, node100, Peer.row, irow, Item.row, downTo, hkk, hxx]) | (with_reducible refine gOps_split (fun hq => ?_) (fun hq => ?_) <;> (try simp at hq) <;> simp -implicitDefEqProofs [*, node100, Peer.row, irow, Item.row, downTo, hkk, hxx]) | (with_reducible refine condC_dec (fun _ => ?_) (fun _ => ?_) <;> simp -implicitDefEqProofs [*, node100, Peer.row, irow, Item.row, downTo, hkk, hxx]) | (with_reducible refine condC_ndec (fun _ => ?_) (fun _ => ?_) <;> simp -implicitDefEqProofs [*, node100, Peer.row, irow, Item.row, downTo, hkk, hxx]) | (with_reducible refine condC_and (fun hq => ?_) (fun hq => ?_) <;> (try simp at hq) <;> simp -implicitDefEqProofs [*, node100, Peer.row, irow, Item.row, downTo, hkk, hxx]) | (with_reducible refine condC_or (fun hq => ?_) (fun hq => ?_) <;> (try simp at hq) <;> simp -implicitDefEqProofs [*, node100, Peer.row, irow, Item.row, downTo, hkk, hxx]) | (with_reducible refine condC_not (fun hq => ?_) (fun hq => ?_) <;> (try simp at hq) <;> simp -implicitDefEqProofs [*, node100, Peer.row, irow, Item.row, downTo, hkk, hxx]) | (with_reducible refine condC_split (fun hq => ?_) (fun hq => ?_) <;> (try simp at hq) <;> simp -implicitDefEqProofs [*, node100, Peer.row, irow, Item.row, downTo, hkk, hxx]) | (refine appK2_if (by omega) ?_; simp -implicitDefEqProofs [*, node100, Peer.row, irow, Item.row, downTo, hkk, hxx]) | (refine pureV_if (by omega) ?_; simp -implicitDefEqProofs [*, node100, Peer.row, irow, Item.row, downTo, hkk, hxx]))
  · rw [key [p] _ (by simp) (by simp [hpk, hx]) hst] at g1
    simp [node100, nodeD, Node.cells, peersD, intsD, itemsD, toldsD, Peer.row, irow, Item.row] at g1 g3
    simp -implicitDefEqProofs [c_gimmallaw18_ShareNone, hkk, hxx, hpk]
    repeat' (first | (refine callThen_of (by first | exact law18_awake | exact law18_node100 | exact g1 | exact den_nrm (g1) | exact den_nrm (by simpa using g1) | exact g3 | exact den_nrm (g3) | exact den_nrm (by simpa using g3) | exact law_Num _) ?_; simp -implicitDefEqProofs [*, node100, Peer.row, irow, Item.row, downTo, hkk, hxx, reach]) | (with_reducible refine gOps_dec (fun _ => ?_) (fun _ => ?_) <;> simp -implicitDefEqProofs [*, node100, Peer.row, irow, Item.row, downTo, hkk, hxx, reach]) | (with_reducible refine gOps_ndec (fun _ => ?_) (fun _ => ?_) <;> simp -implicitDefEqProofs [*, node100, Peer.row, irow, Item.row, downTo, hkk, hxx, reach]) | (with_reducible refine gOps_and (fun hq => ?_) (fun hq => ?_) <;> (try simp at hq) <;> simp -implicitDefEqProofs [*, node100, Peer.row, irow, Item.row, downTo, hkk, hxx, reach]) | (with_reducible refine gOps_or (fun hq => ?_) (fun hq => ?_) <;> (try simp at hq) <;> simp -implicitDefEqProofs [*, node100, Peer.row, irow, Item.row, downTo, hkk, hxx, reach]) | (with_reducible refine gOps_not (fun hq => ?_) (fun hq => ?_) <;> (try simp at hq) <;> simp -implicitDefEqProofs [*, node100, Peer.row, irow, Item.row, downTo, hkk, hxx, reach]) | (with_reducible refine gOps_split (fun hq => ?_) (fun hq => ?_) <;> (try simp at hq) <;> simp -implicitDefEqProofs [*, node100, Peer.row, irow, Item.row, downTo, hkk, hxx, reach]) | (with_reducible refine condC_dec (fun _ => ?_) (fun _ => ?_) <;> simp -implicitDefEqProofs [*, node100, Peer.row, irow, Item.row, downTo, hkk, hxx, reach]) | (with_reducible refine condC_ndec (fun _ => ?_) (fun _ => ?_) <;> simp -implicitDefEqProofs [*, node100, Peer.row, irow, Item.row, downTo, hkk, hxx, reach]) | (with_reducible refine condC_and (fun hq => ?_) (fun hq => ?_) <;> (try simp at hq) <;> simp -implicitDefEqProofs [*, node100, Peer.row, irow, Item.row, downTo, hkk, hxx, reach]) | (with_reducible refine condC_or (fun hq => ?_) (fun hq => ?_) <;> (try simp at hq) <;> simp -implicitDefEqProofs [*, node100, Peer.row, irow, Item.row, downTo, hkk, hxx, reach]) | (with_reducible refine condC_not (fun hq => ?_) (fun hq => ?_) <;> (try simp at hq) <;> simp -implicitDefEqProofs [*, node100, Peer.row, irow, Item.row, downTo, hkk, hxx, reach]) | (with_reducible refine condC_split (fun hq => ?_) (fun hq => ?_) <;> (try simp at hq) <;> simp -implicitDefEqProofs [*, node100, Peer.row, irow, Item.row, downTo, hkk, hxx, reach]) | (refine appK2_if (by omega) ?_; simp -implicitDefEqProofs [*, node100, Peer.row, irow, Item.row, downTo, hkk, hxx, reach]) | (refine pureV_if (by omega) ?_; simp -implicitDefEqProofs [*, node100, Peer.row, irow, Item.row, downTo, hkk, hxx, reach]))
    trace_state
end Go.AM
/- AM: contracts: the document's messages. -/
namespace Go.AM
set_option linter.unusedSimpArgs false
set_option linter.unusedVariables false
set_option maxRecDepth 8000
set_option maxHeartbeats 0
theorem ref_MsgMay (m : Msg) (hl : m.ids.length ≤ cap) : Den PP 39 [msgD m] [] (.bool (msgMay m)) [] := by
  obtain ⟨kind, from_, to, ids, key, ⟨ik, ic, iw, iv, ig⟩, has⟩ := m
  have c1 := ref_placesMay ids hl
  obtain ⟨A, hA⟩ : ∃ A, ids.all place = A := ⟨_, rfl⟩
  rw [hA] at c1
  simp only [intsD] at c1
  refine den_of [] [] is_gimmalref1_MsgMay ?_
  simp -implicitDefEqProofs [c_gimmalref1_MsgMay, msgD, Msg.row, intsD, EQS]
  repeat' (first | (refine callThen_of (by first | exact c1 | exact ref_ItemMay_raw _ _ _ _ _ | exact ref_PlaceMay _) ?_; simp -implicitDefEqProofs [*, EQS]) | (with_reducible refine gOps_dec (fun _ => ?_) (fun _ => ?_) <;> simp -implicitDefEqProofs [*, EQS]) | (with_reducible refine gOps_ndec (fun _ => ?_) (fun _ => ?_) <;> simp -implicitDefEqProofs [*, EQS]) | (with_reducible refine gOps_and (fun hq => ?_) (fun hq => ?_) <;> (try simp at hq) <;> simp -implicitDefEqProofs [*, EQS]) | (with_reducible refine gOps_or (fun hq => ?_) (fun hq => ?_) <;> (try simp at hq) <;> simp -implicitDefEqProofs [*, EQS]) | (with_reducible refine gOps_not (fun hq => ?_) (fun hq => ?_) <;> (try simp at hq) <;> simp -implicitDefEqProofs [*, EQS]) | (with_reducible refine gOps_split (fun hq => ?_) (fun hq => ?_) <;> (try simp at hq) <;> simp -implicitDefEqProofs [*, EQS]) | (with_reducible refine condC_dec (fun _ => ?_) (fun _ => ?_) <;> simp -implicitDefEqProofs [*, EQS]) | (with_reducible refine condC_ndec (fun _ => ?_) (fun _ => ?_) <;> simp -implicitDefEqProofs [*, EQS]) | (with_reducible refine condC_and (fun hq => ?_) (fun hq => ?_) <;> (try simp at hq) <;> simp -implicitDefEqProofs [*, EQS]) | (with_reducible refine condC_or (fun hq => ?_) (fun hq => ?_) <;> (try simp at hq) <;> simp -implicitDefEqProofs [*, EQS]) | (with_reducible refine condC_not (fun hq => ?_) (fun hq => ?_) <;> (try simp at hq) <;> simp -implicitDefEqProofs [*, EQS]) | (with_reducible refine condC_split (fun hq => ?_) (fun hq => ?_) <;> (try simp at hq) <;> simp -implicitDefEqProofs [*, EQS]) | (refine appK2_if (by omega) ?_; simp -implicitDefEqProofs [*, EQS]) | (refine pureV_if (by omega) ?_; simp -implicitDefEqProofs [*, EQS]))
  all_goals (simp only [msgMay, hA, zeroItem, Item.mk.injEq]; first | (simp [*]; done) | (simp [*]; grind) | grind)
end Go.AM
