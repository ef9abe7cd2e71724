/- What the proof of this claim stands on, part 11. -/
import Derived.Test.YtehagcggdepajaaGreatAmZ10
/- AM: this seat's functions in short. -/
namespace Go.AM
set_option linter.unusedSimpArgs false
set_option linter.unusedVariables false
def c_item_Byte : SF := ⟨9, [(ResultVar.tmp 2)],
  (.seq (.ops [⟨some 2, (Op.assign (Operand.const (Value.bool false))), 4, none⟩]) (.seq (.ops [⟨some 3, (Op.move (Operand.tmp 0)), 3, none⟩,
    ⟨some 4, (Op.binOp BinOp.geq 3 (Operand.tmp 3) (Operand.const (Value.int IntKind.i64 0)) 3), 4, none⟩,
    ⟨some 5, (Op.move (Operand.tmp 4)), 4, none⟩,
    ⟨some 6, (Op.move (Operand.tmp 0)), 3, some (5, true)⟩,
    ⟨some 7, (Op.binOp BinOp.lss 3 (Operand.tmp 6) (Operand.const (Value.int IntKind.i64 256)) 3), 4, some (5, true)⟩,
    ⟨some 8, (Op.pick (Operand.tmp 5) (Operand.tmp 7) (Operand.const (Value.bool false))), 4, none⟩,
    ⟨some 2, (Op.assign (Operand.tmp 8)), 4, none⟩]) .ret))⟩
theorem is_item_Byte (c : Cfg) (h : c.lendT = []) : isF PP c 149 c_item_Byte := isF_of (fn := Proofs.Tryz.f149) (by kernel_rfl) (by kernel_rfl) rfl h (by kernel_rfl) rfl rfl (by kernel_rfl)
def c_gimmalref16_byteMay : SF := ⟨9, [(ResultVar.tmp 2)],
  (.seq (.ops [⟨some 2, (Op.assign (Operand.const (Value.bool false))), 4, none⟩]) (.seq (.ops [⟨some 3, (Op.move (Operand.tmp 0)), 3, none⟩,
    ⟨some 4, (Op.binOp BinOp.geq 3 (Operand.tmp 3) (Operand.const (Value.int IntKind.i64 0)) 3), 4, none⟩,
    ⟨some 5, (Op.move (Operand.tmp 4)), 4, none⟩,
    ⟨some 6, (Op.move (Operand.tmp 0)), 3, some (5, true)⟩,
    ⟨some 7, (Op.binOp BinOp.leq 3 (Operand.tmp 6) (Operand.const (Value.int IntKind.i64 255)) 3), 4, some (5, true)⟩,
    ⟨some 8, (Op.pick (Operand.tmp 5) (Operand.tmp 7) (Operand.const (Value.bool false))), 4, none⟩,
    ⟨some 2, (Op.assign (Operand.tmp 8)), 4, none⟩]) .ret))⟩
theorem is_gimmalref16_byteMay (c : Cfg) (h : c.lendT = []) : isF PP c 159 c_gimmalref16_byteMay := isF_of (fn := Proofs.Tryz.f159) (by kernel_rfl) (by kernel_rfl) rfl h (by kernel_rfl) rfl rfl (by kernel_rfl)
def c_gimmalref1_ViewMay_L0 : SC := (.seq (.seq (.ops [⟨some 8, (Op.move (Operand.tmp 4)), 3, none⟩,
    ⟨some 9, (Op.fieldAddr 38 (Operand.tmp 1) 2), 0, none⟩,
    ⟨some 10, (Op.load 36 (Operand.tmp 9)), 36, none⟩,
    ⟨some 11, (Op.call ⟨(Callee.builtin Builtin.len), #[(Operand.tmp 10)], #[36]⟩), 3, none⟩,
    ⟨some 12, (Op.binOp BinOp.lss 3 (Operand.tmp 8) (Operand.tmp 11) 3), 4, none⟩]) (.cond (Operand.tmp 12) .skip (.exit 0))) (.seq (.block 1 (.seq (.ops [⟨some 17, (Op.move (Operand.tmp 4)), 3, none⟩,
    ⟨some 15, (Op.fieldAddr 38 (Operand.tmp 1) 2), 0, none⟩,
    ⟨some 16, (Op.load 36 (Operand.tmp 15)), 36, none⟩,
    ⟨some 18, (Op.indexAddr 36 (Operand.tmp 16) (Operand.tmp 17)), 0, none⟩,
    ⟨some 19, (Op.load 3 (Operand.tmp 18)), 3, none⟩,
    ⟨some 20, (Op.fieldAddr 38 (Operand.tmp 1) 0), 0, none⟩,
    ⟨some 21, (Op.load 3 (Operand.tmp 20)), 3, none⟩,
    ⟨some 22, (Op.binOp BinOp.eql 3 (Operand.tmp 19) (Operand.tmp 21) 3), 4, none⟩,
    ⟨some 23, (Op.move (Operand.tmp 22)), 4, none⟩,
    ⟨some 24, (Op.move (Operand.tmp 3)), 36, some (23, false)⟩,
    ⟨some 25, (Op.fieldAddr 38 (Operand.tmp 1) 2), 0, some (23, false)⟩,
    ⟨some 26, (Op.load 36 (Operand.tmp 25)), 36, some (23, false)⟩,
    ⟨some 27, (Op.move (Operand.tmp 4)), 3, some (23, false)⟩,
    ⟨some 28, (Op.indexAddr 36 (Operand.tmp 26) (Operand.tmp 27)), 0, some (23, false)⟩,
    ⟨some 29, (Op.load 3 (Operand.tmp 28)), 3, some (23, false)⟩,
    ⟨some 30, (Op.call ⟨(Callee.value (Operand.func 173)), #[(Operand.tmp 24), (Operand.tmp 29)], #[36, 3]⟩), 4, some (23, false)⟩,
    ⟨some 31, (Op.pick (Operand.tmp 23) (Operand.const (Value.bool true)) (Operand.tmp 30)), 4, none⟩]) (.cond (Operand.tmp 31) (.seq (.ops [⟨some 2, (Op.assign (Operand.const (Value.bool false))), 4, none⟩]) .ret) .skip))) (.ops [⟨some 13, (Op.move (Operand.tmp 4)), 3, none⟩,
    ⟨some 14, (Op.binOp BinOp.add 3 (Operand.tmp 13) (Operand.const (Value.int IntKind.i64 1)) 3), 3, none⟩,
    ⟨some 4, (Op.assign (Operand.tmp 14)), 3, none⟩])))
def c_gimmalref1_ViewMay : SF := ⟨52, [(ResultVar.tmp 2)],
  (.seq (.ops [⟨some 1, (Op.box 38 (Operand.tmp 0)), 0, none⟩,
    ⟨some 2, (Op.assign (Operand.const (Value.bool false))), 4, none⟩]) (.seq (.ops [⟨some 5, (Op.fieldAddr 38 (Operand.tmp 1) 1), 0, none⟩,
    ⟨some 6, (Op.load 35 (Operand.tmp 5)), 35, none⟩,
    ⟨some 7, (Op.call ⟨(Callee.value (Operand.func 73)), #[(Operand.tmp 6)], #[35]⟩), 36, none⟩,
    ⟨some 3, (Op.assign (Operand.tmp 7)), 36, none⟩]) (.seq (.seq (.ops [⟨some 4, (Op.assign (Operand.const (Value.int IntKind.i64 0))), 3, none⟩]) (.block 0 (.loop c_gimmalref1_ViewMay_L0))) (.seq (.ops [⟨some 32, (Op.fieldAddr 38 (Operand.tmp 1) 0), 0, none⟩,
    ⟨some 33, (Op.load 3 (Operand.tmp 32)), 3, none⟩,
    ⟨some 34, (Op.fieldAddr 38 (Operand.tmp 1) 1), 0, none⟩,
    ⟨some 35, (Op.load 35 (Operand.tmp 34)), 35, none⟩,
    ⟨some 36, (Op.call ⟨(Callee.value (Operand.func 212)), #[(Operand.tmp 33), (Operand.tmp 35)], #[3, 35]⟩), 4, none⟩,
    ⟨some 37, (Op.move (Operand.tmp 36)), 4, none⟩,
    ⟨some 38, (Op.fieldAddr 38 (Operand.tmp 1) 2), 0, some (37, true)⟩,
    ⟨some 39, (Op.load 36 (Operand.tmp 38)), 36, some (37, true)⟩,
    ⟨some 40, (Op.call ⟨(Callee.value (Operand.func 213)), #[(Operand.tmp 39)], #[36]⟩), 4, some (37, true)⟩,
    ⟨some 41, (Op.pick (Operand.tmp 37) (Operand.tmp 40) (Operand.const (Value.bool false))), 4, none⟩,
    ⟨some 42, (Op.move (Operand.tmp 41)), 4, none⟩,
    ⟨some 43, (Op.fieldAddr 38 (Operand.tmp 1) 1), 0, some (42, true)⟩,
    ⟨some 44, (Op.load 35 (Operand.tmp 43)), 35, some (42, true)⟩,
    ⟨some 45, (Op.call ⟨(Callee.builtin Builtin.len), #[(Operand.tmp 44)], #[35]⟩), 3, some (42, true)⟩,
    ⟨some 46, (Op.fieldAddr 38 (Operand.tmp 1) 2), 0, some (42, true)⟩,
    ⟨some 47, (Op.load 36 (Operand.tmp 46)), 36, some (42, true)⟩,
    ⟨some 48, (Op.call ⟨(Callee.builtin Builtin.len), #[(Operand.tmp 47)], #[36]⟩), 3, some (42, true)⟩,
    ⟨some 49, (Op.binOp BinOp.add 3 (Operand.tmp 45) (Operand.tmp 48) 3), 3, some (42, true)⟩,
    ⟨some 50, (Op.binOp BinOp.leq 3 (Operand.tmp 49) (Operand.const (Value.int IntKind.i64 16)) 3), 4, some (42, true)⟩,
    ⟨some 51, (Op.pick (Operand.tmp 42) (Operand.tmp 50) (Operand.const (Value.bool false))), 4, none⟩,
    ⟨some 2, (Op.assign (Operand.tmp 51)), 4, none⟩]) .ret))))⟩
theorem is_gimmalref1_ViewMay (c : Cfg) (h : c.lendT = []) : isF PP c 160 c_gimmalref1_ViewMay := isF_of (fn := Proofs.Tryz.f160) (by kernel_rfl) (by kernel_rfl) rfl h (by kernel_rfl) rfl rfl (by kernel_rfl)
def c_slices_IndexFunc_int_int_L0 : SC := (.seq (.ops [⟨some 9, (Op.binOp BinOp.lss 3 (Operand.tmp 8) (Operand.tmp 7) 3), 0, none⟩]) (.seq (.cond (Operand.tmp 9) .skip (.exit 0)) (.seq (.block 1 (.seq (.ops [⟨some 10, (Op.move (Operand.tmp 8)), 3, none⟩,
    ⟨some 5, (Op.assign (Operand.tmp 10)), 3, none⟩]) (.seq (.ops [⟨some 11, (Op.move (Operand.tmp 1)), 106, none⟩,
    ⟨some 12, (Op.move (Operand.tmp 0)), 36, none⟩,
    ⟨some 13, (Op.move (Operand.tmp 5)), 3, none⟩,
    ⟨some 14, (Op.indexAddr 36 (Operand.tmp 12) (Operand.tmp 13)), 0, none⟩,
    ⟨some 15, (Op.load 3 (Operand.tmp 14)), 3, none⟩,
    ⟨some 16, (Op.call ⟨(Callee.value (Operand.tmp 11)), #[(Operand.tmp 15)], #[3]⟩), 4, none⟩]) (.cond (Operand.tmp 16) (.seq (.ops [⟨some 17, (Op.move (Operand.tmp 5)), 3, none⟩,
    ⟨some 4, (Op.assign (Operand.tmp 17)), 3, none⟩]) .ret) .skip)))) (.ops [⟨some 18, (Op.binOp BinOp.add 3 (Operand.tmp 8) (Operand.const (Value.int IntKind.i64 1)) 3), 3, none⟩,
    ⟨some 8, (Op.move (Operand.tmp 18)), 3, none⟩]))))
def c_slices_IndexFunc_int_int : SF := ⟨19, [(ResultVar.tmp 4)],
  (.seq (.ops [⟨some 4, (Op.assign (Operand.const (Value.int IntKind.i64 0))), 3, none⟩]) (.seq (.seq (.ops [⟨some 6, (Op.move (Operand.tmp 0)), 36, none⟩,
    ⟨some 7, (Op.call ⟨(Callee.builtin Builtin.len), #[(Operand.tmp 6)], #[36]⟩), 3, none⟩,
    ⟨some 8, (Op.move (Operand.const (Value.int IntKind.i64 0))), 3, none⟩]) (.block 0 (.loop c_slices_IndexFunc_int_int_L0))) (.seq (.ops [⟨some 4, (Op.assign (Operand.const (Value.int IntKind.i64 (-1)))), 3, none⟩]) .ret)))⟩
theorem is_slices_IndexFunc_int_int (c : Cfg) (h : c.lendT = []) : isF PP c 165 c_slices_IndexFunc_int_int := isF_of (fn := Proofs.Tryz.f165) (by kernel_rfl) (by kernel_rfl) rfl h (by kernel_rfl) rfl rfl (by kernel_rfl)
def c_cmp_Compare_int : SF := ⟨20, [(ResultVar.tmp 4)],
  (.seq (.ops [⟨some 4, (Op.assign (Operand.const (Value.int IntKind.i64 0))), 3, none⟩]) (.seq (.ops [⟨some 7, (Op.move (Operand.tmp 0)), 3, none⟩,
    ⟨some 8, (Op.call ⟨(Callee.value (Operand.func 216)), #[(Operand.tmp 7)], #[3]⟩), 4, none⟩,
    ⟨some 5, (Op.assign (Operand.tmp 8)), 4, none⟩]) (.seq (.ops [⟨some 9, (Op.move (Operand.tmp 1)), 3, none⟩,
    ⟨some 10, (Op.call ⟨(Callee.value (Operand.func 216)), #[(Operand.tmp 9)], #[3]⟩), 4, none⟩,
    ⟨some 6, (Op.assign (Operand.tmp 10)), 4, none⟩]) (.seq (.seq (.ops [⟨some 11, (Op.move (Operand.tmp 5)), 4, none⟩]) (.cond (Operand.tmp 11) (.seq (.seq (.ops [⟨some 12, (Op.move (Operand.tmp 6)), 4, none⟩]) (.cond (Operand.tmp 12) (.seq (.ops [⟨some 4, (Op.assign (Operand.const (Value.int IntKind.i64 0))), 3, none⟩]) .ret) .skip)) (.seq (.ops [⟨some 4, (Op.assign (Operand.const (Value.int IntKind.i64 (-1)))), 3, none⟩]) .ret)) .skip)) (.seq (.seq (.ops [⟨some 13, (Op.move (Operand.tmp 6)), 4, none⟩]) (.cond (Operand.tmp 13) (.seq (.ops [⟨some 4, (Op.assign (Operand.const (Value.int IntKind.i64 1))), 3, none⟩]) .ret) .skip)) (.seq (.seq (.ops [⟨some 14, (Op.move (Operand.tmp 0)), 3, none⟩,
    ⟨some 15, (Op.move (Operand.tmp 1)), 3, none⟩,
    ⟨some 16, (Op.binOp BinOp.lss 3 (Operand.tmp 14) (Operand.tmp 15) 3), 4, none⟩]) (.cond (Operand.tmp 16) (.seq (.ops [⟨some 4, (Op.assign (Operand.const (Value.int IntKind.i64 (-1)))), 3, none⟩]) .ret) .skip)) (.seq (.seq (.ops [⟨some 17, (Op.move (Operand.tmp 0)), 3, none⟩,
    ⟨some 18, (Op.move (Operand.tmp 1)), 3, none⟩,
    ⟨some 19, (Op.binOp BinOp.gtr 3 (Operand.tmp 17) (Operand.tmp 18) 3), 4, none⟩]) (.cond (Operand.tmp 19) (.seq (.ops [⟨some 4, (Op.assign (Operand.const (Value.int IntKind.i64 1))), 3, none⟩]) .ret) .skip)) (.seq (.ops [⟨some 4, (Op.assign (Operand.const (Value.int IntKind.i64 0))), 3, none⟩]) .ret))))))))⟩
theorem is_cmp_Compare_int (c : Cfg) (h : c.lendT = []) : isF PP c 168 c_cmp_Compare_int := isF_of (fn := Proofs.Tryz.f168) (by kernel_rfl) (by kernel_rfl) rfl h (by kernel_rfl) rfl rfl (by kernel_rfl)
def c_msg_none : SF := ⟨23, [(ResultVar.tmp 2)],
  (.seq (.ops [⟨some 1, (Op.box 68 (Operand.tmp 0)), 0, none⟩,
    ⟨some 2, (Op.assign (Operand.const (Value.bool false))), 4, none⟩]) (.seq (.ops [⟨some 3, (Op.fieldAddr 68 (Operand.tmp 1) 3), 0, none⟩,
    ⟨some 4, (Op.load 36 (Operand.tmp 3)), 36, none⟩,
    ⟨some 5, (Op.call ⟨(Callee.builtin Builtin.len), #[(Operand.tmp 4)], #[36]⟩), 3, none⟩,
    ⟨some 6, (Op.binOp BinOp.eql 3 (Operand.tmp 5) (Operand.const (Value.int IntKind.i64 0)) 3), 4, none⟩,
    ⟨some 7, (Op.move (Operand.tmp 6)), 4, none⟩,
    ⟨some 8, (Op.fieldAddr 68 (Operand.tmp 1) 4), 0, some (7, true)⟩,
    ⟨some 9, (Op.load 3 (Operand.tmp 8)), 3, some (7, true)⟩,
    ⟨some 10, (Op.binOp BinOp.eql 3 (Operand.tmp 9) (Operand.const (Value.int IntKind.i64 0)) 3), 4, some (7, true)⟩,
    ⟨some 11, (Op.pick (Operand.tmp 7) (Operand.tmp 10) (Operand.const (Value.bool false))), 4, none⟩,
    ⟨some 12, (Op.move (Operand.tmp 11)), 4, none⟩,
    ⟨some 13, (Op.fieldAddr 68 (Operand.tmp 1) 5), 0, some (12, true)⟩,
    ⟨some 14, (Op.load 46 (Operand.tmp 13)), 46, some (12, true)⟩,
    ⟨some 15, (Op.build 46 #[]), 46, some (12, true)⟩,
    ⟨some 16, (Op.binOp BinOp.eql 46 (Operand.tmp 14) (Operand.tmp 15) 46), 4, some (12, true)⟩,
    ⟨some 17, (Op.pick (Operand.tmp 12) (Operand.tmp 16) (Operand.const (Value.bool false))), 4, none⟩,
    ⟨some 18, (Op.move (Operand.tmp 17)), 4, none⟩,
    ⟨some 19, (Op.fieldAddr 68 (Operand.tmp 1) 6), 0, some (18, true)⟩,
    ⟨some 20, (Op.load 4 (Operand.tmp 19)), 4, some (18, true)⟩,
    ⟨some 21, (Op.unOp UnOp.not 4 (Operand.tmp 20)), 4, some (18, true)⟩,
    ⟨some 22, (Op.pick (Operand.tmp 18) (Operand.tmp 21) (Operand.const (Value.bool false))), 4, none⟩,
    ⟨some 2, (Op.assign (Operand.tmp 22)), 4, none⟩]) .ret))⟩
theorem is_msg_none (c : Cfg) (h : c.lendT = []) : isF PP c 169 c_msg_none := isF_of (fn := Proofs.Tryz.f169) (by kernel_rfl) (by kernel_rfl) rfl h (by kernel_rfl) rfl rfl (by kernel_rfl)
def c_slices_Clone_api_Told_api_Told : SF := ⟨8, [(ResultVar.tmp 2)],
  (.seq (.ops [⟨some 2, (Op.assign (Operand.const (Value.slice none 0 0))), 40, none⟩]) (.seq (.seq (.ops [⟨some 3, (Op.move (Operand.tmp 0)), 40, none⟩,
    ⟨some 4, (Op.binOp BinOp.eql 40 (Operand.tmp 3) (Operand.const (Value.slice none 0 0)) 40), 4, none⟩]) (.cond (Operand.tmp 4) (.seq (.ops [⟨some 2, (Op.assign (Operand.const (Value.slice none 0 0))), 40, none⟩]) .ret) .skip)) (.seq (.ops [⟨some 5, (Op.buildSlice 40 0 #[]), 40, none⟩,
    ⟨some 6, (Op.move (Operand.tmp 0)), 40, none⟩,
    ⟨some 7, (Op.call ⟨(Callee.builtin Builtin.append), #[(Operand.tmp 5), (Operand.tmp 6)], #[40, 40]⟩), 40, none⟩,
    ⟨some 2, (Op.assign (Operand.tmp 7)), 40, none⟩]) .ret)))⟩
theorem is_slices_Clone_api_Told_api_Told (c : Cfg) (h : c.lendT = []) : isF PP c 170 c_slices_Clone_api_Told_api_Told := isF_of (fn := Proofs.Tryz.f170) (by kernel_rfl) (by kernel_rfl) rfl h (by kernel_rfl) rfl rfl (by kernel_rfl)
def c_gimmalref1_known : SF := ⟨54, [(ResultVar.cell 4 38)],
  (.seq (.ops [⟨some 2, (Op.box 38 (Operand.tmp 0)), 0, none⟩,
    ⟨some 4, (Op.alloc 38), 0, none⟩]) (.seq (.seq (.ops [⟨some 9, (Op.fieldAddr 38 (Operand.tmp 2) 2), 0, none⟩,
    ⟨some 10, (Op.load 36 (Operand.tmp 9)), 36, none⟩,
    ⟨some 11, (Op.move (Operand.tmp 1)), 3, none⟩,
    ⟨some 12, (Op.call ⟨(Callee.value (Operand.func 173)), #[(Operand.tmp 10), (Operand.tmp 11)], #[36, 3]⟩), 4, none⟩,
    ⟨some 13, (Op.unOp UnOp.not 4 (Operand.tmp 12)), 4, none⟩,
    ⟨some 14, (Op.move (Operand.tmp 13)), 4, none⟩,
    ⟨some 15, (Op.fieldAddr 38 (Operand.tmp 2) 1), 0, some (14, true)⟩,
    ⟨some 16, (Op.load 35 (Operand.tmp 15)), 35, some (14, true)⟩,
    ⟨some 17, (Op.call ⟨(Callee.value (Operand.func 73)), #[(Operand.tmp 16)], #[35]⟩), 36, some (14, true)⟩,
    ⟨some 18, (Op.move (Operand.tmp 1)), 3, some (14, true)⟩,
    ⟨some 19, (Op.call ⟨(Callee.value (Operand.func 173)), #[(Operand.tmp 17), (Operand.tmp 18)], #[36, 3]⟩), 4, some (14, true)⟩,
    ⟨some 20, (Op.unOp UnOp.not 4 (Operand.tmp 19)), 4, some (14, true)⟩,
    ⟨some 21, (Op.pick (Operand.tmp 14) (Operand.tmp 20) (Operand.const (Value.bool false))), 4, none⟩,
    ⟨some 22, (Op.move (Operand.tmp 21)), 4, none⟩,
    ⟨some 23, (Op.fieldAddr 38 (Operand.tmp 2) 1), 0, some (22, true)⟩,
    ⟨some 24, (Op.load 35 (Operand.tmp 23)), 35, some (22, true)⟩,
    ⟨some 25, (Op.call ⟨(Callee.builtin Builtin.len), #[(Operand.tmp 24)], #[35]⟩), 3, some (22, true)⟩,
    ⟨some 26, (Op.fieldAddr 38 (Operand.tmp 2) 2), 0, some (22, true)⟩,
    ⟨some 27, (Op.load 36 (Operand.tmp 26)), 36, some (22, true)⟩,
    ⟨some 28, (Op.call ⟨(Callee.builtin Builtin.len), #[(Operand.tmp 27)], #[36]⟩), 3, some (22, true)⟩,
    ⟨some 29, (Op.binOp BinOp.add 3 (Operand.tmp 25) (Operand.tmp 28) 3), 3, some (22, true)⟩,
    ⟨some 30, (Op.binOp BinOp.geq 3 (Operand.tmp 29) (Operand.const (Value.int IntKind.i64 16)) 3), 4, some (22, true)⟩,
    ⟨some 31, (Op.pick (Operand.tmp 22) (Operand.tmp 30) (Operand.const (Value.bool false))), 4, none⟩]) (.cond (Operand.tmp 31) (.seq (.ops [⟨some 32, (Op.load 38 (Operand.tmp 2)), 38, none⟩,
    ⟨none, (Op.store 38 (Operand.tmp 4) (Operand.tmp 32)), 0, none⟩]) .ret) .skip)) (.seq (.ops [⟨some 34, (Op.fieldAddr 38 (Operand.tmp 2) 0), 0, none⟩,
    ⟨some 35, (Op.load 3 (Operand.tmp 34)), 3, none⟩,
    ⟨some 36, (Op.fieldAddr 38 (Operand.tmp 2) 1), 0, none⟩,
    ⟨some 37, (Op.load 35 (Operand.tmp 36)), 35, none⟩,
    ⟨some 38, (Op.move (Operand.tmp 1)), 3, none⟩,
    ⟨some 39, (Op.call ⟨(Callee.value (Operand.func 217)), #[(Operand.tmp 35), (Operand.tmp 37), (Operand.tmp 38)], #[3, 35, 3]⟩), 247, none⟩,
    ⟨some 33, (Op.move (Operand.tmp 39)), 247, none⟩,
    ⟨some 40, (Op.extract (Operand.tmp 33) 0), 35, none⟩,
    ⟨some 41, (Op.extract (Operand.tmp 33) 1), 3, none⟩,
    ⟨some 5, (Op.assign (Operand.tmp 40)), 35, none⟩,
    ⟨some 6, (Op.assign (Operand.tmp 41)), 3, none⟩]) (.seq (.ops [⟨some 43, (Op.fieldAddr 38 (Operand.tmp 2) 2), 0, none⟩,
    ⟨some 44, (Op.load 36 (Operand.tmp 43)), 36, none⟩,
    ⟨some 45, (Op.move (Operand.tmp 1)), 3, none⟩,
    ⟨some 46, (Op.call ⟨(Callee.value (Operand.func 218)), #[(Operand.tmp 44), (Operand.tmp 45)], #[36, 3]⟩), 249, none⟩,
    ⟨some 42, (Op.move (Operand.tmp 46)), 249, none⟩,
    ⟨some 47, (Op.extract (Operand.tmp 42) 0), 36, none⟩,
    ⟨some 48, (Op.extract (Operand.tmp 42) 1), 3, none⟩,
    ⟨some 7, (Op.assign (Operand.tmp 47)), 36, none⟩,
    ⟨some 8, (Op.assign (Operand.tmp 48)), 3, none⟩]) (.seq (.ops [⟨some 49, (Op.fieldAddr 38 (Operand.tmp 2) 0), 0, none⟩,
    ⟨some 50, (Op.load 3 (Operand.tmp 49)), 3, none⟩,
    ⟨some 51, (Op.move (Operand.tmp 5)), 35, none⟩,
    ⟨some 52, (Op.move (Operand.tmp 7)), 36, none⟩,
    ⟨some 53, (Op.build 38 #[(0, (Operand.tmp 50)), (1, (Operand.tmp 51)), (2, (Operand.tmp 52))]), 38, none⟩,
    ⟨none, (Op.store 38 (Operand.tmp 4) (Operand.tmp 53)), 0, none⟩]) .ret)))))⟩
theorem is_gimmalref1_known (c : Cfg) (h : c.lendT = []) : isF PP c 171 c_gimmalref1_known := isF_of (fn := Proofs.Tryz.f171) (by kernel_rfl) (by kernel_rfl) rfl h (by kernel_rfl) rfl rfl (by kernel_rfl)
def c_gimmalref1_copyView : SF := ⟨14, [(ResultVar.cell 2 38)],
  (.seq (.ops [⟨some 1, (Op.box 38 (Operand.tmp 0)), 0, none⟩,
    ⟨some 2, (Op.alloc 38), 0, none⟩]) (.seq (.ops [⟨some 3, (Op.buildSlice 35 0 #[]), 35, none⟩,
    ⟨some 4, (Op.fieldAddr 38 (Operand.tmp 1) 1), 0, none⟩,
    ⟨some 5, (Op.load 35 (Operand.tmp 4)), 35, none⟩,
    ⟨some 6, (Op.call ⟨(Callee.builtin Builtin.append), #[(Operand.tmp 3), (Operand.tmp 5)], #[35, 35]⟩), 35, none⟩,
    ⟨some 7, (Op.fieldAddr 38 (Operand.tmp 1) 1), 0, none⟩,
    ⟨none, (Op.store 35 (Operand.tmp 7) (Operand.tmp 6)), 0, none⟩]) (.seq (.ops [⟨some 8, (Op.buildSlice 36 0 #[]), 36, none⟩,
    ⟨some 9, (Op.fieldAddr 38 (Operand.tmp 1) 2), 0, none⟩,
    ⟨some 10, (Op.load 36 (Operand.tmp 9)), 36, none⟩,
    ⟨some 11, (Op.call ⟨(Callee.builtin Builtin.append), #[(Operand.tmp 8), (Operand.tmp 10)], #[36, 36]⟩), 36, none⟩,
    ⟨some 12, (Op.fieldAddr 38 (Operand.tmp 1) 2), 0, none⟩,
    ⟨none, (Op.store 36 (Operand.tmp 12) (Operand.tmp 11)), 0, none⟩]) (.seq (.ops [⟨some 13, (Op.load 38 (Operand.tmp 1)), 38, none⟩,
    ⟨none, (Op.store 38 (Operand.tmp 2) (Operand.tmp 13)), 0, none⟩]) .ret))))⟩
theorem is_gimmalref1_copyView (c : Cfg) (h : c.lendT = []) : isF PP c 172 c_gimmalref1_copyView := isF_of (fn := Proofs.Tryz.f172) (by kernel_rfl) (by kernel_rfl) rfl h (by kernel_rfl) rfl rfl (by kernel_rfl)
def c_gimmalref1_has_L0 : SC := (.seq (.seq (.ops [⟨some 6, (Op.move (Operand.tmp 5)), 3, none⟩,
    ⟨some 7, (Op.move (Operand.tmp 0)), 36, none⟩,
    ⟨some 8, (Op.call ⟨(Callee.builtin Builtin.len), #[(Operand.tmp 7)], #[36]⟩), 3, none⟩,
    ⟨some 9, (Op.binOp BinOp.lss 3 (Operand.tmp 6) (Operand.tmp 8) 3), 4, none⟩]) (.cond (Operand.tmp 9) .skip (.exit 0))) (.seq (.block 1 (.seq (.ops [⟨some 12, (Op.move (Operand.tmp 0)), 36, none⟩,
    ⟨some 13, (Op.move (Operand.tmp 5)), 3, none⟩,
    ⟨some 14, (Op.indexAddr 36 (Operand.tmp 12) (Operand.tmp 13)), 0, none⟩,
    ⟨some 15, (Op.load 3 (Operand.tmp 14)), 3, none⟩,
    ⟨some 16, (Op.move (Operand.tmp 1)), 3, none⟩,
    ⟨some 17, (Op.binOp BinOp.eql 3 (Operand.tmp 15) (Operand.tmp 16) 3), 4, none⟩]) (.cond (Operand.tmp 17) (.seq (.ops [⟨some 4, (Op.assign (Operand.const (Value.bool true))), 4, none⟩]) .ret) .skip))) (.ops [⟨some 10, (Op.move (Operand.tmp 5)), 3, none⟩,
    ⟨some 11, (Op.binOp BinOp.add 3 (Operand.tmp 10) (Operand.const (Value.int IntKind.i64 1)) 3), 3, none⟩,
    ⟨some 5, (Op.assign (Operand.tmp 11)), 3, none⟩])))
def c_gimmalref1_has : SF := ⟨18, [(ResultVar.tmp 4)],
  (.seq (.ops [⟨some 4, (Op.assign (Operand.const (Value.bool false))), 4, none⟩]) (.seq (.seq (.ops [⟨some 5, (Op.assign (Operand.const (Value.int IntKind.i64 0))), 3, none⟩]) (.block 0 (.loop c_gimmalref1_has_L0))) (.seq (.ops [⟨some 4, (Op.assign (Operand.const (Value.bool false))), 4, none⟩]) .ret)))⟩
theorem is_gimmalref1_has (c : Cfg) (h : c.lendT = []) : isF PP c 173 c_gimmalref1_has := isF_of (fn := Proofs.Tryz.f173) (by kernel_rfl) (by kernel_rfl) rfl h (by kernel_rfl) rfl rfl (by kernel_rfl)
def c_gimmalref1_PutStore_L0 : SC := (.seq (.seq (.ops [⟨some 19, (Op.move (Operand.tmp 8)), 3, none⟩,
    ⟨some 20, (Op.move (Operand.tmp 0)), 39, none⟩,
    ⟨some 21, (Op.call ⟨(Callee.builtin Builtin.len), #[(Operand.tmp 20)], #[39]⟩), 3, none⟩,
    ⟨some 22, (Op.binOp BinOp.lss 3 (Operand.tmp 19) (Operand.tmp 21) 3), 4, none⟩]) (.cond (Operand.tmp 22) .skip (.exit 0))) (.seq (.block 1 (.seq (.seq (.ops [⟨some 25, (Op.move (Operand.tmp 7)), 4, none⟩,
    ⟨some 26, (Op.unOp UnOp.not 4 (Operand.tmp 25)), 4, none⟩,
    ⟨some 27, (Op.move (Operand.tmp 26)), 4, none⟩,
    ⟨some 28, (Op.move (Operand.tmp 0)), 39, some (27, true)⟩,
    ⟨some 29, (Op.move (Operand.tmp 8)), 3, some (27, true)⟩,
    ⟨some 30, (Op.indexAddr 39 (Operand.tmp 28) (Operand.tmp 29)), 0, some (27, true)⟩,
    ⟨some 31, (Op.fieldAddr 46 (Operand.tmp 30) 0), 0, some (27, true)⟩,
    ⟨some 32, (Op.load 3 (Operand.tmp 31)), 3, some (27, true)⟩,
    ⟨some 33, (Op.fieldAddr 46 (Operand.tmp 3) 0), 0, some (27, true)⟩,
    ⟨some 34, (Op.load 3 (Operand.tmp 33)), 3, some (27, true)⟩,
    ⟨some 35, (Op.binOp BinOp.gtr 3 (Operand.tmp 32) (Operand.tmp 34) 3), 4, some (27, true)⟩,
    ⟨some 36, (Op.pick (Operand.tmp 27) (Operand.tmp 35) (Operand.const (Value.bool false))), 4, none⟩]) (.cond (Operand.tmp 36) (.seq (.ops [⟨some 37, (Op.move (Operand.tmp 6)), 39, none⟩,
    ⟨some 38, (Op.load 46 (Operand.tmp 3)), 46, none⟩,
    ⟨some 39, (Op.buildSlice 39 1 #[(0, (Operand.tmp 38))]), 39, none⟩,
    ⟨some 40, (Op.call ⟨(Callee.builtin Builtin.append), #[(Operand.tmp 37), (Operand.tmp 39)], #[39, 39]⟩), 39, none⟩,
    ⟨some 6, (Op.assign (Operand.tmp 40)), 39, none⟩]) (.ops [⟨some 7, (Op.assign (Operand.const (Value.bool true))), 4, none⟩])) .skip)) (.seq (.ops [⟨some 41, (Op.move (Operand.tmp 0)), 39, none⟩,
    ⟨some 42, (Op.move (Operand.tmp 8)), 3, none⟩,
    ⟨some 43, (Op.indexAddr 39 (Operand.tmp 41) (Operand.tmp 42)), 0, none⟩,
    ⟨some 44, (Op.fieldAddr 46 (Operand.tmp 43) 0), 0, none⟩,
    ⟨some 45, (Op.load 3 (Operand.tmp 44)), 3, none⟩,
    ⟨some 46, (Op.fieldAddr 46 (Operand.tmp 3) 0), 0, none⟩,
    ⟨some 47, (Op.load 3 (Operand.tmp 46)), 3, none⟩,
    ⟨some 48, (Op.binOp BinOp.eql 3 (Operand.tmp 45) (Operand.tmp 47) 3), 4, none⟩]) (.cond (Operand.tmp 48) (.seq (.ops [⟨some 50, (Op.move (Operand.tmp 0)), 39, none⟩,
    ⟨some 51, (Op.move (Operand.tmp 8)), 3, none⟩,
    ⟨some 52, (Op.indexAddr 39 (Operand.tmp 50) (Operand.tmp 51)), 0, none⟩,
    ⟨some 53, (Op.load 46 (Operand.tmp 52)), 46, none⟩,
    ⟨some 54, (Op.load 46 (Operand.tmp 3)), 46, none⟩,
    ⟨some 55, (Op.call ⟨(Callee.value (Operand.func 36)), #[(Operand.tmp 53), (Operand.tmp 54)], #[46, 46]⟩), 81, none⟩,
    ⟨some 49, (Op.move (Operand.tmp 55)), 81, none⟩,
    ⟨some 56, (Op.extract (Operand.tmp 49) 0), 46, none⟩,
    ⟨some 57, (Op.extract (Operand.tmp 49) 1), 3, none⟩,
    ⟨some 9, (Op.alloc 46), 0, none⟩,
    ⟨none, (Op.store 46 (Operand.tmp 9) (Operand.tmp 56)), 0, none⟩,
    ⟨some 10, (Op.assign (Operand.tmp 57)), 3, none⟩]) (.seq (.ops [⟨some 58, (Op.move (Operand.tmp 6)), 39, none⟩,
    ⟨some 59, (Op.load 46 (Operand.tmp 9)), 46, none⟩,
    ⟨some 60, (Op.buildSlice 39 1 #[(0, (Operand.tmp 59))]), 39, none⟩,
    ⟨some 61, (Op.call ⟨(Callee.builtin Builtin.append), #[(Operand.tmp 58), (Operand.tmp 60)], #[39, 39]⟩), 39, none⟩,
    ⟨some 6, (Op.assign (Operand.tmp 61)), 39, none⟩]) (.ops [⟨some 7, (Op.assign (Operand.const (Value.bool true))), 4, none⟩]))) (.ops [⟨some 62, (Op.move (Operand.tmp 6)), 39, none⟩,
    ⟨some 63, (Op.move (Operand.tmp 0)), 39, none⟩,
    ⟨some 64, (Op.move (Operand.tmp 8)), 3, none⟩,
    ⟨some 65, (Op.indexAddr 39 (Operand.tmp 63) (Operand.tmp 64)), 0, none⟩,
    ⟨some 66, (Op.load 46 (Operand.tmp 65)), 46, none⟩,
    ⟨some 67, (Op.buildSlice 39 1 #[(0, (Operand.tmp 66))]), 39, none⟩,
    ⟨some 68, (Op.call ⟨(Callee.builtin Builtin.append), #[(Operand.tmp 62), (Operand.tmp 67)], #[39, 39]⟩), 39, none⟩,
    ⟨some 6, (Op.assign (Operand.tmp 68)), 39, none⟩]))))) (.ops [⟨some 23, (Op.move (Operand.tmp 8)), 3, none⟩,
    ⟨some 24, (Op.binOp BinOp.add 3 (Operand.tmp 23) (Operand.const (Value.int IntKind.i64 1)) 3), 3, none⟩,
    ⟨some 8, (Op.assign (Operand.tmp 24)), 3, none⟩])))
def c_gimmalref1_PutStore : SF := ⟨79, [(ResultVar.tmp 4), (ResultVar.tmp 5)],
  (.seq (.ops [⟨some 3, (Op.box 46 (Operand.tmp 1)), 0, none⟩,
    ⟨some 4, (Op.assign (Operand.const (Value.slice none 0 0))), 39, none⟩,
    ⟨some 5, (Op.assign (Operand.const (Value.int IntKind.i64 0))), 3, none⟩]) (.seq (.seq (.ops [⟨some 11, (Op.move (Operand.tmp 0)), 39, none⟩,
    ⟨some 12, (Op.call ⟨(Callee.value (Operand.func 56)), #[(Operand.tmp 11)], #[39]⟩), 4, none⟩,
    ⟨some 13, (Op.unOp UnOp.not 4 (Operand.tmp 12)), 4, none⟩,
    ⟨some 14, (Op.move (Operand.tmp 13)), 4, none⟩,
    ⟨some 15, (Op.load 46 (Operand.tmp 3)), 46, some (14, false)⟩,
    ⟨some 16, (Op.call ⟨(Callee.value (Operand.func 106)), #[(Operand.tmp 15)], #[46]⟩), 4, some (14, false)⟩,
    ⟨some 17, (Op.unOp UnOp.not 4 (Operand.tmp 16)), 4, some (14, false)⟩,
    ⟨some 18, (Op.pick (Operand.tmp 14) (Operand.const (Value.bool true)) (Operand.tmp 17)), 4, none⟩]) (.cond (Operand.tmp 18) (.seq (.ops [⟨some 4, (Op.assign (Operand.const (Value.slice none 0 0))), 39, none⟩,
    ⟨some 5, (Op.assign (Operand.const (Value.int IntKind.i64 500))), 3, none⟩]) .ret) .skip)) (.seq (.ops [⟨some 6, (Op.assign (Operand.const (Value.slice none 0 0))), 39, none⟩]) (.seq (.ops [⟨some 7, (Op.assign (Operand.const (Value.bool false))), 4, none⟩]) (.seq (.seq (.ops [⟨some 8, (Op.assign (Operand.const (Value.int IntKind.i64 0))), 3, none⟩]) (.block 0 (.loop c_gimmalref1_PutStore_L0))) (.seq (.seq (.ops [⟨some 69, (Op.move (Operand.tmp 7)), 4, none⟩,
    ⟨some 70, (Op.unOp UnOp.not 4 (Operand.tmp 69)), 4, none⟩]) (.cond (Operand.tmp 70) (.ops [⟨some 71, (Op.move (Operand.tmp 6)), 39, none⟩,
    ⟨some 72, (Op.load 46 (Operand.tmp 3)), 46, none⟩,
    ⟨some 73, (Op.buildSlice 39 1 #[(0, (Operand.tmp 72))]), 39, none⟩,
    ⟨some 74, (Op.call ⟨(Callee.builtin Builtin.append), #[(Operand.tmp 71), (Operand.tmp 73)], #[39, 39]⟩), 39, none⟩,
    ⟨some 6, (Op.assign (Operand.tmp 74)), 39, none⟩]) .skip)) (.seq (.seq (.ops [⟨some 75, (Op.move (Operand.tmp 6)), 39, none⟩,
    ⟨some 76, (Op.call ⟨(Callee.builtin Builtin.len), #[(Operand.tmp 75)], #[39]⟩), 3, none⟩,
    ⟨some 77, (Op.binOp BinOp.gtr 3 (Operand.tmp 76) (Operand.const (Value.int IntKind.i64 16)) 3), 4, none⟩]) (.cond (Operand.tmp 77) (.seq (.ops [⟨some 4, (Op.assign (Operand.const (Value.slice none 0 0))), 39, none⟩,
    ⟨some 5, (Op.assign (Operand.const (Value.int IntKind.i64 501))), 3, none⟩]) .ret) .skip)) (.seq (.ops [⟨some 78, (Op.move (Operand.tmp 6)), 39, none⟩,
    ⟨some 4, (Op.assign (Operand.tmp 78)), 39, none⟩,
    ⟨some 5, (Op.assign (Operand.const (Value.int IntKind.i64 0))), 3, none⟩]) .ret))))))))⟩
theorem is_gimmalref1_PutStore (c : Cfg) (h : c.lendT = []) : isF PP c 174 c_gimmalref1_PutStore := isF_of (fn := Proofs.Tryz.f174) (by kernel_rfl) (by kernel_rfl) rfl h (by kernel_rfl) rfl rfl (by kernel_rfl)
def c_gimmalref16_noted : SF := ⟨43, [(ResultVar.cell 8 42)],
  (.seq (.ops [⟨some 4, (Op.box 42 (Operand.tmp 0)), 0, none⟩,
    ⟨some 6, (Op.box 46 (Operand.tmp 2)), 0, none⟩,
    ⟨some 8, (Op.alloc 42), 0, none⟩]) (.seq (.ops [⟨some 12, (Op.load 42 (Operand.tmp 4)), 42, none⟩,
    ⟨some 13, (Op.call ⟨(Callee.value (Operand.func 94)), #[(Operand.tmp 12)], #[42]⟩), 42, none⟩,
    ⟨some 9, (Op.alloc 42), 0, none⟩,
    ⟨none, (Op.store 42 (Operand.tmp 9) (Operand.tmp 13)), 0, none⟩]) (.seq (.ops [⟨some 14, (Op.move (Operand.tmp 1)), 3, none⟩,
    ⟨some 15, (Op.move (Operand.tmp 3)), 4, none⟩,
    ⟨some 16, (Op.move (Operand.tmp 15)), 4, none⟩,
    ⟨some 17, (Op.fieldAddr 46 (Operand.tmp 6) 3), 0, some (16, true)⟩,
    ⟨some 18, (Op.load 4 (Operand.tmp 17)), 4, some (16, true)⟩,
    ⟨some 19, (Op.unOp UnOp.not 4 (Operand.tmp 18)), 4, some (16, true)⟩,
    ⟨some 20, (Op.pick (Operand.tmp 16) (Operand.tmp 19) (Operand.const (Value.bool false))), 4, none⟩,
    ⟨some 21, (Op.build 61 #[(0, (Operand.tmp 14)), (1, (Operand.tmp 20))]), 61, none⟩,
    ⟨some 10, (Op.alloc 61), 0, none⟩,
    ⟨none, (Op.store 61 (Operand.tmp 10) (Operand.tmp 21)), 0, none⟩]) (.seq (.seq (.ops [⟨some 22, (Op.fieldAddr 61 (Operand.tmp 10) 1), 0, none⟩,
    ⟨some 23, (Op.load 4 (Operand.tmp 22)), 4, none⟩]) (.cond (Operand.tmp 23) (.ops [⟨some 24, (Op.fieldAddr 46 (Operand.tmp 6) 2), 0, none⟩,
    ⟨some 25, (Op.load 3 (Operand.tmp 24)), 3, none⟩,
    ⟨some 26, (Op.fieldAddr 61 (Operand.tmp 10) 2), 0, none⟩,
    ⟨none, (Op.store 3 (Operand.tmp 26) (Operand.tmp 25)), 0, none⟩]) .skip)) (.seq (.ops [⟨some 27, (Op.buildSlice 40 0 #[]), 40, none⟩,
    ⟨some 28, (Op.fieldAddr 42 (Operand.tmp 4) 3), 0, none⟩,
    ⟨some 29, (Op.load 40 (Operand.tmp 28)), 40, none⟩,
    ⟨some 30, (Op.call ⟨(Callee.builtin Builtin.append), #[(Operand.tmp 27), (Operand.tmp 29)], #[40, 40]⟩), 40, none⟩,
    ⟨some 11, (Op.assign (Operand.tmp 30)), 40, none⟩]) (.seq (.ops [⟨some 31, (Op.move (Operand.tmp 11)), 40, none⟩,
    ⟨some 32, (Op.load 61 (Operand.tmp 10)), 61, none⟩,
    ⟨some 33, (Op.buildSlice 40 1 #[(0, (Operand.tmp 32))]), 40, none⟩,
    ⟨some 34, (Op.call ⟨(Callee.builtin Builtin.append), #[(Operand.tmp 31), (Operand.tmp 33)], #[40, 40]⟩), 40, none⟩,
    ⟨some 11, (Op.assign (Operand.tmp 34)), 40, none⟩]) (.seq (.seq (.ops [⟨some 35, (Op.move (Operand.tmp 11)), 40, none⟩,
    ⟨some 36, (Op.call ⟨(Callee.builtin Builtin.len), #[(Operand.tmp 35)], #[40]⟩), 3, none⟩,
    ⟨some 37, (Op.binOp BinOp.gtr 3 (Operand.tmp 36) (Operand.const (Value.int IntKind.i64 64)) 3), 4, none⟩]) (.cond (Operand.tmp 37) (.ops [⟨some 38, (Op.move (Operand.tmp 11)), 40, none⟩,
    ⟨some 39, (Op.slice 40 (Operand.tmp 38) (some (Operand.const (Value.int IntKind.i64 1))) none none), 40, none⟩,
    ⟨some 11, (Op.assign (Operand.tmp 39)), 40, none⟩]) .skip)) (.seq (.ops [⟨some 40, (Op.move (Operand.tmp 11)), 40, none⟩,
    ⟨some 41, (Op.fieldAddr 42 (Operand.tmp 9) 3), 0, none⟩,
    ⟨none, (Op.store 40 (Operand.tmp 41) (Operand.tmp 40)), 0, none⟩]) (.seq (.ops [⟨some 42, (Op.load 42 (Operand.tmp 9)), 42, none⟩,
    ⟨none, (Op.store 42 (Operand.tmp 8) (Operand.tmp 42)), 0, none⟩]) .ret)))))))))⟩
theorem is_gimmalref16_noted (c : Cfg) (h : c.lendT = []) : isF PP c 175 c_gimmalref16_noted := isF_of (fn := Proofs.Tryz.f175) (by kernel_rfl) (by kernel_rfl) rfl h (by kernel_rfl) rfl rfl (by kernel_rfl)
def c_gimmallaw0_SamePeers_L0 : SC := (.seq (.seq (.ops [⟨some 11, (Op.move (Operand.tmp 5)), 3, none⟩,
    ⟨some 12, (Op.move (Operand.tmp 0)), 35, none⟩,
    ⟨some 13, (Op.call ⟨(Callee.builtin Builtin.len), #[(Operand.tmp 12)], #[35]⟩), 3, none⟩,
    ⟨some 14, (Op.binOp BinOp.lss 3 (Operand.tmp 11) (Operand.tmp 13) 3), 4, none⟩]) (.cond (Operand.tmp 14) .skip (.exit 0))) (.seq (.block 1 (.seq (.ops [⟨some 17, (Op.move (Operand.tmp 0)), 35, none⟩,
    ⟨some 18, (Op.move (Operand.tmp 5)), 3, none⟩,
    ⟨some 21, (Op.move (Operand.tmp 1)), 35, none⟩,
    ⟨some 22, (Op.move (Operand.tmp 5)), 3, none⟩,
    ⟨some 19, (Op.indexAddr 35 (Operand.tmp 17) (Operand.tmp 18)), 0, none⟩,
    ⟨some 20, (Op.load 204 (Operand.tmp 19)), 204, none⟩,
    ⟨some 23, (Op.indexAddr 35 (Operand.tmp 21) (Operand.tmp 22)), 0, none⟩,
    ⟨some 24, (Op.load 204 (Operand.tmp 23)), 204, none⟩,
    ⟨some 25, (Op.binOp BinOp.neq 204 (Operand.tmp 20) (Operand.tmp 24) 204), 4, none⟩]) (.cond (Operand.tmp 25) (.seq (.ops [⟨some 4, (Op.assign (Operand.const (Value.bool false))), 4, none⟩]) .ret) .skip))) (.ops [⟨some 15, (Op.move (Operand.tmp 5)), 3, none⟩,
    ⟨some 16, (Op.binOp BinOp.add 3 (Operand.tmp 15) (Operand.const (Value.int IntKind.i64 1)) 3), 3, none⟩,
    ⟨some 5, (Op.assign (Operand.tmp 16)), 3, none⟩])))
def c_gimmallaw0_SamePeers : SF := ⟨26, [(ResultVar.tmp 4)],
  (.seq (.ops [⟨some 4, (Op.assign (Operand.const (Value.bool false))), 4, none⟩]) (.seq (.seq (.ops [⟨some 6, (Op.move (Operand.tmp 0)), 35, none⟩,
    ⟨some 7, (Op.call ⟨(Callee.builtin Builtin.len), #[(Operand.tmp 6)], #[35]⟩), 3, none⟩,
    ⟨some 8, (Op.move (Operand.tmp 1)), 35, none⟩,
    ⟨some 9, (Op.call ⟨(Callee.builtin Builtin.len), #[(Operand.tmp 8)], #[35]⟩), 3, none⟩,
    ⟨some 10, (Op.binOp BinOp.neq 3 (Operand.tmp 7) (Operand.tmp 9) 3), 4, none⟩]) (.cond (Operand.tmp 10) (.seq (.ops [⟨some 4, (Op.assign (Operand.const (Value.bool false))), 4, none⟩]) .ret) .skip)) (.seq (.seq (.ops [⟨some 5, (Op.assign (Operand.const (Value.int IntKind.i64 0))), 3, none⟩]) (.block 0 (.loop c_gimmallaw0_SamePeers_L0))) (.seq (.ops [⟨some 4, (Op.assign (Operand.const (Value.bool true))), 4, none⟩]) .ret))))⟩
theorem is_gimmallaw0_SamePeers (c : Cfg) (h : c.lendT = []) : isF PP c 176 c_gimmallaw0_SamePeers := isF_of (fn := Proofs.Tryz.f176) (by kernel_rfl) (by kernel_rfl) rfl h (by kernel_rfl) rfl rfl (by kernel_rfl)
def c_gimmallaw0_SpoilPeers_L0 : SC := (.seq (.seq (.ops [⟨some 3, (Op.move (Operand.tmp 2)), 3, none⟩,
    ⟨some 4, (Op.move (Operand.tmp 0)), 35, none⟩,
    ⟨some 5, (Op.call ⟨(Callee.builtin Builtin.len), #[(Operand.tmp 4)], #[35]⟩), 3, none⟩,
    ⟨some 6, (Op.binOp BinOp.lss 3 (Operand.tmp 3) (Operand.tmp 5) 3), 4, none⟩]) (.cond (Operand.tmp 6) .skip (.exit 0))) (.seq (.block 1 (.ops [⟨some 9, (Op.move (Operand.tmp 0)), 35, none⟩,
    ⟨some 10, (Op.move (Operand.tmp 2)), 3, none⟩,
    ⟨some 11, (Op.move (Operand.tmp 0)), 35, none⟩,
    ⟨some 12, (Op.move (Operand.tmp 2)), 3, none⟩,
    ⟨some 13, (Op.indexAddr 35 (Operand.tmp 11) (Operand.tmp 12)), 0, none⟩,
    ⟨some 14, (Op.fieldAddr 204 (Operand.tmp 13) 1), 0, none⟩,
    ⟨some 15, (Op.load 3 (Operand.tmp 14)), 3, none⟩,
    ⟨some 16, (Op.binOp BinOp.xor 3 (Operand.tmp 15) (Operand.const (Value.int IntKind.i64 90)) 3), 3, none⟩,
    ⟨some 17, (Op.indexAddr 35 (Operand.tmp 9) (Operand.tmp 10)), 0, none⟩,
    ⟨some 18, (Op.fieldAddr 204 (Operand.tmp 17) 1), 0, none⟩,
    ⟨none, (Op.store 3 (Operand.tmp 18) (Operand.tmp 16)), 0, none⟩])) (.ops [⟨some 7, (Op.move (Operand.tmp 2)), 3, none⟩,
    ⟨some 8, (Op.binOp BinOp.add 3 (Operand.tmp 7) (Operand.const (Value.int IntKind.i64 1)) 3), 3, none⟩,
    ⟨some 2, (Op.assign (Operand.tmp 8)), 3, none⟩])))
def c_gimmallaw0_SpoilPeers : SF := ⟨19, [],
  (.seq (.ops [⟨some 2, (Op.assign (Operand.const (Value.int IntKind.i64 0))), 3, none⟩]) (.block 0 (.loop c_gimmallaw0_SpoilPeers_L0)))⟩
theorem is_gimmallaw0_SpoilPeers (c : Cfg) (h : c.lendT = []) : isF PP c 177 c_gimmallaw0_SpoilPeers := isF_of (fn := Proofs.Tryz.f177) (by kernel_rfl) (by kernel_rfl) rfl h (by kernel_rfl) rfl rfl (by kernel_rfl)
def c_gimmallaw22_it : SF := ⟨11, [(ResultVar.cell 4 46)],
  (.seq (.ops [⟨some 4, (Op.alloc 46), 0, none⟩]) (.seq (.ops [⟨some 5, (Op.move (Operand.tmp 0)), 3, none⟩,
    ⟨some 6, (Op.move (Operand.tmp 1)), 3, none⟩,
    ⟨some 7, (Op.build 44 #[(0, (Operand.tmp 6)), (1, (Operand.const (Value.int IntKind.i64 1)))]), 44, none⟩,
    ⟨some 8, (Op.move (Operand.tmp 1)), 3, none⟩,
    ⟨some 9, (Op.binOp BinOp.and 3 (Operand.tmp 8) (Operand.const (Value.int IntKind.i64 255)) 3), 3, none⟩,
    ⟨some 10, (Op.build 46 #[(0, (Operand.tmp 5)), (1, (Operand.tmp 7)), (2, (Operand.tmp 9))]), 46, none⟩,
    ⟨none, (Op.store 46 (Operand.tmp 4) (Operand.tmp 10)), 0, none⟩]) .ret))⟩
theorem is_gimmallaw22_it (c : Cfg) (h : c.lendT = []) : isF PP c 178 c_gimmallaw22_it := isF_of (fn := Proofs.Tryz.f178) (by kernel_rfl) (by kernel_rfl) rfl h (by kernel_rfl) rfl rfl (by kernel_rfl)
def c_gimmalref1_byteMay : SF := ⟨9, [(ResultVar.tmp 2)],
  (.seq (.ops [⟨some 2, (Op.assign (Operand.const (Value.bool false))), 4, none⟩]) (.seq (.ops [⟨some 3, (Op.move (Operand.tmp 0)), 3, none⟩,
    ⟨some 4, (Op.binOp BinOp.geq 3 (Operand.tmp 3) (Operand.const (Value.int IntKind.i64 0)) 3), 4, none⟩,
    ⟨some 5, (Op.move (Operand.tmp 4)), 4, none⟩,
    ⟨some 6, (Op.move (Operand.tmp 0)), 3, some (5, true)⟩,
    ⟨some 7, (Op.binOp BinOp.leq 3 (Operand.tmp 6) (Operand.const (Value.int IntKind.i64 255)) 3), 4, some (5, true)⟩,
    ⟨some 8, (Op.pick (Operand.tmp 5) (Operand.tmp 7) (Operand.const (Value.bool false))), 4, none⟩,
    ⟨some 2, (Op.assign (Operand.tmp 8)), 4, none⟩]) .ret))⟩
theorem is_gimmalref1_byteMay (c : Cfg) (h : c.lendT = []) : isF PP c 179 c_gimmalref1_byteMay := isF_of (fn := Proofs.Tryz.f179) (by kernel_rfl) (by kernel_rfl) rfl h (by kernel_rfl) rfl rfl (by kernel_rfl)
def c_gimmalref1_VersionMay : SF := ⟨16, [(ResultVar.tmp 2)],
  (.seq (.ops [⟨some 1, (Op.box 44 (Operand.tmp 0)), 0, none⟩,
    ⟨some 2, (Op.assign (Operand.const (Value.bool false))), 4, none⟩]) (.seq (.ops [⟨some 3, (Op.fieldAddr 44 (Operand.tmp 1) 0), 0, none⟩,
    ⟨some 4, (Op.load 3 (Operand.tmp 3)), 3, none⟩,
    ⟨some 5, (Op.binOp BinOp.geq 3 (Operand.tmp 4) (Operand.const (Value.int IntKind.i64 1)) 3), 4, none⟩,
    ⟨some 6, (Op.move (Operand.tmp 5)), 4, none⟩,
    ⟨some 7, (Op.fieldAddr 44 (Operand.tmp 1) 0), 0, some (6, true)⟩,
    ⟨some 8, (Op.load 3 (Operand.tmp 7)), 3, some (6, true)⟩,
    ⟨some 9, (Op.binOp BinOp.leq 3 (Operand.tmp 8) (Operand.const (Value.int IntKind.i64 65535)) 3), 4, some (6, true)⟩,
    ⟨some 10, (Op.pick (Operand.tmp 6) (Operand.tmp 9) (Operand.const (Value.bool false))), 4, none⟩,
    ⟨some 11, (Op.move (Operand.tmp 10)), 4, none⟩,
    ⟨some 12, (Op.fieldAddr 44 (Operand.tmp 1) 1), 0, some (11, true)⟩,
    ⟨some 13, (Op.load 3 (Operand.tmp 12)), 3, some (11, true)⟩,
    ⟨some 14, (Op.call ⟨(Callee.value (Operand.func 53)), #[(Operand.tmp 13)], #[3]⟩), 4, some (11, true)⟩,
    ⟨some 15, (Op.pick (Operand.tmp 11) (Operand.tmp 14) (Operand.const (Value.bool false))), 4, none⟩,
    ⟨some 2, (Op.assign (Operand.tmp 15)), 4, none⟩]) .ret))⟩
theorem is_gimmalref1_VersionMay (c : Cfg) (h : c.lendT = []) : isF PP c 180 c_gimmalref1_VersionMay := isF_of (fn := Proofs.Tryz.f180) (by kernel_rfl) (by kernel_rfl) rfl h (by kernel_rfl) rfl rfl (by kernel_rfl)
def c_peers_May_L0 : SC := (.seq (.ops [⟨some 19, (Op.binOp BinOp.lss 3 (Operand.tmp 18) (Operand.tmp 17) 3), 0, none⟩]) (.seq (.cond (Operand.tmp 19) .skip (.exit 0)) (.seq (.block 1 (.seq (.ops [⟨some 20, (Op.indexAddr 35 (Operand.tmp 16) (Operand.tmp 18)), 0, none⟩,
    ⟨some 21, (Op.load 204 (Operand.tmp 20)), 204, none⟩,
    ⟨some 7, (Op.alloc 204), 0, none⟩,
    ⟨none, (Op.store 204 (Operand.tmp 7) (Operand.tmp 21)), 0, none⟩]) (.seq (.seq (.ops [⟨some 22, (Op.fieldAddr 204 (Operand.tmp 7) 0), 0, none⟩,
    ⟨some 23, (Op.load 3 (Operand.tmp 22)), 3, none⟩,
    ⟨some 24, (Op.call ⟨(Callee.value (Operand.func 118)), #[(Operand.tmp 23)], #[3]⟩), 4, none⟩,
    ⟨some 25, (Op.unOp UnOp.not 4 (Operand.tmp 24)), 4, none⟩,
    ⟨some 26, (Op.move (Operand.tmp 25)), 4, none⟩,
    ⟨some 27, (Op.fieldAddr 204 (Operand.tmp 7) 1), 0, some (26, false)⟩,
    ⟨some 28, (Op.load 3 (Operand.tmp 27)), 3, some (26, false)⟩,
    ⟨some 29, (Op.binOp BinOp.lss 3 (Operand.tmp 28) (Operand.const (Value.int IntKind.i64 0)) 3), 4, some (26, false)⟩,
    ⟨some 30, (Op.pick (Operand.tmp 26) (Operand.const (Value.bool true)) (Operand.tmp 29)), 4, none⟩,
    ⟨some 31, (Op.move (Operand.tmp 30)), 4, none⟩,
    ⟨some 32, (Op.fieldAddr 204 (Operand.tmp 7) 1), 0, some (31, false)⟩,
    ⟨some 33, (Op.load 3 (Operand.tmp 32)), 3, some (31, false)⟩,
    ⟨some 34, (Op.binOp BinOp.geq 3 (Operand.tmp 33) (Operand.const (Value.int IntKind.i64 3)) 3), 4, some (31, false)⟩,
    ⟨some 35, (Op.pick (Operand.tmp 31) (Operand.const (Value.bool true)) (Operand.tmp 34)), 4, none⟩,
    ⟨some 36, (Op.move (Operand.tmp 35)), 4, none⟩,
    ⟨some 37, (Op.move (Operand.tmp 0)), 3, some (36, false)⟩,
    ⟨some 38, (Op.fieldAddr 204 (Operand.tmp 7) 0), 0, some (36, false)⟩,
    ⟨some 39, (Op.load 3 (Operand.tmp 38)), 3, some (36, false)⟩,
    ⟨some 40, (Op.call ⟨(Callee.value (Operand.func 204)), #[(Operand.tmp 37), (Operand.tmp 39)], #[3, 3]⟩), 3, some (36, false)⟩,
    ⟨some 41, (Op.move (Operand.tmp 5)), 3, some (36, false)⟩,
    ⟨some 42, (Op.binOp BinOp.leq 3 (Operand.tmp 40) (Operand.tmp 41) 3), 4, some (36, false)⟩,
    ⟨some 43, (Op.pick (Operand.tmp 36) (Operand.const (Value.bool true)) (Operand.tmp 42)), 4, none⟩]) (.cond (Operand.tmp 43) (.seq (.ops [⟨some 4, (Op.assign (Operand.const (Value.bool false))), 4, none⟩]) .ret) .skip)) (.ops [⟨some 44, (Op.move (Operand.tmp 0)), 3, none⟩,
    ⟨some 45, (Op.fieldAddr 204 (Operand.tmp 7) 0), 0, none⟩,
    ⟨some 46, (Op.load 3 (Operand.tmp 45)), 3, none⟩,
    ⟨some 47, (Op.call ⟨(Callee.value (Operand.func 204)), #[(Operand.tmp 44), (Operand.tmp 46)], #[3, 3]⟩), 3, none⟩,
    ⟨some 5, (Op.assign (Operand.tmp 47)), 3, none⟩])))) (.ops [⟨some 48, (Op.binOp BinOp.add 3 (Operand.tmp 18) (Operand.const (Value.int IntKind.i64 1)) 3), 3, none⟩,
    ⟨some 18, (Op.move (Operand.tmp 48)), 3, none⟩]))))
def c_peers_May : SF := ⟨49, [(ResultVar.tmp 4)],
  (.seq (.ops [⟨some 4, (Op.assign (Operand.const (Value.bool false))), 4, none⟩]) (.seq (.seq (.ops [⟨some 8, (Op.move (Operand.tmp 0)), 3, none⟩,
    ⟨some 9, (Op.call ⟨(Callee.value (Operand.func 118)), #[(Operand.tmp 8)], #[3]⟩), 4, none⟩,
    ⟨some 10, (Op.unOp UnOp.not 4 (Operand.tmp 9)), 4, none⟩,
    ⟨some 11, (Op.move (Operand.tmp 10)), 4, none⟩,
    ⟨some 12, (Op.move (Operand.tmp 1)), 35, some (11, false)⟩,
    ⟨some 13, (Op.call ⟨(Callee.builtin Builtin.len), #[(Operand.tmp 12)], #[35]⟩), 3, some (11, false)⟩,
    ⟨some 14, (Op.binOp BinOp.gtr 3 (Operand.tmp 13) (Operand.const (Value.int IntKind.i64 16)) 3), 4, some (11, false)⟩,
    ⟨some 15, (Op.pick (Operand.tmp 11) (Operand.const (Value.bool true)) (Operand.tmp 14)), 4, none⟩]) (.cond (Operand.tmp 15) (.seq (.ops [⟨some 4, (Op.assign (Operand.const (Value.bool false))), 4, none⟩]) .ret) .skip)) (.seq (.ops [⟨some 5, (Op.assign (Operand.const (Value.int IntKind.i64 0))), 3, none⟩]) (.seq (.seq (.ops [⟨some 16, (Op.move (Operand.tmp 1)), 35, none⟩,
    ⟨some 17, (Op.call ⟨(Callee.builtin Builtin.len), #[(Operand.tmp 16)], #[35]⟩), 3, none⟩,
    ⟨some 18, (Op.move (Operand.const (Value.int IntKind.i64 0))), 3, none⟩]) (.block 0 (.loop c_peers_May_L0))) (.seq (.ops [⟨some 4, (Op.assign (Operand.const (Value.bool true))), 4, none⟩]) .ret)))))⟩
theorem is_peers_May (c : Cfg) (h : c.lendT = []) : isF PP c 181 c_peers_May := isF_of (fn := Proofs.Tryz.f181) (by kernel_rfl) (by kernel_rfl) rfl h (by kernel_rfl) rfl rfl (by kernel_rfl)
def c_view_May_1 : SF := ⟨12, [(ResultVar.tmp 3)],
  (.seq (.ops [⟨some 3, (Op.assign (Operand.const (Value.bool false))), 4, none⟩]) (.seq (.ops [⟨some 4, (Op.move (Operand.tmp 0)), 3, none⟩,
    ⟨some 5, (Op.fieldAddr 38 (Operand.tmp 1) 0), 0, none⟩,
    ⟨some 6, (Op.load 3 (Operand.tmp 5)), 3, none⟩,
    ⟨some 7, (Op.binOp BinOp.eql 3 (Operand.tmp 4) (Operand.tmp 6) 3), 4, none⟩,
    ⟨some 8, (Op.move (Operand.tmp 7)), 4, none⟩,
    ⟨some 9, (Op.move (Operand.tmp 0)), 3, some (8, false)⟩,
    ⟨some 10, (Op.call ⟨(Callee.value (Operand.func 121)), #[(Operand.tmp 1), (Operand.tmp 9)], #[157, 3]⟩), 4, some (8, false)⟩,
    ⟨some 11, (Op.pick (Operand.tmp 8) (Operand.const (Value.bool true)) (Operand.tmp 10)), 4, none⟩,
    ⟨some 3, (Op.assign (Operand.tmp 11)), 4, none⟩]) .ret))⟩
theorem is_view_May_1 (c : Cfg) (h : c.lendT = []) : isF PP c 182 c_view_May_1 := isF_of (fn := Proofs.Tryz.f182) (by kernel_rfl) (by kernel_rfl) rfl h (by kernel_rfl) rfl rfl (by kernel_rfl)
def c_slices_Clone_api_Peer_api_Peer : SF := ⟨8, [(ResultVar.tmp 2)],
  (.seq (.ops [⟨some 2, (Op.assign (Operand.const (Value.slice none 0 0))), 35, none⟩]) (.seq (.seq (.ops [⟨some 3, (Op.move (Operand.tmp 0)), 35, none⟩,
    ⟨some 4, (Op.binOp BinOp.eql 35 (Operand.tmp 3) (Operand.const (Value.slice none 0 0)) 35), 4, none⟩]) (.cond (Operand.tmp 4) (.seq (.ops [⟨some 2, (Op.assign (Operand.const (Value.slice none 0 0))), 35, none⟩]) .ret) .skip)) (.seq (.ops [⟨some 5, (Op.buildSlice 35 0 #[]), 35, none⟩,
    ⟨some 6, (Op.move (Operand.tmp 0)), 35, none⟩,
    ⟨some 7, (Op.call ⟨(Callee.builtin Builtin.append), #[(Operand.tmp 5), (Operand.tmp 6)], #[35, 35]⟩), 35, none⟩,
    ⟨some 2, (Op.assign (Operand.tmp 7)), 35, none⟩]) .ret)))⟩
theorem is_slices_Clone_api_Peer_api_Peer (c : Cfg) (h : c.lendT = []) : isF PP c 183 c_slices_Clone_api_Peer_api_Peer := isF_of (fn := Proofs.Tryz.f183) (by kernel_rfl) (by kernel_rfl) rfl h (by kernel_rfl) rfl rfl (by kernel_rfl)
def c_slices_Clone_int_int : SF := ⟨8, [(ResultVar.tmp 2)],
  (.seq (.ops [⟨some 2, (Op.assign (Operand.const (Value.slice none 0 0))), 36, none⟩]) (.seq (.seq (.ops [⟨some 3, (Op.move (Operand.tmp 0)), 36, none⟩,
    ⟨some 4, (Op.binOp BinOp.eql 36 (Operand.tmp 3) (Operand.const (Value.slice none 0 0)) 36), 4, none⟩]) (.cond (Operand.tmp 4) (.seq (.ops [⟨some 2, (Op.assign (Operand.const (Value.slice none 0 0))), 36, none⟩]) .ret) .skip)) (.seq (.ops [⟨some 5, (Op.buildSlice 36 0 #[]), 36, none⟩,
    ⟨some 6, (Op.move (Operand.tmp 0)), 36, none⟩,
    ⟨some 7, (Op.call ⟨(Callee.builtin Builtin.append), #[(Operand.tmp 5), (Operand.tmp 6)], #[36, 36]⟩), 36, none⟩,
    ⟨some 2, (Op.assign (Operand.tmp 7)), 36, none⟩]) .ret)))⟩
theorem is_slices_Clone_int_int (c : Cfg) (h : c.lendT = []) : isF PP c 184 c_slices_Clone_int_int := isF_of (fn := Proofs.Tryz.f184) (by kernel_rfl) (by kernel_rfl) rfl h (by kernel_rfl) rfl rfl (by kernel_rfl)
def c_slices_IndexFunc_api_Told_api_Told_L0 : SC := (.seq (.ops [⟨some 9, (Op.binOp BinOp.lss 3 (Operand.tmp 8) (Operand.tmp 7) 3), 0, none⟩]) (.seq (.cond (Operand.tmp 9) .skip (.exit 0)) (.seq (.block 1 (.seq (.ops [⟨some 10, (Op.move (Operand.tmp 8)), 3, none⟩,
    ⟨some 5, (Op.assign (Operand.tmp 10)), 3, none⟩]) (.seq (.ops [⟨some 11, (Op.move (Operand.tmp 1)), 165, none⟩,
    ⟨some 12, (Op.move (Operand.tmp 0)), 40, none⟩,
    ⟨some 13, (Op.move (Operand.tmp 5)), 3, none⟩,
    ⟨some 14, (Op.indexAddr 40 (Operand.tmp 12) (Operand.tmp 13)), 0, none⟩,
    ⟨some 15, (Op.load 61 (Operand.tmp 14)), 61, none⟩,
    ⟨some 16, (Op.call ⟨(Callee.value (Operand.tmp 11)), #[(Operand.tmp 15)], #[61]⟩), 4, none⟩]) (.cond (Operand.tmp 16) (.seq (.ops [⟨some 17, (Op.move (Operand.tmp 5)), 3, none⟩,
    ⟨some 4, (Op.assign (Operand.tmp 17)), 3, none⟩]) .ret) .skip)))) (.ops [⟨some 18, (Op.binOp BinOp.add 3 (Operand.tmp 8) (Operand.const (Value.int IntKind.i64 1)) 3), 3, none⟩,
    ⟨some 8, (Op.move (Operand.tmp 18)), 3, none⟩]))))
def c_slices_IndexFunc_api_Told_api_Told : SF := ⟨19, [(ResultVar.tmp 4)],
  (.seq (.ops [⟨some 4, (Op.assign (Operand.const (Value.int IntKind.i64 0))), 3, none⟩]) (.seq (.seq (.ops [⟨some 6, (Op.move (Operand.tmp 0)), 40, none⟩,
    ⟨some 7, (Op.call ⟨(Callee.builtin Builtin.len), #[(Operand.tmp 6)], #[40]⟩), 3, none⟩,
    ⟨some 8, (Op.move (Operand.const (Value.int IntKind.i64 0))), 3, none⟩]) (.block 0 (.loop c_slices_IndexFunc_api_Told_api_Told_L0))) (.seq (.ops [⟨some 4, (Op.assign (Operand.const (Value.int IntKind.i64 (-1)))), 3, none⟩]) .ret)))⟩
theorem is_slices_IndexFunc_api_Told_api_Told (c : Cfg) (h : c.lendT = []) : isF PP c 189 c_slices_IndexFunc_api_Told_api_Told := isF_of (fn := Proofs.Tryz.f189) (by kernel_rfl) (by kernel_rfl) rfl h (by kernel_rfl) rfl rfl (by kernel_rfl)
def c_hello_room : SF := ⟨15, [(ResultVar.tmp 2)],
  (.seq (.ops [⟨some 2, (Op.assign (Operand.const (Value.bool false))), 4, none⟩]) (.seq (.ops [⟨some 3, (Op.move (Operand.tmp 0)), 157, none⟩,
    ⟨some 8, (Op.move (Operand.tmp 0)), 157, none⟩,
    ⟨some 4, (Op.nilCheck (Operand.tmp 3)), 0, none⟩,
    ⟨some 5, (Op.fieldAddr 38 (Operand.tmp 4) 1), 0, none⟩,
    ⟨some 6, (Op.load 35 (Operand.tmp 5)), 35, none⟩,
    ⟨some 7, (Op.call ⟨(Callee.builtin Builtin.len), #[(Operand.tmp 6)], #[35]⟩), 3, none⟩,
    ⟨some 9, (Op.nilCheck (Operand.tmp 8)), 0, none⟩,
    ⟨some 10, (Op.fieldAddr 38 (Operand.tmp 9) 2), 0, none⟩,
    ⟨some 11, (Op.load 36 (Operand.tmp 10)), 36, none⟩,
    ⟨some 12, (Op.call ⟨(Callee.builtin Builtin.len), #[(Operand.tmp 11)], #[36]⟩), 3, none⟩,
    ⟨some 13, (Op.binOp BinOp.add 3 (Operand.tmp 7) (Operand.tmp 12) 3), 3, none⟩,
    ⟨some 14, (Op.binOp BinOp.lss 3 (Operand.tmp 13) (Operand.const (Value.int IntKind.i64 16)) 3), 4, none⟩,
    ⟨some 2, (Op.assign (Operand.tmp 14)), 4, none⟩]) .ret))⟩
theorem is_hello_room (c : Cfg) (h : c.lendT = []) : isF PP c 190 c_hello_room := isF_of (fn := Proofs.Tryz.f190) (by kernel_rfl) (by kernel_rfl) rfl h (by kernel_rfl) rfl rfl (by kernel_rfl)
def c_passive_Without : SF := ⟨20, [(ResultVar.tmp 4), (ResultVar.tmp 5)],
  (.seq (.ops [⟨some 3, (Op.box 3 (Operand.tmp 1)), 0, none⟩,
    ⟨some 4, (Op.assign (Operand.const (Value.slice none 0 0))), 36, none⟩,
    ⟨some 5, (Op.assign (Operand.const (Value.int IntKind.i64 0))), 31, none⟩]) (.seq (.seq (.ops [⟨some 7, (Op.move (Operand.tmp 0)), 36, none⟩,
    ⟨some 8, (Op.call ⟨(Callee.value (Operand.func 132)), #[(Operand.tmp 7)], #[36]⟩), 4, none⟩,
    ⟨some 9, (Op.unOp UnOp.not 4 (Operand.tmp 8)), 4, none⟩,
    ⟨some 10, (Op.move (Operand.tmp 9)), 4, none⟩,
    ⟨some 11, (Op.load 3 (Operand.tmp 3)), 3, some (10, false)⟩,
    ⟨some 12, (Op.call ⟨(Callee.value (Operand.func 118)), #[(Operand.tmp 11)], #[3]⟩), 4, some (10, false)⟩,
    ⟨some 13, (Op.unOp UnOp.not 4 (Operand.tmp 12)), 4, some (10, false)⟩,
    ⟨some 14, (Op.pick (Operand.tmp 10) (Operand.const (Value.bool true)) (Operand.tmp 13)), 4, none⟩]) (.cond (Operand.tmp 14) (.seq (.ops [⟨some 4, (Op.assign (Operand.const (Value.slice none 0 0))), 36, none⟩,
    ⟨some 5, (Op.assign (Operand.const (Value.int IntKind.i64 800))), 31, none⟩]) .ret) .skip)) (.seq (.ops [⟨some 15, (Op.makeFunc (Fn.func 224) #[] #[(Operand.tmp 3)]), 106, none⟩,
    ⟨some 6, (Op.assign (Operand.tmp 15)), 106, none⟩]) (.seq (.ops [⟨some 16, (Op.move (Operand.tmp 0)), 36, none⟩,
    ⟨some 17, (Op.call ⟨(Callee.value (Operand.func 184)), #[(Operand.tmp 16)], #[36]⟩), 36, none⟩,
    ⟨some 18, (Op.move (Operand.tmp 6)), 106, none⟩,
    ⟨some 19, (Op.call ⟨(Callee.value (Operand.func 225)), #[(Operand.tmp 17), (Operand.tmp 18)], #[36, 106]⟩), 36, none⟩,
    ⟨some 4, (Op.assign (Operand.tmp 19)), 36, none⟩,
    ⟨some 5, (Op.assign (Operand.const (Value.int IntKind.i64 0))), 31, none⟩]) .ret))))⟩
theorem is_passive_Without (c : Cfg) (h : c.lendT = [17]) : isF PP c 191 c_passive_Without := isF_of (fn := Proofs.Tryz.f191) (by kernel_rfl) (by kernel_rfl) rfl h (by kernel_rfl) rfl rfl (by kernel_rfl)
def c_peers_Heard : SF := ⟨51, [(ResultVar.tmp 6), (ResultVar.tmp 7)],
  (.seq (.ops [⟨some 6, (Op.assign (Operand.const (Value.slice none 0 0))), 35, none⟩,
    ⟨some 7, (Op.assign (Operand.const (Value.int IntKind.i64 0))), 31, none⟩]) (.seq (.seq (.ops [⟨some 11, (Op.move (Operand.tmp 0)), 3, none⟩,
    ⟨some 12, (Op.move (Operand.tmp 1)), 35, none⟩,
    ⟨some 13, (Op.call ⟨(Callee.value (Operand.func 181)), #[(Operand.tmp 11), (Operand.tmp 12)], #[3, 35]⟩), 4, none⟩,
    ⟨some 14, (Op.unOp UnOp.not 4 (Operand.tmp 13)), 4, none⟩,
    ⟨some 15, (Op.move (Operand.tmp 14)), 4, none⟩,
    ⟨some 16, (Op.move (Operand.tmp 2)), 3, some (15, false)⟩,
    ⟨some 17, (Op.call ⟨(Callee.value (Operand.func 118)), #[(Operand.tmp 16)], #[3]⟩), 4, some (15, false)⟩,
    ⟨some 18, (Op.unOp UnOp.not 4 (Operand.tmp 17)), 4, some (15, false)⟩,
    ⟨some 19, (Op.pick (Operand.tmp 15) (Operand.const (Value.bool true)) (Operand.tmp 18)), 4, none⟩,
    ⟨some 20, (Op.move (Operand.tmp 19)), 4, none⟩,
    ⟨some 21, (Op.move (Operand.tmp 2)), 3, some (20, false)⟩,
    ⟨some 22, (Op.move (Operand.tmp 0)), 3, some (20, false)⟩,
    ⟨some 23, (Op.binOp BinOp.eql 3 (Operand.tmp 21) (Operand.tmp 22) 3), 4, some (20, false)⟩,
    ⟨some 24, (Op.pick (Operand.tmp 20) (Operand.const (Value.bool true)) (Operand.tmp 23)), 4, none⟩]) (.cond (Operand.tmp 24) (.seq (.ops [⟨some 6, (Op.assign (Operand.const (Value.slice none 0 0))), 35, none⟩,
    ⟨some 7, (Op.assign (Operand.const (Value.int IntKind.i64 700))), 31, none⟩]) .ret) .skip)) (.seq (.ops [⟨some 25, (Op.move (Operand.tmp 1)), 35, none⟩,
    ⟨some 26, (Op.call ⟨(Callee.value (Operand.func 183)), #[(Operand.tmp 25)], #[35]⟩), 35, none⟩,
    ⟨some 8, (Op.assign (Operand.tmp 26)), 35, none⟩]) (.seq (.ops [⟨some 28, (Op.move (Operand.tmp 0)), 3, none⟩,
    ⟨some 29, (Op.move (Operand.tmp 8)), 35, none⟩,
    ⟨some 30, (Op.move (Operand.tmp 2)), 3, none⟩,
    ⟨some 31, (Op.call ⟨(Callee.value (Operand.func 193)), #[(Operand.tmp 28), (Operand.tmp 29), (Operand.tmp 30)], #[3, 35, 3]⟩), 129, none⟩,
    ⟨some 27, (Op.move (Operand.tmp 31)), 129, none⟩,
    ⟨some 32, (Op.extract (Operand.tmp 27) 0), 3, none⟩,
    ⟨some 33, (Op.extract (Operand.tmp 27) 1), 4, none⟩,
    ⟨some 9, (Op.assign (Operand.tmp 32)), 3, none⟩,
    ⟨some 10, (Op.assign (Operand.tmp 33)), 4, none⟩]) (.seq (.block 0 (.seq (.ops [⟨some 41, (Op.move (Operand.tmp 10)), 4, none⟩,
    ⟨some 40, (Op.assign (Operand.tmp 41)), 4, none⟩]) (.cond (Operand.tmp 40) (.ops [⟨some 42, (Op.move (Operand.tmp 8)), 35, none⟩,
    ⟨some 43, (Op.move (Operand.tmp 9)), 3, none⟩,
    ⟨some 44, (Op.indexAddr 35 (Operand.tmp 42) (Operand.tmp 43)), 0, none⟩,
    ⟨some 45, (Op.fieldAddr 204 (Operand.tmp 44) 1), 0, none⟩,
    ⟨none, (Op.store 3 (Operand.tmp 45) (Operand.const (Value.int IntKind.i64 0))), 0, none⟩]) (.seq (.ops [⟨some 47, (Op.move (Operand.tmp 8)), 35, none⟩,
    ⟨some 48, (Op.call ⟨(Callee.builtin Builtin.len), #[(Operand.tmp 47)], #[35]⟩), 3, none⟩,
    ⟨some 49, (Op.binOp BinOp.eql 3 (Operand.tmp 48) (Operand.const (Value.int IntKind.i64 16)) 3), 4, none⟩,
    ⟨some 46, (Op.assign (Operand.tmp 49)), 4, none⟩]) (.cond (Operand.tmp 46) (.seq (.ops [⟨some 6, (Op.assign (Operand.const (Value.slice none 0 0))), 35, none⟩,
    ⟨some 7, (Op.assign (Operand.const (Value.int IntKind.i64 701))), 31, none⟩]) .ret) (.ops [⟨some 34, (Op.move (Operand.tmp 8)), 35, none⟩,
    ⟨some 35, (Op.move (Operand.tmp 9)), 3, none⟩,
    ⟨some 36, (Op.move (Operand.tmp 2)), 3, none⟩,
    ⟨some 37, (Op.build 204 #[(0, (Operand.tmp 36))]), 204, none⟩,
    ⟨some 38, (Op.buildSlice 35 1 #[(0, (Operand.tmp 37))]), 35, none⟩,
    ⟨some 39, (Op.call ⟨(Callee.value (Operand.func 226)), #[(Operand.tmp 34), (Operand.tmp 35), (Operand.tmp 38)], #[35, 3, 35]⟩), 35, none⟩,
    ⟨some 8, (Op.assign (Operand.tmp 39)), 35, none⟩])))))) (.seq (.ops [⟨some 50, (Op.move (Operand.tmp 8)), 35, none⟩,
    ⟨some 6, (Op.assign (Operand.tmp 50)), 35, none⟩,
    ⟨some 7, (Op.assign (Operand.const (Value.int IntKind.i64 0))), 31, none⟩]) .ret))))))⟩
theorem is_peers_Heard (c : Cfg) (h : c.lendT = [34]) : isF PP c 192 c_peers_Heard := isF_of (fn := Proofs.Tryz.f192) (by kernel_rfl) (by kernel_rfl) rfl h (by kernel_rfl) rfl rfl (by kernel_rfl)
def c_peers_Find : SF := ⟨18, [(ResultVar.tmp 6), (ResultVar.tmp 7)],
  (.seq (.ops [⟨some 6, (Op.assign (Operand.const (Value.int IntKind.i64 0))), 3, none⟩,
    ⟨some 7, (Op.assign (Operand.const (Value.bool false))), 4, none⟩]) (.seq (.ops [⟨some 9, (Op.move (Operand.tmp 0)), 3, none⟩,
    ⟨some 10, (Op.build 258 #[(0, (Operand.tmp 9))]), 258, none⟩,
    ⟨some 11, (Op.makeFunc (Fn.func 227) #[(Operand.tmp 10)] #[]), 256, none⟩,
    ⟨some 8, (Op.assign (Operand.tmp 11)), 256, none⟩]) (.seq (.ops [⟨some 12, (Op.move (Operand.tmp 1)), 35, none⟩,
    ⟨some 13, (Op.move (Operand.tmp 2)), 3, none⟩,
    ⟨some 14, (Op.move (Operand.tmp 8)), 256, none⟩,
    ⟨some 15, (Op.call ⟨(Callee.value (Operand.func 228)), #[(Operand.tmp 12), (Operand.tmp 13), (Operand.tmp 14)], #[35, 3, 256]⟩), 129, none⟩,
    ⟨some 16, (Op.extract (Operand.tmp 15) 0), 3, none⟩,
    ⟨some 17, (Op.extract (Operand.tmp 15) 1), 4, none⟩,
    ⟨some 6, (Op.assign (Operand.tmp 16)), 3, none⟩,
    ⟨some 7, (Op.assign (Operand.tmp 17)), 4, none⟩]) .ret)))⟩
theorem is_peers_Find (c : Cfg) (h : c.lendT = []) : isF PP c 193 c_peers_Find := isF_of (fn := Proofs.Tryz.f193) (by kernel_rfl) (by kernel_rfl) rfl h (by kernel_rfl) rfl rfl (by kernel_rfl)
def c_slices_Contains_int_int : SF := ⟨9, [(ResultVar.tmp 4)],
  (.seq (.ops [⟨some 4, (Op.assign (Operand.const (Value.bool false))), 4, none⟩]) (.seq (.ops [⟨some 5, (Op.move (Operand.tmp 0)), 36, none⟩,
    ⟨some 6, (Op.move (Operand.tmp 1)), 3, none⟩,
    ⟨some 7, (Op.call ⟨(Callee.value (Operand.func 229)), #[(Operand.tmp 5), (Operand.tmp 6)], #[36, 3]⟩), 3, none⟩,
    ⟨some 8, (Op.binOp BinOp.geq 3 (Operand.tmp 7) (Operand.const (Value.int IntKind.i64 0)) 3), 4, none⟩,
    ⟨some 4, (Op.assign (Operand.tmp 8)), 4, none⟩]) .ret))⟩
theorem is_slices_Contains_int_int (c : Cfg) (h : c.lendT = []) : isF PP c 194 c_slices_Contains_int_int := isF_of (fn := Proofs.Tryz.f194) (by kernel_rfl) (by kernel_rfl) rfl h (by kernel_rfl) rfl rfl (by kernel_rfl)
def c_version_May : SF := ⟨16, [(ResultVar.tmp 2)],
  (.seq (.ops [⟨some 1, (Op.box 44 (Operand.tmp 0)), 0, none⟩,
    ⟨some 2, (Op.assign (Operand.const (Value.bool false))), 4, none⟩]) (.seq (.ops [⟨some 3, (Op.fieldAddr 44 (Operand.tmp 1) 0), 0, none⟩,
    ⟨some 4, (Op.load 3 (Operand.tmp 3)), 3, none⟩,
    ⟨some 5, (Op.binOp BinOp.geq 3 (Operand.tmp 4) (Operand.const (Value.int IntKind.i64 1)) 3), 4, none⟩,
    ⟨some 6, (Op.move (Operand.tmp 5)), 4, none⟩,
    ⟨some 7, (Op.fieldAddr 44 (Operand.tmp 1) 0), 0, some (6, true)⟩,
    ⟨some 8, (Op.load 3 (Operand.tmp 7)), 3, some (6, true)⟩,
    ⟨some 9, (Op.binOp BinOp.leq 3 (Operand.tmp 8) (Operand.const (Value.int IntKind.i64 65535)) 3), 4, some (6, true)⟩,
    ⟨some 10, (Op.pick (Operand.tmp 6) (Operand.tmp 9) (Operand.const (Value.bool false))), 4, none⟩,
    ⟨some 11, (Op.move (Operand.tmp 10)), 4, none⟩,
    ⟨some 12, (Op.fieldAddr 44 (Operand.tmp 1) 1), 0, some (11, true)⟩,
    ⟨some 13, (Op.load 3 (Operand.tmp 12)), 3, some (11, true)⟩,
    ⟨some 14, (Op.call ⟨(Callee.value (Operand.func 118)), #[(Operand.tmp 13)], #[3]⟩), 4, some (11, true)⟩,
    ⟨some 15, (Op.pick (Operand.tmp 11) (Operand.tmp 14) (Operand.const (Value.bool false))), 4, none⟩,
    ⟨some 2, (Op.assign (Operand.tmp 15)), 4, none⟩]) .ret))⟩
theorem is_version_May (c : Cfg) (h : c.lendT = []) : isF PP c 195 c_version_May := isF_of (fn := Proofs.Tryz.f195) (by kernel_rfl) (by kernel_rfl) rfl h (by kernel_rfl) rfl rfl (by kernel_rfl)
def c_item_better : SF := ⟨51, [(ResultVar.tmp 4)],
  (.seq (.ops [⟨some 4, (Op.assign (Operand.const (Value.bool false))), 4, none⟩]) (.seq (.seq (.ops [⟨some 7, (Op.move (Operand.tmp 0)), 231, none⟩,
    ⟨some 11, (Op.move (Operand.tmp 1)), 231, none⟩,
    ⟨some 8, (Op.nilCheck (Operand.tmp 7)), 0, none⟩,
    ⟨some 9, (Op.fieldAddr 46 (Operand.tmp 8) 1), 0, none⟩,
    ⟨some 10, (Op.load 44 (Operand.tmp 9)), 44, none⟩,
    ⟨some 12, (Op.nilCheck (Operand.tmp 11)), 0, none⟩,
    ⟨some 13, (Op.fieldAddr 46 (Operand.tmp 12) 1), 0, none⟩,
    ⟨some 14, (Op.load 44 (Operand.tmp 13)), 44, none⟩,
    ⟨some 15, (Op.binOp BinOp.neq 44 (Operand.tmp 10) (Operand.tmp 14) 44), 4, none⟩]) (.cond (Operand.tmp 15) (.seq (.ops [⟨some 17, (Op.move (Operand.tmp 0)), 231, none⟩,
    ⟨some 21, (Op.move (Operand.tmp 1)), 231, none⟩,
    ⟨some 18, (Op.nilCheck (Operand.tmp 17)), 0, none⟩,
    ⟨some 19, (Op.fieldAddr 46 (Operand.tmp 18) 1), 0, none⟩,
    ⟨some 20, (Op.load 44 (Operand.tmp 19)), 44, none⟩,
    ⟨some 22, (Op.nilCheck (Operand.tmp 21)), 0, none⟩,
    ⟨some 23, (Op.fieldAddr 46 (Operand.tmp 22) 1), 0, none⟩,
    ⟨some 24, (Op.load 44 (Operand.tmp 23)), 44, none⟩,
    ⟨some 25, (Op.call ⟨(Callee.value (Operand.func 230)), #[(Operand.tmp 20), (Operand.tmp 24)], #[44, 44]⟩), 32, none⟩,
    ⟨some 16, (Op.move (Operand.tmp 25)), 32, none⟩,
    ⟨some 26, (Op.extract (Operand.tmp 16) 0), 4, none⟩,
    ⟨some 27, (Op.extract (Operand.tmp 16) 1), 31, none⟩,
    ⟨some 5, (Op.assign (Operand.tmp 26)), 4, none⟩,
    ⟨some 6, (Op.assign (Operand.tmp 27)), 31, none⟩]) (.seq (.ops [⟨some 28, (Op.move (Operand.tmp 5)), 4, none⟩,
    ⟨some 4, (Op.assign (Operand.tmp 28)), 4, none⟩]) .ret)) .skip)) (.seq (.seq (.ops [⟨some 29, (Op.move (Operand.tmp 0)), 231, none⟩,
    ⟨some 33, (Op.move (Operand.tmp 1)), 231, none⟩,
    ⟨some 30, (Op.nilCheck (Operand.tmp 29)), 0, none⟩,
    ⟨some 31, (Op.fieldAddr 46 (Operand.tmp 30) 3), 0, none⟩,
    ⟨some 32, (Op.load 4 (Operand.tmp 31)), 4, none⟩,
    ⟨some 34, (Op.nilCheck (Operand.tmp 33)), 0, none⟩,
    ⟨some 35, (Op.fieldAddr 46 (Operand.tmp 34) 3), 0, none⟩,
    ⟨some 36, (Op.load 4 (Operand.tmp 35)), 4, none⟩,
    ⟨some 37, (Op.binOp BinOp.neq 4 (Operand.tmp 32) (Operand.tmp 36) 4), 4, none⟩]) (.cond (Operand.tmp 37) (.seq (.ops [⟨some 38, (Op.move (Operand.tmp 0)), 231, none⟩,
    ⟨some 39, (Op.nilCheck (Operand.tmp 38)), 0, none⟩,
    ⟨some 40, (Op.fieldAddr 46 (Operand.tmp 39) 3), 0, none⟩,
    ⟨some 41, (Op.load 4 (Operand.tmp 40)), 4, none⟩,
    ⟨some 4, (Op.assign (Operand.tmp 41)), 4, none⟩]) .ret) .skip)) (.seq (.ops [⟨some 42, (Op.move (Operand.tmp 0)), 231, none⟩,
    ⟨some 46, (Op.move (Operand.tmp 1)), 231, none⟩,
    ⟨some 43, (Op.nilCheck (Operand.tmp 42)), 0, none⟩,
    ⟨some 44, (Op.fieldAddr 46 (Operand.tmp 43) 2), 0, none⟩,
    ⟨some 45, (Op.load 3 (Operand.tmp 44)), 3, none⟩,
    ⟨some 47, (Op.nilCheck (Operand.tmp 46)), 0, none⟩,
    ⟨some 48, (Op.fieldAddr 46 (Operand.tmp 47) 2), 0, none⟩,
    ⟨some 49, (Op.load 3 (Operand.tmp 48)), 3, none⟩,
    ⟨some 50, (Op.binOp BinOp.gtr 3 (Operand.tmp 45) (Operand.tmp 49) 3), 4, none⟩,
    ⟨some 4, (Op.assign (Operand.tmp 50)), 4, none⟩]) .ret))))⟩
theorem is_item_better (c : Cfg) (h : c.lendT = []) : isF PP c 196 c_item_better := isF_of (fn := Proofs.Tryz.f196) (by kernel_rfl) (by kernel_rfl) rfl h (by kernel_rfl) rfl rfl (by kernel_rfl)
end Go.AM
/- AM: this seat's functions in short. -/
namespace Go.AM
set_option linter.unusedSimpArgs false
set_option linter.unusedVariables false
def c_ring_Far : SF := ⟨10, [(ResultVar.tmp 4)],
  (.seq (.ops [⟨some 4, (Op.assign (Operand.const (Value.int IntKind.i64 0))), 3, none⟩]) (.seq (.ops [⟨some 5, (Op.move (Operand.tmp 1)), 3, none⟩,
    ⟨some 6, (Op.move (Operand.tmp 0)), 3, none⟩,
    ⟨some 7, (Op.binOp BinOp.sub 3 (Operand.tmp 5) (Operand.tmp 6) 3), 3, none⟩,
    ⟨some 8, (Op.binOp BinOp.add 3 (Operand.tmp 7) (Operand.const (Value.int IntKind.i64 256)) 3), 3, none⟩,
    ⟨some 9, (Op.binOp BinOp.rem 3 (Operand.tmp 8) (Operand.const (Value.int IntKind.i64 256)) 3), 3, none⟩,
    ⟨some 4, (Op.assign (Operand.tmp 9)), 3, none⟩]) .ret))⟩
theorem is_ring_Far (c : Cfg) (h : c.lendT = []) : isF PP c 204 c_ring_Far := isF_of (fn := Proofs.Tryz.f204) (by kernel_rfl) (by kernel_rfl) rfl h (by kernel_rfl) rfl rfl (by kernel_rfl)
def c_gimmalref1_PeersMay_L0 : SC := (.seq (.seq (.ops [⟨some 6, (Op.move (Operand.tmp 5)), 3, none⟩,
    ⟨some 7, (Op.move (Operand.tmp 1)), 35, none⟩,
    ⟨some 8, (Op.call ⟨(Callee.builtin Builtin.len), #[(Operand.tmp 7)], #[35]⟩), 3, none⟩,
    ⟨some 9, (Op.binOp BinOp.lss 3 (Operand.tmp 6) (Operand.tmp 8) 3), 4, none⟩]) (.cond (Operand.tmp 9) .skip (.exit 0))) (.seq (.block 1 (.seq (.ops [⟨some 12, (Op.move (Operand.tmp 1)), 35, none⟩,
    ⟨some 13, (Op.move (Operand.tmp 5)), 3, none⟩,
    ⟨some 14, (Op.indexAddr 35 (Operand.tmp 12) (Operand.tmp 13)), 0, none⟩,
    ⟨some 15, (Op.fieldAddr 204 (Operand.tmp 14) 0), 0, none⟩,
    ⟨some 16, (Op.load 3 (Operand.tmp 15)), 3, none⟩,
    ⟨some 17, (Op.call ⟨(Callee.value (Operand.func 53)), #[(Operand.tmp 16)], #[3]⟩), 4, none⟩,
    ⟨some 18, (Op.unOp UnOp.not 4 (Operand.tmp 17)), 4, none⟩,
    ⟨some 19, (Op.move (Operand.tmp 18)), 4, none⟩,
    ⟨some 20, (Op.move (Operand.tmp 1)), 35, some (19, false)⟩,
    ⟨some 21, (Op.move (Operand.tmp 5)), 3, some (19, false)⟩,
    ⟨some 22, (Op.indexAddr 35 (Operand.tmp 20) (Operand.tmp 21)), 0, some (19, false)⟩,
    ⟨some 23, (Op.fieldAddr 204 (Operand.tmp 22) 0), 0, some (19, false)⟩,
    ⟨some 24, (Op.load 3 (Operand.tmp 23)), 3, some (19, false)⟩,
    ⟨some 25, (Op.move (Operand.tmp 0)), 3, some (19, false)⟩,
    ⟨some 26, (Op.binOp BinOp.eql 3 (Operand.tmp 24) (Operand.tmp 25) 3), 4, some (19, false)⟩,
    ⟨some 27, (Op.pick (Operand.tmp 19) (Operand.const (Value.bool true)) (Operand.tmp 26)), 4, none⟩,
    ⟨some 28, (Op.move (Operand.tmp 27)), 4, none⟩,
    ⟨some 29, (Op.move (Operand.tmp 1)), 35, some (28, false)⟩,
    ⟨some 30, (Op.move (Operand.tmp 5)), 3, some (28, false)⟩,
    ⟨some 31, (Op.indexAddr 35 (Operand.tmp 29) (Operand.tmp 30)), 0, some (28, false)⟩,
    ⟨some 32, (Op.fieldAddr 204 (Operand.tmp 31) 1), 0, some (28, false)⟩,
    ⟨some 33, (Op.load 3 (Operand.tmp 32)), 3, some (28, false)⟩,
    ⟨some 34, (Op.binOp BinOp.lss 3 (Operand.tmp 33) (Operand.const (Value.int IntKind.i64 0)) 3), 4, some (28, false)⟩,
    ⟨some 35, (Op.pick (Operand.tmp 28) (Operand.const (Value.bool true)) (Operand.tmp 34)), 4, none⟩,
    ⟨some 36, (Op.move (Operand.tmp 35)), 4, none⟩,
    ⟨some 37, (Op.move (Operand.tmp 1)), 35, some (36, false)⟩,
    ⟨some 38, (Op.move (Operand.tmp 5)), 3, some (36, false)⟩,
    ⟨some 39, (Op.indexAddr 35 (Operand.tmp 37) (Operand.tmp 38)), 0, some (36, false)⟩,
    ⟨some 40, (Op.fieldAddr 204 (Operand.tmp 39) 1), 0, some (36, false)⟩,
    ⟨some 41, (Op.load 3 (Operand.tmp 40)), 3, some (36, false)⟩,
    ⟨some 42, (Op.binOp BinOp.geq 3 (Operand.tmp 41) (Operand.const (Value.int IntKind.i64 3)) 3), 4, some (36, false)⟩,
    ⟨some 43, (Op.pick (Operand.tmp 36) (Operand.const (Value.bool true)) (Operand.tmp 42)), 4, none⟩,
    ⟨some 44, (Op.move (Operand.tmp 43)), 4, none⟩,
    ⟨some 45, (Op.move (Operand.tmp 5)), 3, some (44, false)⟩,
    ⟨some 46, (Op.binOp BinOp.gtr 3 (Operand.tmp 45) (Operand.const (Value.int IntKind.i64 0)) 3), 4, some (44, false)⟩,
    ⟨some 47, (Op.move (Operand.tmp 46)), 4, some (44, false)⟩,
    ⟨some 48, (Op.move (Operand.tmp 0)), 3, some (47, true)⟩,
    ⟨some 49, (Op.move (Operand.tmp 1)), 35, some (47, true)⟩,
    ⟨some 50, (Op.move (Operand.tmp 5)), 3, some (47, true)⟩,
    ⟨some 51, (Op.binOp BinOp.sub 3 (Operand.tmp 50) (Operand.const (Value.int IntKind.i64 1)) 3), 3, some (47, true)⟩,
    ⟨some 52, (Op.indexAddr 35 (Operand.tmp 49) (Operand.tmp 51)), 0, some (47, true)⟩,
    ⟨some 53, (Op.fieldAddr 204 (Operand.tmp 52) 0), 0, some (47, true)⟩,
    ⟨some 54, (Op.load 3 (Operand.tmp 53)), 3, some (47, true)⟩,
    ⟨some 55, (Op.call ⟨(Callee.value (Operand.func 55)), #[(Operand.tmp 48), (Operand.tmp 54)], #[3, 3]⟩), 3, some (47, true)⟩,
    ⟨some 56, (Op.move (Operand.tmp 0)), 3, some (47, true)⟩,
    ⟨some 57, (Op.move (Operand.tmp 1)), 35, some (47, true)⟩,
    ⟨some 58, (Op.move (Operand.tmp 5)), 3, some (47, true)⟩,
    ⟨some 59, (Op.indexAddr 35 (Operand.tmp 57) (Operand.tmp 58)), 0, some (47, true)⟩,
    ⟨some 60, (Op.fieldAddr 204 (Operand.tmp 59) 0), 0, some (47, true)⟩,
    ⟨some 61, (Op.load 3 (Operand.tmp 60)), 3, some (47, true)⟩,
    ⟨some 62, (Op.call ⟨(Callee.value (Operand.func 55)), #[(Operand.tmp 56), (Operand.tmp 61)], #[3, 3]⟩), 3, some (47, true)⟩,
    ⟨some 63, (Op.binOp BinOp.geq 3 (Operand.tmp 55) (Operand.tmp 62) 3), 4, some (47, true)⟩,
    ⟨some 64, (Op.pick (Operand.tmp 47) (Operand.tmp 63) (Operand.const (Value.bool false))), 4, some (44, false)⟩,
    ⟨some 65, (Op.pick (Operand.tmp 44) (Operand.const (Value.bool true)) (Operand.tmp 64)), 4, none⟩]) (.cond (Operand.tmp 65) (.seq (.ops [⟨some 4, (Op.assign (Operand.const (Value.bool false))), 4, none⟩]) .ret) .skip))) (.ops [⟨some 10, (Op.move (Operand.tmp 5)), 3, none⟩,
    ⟨some 11, (Op.binOp BinOp.add 3 (Operand.tmp 10) (Operand.const (Value.int IntKind.i64 1)) 3), 3, none⟩,
    ⟨some 5, (Op.assign (Operand.tmp 11)), 3, none⟩])))
def c_gimmalref1_PeersMay : SF := ⟨73, [(ResultVar.tmp 4)],
  (.seq (.ops [⟨some 4, (Op.assign (Operand.const (Value.bool false))), 4, none⟩]) (.seq (.seq (.ops [⟨some 5, (Op.assign (Operand.const (Value.int IntKind.i64 0))), 3, none⟩]) (.block 0 (.loop c_gimmalref1_PeersMay_L0))) (.seq (.ops [⟨some 66, (Op.move (Operand.tmp 0)), 3, none⟩,
    ⟨some 67, (Op.call ⟨(Callee.value (Operand.func 53)), #[(Operand.tmp 66)], #[3]⟩), 4, none⟩,
    ⟨some 68, (Op.move (Operand.tmp 67)), 4, none⟩,
    ⟨some 69, (Op.move (Operand.tmp 1)), 35, some (68, true)⟩,
    ⟨some 70, (Op.call ⟨(Callee.builtin Builtin.len), #[(Operand.tmp 69)], #[35]⟩), 3, some (68, true)⟩,
    ⟨some 71, (Op.binOp BinOp.leq 3 (Operand.tmp 70) (Operand.const (Value.int IntKind.i64 16)) 3), 4, some (68, true)⟩,
    ⟨some 72, (Op.pick (Operand.tmp 68) (Operand.tmp 71) (Operand.const (Value.bool false))), 4, none⟩,
    ⟨some 4, (Op.assign (Operand.tmp 72)), 4, none⟩]) .ret)))⟩
theorem is_gimmalref1_PeersMay (c : Cfg) (h : c.lendT = []) : isF PP c 212 c_gimmalref1_PeersMay := isF_of (fn := Proofs.Tryz.f212) (by kernel_rfl) (by kernel_rfl) rfl h (by kernel_rfl) rfl rfl (by kernel_rfl)
def c_gimmalref1_PassiveMay_L0 : SC := (.seq (.seq (.ops [⟨some 4, (Op.move (Operand.tmp 3)), 3, none⟩,
    ⟨some 5, (Op.move (Operand.tmp 0)), 36, none⟩,
    ⟨some 6, (Op.call ⟨(Callee.builtin Builtin.len), #[(Operand.tmp 5)], #[36]⟩), 3, none⟩,
    ⟨some 7, (Op.binOp BinOp.lss 3 (Operand.tmp 4) (Operand.tmp 6) 3), 4, none⟩]) (.cond (Operand.tmp 7) .skip (.exit 0))) (.seq (.block 1 (.seq (.ops [⟨some 10, (Op.move (Operand.tmp 0)), 36, none⟩,
    ⟨some 11, (Op.move (Operand.tmp 3)), 3, none⟩,
    ⟨some 15, (Op.move (Operand.tmp 0)), 36, none⟩,
    ⟨some 16, (Op.move (Operand.tmp 3)), 3, none⟩,
    ⟨some 12, (Op.binOp BinOp.sub 3 (Operand.tmp 11) (Operand.const (Value.int IntKind.i64 1)) 3), 3, none⟩,
    ⟨some 13, (Op.indexAddr 36 (Operand.tmp 10) (Operand.tmp 12)), 0, none⟩,
    ⟨some 14, (Op.load 3 (Operand.tmp 13)), 3, none⟩,
    ⟨some 17, (Op.indexAddr 36 (Operand.tmp 15) (Operand.tmp 16)), 0, none⟩,
    ⟨some 18, (Op.load 3 (Operand.tmp 17)), 3, none⟩,
    ⟨some 19, (Op.binOp BinOp.geq 3 (Operand.tmp 14) (Operand.tmp 18) 3), 4, none⟩]) (.cond (Operand.tmp 19) (.seq (.ops [⟨some 2, (Op.assign (Operand.const (Value.bool false))), 4, none⟩]) .ret) .skip))) (.ops [⟨some 8, (Op.move (Operand.tmp 3)), 3, none⟩,
    ⟨some 9, (Op.binOp BinOp.add 3 (Operand.tmp 8) (Operand.const (Value.int IntKind.i64 1)) 3), 3, none⟩,
    ⟨some 3, (Op.assign (Operand.tmp 9)), 3, none⟩])))
def c_gimmalref1_PassiveMay : SF := ⟨27, [(ResultVar.tmp 2)],
  (.seq (.ops [⟨some 2, (Op.assign (Operand.const (Value.bool false))), 4, none⟩]) (.seq (.seq (.ops [⟨some 3, (Op.assign (Operand.const (Value.int IntKind.i64 1))), 3, none⟩]) (.block 0 (.loop c_gimmalref1_PassiveMay_L0))) (.seq (.ops [⟨some 20, (Op.move (Operand.tmp 0)), 36, none⟩,
    ⟨some 21, (Op.call ⟨(Callee.value (Operand.func 54)), #[(Operand.tmp 20)], #[36]⟩), 4, none⟩,
    ⟨some 22, (Op.move (Operand.tmp 21)), 4, none⟩,
    ⟨some 23, (Op.move (Operand.tmp 0)), 36, some (22, true)⟩,
    ⟨some 24, (Op.call ⟨(Callee.builtin Builtin.len), #[(Operand.tmp 23)], #[36]⟩), 3, some (22, true)⟩,
    ⟨some 25, (Op.binOp BinOp.leq 3 (Operand.tmp 24) (Operand.const (Value.int IntKind.i64 16)) 3), 4, some (22, true)⟩,
    ⟨some 26, (Op.pick (Operand.tmp 22) (Operand.tmp 25) (Operand.const (Value.bool false))), 4, none⟩,
    ⟨some 2, (Op.assign (Operand.tmp 26)), 4, none⟩]) .ret)))⟩
theorem is_gimmalref1_PassiveMay (c : Cfg) (h : c.lendT = []) : isF PP c 213 c_gimmalref1_PassiveMay := isF_of (fn := Proofs.Tryz.f213) (by kernel_rfl) (by kernel_rfl) rfl h (by kernel_rfl) rfl rfl (by kernel_rfl)
def c_cmp_isNaN_int : SF := ⟨6, [(ResultVar.tmp 2)],
  (.seq (.ops [⟨some 2, (Op.assign (Operand.const (Value.bool false))), 4, none⟩]) (.seq (.ops [⟨some 3, (Op.move (Operand.tmp 0)), 3, none⟩,
    ⟨some 4, (Op.move (Operand.tmp 0)), 3, none⟩,
    ⟨some 5, (Op.binOp BinOp.neq 3 (Operand.tmp 3) (Operand.tmp 4) 3), 4, none⟩,
    ⟨some 2, (Op.assign (Operand.tmp 5)), 4, none⟩]) .ret))⟩
theorem is_cmp_isNaN_int (c : Cfg) (h : c.lendT = []) : isF PP c 216 c_cmp_isNaN_int := isF_of (fn := Proofs.Tryz.f216) (by kernel_rfl) (by kernel_rfl) rfl h (by kernel_rfl) rfl rfl (by kernel_rfl)
def c_gimmalref1_Heard_L0 : SC := (.seq (.seq (.ops [⟨some 25, (Op.move (Operand.tmp 10)), 3, none⟩,
    ⟨some 26, (Op.move (Operand.tmp 1)), 35, none⟩,
    ⟨some 27, (Op.call ⟨(Callee.builtin Builtin.len), #[(Operand.tmp 26)], #[35]⟩), 3, none⟩,
    ⟨some 28, (Op.binOp BinOp.lss 3 (Operand.tmp 25) (Operand.tmp 27) 3), 4, none⟩]) (.cond (Operand.tmp 28) .skip (.exit 0))) (.seq (.block 1 (.seq (.seq (.ops [⟨some 31, (Op.move (Operand.tmp 9)), 4, none⟩,
    ⟨some 32, (Op.unOp UnOp.not 4 (Operand.tmp 31)), 4, none⟩,
    ⟨some 33, (Op.move (Operand.tmp 32)), 4, none⟩,
    ⟨some 34, (Op.move (Operand.tmp 0)), 3, some (33, true)⟩,
    ⟨some 35, (Op.move (Operand.tmp 1)), 35, some (33, true)⟩,
    ⟨some 36, (Op.move (Operand.tmp 10)), 3, some (33, true)⟩,
    ⟨some 37, (Op.indexAddr 35 (Operand.tmp 35) (Operand.tmp 36)), 0, some (33, true)⟩,
    ⟨some 38, (Op.fieldAddr 204 (Operand.tmp 37) 0), 0, some (33, true)⟩,
    ⟨some 39, (Op.load 3 (Operand.tmp 38)), 3, some (33, true)⟩,
    ⟨some 40, (Op.call ⟨(Callee.value (Operand.func 55)), #[(Operand.tmp 34), (Operand.tmp 39)], #[3, 3]⟩), 3, some (33, true)⟩,
    ⟨some 41, (Op.move (Operand.tmp 0)), 3, some (33, true)⟩,
    ⟨some 42, (Op.move (Operand.tmp 2)), 3, some (33, true)⟩,
    ⟨some 43, (Op.call ⟨(Callee.value (Operand.func 55)), #[(Operand.tmp 41), (Operand.tmp 42)], #[3, 3]⟩), 3, some (33, true)⟩,
    ⟨some 44, (Op.binOp BinOp.geq 3 (Operand.tmp 40) (Operand.tmp 43) 3), 4, some (33, true)⟩,
    ⟨some 45, (Op.pick (Operand.tmp 33) (Operand.tmp 44) (Operand.const (Value.bool false))), 4, none⟩]) (.cond (Operand.tmp 45) (.seq (.ops [⟨some 46, (Op.move (Operand.tmp 8)), 35, none⟩,
    ⟨some 47, (Op.move (Operand.tmp 2)), 3, none⟩,
    ⟨some 48, (Op.build 204 #[(0, (Operand.tmp 47))]), 204, none⟩,
    ⟨some 49, (Op.buildSlice 35 1 #[(0, (Operand.tmp 48))]), 35, none⟩,
    ⟨some 50, (Op.call ⟨(Callee.builtin Builtin.append), #[(Operand.tmp 46), (Operand.tmp 49)], #[35, 35]⟩), 35, none⟩,
    ⟨some 8, (Op.assign (Operand.tmp 50)), 35, none⟩]) (.ops [⟨some 9, (Op.assign (Operand.const (Value.bool true))), 4, none⟩])) .skip)) (.seq (.ops [⟨some 51, (Op.move (Operand.tmp 1)), 35, none⟩,
    ⟨some 52, (Op.move (Operand.tmp 10)), 3, none⟩,
    ⟨some 53, (Op.indexAddr 35 (Operand.tmp 51) (Operand.tmp 52)), 0, none⟩,
    ⟨some 54, (Op.fieldAddr 204 (Operand.tmp 53) 0), 0, none⟩,
    ⟨some 55, (Op.load 3 (Operand.tmp 54)), 3, none⟩,
    ⟨some 56, (Op.move (Operand.tmp 2)), 3, none⟩,
    ⟨some 57, (Op.binOp BinOp.neq 3 (Operand.tmp 55) (Operand.tmp 56) 3), 4, none⟩]) (.cond (Operand.tmp 57) (.ops [⟨some 58, (Op.move (Operand.tmp 8)), 35, none⟩,
    ⟨some 59, (Op.move (Operand.tmp 1)), 35, none⟩,
    ⟨some 60, (Op.move (Operand.tmp 10)), 3, none⟩,
    ⟨some 61, (Op.indexAddr 35 (Operand.tmp 59) (Operand.tmp 60)), 0, none⟩,
    ⟨some 62, (Op.load 204 (Operand.tmp 61)), 204, none⟩,
    ⟨some 63, (Op.buildSlice 35 1 #[(0, (Operand.tmp 62))]), 35, none⟩,
    ⟨some 64, (Op.call ⟨(Callee.builtin Builtin.append), #[(Operand.tmp 58), (Operand.tmp 63)], #[35, 35]⟩), 35, none⟩,
    ⟨some 8, (Op.assign (Operand.tmp 64)), 35, none⟩]) .skip)))) (.ops [⟨some 29, (Op.move (Operand.tmp 10)), 3, none⟩,
    ⟨some 30, (Op.binOp BinOp.add 3 (Operand.tmp 29) (Operand.const (Value.int IntKind.i64 1)) 3), 3, none⟩,
    ⟨some 10, (Op.assign (Operand.tmp 30)), 3, none⟩])))
def c_gimmalref1_Heard : SF := ⟨76, [(ResultVar.tmp 6), (ResultVar.tmp 7)],
  (.seq (.ops [⟨some 6, (Op.assign (Operand.const (Value.slice none 0 0))), 35, none⟩,
    ⟨some 7, (Op.assign (Operand.const (Value.int IntKind.i64 0))), 3, none⟩]) (.seq (.seq (.ops [⟨some 11, (Op.move (Operand.tmp 0)), 3, none⟩,
    ⟨some 12, (Op.move (Operand.tmp 1)), 35, none⟩,
    ⟨some 13, (Op.call ⟨(Callee.value (Operand.func 212)), #[(Operand.tmp 11), (Operand.tmp 12)], #[3, 35]⟩), 4, none⟩,
    ⟨some 14, (Op.unOp UnOp.not 4 (Operand.tmp 13)), 4, none⟩,
    ⟨some 15, (Op.move (Operand.tmp 14)), 4, none⟩,
    ⟨some 16, (Op.move (Operand.tmp 2)), 3, some (15, false)⟩,
    ⟨some 17, (Op.call ⟨(Callee.value (Operand.func 53)), #[(Operand.tmp 16)], #[3]⟩), 4, some (15, false)⟩,
    ⟨some 18, (Op.unOp UnOp.not 4 (Operand.tmp 17)), 4, some (15, false)⟩,
    ⟨some 19, (Op.pick (Operand.tmp 15) (Operand.const (Value.bool true)) (Operand.tmp 18)), 4, none⟩,
    ⟨some 20, (Op.move (Operand.tmp 19)), 4, none⟩,
    ⟨some 21, (Op.move (Operand.tmp 2)), 3, some (20, false)⟩,
    ⟨some 22, (Op.move (Operand.tmp 0)), 3, some (20, false)⟩,
    ⟨some 23, (Op.binOp BinOp.eql 3 (Operand.tmp 21) (Operand.tmp 22) 3), 4, some (20, false)⟩,
    ⟨some 24, (Op.pick (Operand.tmp 20) (Operand.const (Value.bool true)) (Operand.tmp 23)), 4, none⟩]) (.cond (Operand.tmp 24) (.seq (.ops [⟨some 6, (Op.assign (Operand.const (Value.slice none 0 0))), 35, none⟩,
    ⟨some 7, (Op.assign (Operand.const (Value.int IntKind.i64 700))), 3, none⟩]) .ret) .skip)) (.seq (.ops [⟨some 8, (Op.assign (Operand.const (Value.slice none 0 0))), 35, none⟩]) (.seq (.ops [⟨some 9, (Op.assign (Operand.const (Value.bool false))), 4, none⟩]) (.seq (.seq (.ops [⟨some 10, (Op.assign (Operand.const (Value.int IntKind.i64 0))), 3, none⟩]) (.block 0 (.loop c_gimmalref1_Heard_L0))) (.seq (.seq (.ops [⟨some 65, (Op.move (Operand.tmp 9)), 4, none⟩,
    ⟨some 66, (Op.unOp UnOp.not 4 (Operand.tmp 65)), 4, none⟩]) (.cond (Operand.tmp 66) (.ops [⟨some 67, (Op.move (Operand.tmp 8)), 35, none⟩,
    ⟨some 68, (Op.move (Operand.tmp 2)), 3, none⟩,
    ⟨some 69, (Op.build 204 #[(0, (Operand.tmp 68))]), 204, none⟩,
    ⟨some 70, (Op.buildSlice 35 1 #[(0, (Operand.tmp 69))]), 35, none⟩,
    ⟨some 71, (Op.call ⟨(Callee.builtin Builtin.append), #[(Operand.tmp 67), (Operand.tmp 70)], #[35, 35]⟩), 35, none⟩,
    ⟨some 8, (Op.assign (Operand.tmp 71)), 35, none⟩]) .skip)) (.seq (.seq (.ops [⟨some 72, (Op.move (Operand.tmp 8)), 35, none⟩,
    ⟨some 73, (Op.call ⟨(Callee.builtin Builtin.len), #[(Operand.tmp 72)], #[35]⟩), 3, none⟩,
    ⟨some 74, (Op.binOp BinOp.gtr 3 (Operand.tmp 73) (Operand.const (Value.int IntKind.i64 16)) 3), 4, none⟩]) (.cond (Operand.tmp 74) (.seq (.ops [⟨some 6, (Op.assign (Operand.const (Value.slice none 0 0))), 35, none⟩,
    ⟨some 7, (Op.assign (Operand.const (Value.int IntKind.i64 701))), 3, none⟩]) .ret) .skip)) (.seq (.ops [⟨some 75, (Op.move (Operand.tmp 8)), 35, none⟩,
    ⟨some 6, (Op.assign (Operand.tmp 75)), 35, none⟩,
    ⟨some 7, (Op.assign (Operand.const (Value.int IntKind.i64 0))), 3, none⟩]) .ret))))))))⟩
theorem is_gimmalref1_Heard (c : Cfg) (h : c.lendT = []) : isF PP c 217 c_gimmalref1_Heard := isF_of (fn := Proofs.Tryz.f217) (by kernel_rfl) (by kernel_rfl) rfl h (by kernel_rfl) rfl rfl (by kernel_rfl)
def c_gimmalref1_WithoutPassive_L0 : SC := (.seq (.seq (.ops [⟨some 16, (Op.move (Operand.tmp 7)), 3, none⟩,
    ⟨some 17, (Op.move (Operand.tmp 0)), 36, none⟩,
    ⟨some 18, (Op.call ⟨(Callee.builtin Builtin.len), #[(Operand.tmp 17)], #[36]⟩), 3, none⟩,
    ⟨some 19, (Op.binOp BinOp.lss 3 (Operand.tmp 16) (Operand.tmp 18) 3), 4, none⟩]) (.cond (Operand.tmp 19) .skip (.exit 0))) (.seq (.block 1 (.seq (.ops [⟨some 22, (Op.move (Operand.tmp 0)), 36, none⟩,
    ⟨some 23, (Op.move (Operand.tmp 7)), 3, none⟩,
    ⟨some 24, (Op.indexAddr 36 (Operand.tmp 22) (Operand.tmp 23)), 0, none⟩,
    ⟨some 25, (Op.load 3 (Operand.tmp 24)), 3, none⟩,
    ⟨some 26, (Op.move (Operand.tmp 1)), 3, none⟩,
    ⟨some 27, (Op.binOp BinOp.neq 3 (Operand.tmp 25) (Operand.tmp 26) 3), 4, none⟩]) (.cond (Operand.tmp 27) (.ops [⟨some 28, (Op.move (Operand.tmp 6)), 36, none⟩,
    ⟨some 29, (Op.move (Operand.tmp 0)), 36, none⟩,
    ⟨some 30, (Op.move (Operand.tmp 7)), 3, none⟩,
    ⟨some 31, (Op.indexAddr 36 (Operand.tmp 29) (Operand.tmp 30)), 0, none⟩,
    ⟨some 32, (Op.load 3 (Operand.tmp 31)), 3, none⟩,
    ⟨some 33, (Op.buildSlice 36 1 #[(0, (Operand.tmp 32))]), 36, none⟩,
    ⟨some 34, (Op.call ⟨(Callee.builtin Builtin.append), #[(Operand.tmp 28), (Operand.tmp 33)], #[36, 36]⟩), 36, none⟩,
    ⟨some 6, (Op.assign (Operand.tmp 34)), 36, none⟩]) .skip))) (.ops [⟨some 20, (Op.move (Operand.tmp 7)), 3, none⟩,
    ⟨some 21, (Op.binOp BinOp.add 3 (Operand.tmp 20) (Operand.const (Value.int IntKind.i64 1)) 3), 3, none⟩,
    ⟨some 7, (Op.assign (Operand.tmp 21)), 3, none⟩])))
def c_gimmalref1_WithoutPassive : SF := ⟨36, [(ResultVar.tmp 4), (ResultVar.tmp 5)],
  (.seq (.ops [⟨some 4, (Op.assign (Operand.const (Value.slice none 0 0))), 36, none⟩,
    ⟨some 5, (Op.assign (Operand.const (Value.int IntKind.i64 0))), 3, none⟩]) (.seq (.seq (.ops [⟨some 8, (Op.move (Operand.tmp 0)), 36, none⟩,
    ⟨some 9, (Op.call ⟨(Callee.value (Operand.func 213)), #[(Operand.tmp 8)], #[36]⟩), 4, none⟩,
    ⟨some 10, (Op.unOp UnOp.not 4 (Operand.tmp 9)), 4, none⟩,
    ⟨some 11, (Op.move (Operand.tmp 10)), 4, none⟩,
    ⟨some 12, (Op.move (Operand.tmp 1)), 3, some (11, false)⟩,
    ⟨some 13, (Op.call ⟨(Callee.value (Operand.func 53)), #[(Operand.tmp 12)], #[3]⟩), 4, some (11, false)⟩,
    ⟨some 14, (Op.unOp UnOp.not 4 (Operand.tmp 13)), 4, some (11, false)⟩,
    ⟨some 15, (Op.pick (Operand.tmp 11) (Operand.const (Value.bool true)) (Operand.tmp 14)), 4, none⟩]) (.cond (Operand.tmp 15) (.seq (.ops [⟨some 4, (Op.assign (Operand.const (Value.slice none 0 0))), 36, none⟩,
    ⟨some 5, (Op.assign (Operand.const (Value.int IntKind.i64 800))), 3, none⟩]) .ret) .skip)) (.seq (.ops [⟨some 6, (Op.assign (Operand.const (Value.slice none 0 0))), 36, none⟩]) (.seq (.seq (.ops [⟨some 7, (Op.assign (Operand.const (Value.int IntKind.i64 0))), 3, none⟩]) (.block 0 (.loop c_gimmalref1_WithoutPassive_L0))) (.seq (.ops [⟨some 35, (Op.move (Operand.tmp 6)), 36, none⟩,
    ⟨some 4, (Op.assign (Operand.tmp 35)), 36, none⟩,
    ⟨some 5, (Op.assign (Operand.const (Value.int IntKind.i64 0))), 3, none⟩]) .ret)))))⟩
theorem is_gimmalref1_WithoutPassive (c : Cfg) (h : c.lendT = []) : isF PP c 218 c_gimmalref1_WithoutPassive := isF_of (fn := Proofs.Tryz.f218) (by kernel_rfl) (by kernel_rfl) rfl h (by kernel_rfl) rfl rfl (by kernel_rfl)
def c_passive_Without_1 : SF := ⟨7, [(ResultVar.tmp 3)],
  (.seq (.ops [⟨some 3, (Op.assign (Operand.const (Value.bool false))), 4, none⟩]) (.seq (.ops [⟨some 4, (Op.move (Operand.tmp 0)), 3, none⟩,
    ⟨some 5, (Op.load 3 (Operand.tmp 1)), 3, none⟩,
    ⟨some 6, (Op.binOp BinOp.eql 3 (Operand.tmp 4) (Operand.tmp 5) 3), 4, none⟩,
    ⟨some 3, (Op.assign (Operand.tmp 6)), 4, none⟩]) .ret))⟩
theorem is_passive_Without_1 (c : Cfg) (h : c.lendT = []) : isF PP c 224 c_passive_Without_1 := isF_of (fn := Proofs.Tryz.f224) (by kernel_rfl) (by kernel_rfl) rfl h (by kernel_rfl) rfl rfl (by kernel_rfl)
def c_slices_DeleteFunc_int_int_L0 : SC := (.seq (.seq (.ops [⟨some 16, (Op.move (Operand.tmp 6)), 3, none⟩,
    ⟨some 17, (Op.move (Operand.tmp 0)), 36, none⟩,
    ⟨some 18, (Op.call ⟨(Callee.builtin Builtin.len), #[(Operand.tmp 17)], #[36]⟩), 3, none⟩,
    ⟨some 19, (Op.binOp BinOp.lss 3 (Operand.tmp 16) (Operand.tmp 18) 3), 4, none⟩]) (.cond (Operand.tmp 19) .skip (.exit 0))) (.seq (.block 1 (.seq (.ops [⟨some 22, (Op.move (Operand.tmp 0)), 36, none⟩,
    ⟨some 23, (Op.move (Operand.tmp 6)), 3, none⟩,
    ⟨some 24, (Op.indexAddr 36 (Operand.tmp 22) (Operand.tmp 23)), 0, none⟩,
    ⟨some 25, (Op.load 3 (Operand.tmp 24)), 3, none⟩,
    ⟨some 7, (Op.assign (Operand.tmp 25)), 3, none⟩]) (.seq (.ops [⟨some 26, (Op.move (Operand.tmp 1)), 106, none⟩,
    ⟨some 27, (Op.move (Operand.tmp 7)), 3, none⟩,
    ⟨some 28, (Op.call ⟨(Callee.value (Operand.tmp 26)), #[(Operand.tmp 27)], #[3]⟩), 4, none⟩,
    ⟨some 29, (Op.unOp UnOp.not 4 (Operand.tmp 28)), 4, none⟩]) (.cond (Operand.tmp 29) (.seq (.ops [⟨some 30, (Op.move (Operand.tmp 0)), 36, none⟩,
    ⟨some 31, (Op.move (Operand.tmp 5)), 3, none⟩,
    ⟨some 32, (Op.move (Operand.tmp 7)), 3, none⟩,
    ⟨some 33, (Op.indexAddr 36 (Operand.tmp 30) (Operand.tmp 31)), 0, none⟩,
    ⟨none, (Op.store 3 (Operand.tmp 33) (Operand.tmp 32)), 0, none⟩]) (.ops [⟨some 34, (Op.move (Operand.tmp 5)), 3, none⟩,
    ⟨some 35, (Op.binOp BinOp.add 3 (Operand.tmp 34) (Operand.const (Value.int IntKind.i64 1)) 3), 3, none⟩,
    ⟨some 5, (Op.assign (Operand.tmp 35)), 3, none⟩])) .skip)))) (.ops [⟨some 20, (Op.move (Operand.tmp 6)), 3, none⟩,
    ⟨some 21, (Op.binOp BinOp.add 3 (Operand.tmp 20) (Operand.const (Value.int IntKind.i64 1)) 3), 3, none⟩,
    ⟨some 6, (Op.assign (Operand.tmp 21)), 3, none⟩])))
def c_slices_DeleteFunc_int_int : SF := ⟨42, [(ResultVar.tmp 4)],
  (.seq (.ops [⟨some 4, (Op.assign (Operand.const (Value.slice none 0 0))), 36, none⟩]) (.seq (.ops [⟨some 8, (Op.move (Operand.tmp 0)), 36, none⟩,
    ⟨some 9, (Op.move (Operand.tmp 1)), 106, none⟩,
    ⟨some 10, (Op.call ⟨(Callee.value (Operand.func 165)), #[(Operand.tmp 8), (Operand.tmp 9)], #[36, 106]⟩), 3, none⟩,
    ⟨some 5, (Op.assign (Operand.tmp 10)), 3, none⟩]) (.seq (.seq (.ops [⟨some 11, (Op.move (Operand.tmp 5)), 3, none⟩,
    ⟨some 12, (Op.binOp BinOp.eql 3 (Operand.tmp 11) (Operand.const (Value.int IntKind.i64 (-1))) 3), 4, none⟩]) (.cond (Operand.tmp 12) (.seq (.ops [⟨some 13, (Op.move (Operand.tmp 0)), 36, none⟩,
    ⟨some 4, (Op.assign (Operand.tmp 13)), 36, none⟩]) .ret) .skip)) (.seq (.seq (.ops [⟨some 14, (Op.move (Operand.tmp 5)), 3, none⟩,
    ⟨some 15, (Op.binOp BinOp.add 3 (Operand.tmp 14) (Operand.const (Value.int IntKind.i64 1)) 3), 3, none⟩,
    ⟨some 6, (Op.assign (Operand.tmp 15)), 3, none⟩]) (.block 0 (.loop c_slices_DeleteFunc_int_int_L0))) (.seq (.ops [⟨some 36, (Op.move (Operand.tmp 0)), 36, none⟩,
    ⟨some 37, (Op.move (Operand.tmp 5)), 3, none⟩,
    ⟨some 38, (Op.slice 36 (Operand.tmp 36) (some (Operand.tmp 37)) none none), 36, none⟩,
    ⟨none, (Op.call ⟨(Callee.builtin Builtin.clear), #[(Operand.tmp 38)], #[36]⟩), 0, none⟩]) (.seq (.ops [⟨some 39, (Op.move (Operand.tmp 0)), 36, none⟩,
    ⟨some 40, (Op.move (Operand.tmp 5)), 3, none⟩,
    ⟨some 41, (Op.slice 36 (Operand.tmp 39) none (some (Operand.tmp 40)) none), 36, none⟩,
    ⟨some 4, (Op.assign (Operand.tmp 41)), 36, none⟩]) .ret))))))⟩
theorem is_slices_DeleteFunc_int_int (c : Cfg) (h : c.lendT = []) : isF PP c 225 c_slices_DeleteFunc_int_int := isF_of (fn := Proofs.Tryz.f225) (by kernel_rfl) (by kernel_rfl) rfl h (by kernel_rfl) rfl rfl (by kernel_rfl)
def c_slices_Insert_api_Peer_api_Peer : SF := ⟨95, [(ResultVar.tmp 6)],
  (.seq (.ops [⟨some 6, (Op.assign (Operand.const (Value.slice none 0 0))), 35, none⟩]) (.seq (.ops [⟨some 10, (Op.move (Operand.tmp 0)), 35, none⟩,
    ⟨some 11, (Op.move (Operand.tmp 1)), 3, none⟩,
    ⟨some 12, (Op.slice 35 (Operand.tmp 10) (some (Operand.tmp 11)) none none), 35, none⟩]) (.seq (.ops [⟨some 13, (Op.move (Operand.tmp 2)), 35, none⟩,
    ⟨some 14, (Op.call ⟨(Callee.builtin Builtin.len), #[(Operand.tmp 13)], #[35]⟩), 3, none⟩,
    ⟨some 7, (Op.assign (Operand.tmp 14)), 3, none⟩]) (.seq (.seq (.ops [⟨some 15, (Op.move (Operand.tmp 7)), 3, none⟩,
    ⟨some 16, (Op.binOp BinOp.eql 3 (Operand.tmp 15) (Operand.const (Value.int IntKind.i64 0)) 3), 4, none⟩]) (.cond (Operand.tmp 16) (.seq (.ops [⟨some 17, (Op.move (Operand.tmp 0)), 35, none⟩,
    ⟨some 6, (Op.assign (Operand.tmp 17)), 35, none⟩]) .ret) .skip)) (.seq (.ops [⟨some 18, (Op.move (Operand.tmp 0)), 35, none⟩,
    ⟨some 19, (Op.call ⟨(Callee.builtin Builtin.len), #[(Operand.tmp 18)], #[35]⟩), 3, none⟩,
    ⟨some 8, (Op.assign (Operand.tmp 19)), 3, none⟩]) (.seq (.seq (.ops [⟨some 20, (Op.move (Operand.tmp 1)), 3, none⟩,
    ⟨some 21, (Op.move (Operand.tmp 8)), 3, none⟩,
    ⟨some 22, (Op.binOp BinOp.eql 3 (Operand.tmp 20) (Operand.tmp 21) 3), 4, none⟩]) (.cond (Operand.tmp 22) (.seq (.ops [⟨some 23, (Op.move (Operand.tmp 0)), 35, none⟩,
    ⟨some 24, (Op.move (Operand.tmp 2)), 35, none⟩,
    ⟨some 25, (Op.call ⟨(Callee.builtin Builtin.append), #[(Operand.tmp 23), (Operand.tmp 24)], #[35, 35]⟩), 35, none⟩,
    ⟨some 6, (Op.assign (Operand.tmp 25)), 35, none⟩]) .ret) .skip)) (.seq (.seq (.ops [⟨some 26, (Op.move (Operand.tmp 8)), 3, none⟩,
    ⟨some 27, (Op.move (Operand.tmp 7)), 3, none⟩,
    ⟨some 28, (Op.binOp BinOp.add 3 (Operand.tmp 26) (Operand.tmp 27) 3), 3, none⟩,
    ⟨some 29, (Op.move (Operand.tmp 0)), 35, none⟩,
    ⟨some 30, (Op.call ⟨(Callee.builtin Builtin.cap), #[(Operand.tmp 29)], #[35]⟩), 3, none⟩,
    ⟨some 31, (Op.binOp BinOp.gtr 3 (Operand.tmp 28) (Operand.tmp 30) 3), 4, none⟩]) (.cond (Operand.tmp 31) (.seq (.ops [⟨some 32, (Op.move (Operand.tmp 0)), 35, none⟩,
    ⟨some 33, (Op.move (Operand.tmp 1)), 3, none⟩,
    ⟨some 34, (Op.slice 35 (Operand.tmp 32) none (some (Operand.tmp 33)) none), 35, none⟩,
    ⟨some 35, (Op.move (Operand.tmp 8)), 3, none⟩,
    ⟨some 36, (Op.move (Operand.tmp 7)), 3, none⟩,
    ⟨some 37, (Op.binOp BinOp.add 3 (Operand.tmp 35) (Operand.tmp 36) 3), 3, none⟩,
    ⟨some 38, (Op.move (Operand.tmp 1)), 3, none⟩,
    ⟨some 39, (Op.binOp BinOp.sub 3 (Operand.tmp 37) (Operand.tmp 38) 3), 3, none⟩,
    ⟨some 40, (Op.call ⟨(Callee.builtin Builtin.append), #[(Operand.tmp 34), (Operand.tmp 39)], #[35, 3]⟩), 35, none⟩,
    ⟨some 9, (Op.assign (Operand.tmp 40)), 35, none⟩]) (.seq (.ops [⟨some 41, (Op.move (Operand.tmp 9)), 35, none⟩,
    ⟨some 42, (Op.move (Operand.tmp 1)), 3, none⟩,
    ⟨some 43, (Op.slice 35 (Operand.tmp 41) (some (Operand.tmp 42)) none none), 35, none⟩,
    ⟨some 44, (Op.move (Operand.tmp 2)), 35, none⟩,
    ⟨some 45, (Op.call ⟨(Callee.builtin Builtin.copy), #[(Operand.tmp 43), (Operand.tmp 44)], #[35, 35]⟩), 3, none⟩]) (.seq (.ops [⟨some 46, (Op.move (Operand.tmp 9)), 35, none⟩,
    ⟨some 47, (Op.move (Operand.tmp 1)), 3, none⟩,
    ⟨some 48, (Op.move (Operand.tmp 7)), 3, none⟩,
    ⟨some 51, (Op.move (Operand.tmp 0)), 35, none⟩,
    ⟨some 52, (Op.move (Operand.tmp 1)), 3, none⟩,
    ⟨some 49, (Op.binOp BinOp.add 3 (Operand.tmp 47) (Operand.tmp 48) 3), 3, none⟩,
    ⟨some 50, (Op.slice 35 (Operand.tmp 46) (some (Operand.tmp 49)) none none), 35, none⟩,
    ⟨some 53, (Op.slice 35 (Operand.tmp 51) (some (Operand.tmp 52)) none none), 35, none⟩,
    ⟨some 54, (Op.call ⟨(Callee.builtin Builtin.copy), #[(Operand.tmp 50), (Operand.tmp 53)], #[35, 35]⟩), 3, none⟩]) (.seq (.ops [⟨some 55, (Op.move (Operand.tmp 9)), 35, none⟩,
    ⟨some 6, (Op.assign (Operand.tmp 55)), 35, none⟩]) .ret)))) .skip)) (.seq (.ops [⟨some 56, (Op.move (Operand.tmp 0)), 35, none⟩,
    ⟨some 57, (Op.move (Operand.tmp 8)), 3, none⟩,
    ⟨some 58, (Op.move (Operand.tmp 7)), 3, none⟩,
    ⟨some 59, (Op.binOp BinOp.add 3 (Operand.tmp 57) (Operand.tmp 58) 3), 3, none⟩,
    ⟨some 60, (Op.slice 35 (Operand.tmp 56) none (some (Operand.tmp 59)) none), 35, none⟩,
    ⟨some 0, (Op.assign (Operand.tmp 60)), 35, none⟩]) (.seq (.seq (.ops [⟨some 61, (Op.move (Operand.tmp 2)), 35, none⟩,
    ⟨some 62, (Op.move (Operand.tmp 0)), 35, none⟩,
    ⟨some 63, (Op.move (Operand.tmp 1)), 3, none⟩,
    ⟨some 64, (Op.move (Operand.tmp 7)), 3, none⟩,
    ⟨some 65, (Op.binOp BinOp.add 3 (Operand.tmp 63) (Operand.tmp 64) 3), 3, none⟩,
    ⟨some 66, (Op.slice 35 (Operand.tmp 62) (some (Operand.tmp 65)) none none), 35, none⟩,
    ⟨some 67, (Op.call ⟨(Callee.value (Operand.func 241)), #[(Operand.tmp 61), (Operand.tmp 66)], #[35, 35]⟩), 4, none⟩,
    ⟨some 68, (Op.unOp UnOp.not 4 (Operand.tmp 67)), 4, none⟩]) (.cond (Operand.tmp 68) (.seq (.ops [⟨some 69, (Op.move (Operand.tmp 0)), 35, none⟩,
    ⟨some 70, (Op.move (Operand.tmp 1)), 3, none⟩,
    ⟨some 71, (Op.move (Operand.tmp 7)), 3, none⟩,
    ⟨some 74, (Op.move (Operand.tmp 0)), 35, none⟩,
    ⟨some 75, (Op.move (Operand.tmp 1)), 3, none⟩,
    ⟨some 72, (Op.binOp BinOp.add 3 (Operand.tmp 70) (Operand.tmp 71) 3), 3, none⟩,
    ⟨some 73, (Op.slice 35 (Operand.tmp 69) (some (Operand.tmp 72)) none none), 35, none⟩,
    ⟨some 76, (Op.slice 35 (Operand.tmp 74) (some (Operand.tmp 75)) none none), 35, none⟩,
    ⟨some 77, (Op.call ⟨(Callee.builtin Builtin.copy), #[(Operand.tmp 73), (Operand.tmp 76)], #[35, 35]⟩), 3, none⟩]) (.seq (.ops [⟨some 78, (Op.move (Operand.tmp 0)), 35, none⟩,
    ⟨some 79, (Op.move (Operand.tmp 1)), 3, none⟩,
    ⟨some 80, (Op.slice 35 (Operand.tmp 78) (some (Operand.tmp 79)) none none), 35, none⟩,
    ⟨some 81, (Op.move (Operand.tmp 2)), 35, none⟩,
    ⟨some 82, (Op.call ⟨(Callee.builtin Builtin.copy), #[(Operand.tmp 80), (Operand.tmp 81)], #[35, 35]⟩), 3, none⟩]) (.seq (.ops [⟨some 83, (Op.move (Operand.tmp 0)), 35, none⟩,
    ⟨some 6, (Op.assign (Operand.tmp 83)), 35, none⟩]) .ret))) .skip)) (.seq (.ops [⟨some 84, (Op.move (Operand.tmp 0)), 35, none⟩,
    ⟨some 85, (Op.move (Operand.tmp 8)), 3, none⟩,
    ⟨some 86, (Op.slice 35 (Operand.tmp 84) (some (Operand.tmp 85)) none none), 35, none⟩,
    ⟨some 87, (Op.move (Operand.tmp 2)), 35, none⟩,
    ⟨some 88, (Op.call ⟨(Callee.builtin Builtin.copy), #[(Operand.tmp 86), (Operand.tmp 87)], #[35, 35]⟩), 3, none⟩]) (.seq (.ops [⟨some 89, (Op.move (Operand.tmp 0)), 35, none⟩,
    ⟨some 90, (Op.move (Operand.tmp 1)), 3, none⟩,
    ⟨some 91, (Op.slice 35 (Operand.tmp 89) (some (Operand.tmp 90)) none none), 35, none⟩,
    ⟨some 92, (Op.move (Operand.tmp 7)), 3, none⟩,
    ⟨some 93, (Op.call ⟨(Callee.value (Operand.func 242)), #[(Operand.tmp 91), (Operand.tmp 92)], #[35, 3]⟩), 0, none⟩]) (.seq (.ops [⟨some 94, (Op.move (Operand.tmp 0)), 35, none⟩,
    ⟨some 6, (Op.assign (Operand.tmp 94)), 35, none⟩]) .ret))))))))))))⟩
theorem is_slices_Insert_api_Peer_api_Peer (c : Cfg) (h : c.lendT = [66]) : isF PP c 226 c_slices_Insert_api_Peer_api_Peer := isF_of (fn := Proofs.Tryz.f226) (by kernel_rfl) (by kernel_rfl) rfl h (by kernel_rfl) rfl rfl (by kernel_rfl)
def c_peers_order_find : SF := ⟨17, [(ResultVar.tmp 6)],
  (.seq (.ops [⟨some 3, (Op.box 258 (Operand.tmp 0)), 0, none⟩,
    ⟨some 4, (Op.box 204 (Operand.tmp 1)), 0, none⟩,
    ⟨some 6, (Op.assign (Operand.const (Value.int IntKind.i64 0))), 3, none⟩]) (.seq (.ops [⟨some 14, (Op.move (Operand.tmp 2)), 3, none⟩,
    ⟨some 7, (Op.fieldAddr 258 (Operand.tmp 3) 0), 0, none⟩,
    ⟨some 8, (Op.load 3 (Operand.tmp 7)), 3, none⟩,
    ⟨some 9, (Op.fieldAddr 204 (Operand.tmp 4) 0), 0, none⟩,
    ⟨some 10, (Op.load 3 (Operand.tmp 9)), 3, none⟩,
    ⟨some 11, (Op.call ⟨(Callee.value (Operand.func 204)), #[(Operand.tmp 8), (Operand.tmp 10)], #[3, 3]⟩), 3, none⟩,
    ⟨some 12, (Op.fieldAddr 258 (Operand.tmp 3) 0), 0, none⟩,
    ⟨some 13, (Op.load 3 (Operand.tmp 12)), 3, none⟩,
    ⟨some 15, (Op.call ⟨(Callee.value (Operand.func 204)), #[(Operand.tmp 13), (Operand.tmp 14)], #[3, 3]⟩), 3, none⟩,
    ⟨some 16, (Op.call ⟨(Callee.value (Operand.func 168)), #[(Operand.tmp 11), (Operand.tmp 15)], #[3, 3]⟩), 3, none⟩,
    ⟨some 6, (Op.assign (Operand.tmp 16)), 3, none⟩]) .ret))⟩
theorem is_peers_order_find (c : Cfg) (h : c.lendT = []) : isF PP c 227 c_peers_order_find := isF_of (fn := Proofs.Tryz.f227) (by kernel_rfl) (by kernel_rfl) rfl h (by kernel_rfl) rfl rfl (by kernel_rfl)
def c_slices_BinarySearchFunc_api_Peer_api_Peer_int_L0 : SC := (.seq (.seq (.ops [⟨some 15, (Op.move (Operand.tmp 9)), 3, none⟩,
    ⟨some 16, (Op.move (Operand.tmp 10)), 3, none⟩,
    ⟨some 17, (Op.binOp BinOp.lss 3 (Operand.tmp 15) (Operand.tmp 16) 3), 4, none⟩]) (.cond (Operand.tmp 17) .skip (.exit 0))) (.block 1 (.seq (.ops [⟨some 18, (Op.move (Operand.tmp 9)), 3, none⟩,
    ⟨some 19, (Op.move (Operand.tmp 10)), 3, none⟩,
    ⟨some 20, (Op.binOp BinOp.add 3 (Operand.tmp 18) (Operand.tmp 19) 3), 3, none⟩,
    ⟨some 21, (Op.convert 3 54 (Operand.tmp 20)), 54, none⟩,
    ⟨some 22, (Op.binOp BinOp.shr 54 (Operand.tmp 21) (Operand.const (Value.int IntKind.u64 1)) 54), 54, none⟩,
    ⟨some 23, (Op.convert 54 3 (Operand.tmp 22)), 3, none⟩,
    ⟨some 11, (Op.assign (Operand.tmp 23)), 3, none⟩]) (.seq (.ops [⟨some 24, (Op.move (Operand.tmp 2)), 256, none⟩,
    ⟨some 25, (Op.move (Operand.tmp 0)), 35, none⟩,
    ⟨some 26, (Op.move (Operand.tmp 11)), 3, none⟩,
    ⟨some 27, (Op.indexAddr 35 (Operand.tmp 25) (Operand.tmp 26)), 0, none⟩,
    ⟨some 28, (Op.load 204 (Operand.tmp 27)), 204, none⟩,
    ⟨some 29, (Op.move (Operand.tmp 1)), 3, none⟩,
    ⟨some 30, (Op.call ⟨(Callee.value (Operand.tmp 24)), #[(Operand.tmp 28), (Operand.tmp 29)], #[204, 3]⟩), 3, none⟩,
    ⟨some 31, (Op.binOp BinOp.lss 3 (Operand.tmp 30) (Operand.const (Value.int IntKind.i64 0)) 3), 4, none⟩]) (.cond (Operand.tmp 31) (.ops [⟨some 32, (Op.move (Operand.tmp 11)), 3, none⟩,
    ⟨some 33, (Op.binOp BinOp.add 3 (Operand.tmp 32) (Operand.const (Value.int IntKind.i64 1)) 3), 3, none⟩,
    ⟨some 9, (Op.assign (Operand.tmp 33)), 3, none⟩]) (.ops [⟨some 34, (Op.move (Operand.tmp 11)), 3, none⟩,
    ⟨some 10, (Op.assign (Operand.tmp 34)), 3, none⟩]))))))
def c_slices_BinarySearchFunc_api_Peer_api_Peer_int : SF := ⟨49, [(ResultVar.tmp 6), (ResultVar.tmp 7)],
  (.seq (.ops [⟨some 6, (Op.assign (Operand.const (Value.int IntKind.i64 0))), 3, none⟩,
    ⟨some 7, (Op.assign (Operand.const (Value.bool false))), 4, none⟩]) (.seq (.ops [⟨some 12, (Op.move (Operand.tmp 0)), 35, none⟩,
    ⟨some 13, (Op.call ⟨(Callee.builtin Builtin.len), #[(Operand.tmp 12)], #[35]⟩), 3, none⟩,
    ⟨some 8, (Op.assign (Operand.tmp 13)), 3, none⟩]) (.seq (.ops [⟨some 14, (Op.move (Operand.tmp 8)), 3, none⟩,
    ⟨some 9, (Op.assign (Operand.const (Value.int IntKind.i64 0))), 3, none⟩,
    ⟨some 10, (Op.assign (Operand.tmp 14)), 3, none⟩]) (.seq (.block 0 (.loop c_slices_BinarySearchFunc_api_Peer_api_Peer_int_L0)) (.seq (.ops [⟨some 35, (Op.move (Operand.tmp 9)), 3, none⟩,
    ⟨some 36, (Op.move (Operand.tmp 9)), 3, none⟩,
    ⟨some 37, (Op.move (Operand.tmp 8)), 3, none⟩,
    ⟨some 38, (Op.binOp BinOp.lss 3 (Operand.tmp 36) (Operand.tmp 37) 3), 4, none⟩,
    ⟨some 39, (Op.move (Operand.tmp 38)), 4, none⟩,
    ⟨some 40, (Op.move (Operand.tmp 2)), 256, some (39, true)⟩,
    ⟨some 41, (Op.move (Operand.tmp 0)), 35, some (39, true)⟩,
    ⟨some 42, (Op.move (Operand.tmp 9)), 3, some (39, true)⟩,
    ⟨some 43, (Op.indexAddr 35 (Operand.tmp 41) (Operand.tmp 42)), 0, some (39, true)⟩,
    ⟨some 44, (Op.load 204 (Operand.tmp 43)), 204, some (39, true)⟩,
    ⟨some 45, (Op.move (Operand.tmp 1)), 3, some (39, true)⟩,
    ⟨some 46, (Op.call ⟨(Callee.value (Operand.tmp 40)), #[(Operand.tmp 44), (Operand.tmp 45)], #[204, 3]⟩), 3, some (39, true)⟩,
    ⟨some 47, (Op.binOp BinOp.eql 3 (Operand.tmp 46) (Operand.const (Value.int IntKind.i64 0)) 3), 4, some (39, true)⟩,
    ⟨some 48, (Op.pick (Operand.tmp 39) (Operand.tmp 47) (Operand.const (Value.bool false))), 4, none⟩,
    ⟨some 6, (Op.assign (Operand.tmp 35)), 3, none⟩,
    ⟨some 7, (Op.assign (Operand.tmp 48)), 4, none⟩]) .ret)))))⟩
theorem is_slices_BinarySearchFunc_api_Peer_api_Peer_int (c : Cfg) (h : c.lendT = []) : isF PP c 228 c_slices_BinarySearchFunc_api_Peer_api_Peer_int := isF_of (fn := Proofs.Tryz.f228) (by kernel_rfl) (by kernel_rfl) rfl h (by kernel_rfl) rfl rfl (by kernel_rfl)
def c_slices_Index_int_int_L0 : SC := (.seq (.ops [⟨some 9, (Op.binOp BinOp.lss 3 (Operand.tmp 8) (Operand.tmp 7) 3), 0, none⟩]) (.seq (.cond (Operand.tmp 9) .skip (.exit 0)) (.seq (.block 1 (.seq (.ops [⟨some 10, (Op.move (Operand.tmp 8)), 3, none⟩,
    ⟨some 5, (Op.assign (Operand.tmp 10)), 3, none⟩]) (.seq (.ops [⟨some 11, (Op.move (Operand.tmp 1)), 3, none⟩,
    ⟨some 12, (Op.move (Operand.tmp 0)), 36, none⟩,
    ⟨some 13, (Op.move (Operand.tmp 5)), 3, none⟩,
    ⟨some 14, (Op.indexAddr 36 (Operand.tmp 12) (Operand.tmp 13)), 0, none⟩,
    ⟨some 15, (Op.load 3 (Operand.tmp 14)), 3, none⟩,
    ⟨some 16, (Op.binOp BinOp.eql 3 (Operand.tmp 11) (Operand.tmp 15) 3), 4, none⟩]) (.cond (Operand.tmp 16) (.seq (.ops [⟨some 17, (Op.move (Operand.tmp 5)), 3, none⟩,
    ⟨some 4, (Op.assign (Operand.tmp 17)), 3, none⟩]) .ret) .skip)))) (.ops [⟨some 18, (Op.binOp BinOp.add 3 (Operand.tmp 8) (Operand.const (Value.int IntKind.i64 1)) 3), 3, none⟩,
    ⟨some 8, (Op.move (Operand.tmp 18)), 3, none⟩]))))
def c_slices_Index_int_int : SF := ⟨19, [(ResultVar.tmp 4)],
  (.seq (.ops [⟨some 4, (Op.assign (Operand.const (Value.int IntKind.i64 0))), 3, none⟩]) (.seq (.seq (.ops [⟨some 6, (Op.move (Operand.tmp 0)), 36, none⟩,
    ⟨some 7, (Op.call ⟨(Callee.builtin Builtin.len), #[(Operand.tmp 6)], #[36]⟩), 3, none⟩,
    ⟨some 8, (Op.move (Operand.const (Value.int IntKind.i64 0))), 3, none⟩]) (.block 0 (.loop c_slices_Index_int_int_L0))) (.seq (.ops [⟨some 4, (Op.assign (Operand.const (Value.int IntKind.i64 (-1)))), 3, none⟩]) .ret)))⟩
theorem is_slices_Index_int_int (c : Cfg) (h : c.lendT = []) : isF PP c 229 c_slices_Index_int_int := isF_of (fn := Proofs.Tryz.f229) (by kernel_rfl) (by kernel_rfl) rfl h (by kernel_rfl) rfl rfl (by kernel_rfl)
def c_version_Newer : SF := ⟨33, [(ResultVar.tmp 4), (ResultVar.tmp 5)],
  (.seq (.ops [⟨some 2, (Op.box 44 (Operand.tmp 0)), 0, none⟩,
    ⟨some 3, (Op.box 44 (Operand.tmp 1)), 0, none⟩,
    ⟨some 4, (Op.assign (Operand.const (Value.bool false))), 4, none⟩,
    ⟨some 5, (Op.assign (Operand.const (Value.int IntKind.i64 0))), 31, none⟩]) (.seq (.seq (.ops [⟨some 6, (Op.load 44 (Operand.tmp 2)), 44, none⟩,
    ⟨some 7, (Op.call ⟨(Callee.value (Operand.func 195)), #[(Operand.tmp 6)], #[44]⟩), 4, none⟩,
    ⟨some 8, (Op.unOp UnOp.not 4 (Operand.tmp 7)), 4, none⟩,
    ⟨some 9, (Op.move (Operand.tmp 8)), 4, none⟩,
    ⟨some 10, (Op.load 44 (Operand.tmp 3)), 44, some (9, false)⟩,
    ⟨some 11, (Op.call ⟨(Callee.value (Operand.func 195)), #[(Operand.tmp 10)], #[44]⟩), 4, some (9, false)⟩,
    ⟨some 12, (Op.unOp UnOp.not 4 (Operand.tmp 11)), 4, some (9, false)⟩,
    ⟨some 13, (Op.pick (Operand.tmp 9) (Operand.const (Value.bool true)) (Operand.tmp 12)), 4, none⟩]) (.cond (Operand.tmp 13) (.seq (.ops [⟨some 4, (Op.assign (Operand.const (Value.bool false))), 4, none⟩,
    ⟨some 5, (Op.assign (Operand.const (Value.int IntKind.i64 300))), 31, none⟩]) .ret) .skip)) (.seq (.ops [⟨some 14, (Op.fieldAddr 44 (Operand.tmp 2) 0), 0, none⟩,
    ⟨some 15, (Op.load 3 (Operand.tmp 14)), 3, none⟩,
    ⟨some 16, (Op.fieldAddr 44 (Operand.tmp 3) 0), 0, none⟩,
    ⟨some 17, (Op.load 3 (Operand.tmp 16)), 3, none⟩,
    ⟨some 18, (Op.binOp BinOp.gtr 3 (Operand.tmp 15) (Operand.tmp 17) 3), 4, none⟩,
    ⟨some 19, (Op.move (Operand.tmp 18)), 4, none⟩,
    ⟨some 20, (Op.fieldAddr 44 (Operand.tmp 2) 0), 0, some (19, false)⟩,
    ⟨some 21, (Op.load 3 (Operand.tmp 20)), 3, some (19, false)⟩,
    ⟨some 22, (Op.fieldAddr 44 (Operand.tmp 3) 0), 0, some (19, false)⟩,
    ⟨some 23, (Op.load 3 (Operand.tmp 22)), 3, some (19, false)⟩,
    ⟨some 24, (Op.binOp BinOp.eql 3 (Operand.tmp 21) (Operand.tmp 23) 3), 4, some (19, false)⟩,
    ⟨some 25, (Op.move (Operand.tmp 24)), 4, some (19, false)⟩,
    ⟨some 26, (Op.fieldAddr 44 (Operand.tmp 2) 1), 0, some (25, true)⟩,
    ⟨some 27, (Op.load 3 (Operand.tmp 26)), 3, some (25, true)⟩,
    ⟨some 28, (Op.fieldAddr 44 (Operand.tmp 3) 1), 0, some (25, true)⟩,
    ⟨some 29, (Op.load 3 (Operand.tmp 28)), 3, some (25, true)⟩,
    ⟨some 30, (Op.binOp BinOp.gtr 3 (Operand.tmp 27) (Operand.tmp 29) 3), 4, some (25, true)⟩,
    ⟨some 31, (Op.pick (Operand.tmp 25) (Operand.tmp 30) (Operand.const (Value.bool false))), 4, some (19, false)⟩,
    ⟨some 32, (Op.pick (Operand.tmp 19) (Operand.const (Value.bool true)) (Operand.tmp 31)), 4, none⟩,
    ⟨some 4, (Op.assign (Operand.tmp 32)), 4, none⟩,
    ⟨some 5, (Op.assign (Operand.const (Value.int IntKind.i64 0))), 31, none⟩]) .ret)))⟩
theorem is_version_Newer (c : Cfg) (h : c.lendT = []) : isF PP c 230 c_version_Newer := isF_of (fn := Proofs.Tryz.f230) (by kernel_rfl) (by kernel_rfl) rfl h (by kernel_rfl) rfl rfl (by kernel_rfl)
end Go.AM
/- AM: this seat's functions in short. -/
namespace Go.AM
set_option linter.unusedSimpArgs false
set_option linter.unusedVariables false
end Go.AM
/- AM: this seat's functions in short, all of them. -/
/- AM: contracts: places, peers. -/
namespace Go.AM
set_option linter.unusedSimpArgs false
set_option linter.unusedVariables false
set_option maxRecDepth 8000
set_option maxHeartbeats 0
theorem ring_Far (a b : Int) : Den PP 204 [.int .i64 a, .int .i64 b] [] (.int .i64 (far a b)) [] := by
  refine den_of [] [] is_ring_Far ?_
  simp -implicitDefEqProofs [c_ring_Far, far]

theorem ring_Place (a : Int) : Den PP 118 [.int .i64 a] [] (.bool (place a)) [] := by
  refine den_of [] [] is_ring_Place ?_
  simp -implicitDefEqProofs [c_ring_Place]
  refine gOps_dec (fun h => ?_) (fun h => ?_) <;> simp -implicitDefEqProofs [h, place]

theorem peers_May_loop (base : Int) (ps : List Peer) (hl : ps.length ≤ cap) (Q : Ex → St → Prop) (r : Bool) (hQ1 : ∀ fr, r = true → Q .normal ⟨fr, []⟩) (hQ2 : ∀ fr bs, r = false → fr 4 = .bool false → Q .ret ⟨fr, bs⟩) :
    ∀ (rest : List Peer) (i : Nat) (fr : Nat → D) (last : Int), ps.drop i = rest → i ≤ ps.length → fr 0 = .int .i64 base → fr 5 = .int .i64 last → fr 16 = .sl (ps.map Peer.row) ps.length → fr 17 = .int .i64 ps.length → fr 18 = .int .i64 i →
      peersOk base last rest = r → sLoop (cf 0 [] []) 0 c_peers_May_L0 (blockQ 0 Q) (rest.length + 1) ⟨fr, []⟩ := by
  intro rest
  induction rest with
  | nil =>
    intro i fr last e hi h0 h5 h16 h17 h18 hm
    refine sLoop_body c_peers_May_L0.eq_1 ?_
    have hi' := drop_nil e hi
    simp -implicitDefEqProofs [h0, h5, h16, h17, h18, hi']
    exact hQ1 _ hm.symm
  | cons p rest ih =>
    intro i fr last e hi h0 h5 h16 h17 h18 hm
    refine sLoop_body c_peers_May_L0.eq_1 ?_
    obtain ⟨hlt, hget, hd, hlen⟩ := drop_cons e
    have hlt' : (i : Int) < ps.length := by omega
    simp -implicitDefEqProofs [h0, h5, h16, h17, h18, hlt', hget, Peer.row]
    refine callThen_of (ring_Place p.id) ?_
    simp -implicitDefEqProofs [h0, h5, h16, h17, h18]
    simp only [peersOk] at hm
    refine gOps_split (fun h1 => ?_) (fun h1 => ?_)
    all_goals simp -implicitDefEqProofs [h1, h0, h5, h16, h17, h18]
    rotate_left
    · exact hQ2 _ _ (by rw [← hm, h1]; rfl) (by rfl)
    refine gOps_ndec (fun h2 => ?_) (fun h2 => ?_)
    all_goals simp -implicitDefEqProofs [h2, h0, h5, h16, h17, h18]
    · exact hQ2 _ _ (by rw [← hm]; simp; intros; omega) (by rfl)
    refine gOps_ndec (fun h3 => ?_) (fun h3 => ?_)
    all_goals simp -implicitDefEqProofs [h3, h0, h5, h16, h17, h18]
    · exact hQ2 _ _ (by rw [← hm]; simp; intros; omega) (by rfl)
    refine callThen_of (ring_Far base p.id) ?_
    simp -implicitDefEqProofs [h0, h5, h16, h17, h18]
    refine condC_dec (fun h4 => ?_) (fun h4 => ?_)
    all_goals simp -implicitDefEqProofs [h4, h0, h5, h16, h17, h18]
    · exact hQ2 _ _ (by rw [← hm]; simp; intros; omega) (by rfl)
    refine callThen_of (ring_Far base p.id) ?_
    simp -implicitDefEqProofs [h0, h5, h16, h17, h18, wrap_next (show i ≤ 140737488355328 by unfold cap at hl; omega)]
    exact ih (i + 1) _ (far base p.id) hd (by omega) (by simp [h0, h5, h16, h17, h18]) (by simp) (by simp [h0, h5, h16, h17, h18]) (by simp [h0, h5, h16, h17, h18]) (by simp) (by rw [← hm, h1, decide_eq_true (show 0 ≤ p.missed by omega), decide_eq_true (show p.missed < 3 by omega), decide_eq_true (show last < far base p.id by omega)]; rfl)

theorem peers_May (base : Int) (ps : List Peer) (hl : ps.length ≤ cap) : Den PP 181 [.int .i64 base, .sl (ps.map Peer.row) ps.length] [] (.bool (peersMay base ps)) [] := by
  refine den_of [] [] is_peers_May ?_
  simp -implicitDefEqProofs [c_peers_May]
  refine callThen_of (ring_Place base) ?_
  simp -implicitDefEqProofs
  cases hp : place base
  · simp -implicitDefEqProofs [peersMay, hp]
  simp -implicitDefEqProofs
  refine condC_dec (fun h16 => ?_) (fun h16 => ?_)
  · simp -implicitDefEqProofs [peersMay, hp, h16]
    omega
  simp -implicitDefEqProofs
  refine anyLoop_of (ps.length + 1) ?_
  have hm : peersMay base ps = peersOk base 0 ps := by simp [peersMay, hp]; intro _; omega
  rw [hm]
  refine peers_May_loop base ps hl _ (peersOk base 0 ps) (fun fr h => ?_) (fun fr bs h h4 => ?_) ps 0 _ 0 rfl (Nat.zero_le _) rfl rfl rfl rfl rfl rfl
  all_goals simp -implicitDefEqProofs [h]
  simp -implicitDefEqProofs [h4]
end Go.AM
/- AM: contracts: small parts. -/
namespace Go.AM
set_option linter.unusedSimpArgs false
set_option linter.unusedVariables false
set_option maxRecDepth 8000
set_option maxHeartbeats 0
theorem law_Num (a : Int) : Den PP 15 [.int .i64 a] [] (.int .i64 a) [] := by
  refine den_of [] [] is_gimmallaw0_Num ?_
  simp -implicitDefEqProofs [c_gimmallaw0_Num]

theorem ref_PlaceMay (a : Int) : Den PP 53 [.int .i64 a] [] (.bool (place a)) [] := by
  refine den_of [] [] is_gimmalref1_PlaceMay ?_
  simp -implicitDefEqProofs [c_gimmalref1_PlaceMay]
  refine gOps_dec (fun h => ?_) (fun h => ?_) <;> simp -implicitDefEqProofs [h, place]

theorem ref_far (a b : Int) : Den PP 55 [.int .i64 a, .int .i64 b] [] (.int .i64 (far a b)) [] := by
  refine den_of [] [] is_gimmalref1_far ?_
  simp -implicitDefEqProofs [c_gimmalref1_far, far]

theorem cmp_isNaN (a : Int) : Den PP 216 [.int .i64 a] [] (.bool false) [] := by
  refine den_of [] [] is_cmp_isNaN_int ?_
  simp -implicitDefEqProofs [c_cmp_isNaN_int]

theorem cmp_Compare (a b : Int) : Den PP 168 [.int .i64 a, .int .i64 b] [] (.int .i64 (cmpI a b)) [] := by
  refine den_of [] [] is_cmp_Compare_int ?_
  simp -implicitDefEqProofs [c_cmp_Compare_int]
  refine callThen_of (cmp_isNaN a) ?_
  simp -implicitDefEqProofs
  refine callThen_of (cmp_isNaN b) ?_
  simp -implicitDefEqProofs
  refine condC_dec (fun h => ?_) (fun h => ?_) <;> simp -implicitDefEqProofs [h, cmpI]
  refine condC_dec (fun h2 => ?_) (fun h2 => ?_) <;> simp -implicitDefEqProofs [h2]

theorem peers_order_find (base : Int) (p : Peer) (id : Int) : Den PP 227 [.agg [.int .i64 base], .agg p.row, .int .i64 id] [] (.int .i64 (cmpI (far base p.id) (far base id))) [] := by
  refine den_of [] [] is_peers_order_find ?_
  simp -implicitDefEqProofs [c_peers_order_find, Peer.row]
  refine callThen_of (ring_Far base p.id) ?_
  simp -implicitDefEqProofs
  refine callThen_of (ring_Far base id) ?_
  simp -implicitDefEqProofs
  refine callThen_of (cmp_Compare _ _) ?_
  simp -implicitDefEqProofs

end Go.AM
/- AM: contracts: loops over places. -/
namespace Go.AM
set_option linter.unusedSimpArgs false
set_option linter.unusedVariables false
set_option maxRecDepth 8000
set_option maxHeartbeats 0
theorem ring_Places (xs : List Int) (hl : xs.length ≤ cap) : Den PP 119 [intsD xs] [] (.bool (xs.all place)) [] := by
  refine den_of [] [] is_ring_Places ?_
  simp -implicitDefEqProofs [c_ring_Places, intsD]
  refine anyLoop_of (xs.length + 1) ?_
  have key : ∀ (Q : Ex → St → Prop) (r : Bool) (hQ1 : ∀ fr, r = true → Q .normal ⟨fr, []⟩) (hQ2 : ∀ fr bs, r = false → fr 2 = .bool false → Q .ret ⟨fr, bs⟩) (rest : List Int) (i : Nat) (fr : Nat → D), xs.drop i = rest → i ≤ xs.length →
      fr 0 = intsD xs → fr 5 = intsD xs → fr 6 = .int .i64 xs.length → fr 7 = .int .i64 i → rest.all place = r → sLoop (cf 0 [] []) 0 c_ring_Places_L0 (blockQ 0 Q) (rest.length + 1) ⟨fr, []⟩ := by
    intro Q r hQ1 hQ2 rest
    induction rest with
    | nil =>
      intro i fr e hi h0 h5 h6 h7 hm
      refine sLoop_body c_ring_Places_L0.eq_1 ?_
      have hi' := drop_nil e hi
      simp -implicitDefEqProofs [h0, h5, h6, h7, hi']
      exact hQ1 _ hm.symm
    | cons x rest ih =>
      intro i fr e hi h0 h5 h6 h7 hm
      refine sLoop_body c_ring_Places_L0.eq_1 ?_
      obtain ⟨hlt, hget, hd, hlen⟩ := drop_cons e
      have hlt' : (i : Int) < xs.length := by omega
      simp -implicitDefEqProofs [h0, h5, h6, h7, hlt', hget, intsD, irow]
      refine callThen_of (ring_Place x) ?_
      simp -implicitDefEqProofs
      refine condC_not (fun h1 => ?_) (fun h1 => ?_)
      all_goals simp -implicitDefEqProofs [h1, h0, h5, h6, h7, wrap_next (show i ≤ 140737488355328 by unfold cap at hl; omega)]
      · exact ih (i + 1) _ hd (by omega) (by simp [h0, h5, h6, h7, intsD]) (by simp [h0, h5, h6, h7, intsD]) (by simp [h0, h5, h6, h7]) (by simp) (by rw [← hm]; simp [h1])
      · exact hQ2 _ _ (by rw [← hm]; simp [h1]) (by rfl)
  refine key _ (xs.all place) (fun fr h => ?_) (fun fr bs h h2 => ?_) xs 0 _ rfl (Nat.zero_le _) rfl rfl rfl rfl rfl
  · simp -implicitDefEqProofs [h]
  · simp -implicitDefEqProofs [h, h2]

theorem ref_placesMay (xs : List Int) (hl : xs.length ≤ cap) : Den PP 54 [intsD xs] [] (.bool (xs.all place)) [] := by
  refine den_of [] [] is_gimmalref1_placesMay ?_
  simp -implicitDefEqProofs [c_gimmalref1_placesMay, intsD]
  refine anyLoop_of (xs.length + 1) ?_
  have key : ∀ (Q : Ex → St → Prop) (r : Bool) (hQ1 : ∀ fr, r = true → Q .normal ⟨fr, []⟩) (hQ2 : ∀ fr bs, r = false → fr 2 = .bool false → Q .ret ⟨fr, bs⟩) (rest : List Int) (i : Nat) (fr : Nat → D), xs.drop i = rest → i ≤ xs.length →
      fr 0 = .sl (xs.map irow) xs.length → fr 3 = .int .i64 i → rest.all place = r → sLoop (cf 0 [] []) 0 c_gimmalref1_placesMay_L0 (blockQ 0 Q) (rest.length + 1) ⟨fr, []⟩ := by
    intro Q r hQ1 hQ2 rest
    induction rest with
    | nil =>
      intro i fr e hi h0 h3 hm
      refine sLoop_body c_gimmalref1_placesMay_L0.eq_1 ?_
      have hi' := drop_nil e hi
      simp -implicitDefEqProofs [h0, h3, hi']
      exact hQ1 _ hm.symm
    | cons x rest ih =>
      intro i fr e hi h0 h3 hm
      refine sLoop_body c_gimmalref1_placesMay_L0.eq_1 ?_
      obtain ⟨hlt, hget, hd, hlen⟩ := drop_cons e
      have hlt' : (i : Int) < xs.length := by omega
      simp -implicitDefEqProofs [h0, h3, hlt', hget, irow]
      refine callThen_of (ref_PlaceMay x) ?_
      simp -implicitDefEqProofs
      refine condC_not (fun h1 => ?_) (fun h1 => ?_)
      all_goals simp -implicitDefEqProofs [h1, h0, h3, wrap_next (show i ≤ 140737488355328 by unfold cap at hl; omega)]
      · exact ih (i + 1) _ hd (by omega) (by simp [h0, h3, intsD]) (by simp) (by rw [← hm]; simp [h1])
      · exact hQ2 _ _ (by rw [← hm]; simp [h1]) (by rfl)
  refine key _ (xs.all place) (fun fr h => ?_) (fun fr bs h h2 => ?_) xs 0 _ rfl (Nat.zero_le _) rfl rfl rfl
  · simp -implicitDefEqProofs [h]
  · simp -implicitDefEqProofs [h, h2]

theorem passive_May (xs : List Int) (hl : xs.length ≤ cap) : Den PP 132 [intsD xs] [] (.bool (passiveMay xs)) [] := by
  refine den_of [] [] is_passive_May ?_
  simp -implicitDefEqProofs [c_passive_May, intsD]
  refine anyLoop_of (xs.length + 1) ?_
  have key : ∀ (Q : Ex → St → Prop) (r : Bool) (hQ1 : ∀ fr, r = true → fr 0 = .sl (xs.map irow) xs.length → Q .normal ⟨fr, []⟩) (hQ2 : ∀ fr bs, r = false → fr 2 = .bool false → Q .ret ⟨fr, bs⟩) (rest : List Int) (i : Nat) (fr : Nat → D), xs.drop i = rest → i ≤ xs.length →
      fr 0 = .sl (xs.map irow) xs.length → fr 5 = .sl (xs.map irow) xs.length → fr 6 = .int .i64 xs.length → fr 7 = .int .i64 i → ups (if i = 0 then none else xs[i - 1]?) rest = r → sLoop (cf 0 [] []) 0 c_passive_May_L0 (blockQ 0 Q) (rest.length + 1) ⟨fr, []⟩ := by
    intro Q r hQ1 hQ2 rest
    induction rest with
    | nil =>
      intro i fr e hi h0 h5 h6 h7 hm
      refine sLoop_body c_passive_May_L0.eq_1 ?_
      have hi' := drop_nil e hi
      simp -implicitDefEqProofs [h0, h5, h6, h7, hi']
      exact hQ1 _ hm.symm (by simp [h0, h5, h6, h7])
    | cons x rest ih =>
      intro i fr e hi h0 h5 h6 h7 hm
      refine sLoop_body c_passive_May_L0.eq_1 ?_
      obtain ⟨hlt, hget, hd, hlen⟩ := drop_cons e
      have hlt' : (i : Int) < xs.length := by omega
      have hw := wrap_next (show i ≤ 140737488355328 by unfold cap at hl; omega)
      have hprev : (if i + 1 = 0 then none else xs[i + 1 - 1]?) = some x := by simp [hget]
      simp only [ups] at hm
      simp -implicitDefEqProofs [h0, h5, h6, h7, hlt', hget, irow]
      refine callThen_of (ring_Place x) ?_
      simp -implicitDefEqProofs [h0, h5, h6, h7]
      refine gOps_split (fun h1 => ?_) (fun h1 => ?_)
      rotate_left
      · simp -implicitDefEqProofs [h1, h0, h5, h6, h7]
        exact hQ2 _ _ (by rw [← hm]; simp [h1]) (by rfl)
      simp -implicitDefEqProofs [h1, h0, h5, h6, h7]
      by_cases hi0 : i = 0
      · simp -implicitDefEqProofs [hi0, h0, h5, h6, h7]
        simp -implicitDefEqProofs [hi0] at hw
        simp -implicitDefEqProofs [hw]
        refine ih 1 _ (by rw [← hd, hi0]) (by omega) (by simp [h0, h5, h6, h7]) (by simp [h0, h5, h6, h7]) (by simp [h0, h5, h6, h7]) (by simp) ?_
        rw [hi0] at hprev hm
        rw [← hm]
        simp [h1] at hprev ⊢
        rw [hprev]
      · have hpos : 0 < i := by omega
        have hwp : IntKind.wrap .i64 ((i : Int) - 1) = ((i - 1 : Nat) : Int) := by unfold cap at hl; rw [wrap_in (by omega) (by omega)]; omega
        have hlt2 : ((i - 1 : Nat) : Int) < xs.length := by omega
        obtain ⟨y, hy⟩ : ∃ y, xs[i - 1]? = some y := ⟨xs[i - 1], by simp⟩
        rw [if_neg hi0, hy] at hm
        simp -implicitDefEqProofs [hpos, h0, h5, h6, h7, hwp, hlt2, hy, irow]
        refine condC_dec (fun h2 => ?_) (fun h2 => ?_)
        all_goals simp -implicitDefEqProofs [h2, h0, h5, h6, h7, hw]
        · exact hQ2 _ _ (by rw [← hm]; simp; intros; omega) (by rfl)
        · refine ih (i + 1) _ hd (by omega) (by simp [h0, h5, h6, h7]) (by simp [h0, h5, h6, h7]) (by simp [h0, h5, h6, h7]) (by simp) ?_
          rw [hprev, ← hm, h1]
          simp [show y < x by omega]
  refine key _ (ups none xs) (fun fr h h0 => ?_) (fun fr bs h h2 => ?_) xs 0 _ rfl (Nat.zero_le _) rfl rfl rfl rfl rfl
  · simp -implicitDefEqProofs [h, h0, passiveMay]
    omega
  · simp -implicitDefEqProofs [h, h2, passiveMay]

def TellsI (f : Nat) (caps : List D) (p : Int → Bool) (xs : List Int) : Prop := (∀ bs, caps.map (D.freeze bs) = caps) ∧ (∀ fr fp, mapRL fr fp caps = caps) ∧ ∀ x ∈ xs, Den PP f (.int .i64 x :: caps) [] (.bool (p x)) []
theorem slices_IndexFunc_int (xs : List Int) (hl : xs.length ≤ cap) (f : Nat) (caps : List D) (p : Int → Bool) (hp : TellsI f caps p xs) : Den PP 165 [intsD xs, .fn f [] caps] [] (.int .i64 (fIdx p 0 xs)) [] := by
  refine den_of [] [] is_slices_IndexFunc_int_int ?_
  simp -implicitDefEqProofs [c_slices_IndexFunc_int_int, intsD]
  refine anyLoop_of (xs.length + 1) ?_
  have key : ∀ (Q : Ex → St → Prop) (r : Int) (hQ1 : ∀ fr, r = -1 → Q .normal ⟨fr, []⟩) (hQ2 : ∀ fr bs, fr 4 = .int .i64 r → Q .ret ⟨fr, bs⟩) (rest : List Int) (i : Nat) (fr : Nat → D), xs.drop i = rest → i ≤ xs.length →
      fr 0 = .sl (xs.map irow) xs.length → fr 1 = .fn f [] caps → fr 7 = .int .i64 xs.length → fr 8 = .int .i64 i → fIdx p i rest = r → sLoop (cf 0 [] []) 0 c_slices_IndexFunc_int_int_L0 (blockQ 0 Q) (rest.length + 1) ⟨fr, []⟩ := by
    intro Q r hQ1 hQ2 rest
    induction rest with
    | nil =>
      intro i fr e hi h0 h1 h7 h8 hm
      refine sLoop_body c_slices_IndexFunc_int_int_L0.eq_1 ?_
      have hi' := drop_nil e hi
      simp -implicitDefEqProofs [h0, h1, h7, h8, hi']
      exact hQ1 _ hm.symm
    | cons x rest ih =>
      intro i fr e hi h0 h1 h7 h8 hm
      refine sLoop_body c_slices_IndexFunc_int_int_L0.eq_1 ?_
      obtain ⟨hlt, hget, hd, hlen⟩ := drop_cons e
      have hlt' : (i : Int) < xs.length := by omega
      have hw := wrap_next (show i ≤ 140737488355328 by unfold cap at hl; omega)
      simp -implicitDefEqProofs [h0, h1, h7, h8, hlt', hget, irow, hp.1]
      refine callThen_of (hp.2.2 x (List.mem_of_getElem? hget)) ?_
      simp only [fIdx] at hm
      simp -implicitDefEqProofs
      refine condC_split (fun h2 => ?_) (fun h2 => ?_)
      all_goals simp -implicitDefEqProofs [h2, h0, h1, h7, h8, hw]
      · exact hQ2 _ _ (by rw [← hm, h2]; simp)
      · exact ih (i + 1) _ hd (by omega) (by simp [h0, h1, h7, h8]) (by simp [h0, h1, h7, h8, hp.2.1]) (by simp [h0, h1, h7, h8]) (by simp) (by rw [← hm, h2]; simp)
  refine key _ (fIdx p 0 xs) (fun fr h => ?_) (fun fr bs h => ?_) xs 0 _ rfl (Nat.zero_le _) rfl rfl rfl rfl rfl
  · simp -implicitDefEqProofs [h]
  · simp -implicitDefEqProofs [h]

theorem slices_ContainsFunc_int (xs : List Int) (hl : xs.length ≤ cap) (f : Nat) (caps : List D) (p : Int → Bool) (hp : TellsI f caps p xs) : Den PP 79 [intsD xs, .fn f [] caps] [] (.bool (xs.any p)) [] := by
  refine den_of [] [] is_slices_ContainsFunc_int_int ?_
  simp -implicitDefEqProofs [c_slices_ContainsFunc_int_int, intsD, hp.2.1]
  refine callThen_of (slices_IndexFunc_int xs hl f caps p hp) ?_
  have := fIdx_any p xs 0
  simp -implicitDefEqProofs [← this]

theorem bsearch_Peer (base : Int) (ps : List Peer) (id : Int) (hl : ps.length ≤ cap) (at_ : Nat) (hat : at_ ≤ ps.length)
    (hlo : ∀ i p, i < at_ → ps[i]? = some p → far base p.id < far base id) (hhi : ∀ i p, at_ ≤ i → ps[i]? = some p → far base id ≤ far base p.id) :
    Den PP 228 [peersD ps, .int .i64 id, .fn 227 [.agg [.int .i64 base]] []] [] (.tup [.int .i64 at_, .bool (isFar base id ps[at_]?)]) [] := by
  refine den_of [] [] is_slices_BinarySearchFunc_api_Peer_api_Peer_int ?_
  simp -implicitDefEqProofs [c_slices_BinarySearchFunc_api_Peer_api_Peer_int, peersD]
  refine anyLoop_of (ps.length + 1) ?_
  have key : ∀ (Q : Ex → St → Prop) (hQ1 : ∀ fr, fr 0 = .sl (ps.map Peer.row) ps.length → fr 1 = .int .i64 id → fr 2 = .fn 227 [.agg [.int .i64 base]] [] → fr 8 = .int .i64 ps.length → fr 9 = .int .i64 at_ → Q .normal ⟨fr, []⟩) (d lo hi : Nat) (fr : Nat → D), hi - lo ≤ d → lo ≤ at_ → at_ ≤ hi → hi ≤ ps.length →
      fr 0 = .sl (ps.map Peer.row) ps.length → fr 1 = .int .i64 id → fr 2 = .fn 227 [.agg [.int .i64 base]] [] → fr 8 = .int .i64 ps.length → fr 9 = .int .i64 lo → fr 10 = .int .i64 hi → sLoop (cf 0 [] []) 0 c_slices_BinarySearchFunc_api_Peer_api_Peer_int_L0 (blockQ 0 Q) (d + 1) ⟨fr, []⟩ := by
    intro Q hQ1 d
    induction d with
    | zero =>
      intro lo hi fr hd h3 h4 h5 h0 h1 h2 h8 h9 h10
      refine sLoop_body c_slices_BinarySearchFunc_api_Peer_api_Peer_int_L0.eq_1 ?_
      have e1 : lo = at_ := by omega
      have e2 : hi = at_ := by omega
      simp -implicitDefEqProofs [h0, h1, h2, h8, h9, h10, e1, e2]
      exact hQ1 _ (by simp [h0, h1, h2, h8, h9, h10]) (by simp [h0, h1, h2, h8, h9, h10]) (by simp [h0, h1, h2, h8, h9, h10]) (by simp [h0, h1, h2, h8, h9, h10]) (by simp [h0, h1, h2, h8, h9, h10, e1])
    | succ d ih =>
      intro lo hi fr hd h3 h4 h5 h0 h1 h2 h8 h9 h10
      refine sLoop_body c_slices_BinarySearchFunc_api_Peer_api_Peer_int_L0.eq_1 ?_
      by_cases hlt : lo < hi
      · have hlt' : (lo : Int) < hi := by omega
        have hm := mid_eq (lo := lo) (hi := hi) (by omega) (by omega)
        have hml : (lo + hi) / 2 < ps.length := by omega
        have hml' : (((lo + hi) / 2 : Nat) : Int) < ps.length := by omega
        have hw := wrap_next (n := (lo + hi) / 2) (by unfold cap at hl; omega)
        have hb1 : lo ≤ (lo + hi) / 2 := by omega
        have hb2 : (lo + hi) / 2 < hi := by omega
        generalize (lo + hi) / 2 = mid at *
        simp -implicitDefEqProofs [h0, h1, h2, h8, h9, h10, hlt', hlt, hm, hml, hml', Peer.row]
        refine callThen_of (peers_order_find base ps[mid] id) ?_
        simp -implicitDefEqProofs [cmpI_neg]
        refine condC_dec (fun hc => ?_) (fun hc => ?_)
        all_goals simp -implicitDefEqProofs [h0, h1, h2, h8, h9, h10, hc, hw]
        · have : mid < at_ := by
            apply Classical.byContradiction
            intro hx
            have := hhi mid ps[mid] (by omega) (by simp)
            omega
          refine ih (mid + 1) hi _ (by omega) (by omega) (by omega) (by omega) (by simp [h0, h1, h2, h8, h9, h10]) (by simp [h0, h1, h2, h8, h9, h10]) (by simp [h0, h1, h2, h8, h9, h10]) (by simp [h0, h1, h2, h8, h9, h10]) (by simp) (by simp [h0, h1, h2, h8, h9, h10])
        · have : at_ ≤ mid := by
            apply Classical.byContradiction
            intro hx
            have := hlo mid ps[mid] (by omega) (by simp)
            omega
          refine ih lo mid _ (by omega) (by omega) (by omega) (by omega) (by simp [h0, h1, h2, h8, h9, h10]) (by simp [h0, h1, h2, h8, h9, h10]) (by simp [h0, h1, h2, h8, h9, h10]) (by simp [h0, h1, h2, h8, h9, h10]) (by simp [h0, h1, h2, h8, h9, h10]) (by simp)
      · have e1 : lo = at_ := by omega
        have e2 : hi = at_ := by omega
        simp -implicitDefEqProofs [h0, h1, h2, h8, h9, h10, e1, e2]
        exact hQ1 _ (by simp [h0, h1, h2, h8, h9, h10]) (by simp [h0, h1, h2, h8, h9, h10]) (by simp [h0, h1, h2, h8, h9, h10]) (by simp [h0, h1, h2, h8, h9, h10]) (by simp [h0, h1, h2, h8, h9, h10, e1])
  refine key _ (fun fr h0 h1 h2 h8 h9 => ?_) ps.length 0 ps.length _ (by omega) (by omega) hat (Nat.le_refl _) rfl rfl rfl rfl rfl rfl
  simp -implicitDefEqProofs [h0, h1, h2, h8, h9]
  refine gOps_dec (fun hc => ?_) (fun hc => ?_)
  · simp -implicitDefEqProofs [h0, h1, h2, h8, h9, hc, Peer.row]
    refine callThen_of (peers_order_find base ps[at_] id) ?_
    simp -implicitDefEqProofs [cmpI_beq, cmpI_zero, hc, isFar]
  · have hp : ps[at_]? = none := by rw [List.getElem?_eq_none]; omega
    simp -implicitDefEqProofs [h0, h1, h2, h8, h9, hc, hp, isFar]

theorem peers_Find (base : Int) (ps : List Peer) (id : Int) (hl : ps.length ≤ cap) (hr : Rowed base ps) :
    Den PP 193 [.int .i64 base, peersD ps, .int .i64 id] [] (.tup [.int .i64 (findAt base ps id), .bool (peerIs base ps id)]) [] := by
  refine den_of [] [] is_peers_Find ?_
  simp -implicitDefEqProofs [c_peers_Find, peersD]
  refine callThen_of (bsearch_Peer base ps id hl (findAt base ps id) (findAt_le _ _ _) findAt_lo (findAt_hi hr)) ?_
  simp -implicitDefEqProofs [peerIs]

theorem view_Peer (v : View) (id : Int) (hl : v.peers.length ≤ cap) (hr : Rowed v.id v.peers) : Den PP 121 [.mem v.cells, .int .i64 id] [] (.bool (peerIs v.id v.peers id)) [] := by
  refine den_of [] [] is_view_Peer ?_
  simp -implicitDefEqProofs [c_view_Peer, View.cells, peersD]
  refine callThen_of (peers_Find v.id v.peers id hl hr) ?_
  simp -implicitDefEqProofs

theorem view_May_1 (v : View) (id : Int) (hl : v.peers.length ≤ cap) (hr : Rowed v.id v.peers) : Den PP 182 [.int .i64 id, .mem v.cells] [] (.bool (oddIn v id)) [] := by
  refine den_of [] [] is_view_May_1 ?_
  simp -implicitDefEqProofs [c_view_May_1, View.cells, peersD]
  refine gOps_not (fun h => ?_) (fun h => ?_) <;> simp -implicitDefEqProofs [h, oddIn]
  refine callThen_of (view_Peer v id hl hr) ?_
  simp -implicitDefEqProofs

theorem view_May (v : View) (hs : v.small) : Den PP 109 [viewD v] [] (.bool (viewMay v)) [] := by
  refine den_of [] [] is_view_May ?_
  simp -implicitDefEqProofs [c_view_May, viewD, View.cells, peersD, intsD]
  refine callThen_of (peers_May v.id v.peers (cap_of hs.1)) ?_
  simp -implicitDefEqProofs
  refine gOps_split (fun h1 => ?_) (fun h1 => ?_)
  rotate_left
  · simp -implicitDefEqProofs [h1, viewMay]
  simp -implicitDefEqProofs [h1]
  refine callThen_of (passive_May v.passive hs.2) ?_
  simp -implicitDefEqProofs
  refine gOps_split (fun h2 => ?_) (fun h2 => ?_)
  rotate_left
  · simp -implicitDefEqProofs [h2, h1, viewMay]
  have hw : IntKind.wrap .i64 ((v.peers.length : Int) + v.passive.length) = v.peers.length + v.passive.length := by
    obtain ⟨a, b⟩ := hs
    unfold cap16 at a
    unfold cap at b
    exact wrap_in (by omega) (by omega)
  simp -implicitDefEqProofs [h2, hw]
  refine condC_dec (fun h3 => ?_) (fun h3 => ?_)
  · simp -implicitDefEqProofs [h3, viewMay]
    intros
    omega
  simp -implicitDefEqProofs [h3]
  refine callThen_of (slices_ContainsFunc_int v.passive hs.2 _ _ (oddIn v) ⟨fun bs => rfl, fun fr fp => rfl, fun x _ => view_May_1 v x (cap_of hs.1) (peersMay_rowed h1)⟩) ?_
  simp -implicitDefEqProofs [viewMay, h1, h2]
  intros
  omega
end Go.AM
/- AM: contracts: a view's ends. -/
namespace Go.AM
set_option linter.unusedSimpArgs false
set_option linter.unusedVariables false
set_option maxRecDepth 8000
set_option maxHeartbeats 0
theorem ref_Names (ps : List Peer) (hl : ps.length ≤ cap16) : Den PP 73 [peersD ps] [] (.ref 0 0 ps.length) [⟨ps.map fun p => irow p.id, 1, .mut⟩] := by
  refine den_of [] [] is_gimmalref1_Names ?_
  simp -implicitDefEqProofs [c_gimmalref1_Names, peersD]
  refine anyLoop_of (ps.length + 1) ?_
  have key : ∀ (Q : Ex → St → Prop) (hQ1 : ∀ fr, fr 3 = .ref 1 0 ps.length → Q .normal ⟨fr, [⟨[], 1, .mut⟩, ⟨ps.map fun p => irow p.id, 1, .mut⟩]⟩) (rest : List Peer) (i : Nat) (fr : Nat → D), ps.drop i = rest → i ≤ ps.length →
      fr 3 = .ref 1 0 i → fr 0 = .sl (ps.map Peer.row) ps.length → fr 4 = .int .i64 i → sLoop (cf 0 [] []) 2 c_gimmalref1_Names_L0 (blockQ 0 Q) (rest.length + 1) ⟨fr, [⟨[], 1, .mut⟩, ⟨(ps.map fun p => irow p.id).take i, 1, .mut⟩]⟩ := by
    intro Q hQ1 rest
    induction rest with
    | nil =>
      intro i fr e hi h3 h0 h4
      refine sLoop_body c_gimmalref1_Names_L0.eq_1 ?_
      have hi' := drop_nil e hi
      have hall : (ps.map fun p => irow p.id).take ps.length = ps.map fun p => irow p.id := List.take_of_length_le (by simp)
      simp -implicitDefEqProofs [h0, h3, h4, hi', hall]
      exact hQ1 _ (by simp [h0, h3, h4, hi'])
    | cons p rest ih =>
      intro i fr e hi h3 h0 h4
      refine sLoop_body c_gimmalref1_Names_L0.eq_1 ?_
      obtain ⟨hlt, hget, hd, hlen⟩ := drop_cons e
      have hlt' : (i : Int) < ps.length := by omega
      have hw := wrap_next (n := i) (by unfold cap16 at hl; omega)
      have hb1 : (i + 1) * 8 ≤ 140737488355328 := by unfold cap16 at hl; omega
      have hb2 : i ≤ 9223372036854775806 := by unfold cap16 at hl; omega
      have hmin : min i ps.length = i := Nat.min_eq_left hi
      have htk : (ps.map fun p => irow p.id).take (i + 1) = (ps.map fun p => irow p.id).take i ++ [[.int .i64 p.id]] := by
        rw [List.take_add_one, List.getElem?_map, hget]
        rfl
      have := ih (i + 1)
      rw [htk] at this
      simp -implicitDefEqProofs [h0, h3, h4, hlt', hget, Peer.row, hw, hb1, hb2, hmin, Fits]
      exact this _ hd (by omega) (by simp [h0, h3, h4]) (by simp [h0, h3, h4]) (by simp)
  refine key _ (fun fr h3 => ?_) ps 0 _ rfl (Nat.zero_le _) rfl rfl rfl
  simp -implicitDefEqProofs [h3]

theorem ref_has (xs : List Int) (x : Int) (hl : xs.length ≤ cap) : Den PP 173 [intsD xs, .int .i64 x] [] (.bool (xs.contains x)) [] := by
  refine den_of [] [] is_gimmalref1_has ?_
  simp -implicitDefEqProofs [c_gimmalref1_has, intsD]
  refine anyLoop_of (xs.length + 1) ?_
  have key : ∀ (Q : Ex → St → Prop) (r : Bool) (hQ1 : ∀ fr, r = false → Q .normal ⟨fr, []⟩) (hQ2 : ∀ fr bs, r = true → fr 4 = .bool true → Q .ret ⟨fr, bs⟩) (rest : List Int) (i : Nat) (fr : Nat → D), xs.drop i = rest → i ≤ xs.length →
      fr 0 = .sl (xs.map irow) xs.length → fr 1 = .int .i64 x → fr 5 = .int .i64 i → rest.contains x = r → sLoop (cf 0 [] []) 0 c_gimmalref1_has_L0 (blockQ 0 Q) (rest.length + 1) ⟨fr, []⟩ := by
    intro Q r hQ1 hQ2 rest
    induction rest with
    | nil =>
      intro i fr e hi h0 h1 h5 hm
      refine sLoop_body c_gimmalref1_has_L0.eq_1 ?_
      have hi' := drop_nil e hi
      simp -implicitDefEqProofs [h0, h1, h5, hi']
      exact hQ1 _ hm.symm
    | cons y rest ih =>
      intro i fr e hi h0 h1 h5 hm
      refine sLoop_body c_gimmalref1_has_L0.eq_1 ?_
      obtain ⟨hlt, hget, hd, hlen⟩ := drop_cons e
      have hlt' : (i : Int) < xs.length := by omega
      have hw := wrap_next (n := i) (by unfold cap at hl; omega)
      simp -implicitDefEqProofs [h0, h1, h5, hlt', hget, irow]
      refine condC_split (fun h2 => ?_) (fun h2 => ?_)
      all_goals simp -implicitDefEqProofs [h2, h0, h1, h5, hw]
      · exact hQ2 _ _ (by rw [← hm]; simp at h2; simp [h2]) (by rfl)
      · exact ih (i + 1) _ hd (by omega) (by simp [h0, h1, h5]) (by simp [h0, h1, h5]) (by simp) (by rw [← hm]; simp at h2; simp [Ne.symm h2])
  refine key _ (xs.contains x) (fun fr h => ?_) (fun fr bs h h2 => ?_) xs 0 _ rfl (Nat.zero_le _) rfl rfl rfl rfl
  · simp -implicitDefEqProofs [h]
    simpa using h
  · simp -implicitDefEqProofs [h, h2]
    simpa using h
end Go.AM
/- AM: what the library's functions over slices step through: slices of own blocks, rows written over others. -/
namespace Go.AM
set_option linter.unusedSimpArgs false
set_option linter.unusedVariables false

section
variable {c : Cfg} {K : St → Prop} {st : St} {dst : Option Nat} {p : Prop} [Decidable p]
theorem overK_if {d : D} {a b : Option St} (hp : p) (h : overK dst d a K) : overK dst d (if p then a else b) K := by rw [if_pos hp]; exact h
theorem appK2_else {a b : Option (D × St)} (hp : ¬ p) (h : appK2 dst b K) : appK2 dst (if p then a else b) K := by rw [if_neg hp]; exact h
theorem appK_if {e : Nat} {base : D} {a b : Option (List (List D))} (hp : p) (h : appK c dst e base a st K) : appK c dst e base (if p then a else b) st K := by rw [if_pos hp]; exact h
theorem outK_slice {T : Tab} {t b off len e : Nat} {lo hi : Option D} {k : Blk} (l h : Nat) (hT : (T t).d = .slice e) (hb : st.bs[b]? = some k) (hlo : boundD 0 lo = some (l : Int)) (hhi : boundD len hi = some (h : Int))
    (h1 : l ≤ h) (h2 : off + h ≤ k.rows.length) (h3 : k.esz = (T e).size) (hne : l = 0 ∨ off + l < k.rows.length) (hK : K (st.put dst (.ref b (off + l) (h - l)))) : outK st dst (sliceD T st.bs t (.ref b off len) lo hi none) K := by
  have : sliceD T st.bs t (.ref b off len) lo hi none = some { d := .ref b (off + l) (h - l) } := by
    unfold sliceD
    rw [hT]
    simp only [hlo, hhi, hb]
    rw [if_pos (by refine ⟨by omega, by omega, by omega, h3⟩)]
    by_cases hl : l = 0
    · subst hl
      simp
    · rw [if_neg (by omega), if_pos (by simp; omega)]
      have : ((h : Int) - l).toNat = h - l := by omega
      simp [this]
  rw [this]
  refine ⟨by simp, ?_⟩
  rw [out_quiet]
  exact hK
theorem outK_sliceE {T : Tab} {t b off len e : Nat} {lo hi : Option D} {k : Blk} (l : Nat) (hT : (T t).d = .slice e) (hb : st.bs[b]? = some k) (hlo : boundD 0 lo = some (l : Int)) (hhi : boundD len hi = some (l : Int))
    (h2 : off + l = k.rows.length) (h3 : k.esz = (T e).size) (hl : l ≠ 0) (hK : K (st.put dst (.sl [] 0))) : outK st dst (sliceD T st.bs t (.ref b off len) lo hi none) K := by
  have : sliceD T st.bs t (.ref b off len) lo hi none = some { d := .sl [] 0 } := by
    unfold sliceD
    rw [hT]
    simp only [hlo, hhi, hb]
    rw [if_pos (by refine ⟨by omega, by omega, by omega, h3⟩), if_neg (by omega), if_neg (by simp; omega)]
  rw [this]
  refine ⟨by simp, ?_⟩
  rw [out_quiet]
  exact hK
end

theorem outRows_of {esz j o l : Nat} {k' : Blk} {bs' : List Blk} {R : List (List D)} (hj : bs'[j]? = some k') (hm : k'.kind = .mut) (he : k'.esz = esz) (hl : o + l ≤ k'.rows.length) (hR : R = (k'.rows.drop o).take l) (h0 : j = 0 ∨ 0 < l) : outRows esz (.ref j o l) bs' R :=
  ⟨j, o, l, k', rfl, hj, hm, he, hl, hR, h0⟩

def D.still : D → Bool
  | .int _ _ => true
  | .bool _ => true
  | .nil => true
  | .zs _ => true
  | .sl _ _ => true
  | .mem _ => true
  | .undef => true
  | _ => false
def StillR (rows : List (List D)) : Prop := ∀ r ∈ rows, ∀ d ∈ r, d.still = true
theorem still_rids {d : D} (h : d.still = true) : d.rids = [] := by cases d <;> first | rfl | cases h
theorem still_mapR {d : D} (h : d.still = true) (fr fp : Nat → Nat → Nat → D) : d.mapR fr fp = d := by cases d <;> first | rfl | cases h
theorem still_ridsL : ∀ {r : List D}, (∀ d ∈ r, d.still = true) → ridsL r = [] := by
  intro r
  induction r with
  | nil => intro _; rfl
  | cons d ds ih =>
    intro h
    simp only [ridsL, still_rids (h d (by simp)), ih fun d hd => h d (by simp [hd])]
    rfl
theorem StillR.mapR {rows : List (List D)} (h : StillR rows) (fr fp : Nat → Nat → Nat → D) : rows.map (fun r => r.map (D.mapR fr fp)) = rows := by
  rw [List.map_congr_left (g := id), List.map_id]
  intro r hr
  rw [List.map_congr_left (g := id), List.map_id]
  · rfl
  · intro d hd
    exact still_mapR (h r hr d hd) fr fp
theorem gives_of {G : Con} {f esz : Nat} {rows : List (List D)} {rest : List D} {R : List (List D)} (hf : ∀ r ∈ rows, r.length = esz) (hst : StillR rows)
    (h : ∀ fl : List (List D), rows.length ≤ fl.length → (∀ r ∈ fl, r.length = esz) → StillR fl → fl.take rows.length = rows → (∀ i, i < rows.length → fl[i]? = rows[i]?) →
      ∃ r bs', G f (.ref 0 0 rows.length :: rest) [⟨fl, esz, .mut⟩] r bs' ∧ outRows esz r bs' R) : GivesC G f rows esz rest R := by
  intro cp hcp
  refine h _ (by simp) ?_ ?_ (by simp) ?_
  · intro r hr
    rcases List.mem_append.1 hr with h | h
    · exact hf r h
    · rw [(List.mem_replicate.1 h).2]; simp
  · intro r hr d hd
    rcases List.mem_append.1 hr with h | h
    · exact hst r h d hd
    · rw [(List.mem_replicate.1 h).2] at hd
      rw [(List.mem_replicate.1 hd).2]
      rfl
  · intro i hi
    rw [List.getElem?_append_left hi]
theorem StillR.append {a b : List (List D)} (h1 : StillR a) (h2 : StillR b) : StillR (a ++ b) := by
  intro r hr
  rcases List.mem_append.1 hr with h | h
  · exact h1 r h
  · exact h2 r h
theorem StillR.take {a : List (List D)} (h1 : StillR a) (n : Nat) : StillR (a.take n) := fun r hr => h1 r (List.mem_of_mem_take hr)
theorem StillR.drop {a : List (List D)} (h1 : StillR a) (n : Nat) : StillR (a.drop n) := fun r hr => h1 r (List.mem_of_mem_drop hr)
theorem StillR.ovr {a b : List (List D)} (h1 : StillR a) (h2 : StillR b) (p : Nat) : StillR (ovr a p b) := ((h1.take _).append h2).append (h1.drop _)
theorem StillR.set {a : List (List D)} {r : List D} (h1 : StillR a) (h2 : ∀ d ∈ r, d.still = true) (i : Nat) : StillR (a.set i r) := by
  intro x hx
  rcases List.mem_or_eq_of_mem_set hx with h | h
  · exact h1 x h
  · rw [h]; exact h2
theorem StillR.map {α : Type} (f : α → List D) (l : List α) (h : ∀ a ∈ l, ∀ d ∈ f a, d.still = true) : StillR (l.map f) := by
  intro r hr
  obtain ⟨a, ha, rfl⟩ := List.mem_map.1 hr
  exact h a ha
def insL {α : Type} (xs : List α) (i : Nat) (x : α) : List α := xs.take i ++ x :: xs.drop i
theorem insL_map {α β : Type} (f : α → β) (xs : List α) (i : Nat) (x : α) : (insL xs i x).map f = insL (xs.map f) i (f x) := by simp [insL, List.map_take, List.map_drop]
theorem insL_get {α : Type} {xs : List α} {i : Nat} {x : α} (hi : i ≤ xs.length) (j : Nat) : (insL xs i x)[j]? = if j < i then xs[j]? else if j = i then some x else xs[j - 1]? := by
  unfold insL
  have hl : (xs.take i).length = i := by simp; omega
  by_cases h1 : j < i
  · rw [if_pos h1, List.getElem?_append_left (by omega), List.getElem?_take_of_lt h1]
  · rw [if_neg h1, List.getElem?_append_right (by omega), hl]
    by_cases h2 : j = i
    · subst h2; simp
    · rw [if_neg h2]
      obtain ⟨m, hm⟩ : ∃ m, j - i = m + 1 := ⟨j - i - 1, by omega⟩
      rw [hm, List.getElem?_cons_succ, List.getElem?_drop]
      congr 1
      omega
@[simp] theorem insL_length {α : Type} (xs : List α) (i : Nat) (x : α) : (insL xs i x).length = xs.length + 1 := by simp [insL]; omega
@[simp] theorem fits_rep {esz m : Nat} {z : List D} : Fits esz (List.replicate m z) = (m = 0 ∨ (z.length = esz ∧ z.all D.isCell = true)) := by
  apply propext
  constructor
  · intro h
    by_cases hm : m = 0
    · exact .inl hm
    · exact .inr (h z (by simp [hm]))
  · rintro (rfl | h) r hr
    · simp at hr
    · rw [(List.mem_replicate.1 hr).2]; exact h
theorem StillR.sweep {rows : List (List D)} (h : StillR rows) (S : Nat → Bool) : rows.map (fun r => r.map (D.sweep S)) = rows := h.mapR _ _
theorem lent_still {bs : List Blk} (h : ∀ k ∈ bs, StillR k.rows) : lentRids bs = [] ∧ ∀ fr fp, bs.map (Blk.mapR fr fp) = bs := by
  constructor
  · unfold lentRids
    rw [List.flatMap_eq_nil_iff]
    intro k hk
    rw [List.flatMap_eq_nil_iff]
    intro r hr
    exact still_ridsL fun d hd => h k hk r hr d hd
  · intro fr fp
    rw [List.map_congr_left (g := id), List.map_id]
    intro k hk
    show { k with rows := _ } = k
    have := (h k hk).mapR fr fp
    rw [this]
theorem leave_lent {n0 b o l : Nat} {st : St} (hb : b < n0) (h : ∀ k ∈ st.bs.take n0, StillR k.rows) : leave n0 st (.ref b o l) = some (.ref b o l, st.bs.take n0) := by
  obtain ⟨h1, h2⟩ := lent_still h
  unfold leave
  simp only [D.rids, h1, List.append_nil]
  have : [b].filter (fun b => decide (n0 ≤ b)) = [] := by simp; omega
  rw [this]
  simp [expRef, hb, h2]
theorem leave_new {n0 b o l : Nat} {st : St} {k : Blk} (hb : n0 ≤ b) (hk : st.bs[b]? = some k) (hbox : k.kind.isBox = false) (h : ∀ k ∈ st.bs.take n0, StillR k.rows) : leave n0 st (.ref b o l) = some (.ref n0 o l, st.bs.take n0 ++ [k]) := by
  obtain ⟨h1, h2⟩ := lent_still h
  unfold leave
  simp only [D.rids, h1, List.append_nil]
  have : [b].filter (fun b => decide (n0 ≤ b)) = [b] := by simp; omega
  rw [this]
  have hnb : ¬ b < n0 := by omega
  have hnk : k.kind ≠ .box ∧ k.kind ≠ .ibox := by
    constructor <;> (intro h; rw [h] at hbox; cases hbox)
  simp [expRef, hnb, h2, hk]
  cases hkk : k.kind <;> simp [hkk] at hnk ⊢
section
variable {rows fl : List (List D)} {v : List D} {at_ n : Nat}
theorem ins_get (hn : rows.length = n) (hat : at_ ≤ n) (hfl : n ≤ fl.length) (htake : fl.take n = rows) (i : Nat) : (insL rows at_ v)[i]? = if i < at_ then fl[i]? else if i = at_ then some v else if i ≤ n then fl[i - 1]? else none := by
  rw [insL_get (by omega)]
  have hr : ∀ j, rows[j]? = if j < n then fl[j]? else none := by
    intro j
    rw [← htake, List.getElem?_take]
  rw [hr, hr]
  by_cases h1 : i < at_
  · rw [if_pos h1, if_pos h1, if_pos (by omega)]
  · rw [if_neg h1, if_neg h1]
    by_cases h2 : i = at_
    · rw [if_pos h2, if_pos h2]
    · rw [if_neg h2, if_neg h2]
      by_cases h3 : i ≤ n
      · rw [if_pos h3, if_pos (by omega)]
      · rw [if_neg h3, if_neg (by omega)]
theorem ins_rows1 (hn : rows.length = n) (hfl : n + 1 ≤ fl.length) (htake : fl.take n = rows) : insL rows n v = ((ovr fl n [v]).drop 0).take (n + 1) := by
  apply List.ext_getElem?
  intro i
  rw [ins_get hn (Nat.le_refl _) (by omega) htake, List.drop_zero, List.getElem?_take, ovr_get (by simpa using hfl)]
  simp only [List.length_singleton]
  by_cases h1 : i < n
  · rw [if_pos h1, if_pos (by omega), if_pos h1]
  · rw [if_neg h1]
    by_cases h2 : i = n
    · subst h2; simp
    · rw [if_neg h2, if_neg (by omega), if_neg (by omega)]
theorem ins_rows2 (hn : rows.length = n) (htake : fl.take n = rows) : insL rows n v = ((fl.take n ++ [v]).drop 0).take (n + 1) := by
  rw [htake, List.drop_zero, List.take_of_length_le (by simp; omega)]
  simp [insL, ← hn]
theorem ins_rowsC (hn : rows.length = n) (hat : at_ < n) (hfl : n + 1 ≤ fl.length) (htake : fl.take n = rows) :
    insL rows at_ v = ((ovr (ovr fl (at_ + 1) ((fl.drop at_).take (n - at_))) at_ [v]).drop 0).take (n + 1) := by
  have hl : ((fl.drop at_).take (n - at_)).length = n - at_ := by simp; omega
  have hl2 := ovr_length (rows := fl) (p := at_ + 1) (ys := (fl.drop at_).take (n - at_)) (by omega)
  apply List.ext_getElem?
  intro i
  rw [ins_get hn (by omega) (by omega) htake, List.drop_zero, List.getElem?_take, ovr_get (by simp; omega), ovr_get (by omega)]
  simp only [List.length_singleton, hl]
  by_cases h1 : i < at_
  · rw [if_pos h1, if_pos (by omega), if_pos h1, if_pos (by omega)]
  · rw [if_neg h1]
    by_cases h2 : i = at_
    · subst h2; simp; omega
    · rw [if_neg h2]
      by_cases h3 : i ≤ n
      · rw [if_pos h3, if_pos (by omega), if_neg h1, if_neg (by omega), if_neg (by omega), if_pos (by omega), List.getElem?_take_of_lt (by omega), List.getElem?_drop]
        congr 1
        omega
      · rw [if_neg h3, if_neg (by omega)]
theorem ins_rowsB {z : List D} (hn : rows.length = n) (hat : at_ < n) (hfl : fl.length = n) (htake : fl.take n = rows) :
    insL rows at_ v = ((ovr (ovr (fl.take at_ ++ List.replicate (n + 1 - at_) z) at_ [v]) (at_ + 1) ((fl.drop at_).take (n - at_))).drop 0).take (n + 1) := by
  have hl : ((fl.drop at_).take (n - at_)).length = n - at_ := by simp; omega
  have hl0 : (fl.take at_ ++ List.replicate (n + 1 - at_) z).length = n + 1 := by simp; omega
  have hl2 := ovr_length (rows := fl.take at_ ++ List.replicate (n + 1 - at_) z) (p := at_) (ys := [v]) (by rw [hl0]; simp; omega)
  apply List.ext_getElem?
  intro i
  rw [ins_get hn (by omega) (by omega) htake, List.drop_zero, List.getElem?_take, ovr_get (by rw [hl2, hl0]; omega), ovr_get (by rw [hl0]; simp; omega)]
  simp only [List.length_singleton, hl]
  by_cases h1 : i < at_
  · rw [if_pos h1, if_pos (by omega), if_pos (by omega), if_pos h1, List.getElem?_append_left (by simp; omega), List.getElem?_take_of_lt h1]
  · rw [if_neg h1]
    by_cases h2 : i = at_
    · subst h2; simp; omega
    · rw [if_neg h2]
      by_cases h3 : i ≤ n
      · rw [if_pos h3, if_pos (by omega), if_neg (by omega), if_pos (by omega), List.getElem?_take_of_lt (by omega), List.getElem?_drop]
        congr 1
        omega
      · rw [if_neg h3, if_neg (by omega)]
end
def D.cut : D → D
  | .sl rows len => .sl (rows.take len) len
  | d => d
theorem RepI.cutLen {w : World} {M : Foot} {v : Value} {rows : List (List D)} {len : Nat} (h : RepI w M v (.sl rows len)) : RepI w M v (.sl (rows.take len) len) := by
  cases h with
  | sl a _ cap _ esz g off vals h1 h2 hr ha hc hv =>
    refine .sl a len cap _ esz g off vals (by simp; omega) (by simp; omega) (fun r hx => hr r (List.mem_of_mem_take hx)) (fun hne => ha (by rintro rfl; exact hne (by simp))) (fun i j hi hj => hc i j (by simp at hi; omega) hj) ?_
    intro i j r d hi hj
    rw [List.getElem?_take] at hi
    split at hi
    · exact hv i j r d hi hj
    · cases hi
theorem Rep.cut {w : World} {M : Foot} {ρ : Nat → Loc} {v : Value} {d : D} (h : Rep w M ρ v d) : Rep w M ρ v d.cut := by
  cases d <;> try exact h
  exact .imm _ _ h.sl_inv.cutLen
theorem den_cut {P : Program} {f : Nat} {args : List D} {bs : List Blk} {r : D} {bs' : List Blk} (h : Den P f (args.map D.cut) bs r bs') : Den P f args bs r bs' := by
  refine ⟨h.1, fun w M0 ρ vals hM hS hs ha => h.2 w M0 ρ vals hM hS (by simpa using hs) ?_⟩
  intro i v d hv hd
  rw [List.getElem?_map] at hd
  cases hc : args[i]? with
  | none => simp [hc] at hd
  | some d0 => simp [hc] at hd; subst hd; exact (ha i v d0 hv hc).cut
attribute [simp] D.cut
@[simp] theorem take_map_app {α β : Type} (f : α → β) (l : List α) (r : List β) : (l.map f ++ r).take l.length = l.map f := List.take_left' (by simp)
@[simp] theorem wrap_zero : IntKind.wrap .i64 0 = 0 := wrap_in (by omega) (by omega)
end Go.AM
/- AM: contracts: the library's functions over slices. -/
namespace Go.AM
set_option linter.unusedSimpArgs false
set_option linter.unusedVariables false
set_option maxRecDepth 8000
set_option maxHeartbeats 0
theorem clone_int (rows : List (List D)) (hf : Fits 1 rows) (hl : rows.length * 8 ≤ 140737488355328) : Den PP 184 [.sl rows rows.length] [] (.ref 0 0 rows.length) [⟨rows, 1, .mut⟩] := by
  cases hr : rows with
  | nil =>
    refine den_zs (pre := []) (post := []) ?_ ?_
    · refine den_of [] [] is_slices_Clone_int_int ?_
      simp -implicitDefEqProofs [c_slices_Clone_int_int]
    · refine den_of [] [] is_slices_Clone_int_int ?_
      simp -implicitDefEqProofs [c_slices_Clone_int_int, Fits]
  | cons r rs =>
    rw [hr] at hf hl
    have h63 : (r :: rs).length ≤ 9223372036854775807 := by omega
    have hlen : 0 < (r :: rs).length := by simp
    generalize hn : (r :: rs).length = n at *
    generalize r :: rs = rows at *
    refine den_of [] [] is_slices_Clone_int_int ?_
    simp -implicitDefEqProofs [c_slices_Clone_int_int, hlen, List.take_of_length_le (Nat.le_of_eq hn), hf, hn, hl, h63]
theorem clone_Peer (rows : List (List D)) (hf : Fits 2 rows) (hl : rows.length * 16 ≤ 140737488355328) : Den PP 183 [.sl rows rows.length] [] (.ref 0 0 rows.length) [⟨rows, 2, .mut⟩] := by
  cases hr : rows with
  | nil =>
    refine den_zs (pre := []) (post := []) ?_ ?_
    · refine den_of [] [] is_slices_Clone_api_Peer_api_Peer ?_
      simp -implicitDefEqProofs [c_slices_Clone_api_Peer_api_Peer]
    · refine den_of [] [] is_slices_Clone_api_Peer_api_Peer ?_
      simp -implicitDefEqProofs [c_slices_Clone_api_Peer_api_Peer, Fits]
  | cons r rs =>
    rw [hr] at hf hl
    have h63 : (r :: rs).length ≤ 9223372036854775807 := by omega
    have hlen : 0 < (r :: rs).length := by simp
    generalize hn : (r :: rs).length = n at *
    generalize r :: rs = rows at *
    refine den_of [] [] is_slices_Clone_api_Peer_api_Peer ?_
    simp -implicitDefEqProofs [c_slices_Clone_api_Peer_api_Peer, hlen, List.take_of_length_le (Nat.le_of_eq hn), hf, hn, hl, h63]
theorem insert_Peer (rows : List (List D)) (v : List D) (at_ : Nat) (hf : Fits 2 rows) (hst : StillR rows) (hv : Fits 2 [v]) (hvs : ∀ d ∈ v, d.still = true) (hat : at_ ≤ rows.length) (hl : rows.length ≤ 1000000) :
    GivesC (DenF PP [0]) 226 rows 2 [.int .i64 at_, .sl [v] 1] (insL rows at_ v) := by
  refine gives_of (fun r hr => (hf r hr).1) hst fun fl hfl hrow hfs htake hget => ?_
  have hv1 : v.length = 2 := (hv v (by simp)).1
  obtain ⟨c0, cs0, hvv⟩ : ∃ c0 cs0, v = c0 :: cs0 := by
    cases v with
    | nil => simp at hv1
    | cons a b => exact ⟨a, b, rfl⟩
  have hvS : StillR [v] := by intro r hr; rw [List.mem_singleton.1 hr]; exact hvs
  generalize hn : rows.length = n at *
  have w1 : IntKind.wrap .i64 ((n : Int) + 1) = n + 1 := wrap_in (by omega) (by omega)
  have w2 : IntKind.wrap .i64 ((at_ : Int) + 1) = at_ + 1 := wrap_in (by omega) (by omega)
  have w3 : IntKind.wrap .i64 ((n : Int) + 1 - at_) = ((n + 1 - at_ : Nat) : Int) := by rw [wrap_in (by omega) (by omega)]; omega
  by_cases h1 : at_ = n
  · subst h1
    by_cases h2 : at_ + 1 ≤ fl.length
    · refine ⟨.ref 0 0 (at_ + 1), [⟨ovr fl at_ [v], 2, .mut⟩], ?_, ?_⟩
      · refine denF_of [] [66] [] [241] (by simp) ovls241 is_slices_Insert_api_Peer_api_Peer ?_
        simp -implicitDefEqProofs [-leave, c_slices_Insert_api_Peer_api_Peer]
        refine outK_slice (at_) (at_) (by simp; rfl) rfl (by first | rfl | omega | (simp [boundD]; done) | (simp [boundD]; omega) | (simp; done) | (simp; omega) | (simp [*]; done) | (simp [*]; omega)) (by first | rfl | omega | (simp [boundD]; done) | (simp [boundD]; omega) | (simp; done) | (simp; omega) | (simp [*]; done) | (simp [*]; omega)) (by omega) (by first | rfl | omega | (simp [boundD]; done) | (simp [boundD]; omega) | (simp; done) | (simp; omega) | (simp [*]; done) | (simp [*]; omega)) rfl (by first | rfl | omega | (simp [boundD]; done) | (simp [boundD]; omega) | (simp; done) | (simp; omega) | (simp [*]; done) | (simp [*]; omega)) ?_
        simp -implicitDefEqProofs [-leave, hv]
        repeat' (first | (refine appK2_if (by omega) ?_) | (refine appK2_else (by omega) ?_))
        simp -implicitDefEqProofs [-leave, hv, h2]
        rw [leave_lent (by omega) (by simpa using ((hfs.take _).append hvS).append (hfs.drop _))]
        simp [ovr]
      · exact outRows_of rfl rfl rfl (by rw [ovr_length (by simpa using h2)]; omega) (ins_rows1 hn h2 htake) (.inl rfl)
    · have h3 : fl.length = at_ := by omega
      refine ⟨.ref 1 0 (at_ + 1), [⟨fl, 2, .mut⟩, ⟨fl.take at_ ++ [v], 2, .mut⟩], ?_, ?_⟩
      · refine denF_of [] [66] [] [241] (by simp) ovls241 is_slices_Insert_api_Peer_api_Peer ?_
        simp -implicitDefEqProofs [-leave, c_slices_Insert_api_Peer_api_Peer]
        by_cases h0 : at_ = 0
        · refine outK_slice (at_) (at_) (by simp; rfl) rfl (by first | rfl | omega | (simp [boundD]; done) | (simp [boundD]; omega) | (simp; done) | (simp; omega) | (simp [*]; done) | (simp [*]; omega)) (by first | rfl | omega | (simp [boundD]; done) | (simp [boundD]; omega) | (simp; done) | (simp; omega) | (simp [*]; done) | (simp [*]; omega)) (by omega) (by first | rfl | omega | (simp [boundD]; done) | (simp [boundD]; omega) | (simp; done) | (simp; omega) | (simp [*]; done) | (simp [*]; omega)) rfl (by first | rfl | omega | (simp [boundD]; done) | (simp [boundD]; omega) | (simp; done) | (simp; omega) | (simp [*]; done) | (simp [*]; omega)) ?_
          simp -implicitDefEqProofs [-leave, hv, h3]
          repeat' (first | (refine appK2_if (by omega) ?_) | (refine appK2_else (by omega) ?_))
          simp -implicitDefEqProofs [-leave, hv, h3]
          rw [leave_new (by omega) rfl rfl (by simpa using hfs)]
          rfl
        · refine outK_sliceE (at_) (by simp; rfl) rfl (by first | rfl | omega | (simp [boundD]; done) | (simp [boundD]; omega) | (simp; done) | (simp; omega) | (simp [*]; done) | (simp [*]; omega)) (by first | rfl | omega | (simp [boundD]; done) | (simp [boundD]; omega) | (simp; done) | (simp; omega) | (simp [*]; done) | (simp [*]; omega)) (by first | rfl | omega | (simp [boundD]; done) | (simp [boundD]; omega) | (simp; done) | (simp; omega) | (simp [*]; done) | (simp [*]; omega)) rfl (by omega) ?_
          simp -implicitDefEqProofs [-leave, hv, h3]
          repeat' (first | (refine appK2_if (by omega) ?_) | (refine appK2_else (by omega) ?_))
          simp -implicitDefEqProofs [-leave, hv, h3]
          rw [leave_new (by omega) rfl rfl (by simpa using hfs)]
          rfl
      · exact outRows_of rfl rfl rfl (by simp; omega) (ins_rows2 hn htake) (.inr (by omega))
  · have hlt : at_ < n := by omega
    have hT1 : ∀ X : List (List D), List.take (n - at_) (List.take (n + 1 - at_) X) = List.take (n - at_) X := by
      intro X
      rw [List.take_take]
      congr 1
      omega
    have hfit : Fits 2 (List.take (n - at_) (List.drop at_ fl)) := by
      intro r hr
      rw [← List.drop_take, htake] at hr
      exact hf r (List.mem_of_mem_drop hr)
    have hrr : ∀ m, ∀ r ∈ List.take m (List.drop at_ fl), r.length = 2 := fun m r hr => hrow r (List.mem_of_mem_drop (List.mem_of_mem_take hr))
    have hT3 : ∀ X : List (List D), List.take (n - at_) (List.take (n - at_) X) = List.take (n - at_) X := by intro X; rw [List.take_take]; congr 1; omega
    have hT2 : List.take (n + 1 - at_) [v] = [v] := List.take_of_length_le (by simp; omega)
    have hap : ∀ (fl' : List (List D)) (bs : List Blk) (o l : Nat), apartD (⟨fl', 2, .mut⟩ :: bs) [.sl [v] 1, .ref 0 o l] = true := by
      intro _ _ _ _
      rw [hvv]
      rfl
    have hyl : (List.take (n - at_) (List.drop at_ fl)).length = n - at_ := by simp; omega
    have hne : ¬ (at_ : Int) = n := by omega
    by_cases h2 : n + 1 ≤ fl.length
    · have h2' : ¬ ((fl.length : Int) < (n : Int) + 1) := by omega
      refine ⟨.ref 0 0 (n + 1), [⟨ovr (ovr fl (at_ + 1) ((fl.drop at_).take (n - at_))) at_ [v], 2, .mut⟩], ?_, ?_⟩
      · refine denF_of [] [66] [] [241] (by simp) ovls241 is_slices_Insert_api_Peer_api_Peer ?_
        simp -implicitDefEqProofs [-leave, c_slices_Insert_api_Peer_api_Peer]
        refine outK_slice (at_) (n) (by simp; rfl) rfl (by first | rfl | omega | (simp [boundD]; done) | (simp [boundD]; omega) | (simp; done) | (simp; omega) | (simp [*]; done) | (simp [*]; omega)) (by first | rfl | omega | (simp [boundD]; done) | (simp [boundD]; omega) | (simp; done) | (simp; omega) | (simp [*]; done) | (simp [*]; omega)) (by omega) (by first | rfl | omega | (simp [boundD]; done) | (simp [boundD]; omega) | (simp; done) | (simp; omega) | (simp [*]; done) | (simp [*]; omega)) rfl (by first | rfl | omega | (simp [boundD]; done) | (simp [boundD]; omega) | (simp; done) | (simp; omega) | (simp [*]; done) | (simp [*]; omega)) ?_
        simp -implicitDefEqProofs [-leave, hv, h1, hne, w1, w2, h2']
        refine outK_slice (0) (n + 1) (by simp; rfl) rfl (by first | rfl | omega | (simp [boundD]; done) | (simp [boundD]; omega) | (simp; done) | (simp; omega) | (simp [*]; done) | (simp [*]; omega)) (by first | rfl | omega | (simp [boundD]; done) | (simp [boundD]; omega) | (simp; done) | (simp; omega) | (simp [*]; done) | (simp [*]; omega)) (by omega) (by first | rfl | omega | (simp [boundD]; done) | (simp [boundD]; omega) | (simp; done) | (simp; omega) | (simp [*]; done) | (simp [*]; omega)) rfl (by first | rfl | omega | (simp [boundD]; done) | (simp [boundD]; omega) | (simp; done) | (simp; omega) | (simp [*]; done) | (simp [*]; omega)) ?_
        simp -implicitDefEqProofs [-leave, hv, h1, hne, w1, w2, h2']
        refine outK_slice (at_ + 1) (n + 1) (by simp; rfl) rfl (by first | rfl | omega | (simp [boundD]; done) | (simp [boundD]; omega) | (simp; done) | (simp; omega) | (simp [*]; done) | (simp [*]; omega)) (by first | rfl | omega | (simp [boundD]; done) | (simp [boundD]; omega) | (simp; done) | (simp; omega) | (simp [*]; done) | (simp [*]; omega)) (by omega) (by first | rfl | omega | (simp [boundD]; done) | (simp [boundD]; omega) | (simp; done) | (simp; omega) | (simp [*]; done) | (simp [*]; omega)) rfl (by first | rfl | omega | (simp [boundD]; done) | (simp [boundD]; omega) | (simp; done) | (simp; omega) | (simp [*]; done) | (simp [*]; omega)) ?_
        simp -implicitDefEqProofs [-leave, hv, h1, hne, w1, w2, h2', hap]
        refine outK_slice (at_ + 1) (n + 1) (by simp; rfl) rfl (by first | rfl | omega | (simp [boundD]; done) | (simp [boundD]; omega) | (simp; done) | (simp; omega) | (simp [*]; done) | (simp [*]; omega)) (by first | rfl | omega | (simp [boundD]; done) | (simp [boundD]; omega) | (simp; done) | (simp; omega) | (simp [*]; done) | (simp [*]; omega)) (by omega) (by first | rfl | omega | (simp [boundD]; done) | (simp [boundD]; omega) | (simp; done) | (simp; omega) | (simp [*]; done) | (simp [*]; omega)) rfl (by first | rfl | omega | (simp [boundD]; done) | (simp [boundD]; omega) | (simp; done) | (simp; omega) | (simp [*]; done) | (simp [*]; omega)) ?_
        simp -implicitDefEqProofs [-leave, hv, h1, hne, w1, w2, h2']
        refine outK_slice (at_) (n + 1) (by simp; rfl) rfl (by first | rfl | omega | (simp [boundD]; done) | (simp [boundD]; omega) | (simp; done) | (simp; omega) | (simp [*]; done) | (simp [*]; omega)) (by first | rfl | omega | (simp [boundD]; done) | (simp [boundD]; omega) | (simp; done) | (simp; omega) | (simp [*]; done) | (simp [*]; omega)) (by omega) (by first | rfl | omega | (simp [boundD]; done) | (simp [boundD]; omega) | (simp; done) | (simp; omega) | (simp [*]; done) | (simp [*]; omega)) rfl (by first | rfl | omega | (simp [boundD]; done) | (simp [boundD]; omega) | (simp; done) | (simp; omega) | (simp [*]; done) | (simp [*]; omega)) ?_
        simp -implicitDefEqProofs [-leave, hv, h1, hne, w1, w2, h2', hT1, hfit]
        refine ⟨hrr _, ?_⟩
        try refine overK_if (by first | omega | (simp; done) | (simp; omega)) ?_
        have hB1 := ovr_length (rows := fl) (p := at_ + 1) (ys := List.take (n - at_) (List.drop at_ fl)) (by omega)
        have hBS := hfs.ovr ((hfs.drop at_).take (n - at_)) (at_ + 1)
        generalize hB : ovr fl (at_ + 1) (List.take (n - at_) (List.drop at_ fl)) = B at *
        simp -implicitDefEqProofs [-leave, hv, h1, hne, w1, w2, h2']
        refine outK_slice (at_) (n + 1) (by simp; rfl) rfl (by first | rfl | omega | (simp [boundD]; done) | (simp [boundD]; omega) | (simp; done) | (simp; omega) | (simp [*]; done) | (simp [*]; omega)) (by first | rfl | omega | (simp [boundD]; done) | (simp [boundD]; omega) | (simp; done) | (simp; omega) | (simp [*]; done) | (simp [*]; omega)) (by omega) (by first | rfl | omega | (simp [boundD]; done) | (simp [boundD]; omega) | (simp; done) | (simp; omega) | (simp [*]; done) | (simp [*]; omega)) rfl (by first | rfl | omega | (simp [boundD]; done) | (simp [boundD]; omega) | (simp; done) | (simp; omega) | (simp [*]; done) | (simp [*]; omega)) ?_
        simp -implicitDefEqProofs [-leave, hv, h1, hne, w1, w2, h2', hv1, hT2]
        try refine overK_if (by first | omega | (simp; done) | (simp; omega)) ?_
        simp -implicitDefEqProofs [-leave, hv, h1, hne, w1, w2, h2']
        rw [leave_lent (by omega) (by simpa using hBS.ovr hvS at_)]
        rfl
      · exact outRows_of rfl rfl rfl (by show 0 + (n + 1) ≤ (ovr (ovr fl (at_ + 1) _) at_ [v]).length; rw [ovr_length (by rw [ovr_length (by omega)]; simp; omega), ovr_length (by omega)]; omega) (ins_rowsC hn hlt h2 htake) (.inl rfl)
    · have h3 : fl.length = n := by omega
      have h3' : (n : Int) < (n : Int) + 1 := by omega
      refine ⟨.ref 1 0 (n + 1), [⟨fl, 2, .mut⟩, ⟨ovr (ovr (fl.take at_ ++ List.replicate (n + 1 - at_) (TT 204).zero) at_ [v]) (at_ + 1) ((fl.drop at_).take (n - at_)), 2, .mut⟩], ?_, ?_⟩
      · refine denF_of [] [66] [] [241] (by simp) ovls241 is_slices_Insert_api_Peer_api_Peer ?_
        simp -implicitDefEqProofs [-leave, c_slices_Insert_api_Peer_api_Peer]
        refine outK_slice (at_) (n) (by simp; rfl) rfl (by first | rfl | omega | (simp [boundD]; done) | (simp [boundD]; omega) | (simp; done) | (simp; omega) | (simp [*]; done) | (simp [*]; omega)) (by first | rfl | omega | (simp [boundD]; done) | (simp [boundD]; omega) | (simp; done) | (simp; omega) | (simp [*]; done) | (simp [*]; omega)) (by omega) (by first | rfl | omega | (simp [boundD]; done) | (simp [boundD]; omega) | (simp; done) | (simp; omega) | (simp [*]; done) | (simp [*]; omega)) rfl (by first | rfl | omega | (simp [boundD]; done) | (simp [boundD]; omega) | (simp; done) | (simp; omega) | (simp [*]; done) | (simp [*]; omega)) ?_
        simp -implicitDefEqProofs [-leave, hv, h1, hne, w1, w2, h3, h3']
        refine outK_slice (0) (at_) (by simp; rfl) rfl (by first | rfl | omega | (simp [boundD]; done) | (simp [boundD]; omega) | (simp; done) | (simp; omega) | (simp [*]; done) | (simp [*]; omega)) (by first | rfl | omega | (simp [boundD]; done) | (simp [boundD]; omega) | (simp; done) | (simp; omega) | (simp [*]; done) | (simp [*]; omega)) (by omega) (by first | rfl | omega | (simp [boundD]; done) | (simp [boundD]; omega) | (simp; done) | (simp; omega) | (simp [*]; done) | (simp [*]; omega)) rfl (by first | rfl | omega | (simp [boundD]; done) | (simp [boundD]; omega) | (simp; done) | (simp; omega) | (simp [*]; done) | (simp [*]; omega)) ?_
        simp -implicitDefEqProofs [-leave, hv, h1, hne, w1, w2, w3, h3, h3']
        refine appK_if (by omega) ?_
        have e1 : at_ + (n + 1 - at_) = n + 1 := by omega
        simp -implicitDefEqProofs [-leave, hv, h1, hne, w1, w2, w3, h3, h3', e1]
        repeat' (first | (refine appK2_if (by omega) ?_) | (refine appK2_else (by omega) ?_))
        simp -implicitDefEqProofs [-leave, hv, h1, hne, w1, w2, w3, h3, h3', e1]
        have hA1 : (List.take at_ fl ++ List.replicate (n + 1 - at_) [D.int IntKind.i64 0, D.int IntKind.i64 0]).length = n + 1 := by simp; omega
        generalize hA : List.take at_ fl ++ List.replicate (n + 1 - at_) [D.int IntKind.i64 0, D.int IntKind.i64 0] = A at *
        refine outK_slice (at_) (n + 1) (by simp; rfl) rfl (by first | rfl | omega | (simp [boundD]; done) | (simp [boundD]; omega) | (simp; done) | (simp; omega) | (simp [*]; done) | (simp [*]; omega)) (by first | rfl | omega | (simp [boundD]; done) | (simp [boundD]; omega) | (simp; done) | (simp; omega) | (simp [*]; done) | (simp [*]; omega)) (by omega) (by first | rfl | omega | (simp [boundD]; done) | (simp [boundD]; omega) | (simp; done) | (simp; omega) | (simp [*]; done) | (simp [*]; omega)) rfl (by first | rfl | omega | (simp [boundD]; done) | (simp [boundD]; omega) | (simp; done) | (simp; omega) | (simp [*]; done) | (simp [*]; omega)) ?_
        simp -implicitDefEqProofs [-leave, hv, h1, hne, w1, w2, h3, hv1, hT2]
        try refine overK_if (by first | omega | (simp; done) | (simp; omega)) ?_
        have hB1 := ovr_length (rows := A) (p := at_) (ys := [v]) (by simp; omega)
        generalize hB : ovr A at_ [v] = B at *
        simp -implicitDefEqProofs [-leave, hv, h1, hne, w1, w2, h3]
        refine outK_slice (at_ + 1) (n + 1) (by simp; rfl) rfl (by first | rfl | omega | (simp [boundD]; done) | (simp [boundD]; omega) | (simp; done) | (simp; omega) | (simp [*]; done) | (simp [*]; omega)) (by first | rfl | omega | (simp [boundD]; done) | (simp [boundD]; omega) | (simp; done) | (simp; omega) | (simp [*]; done) | (simp [*]; omega)) (by omega) (by first | rfl | omega | (simp [boundD]; done) | (simp [boundD]; omega) | (simp; done) | (simp; omega) | (simp [*]; done) | (simp [*]; omega)) rfl (by first | rfl | omega | (simp [boundD]; done) | (simp [boundD]; omega) | (simp; done) | (simp; omega) | (simp [*]; done) | (simp [*]; omega)) ?_
        simp -implicitDefEqProofs [-leave, hv, h1, hne, w1, w2, h3]
        refine outK_slice (at_) (n) (by simp; rfl) rfl (by first | rfl | omega | (simp [boundD]; done) | (simp [boundD]; omega) | (simp; done) | (simp; omega) | (simp [*]; done) | (simp [*]; omega)) (by first | rfl | omega | (simp [boundD]; done) | (simp [boundD]; omega) | (simp; done) | (simp; omega) | (simp [*]; done) | (simp [*]; omega)) (by omega) (by first | rfl | omega | (simp [boundD]; done) | (simp [boundD]; omega) | (simp; done) | (simp; omega) | (simp [*]; done) | (simp [*]; omega)) rfl (by first | rfl | omega | (simp [boundD]; done) | (simp [boundD]; omega) | (simp; done) | (simp; omega) | (simp [*]; done) | (simp [*]; omega)) ?_
        simp -implicitDefEqProofs [-leave, hv, h1, hne, w1, w2, h3, hfit, hT3]
        refine ⟨hrr _, ?_⟩
        try refine overK_if (by first | omega | (simp; done) | (simp; omega)) ?_
        try simp -implicitDefEqProofs [-leave, hv, h1, hne, w1, w2, h3]
        rw [leave_new (by omega) rfl rfl (by simpa using hfs)]
        simp [hA, hB]
      · exact outRows_of rfl rfl rfl (by
          have hA1 : (List.take at_ fl ++ List.replicate (n + 1 - at_) (TT 204).zero).length = n + 1 := by simp; omega
          show 0 + (n + 1) ≤ (ovr (ovr _ at_ [v]) (at_ + 1) _).length
          rw [ovr_length (by rw [ovr_length (by rw [hA1]; simp; omega), hA1]; omega), ovr_length (by rw [hA1]; simp; omega), hA1]; omega) (ins_rowsB hn hlt h3 htake) (.inr (by omega))
theorem clone_Item (rows : List (List D)) (hf : Fits 5 rows) (hl : rows.length * 40 ≤ 140737488355328) : Den PP 124 [.sl rows rows.length] [] (.ref 0 0 rows.length) [⟨rows, 5, .mut⟩] := by
  cases hr : rows with
  | nil =>
    refine den_zs (pre := []) (post := []) ?_ ?_
    · refine den_of [] [] is_slices_Clone_api_Item_api_Item ?_
      simp -implicitDefEqProofs [c_slices_Clone_api_Item_api_Item]
    · refine den_of [] [] is_slices_Clone_api_Item_api_Item ?_
      simp -implicitDefEqProofs [c_slices_Clone_api_Item_api_Item, Fits]
  | cons r rs =>
    rw [hr] at hf hl
    have h63 : (r :: rs).length ≤ 9223372036854775807 := by omega
    have hlen : 0 < (r :: rs).length := by simp
    generalize hn : (r :: rs).length = n at *
    generalize r :: rs = rows at *
    refine den_of [] [] is_slices_Clone_api_Item_api_Item ?_
    simp -implicitDefEqProofs [c_slices_Clone_api_Item_api_Item, hlen, List.take_of_length_le (Nat.le_of_eq hn), hf, hn, hl, h63]
theorem insert_Item (rows : List (List D)) (v : List D) (at_ : Nat) (hf : Fits 5 rows) (hst : StillR rows) (hv : Fits 5 [v]) (hvs : ∀ d ∈ v, d.still = true) (hat : at_ ≤ rows.length) (hl : rows.length ≤ 1000000) :
    GivesC (DenF PP [0]) 128 rows 5 [.int .i64 at_, .sl [v] 1] (insL rows at_ v) := by
  refine gives_of (fun r hr => (hf r hr).1) hst fun fl hfl hrow hfs htake hget => ?_
  have hv1 : v.length = 5 := (hv v (by simp)).1
  obtain ⟨c0, cs0, hvv⟩ : ∃ c0 cs0, v = c0 :: cs0 := by
    cases v with
    | nil => simp at hv1
    | cons a b => exact ⟨a, b, rfl⟩
  have hvS : StillR [v] := by intro r hr; rw [List.mem_singleton.1 hr]; exact hvs
  generalize hn : rows.length = n at *
  have w1 : IntKind.wrap .i64 ((n : Int) + 1) = n + 1 := wrap_in (by omega) (by omega)
  have w2 : IntKind.wrap .i64 ((at_ : Int) + 1) = at_ + 1 := wrap_in (by omega) (by omega)
  have w3 : IntKind.wrap .i64 ((n : Int) + 1 - at_) = ((n + 1 - at_ : Nat) : Int) := by rw [wrap_in (by omega) (by omega)]; omega
  by_cases h1 : at_ = n
  · subst h1
    by_cases h2 : at_ + 1 ≤ fl.length
    · refine ⟨.ref 0 0 (at_ + 1), [⟨ovr fl at_ [v], 5, .mut⟩], ?_, ?_⟩
      · refine denF_of [] [66] [] [197] (by simp) ovls197 is_slices_Insert_api_Item_api_Item ?_
        simp -implicitDefEqProofs [-leave, c_slices_Insert_api_Item_api_Item]
        refine outK_slice (at_) (at_) (by simp; rfl) rfl (by first | rfl | omega | (simp [boundD]; done) | (simp [boundD]; omega) | (simp; done) | (simp; omega) | (simp [*]; done) | (simp [*]; omega)) (by first | rfl | omega | (simp [boundD]; done) | (simp [boundD]; omega) | (simp; done) | (simp; omega) | (simp [*]; done) | (simp [*]; omega)) (by omega) (by first | rfl | omega | (simp [boundD]; done) | (simp [boundD]; omega) | (simp; done) | (simp; omega) | (simp [*]; done) | (simp [*]; omega)) rfl (by first | rfl | omega | (simp [boundD]; done) | (simp [boundD]; omega) | (simp; done) | (simp; omega) | (simp [*]; done) | (simp [*]; omega)) ?_
        simp -implicitDefEqProofs [-leave, hv]
        repeat' (first | (refine appK2_if (by omega) ?_) | (refine appK2_else (by omega) ?_))
        simp -implicitDefEqProofs [-leave, hv, h2]
        rw [leave_lent (by omega) (by simpa using ((hfs.take _).append hvS).append (hfs.drop _))]
        simp [ovr]
      · exact outRows_of rfl rfl rfl (by rw [ovr_length (by simpa using h2)]; omega) (ins_rows1 hn h2 htake) (.inl rfl)
    · have h3 : fl.length = at_ := by omega
      refine ⟨.ref 1 0 (at_ + 1), [⟨fl, 5, .mut⟩, ⟨fl.take at_ ++ [v], 5, .mut⟩], ?_, ?_⟩
      · refine denF_of [] [66] [] [197] (by simp) ovls197 is_slices_Insert_api_Item_api_Item ?_
        simp -implicitDefEqProofs [-leave, c_slices_Insert_api_Item_api_Item]
        by_cases h0 : at_ = 0
        · refine outK_slice (at_) (at_) (by simp; rfl) rfl (by first | rfl | omega | (simp [boundD]; done) | (simp [boundD]; omega) | (simp; done) | (simp; omega) | (simp [*]; done) | (simp [*]; omega)) (by first | rfl | omega | (simp [boundD]; done) | (simp [boundD]; omega) | (simp; done) | (simp; omega) | (simp [*]; done) | (simp [*]; omega)) (by omega) (by first | rfl | omega | (simp [boundD]; done) | (simp [boundD]; omega) | (simp; done) | (simp; omega) | (simp [*]; done) | (simp [*]; omega)) rfl (by first | rfl | omega | (simp [boundD]; done) | (simp [boundD]; omega) | (simp; done) | (simp; omega) | (simp [*]; done) | (simp [*]; omega)) ?_
          simp -implicitDefEqProofs [-leave, hv, h3]
          repeat' (first | (refine appK2_if (by omega) ?_) | (refine appK2_else (by omega) ?_))
          simp -implicitDefEqProofs [-leave, hv, h3]
          rw [leave_new (by omega) rfl rfl (by simpa using hfs)]
          rfl
        · refine outK_sliceE (at_) (by simp; rfl) rfl (by first | rfl | omega | (simp [boundD]; done) | (simp [boundD]; omega) | (simp; done) | (simp; omega) | (simp [*]; done) | (simp [*]; omega)) (by first | rfl | omega | (simp [boundD]; done) | (simp [boundD]; omega) | (simp; done) | (simp; omega) | (simp [*]; done) | (simp [*]; omega)) (by first | rfl | omega | (simp [boundD]; done) | (simp [boundD]; omega) | (simp; done) | (simp; omega) | (simp [*]; done) | (simp [*]; omega)) rfl (by omega) ?_
          simp -implicitDefEqProofs [-leave, hv, h3]
          repeat' (first | (refine appK2_if (by omega) ?_) | (refine appK2_else (by omega) ?_))
          simp -implicitDefEqProofs [-leave, hv, h3]
          rw [leave_new (by omega) rfl rfl (by simpa using hfs)]
          rfl
      · exact outRows_of rfl rfl rfl (by simp; omega) (ins_rows2 hn htake) (.inr (by omega))
  · have hlt : at_ < n := by omega
    have hT1 : ∀ X : List (List D), List.take (n - at_) (List.take (n + 1 - at_) X) = List.take (n - at_) X := by
      intro X
      rw [List.take_take]
      congr 1
      omega
    have hfit : Fits 5 (List.take (n - at_) (List.drop at_ fl)) := by
      intro r hr
      rw [← List.drop_take, htake] at hr
      exact hf r (List.mem_of_mem_drop hr)
    have hrr : ∀ m, ∀ r ∈ List.take m (List.drop at_ fl), r.length = 5 := fun m r hr => hrow r (List.mem_of_mem_drop (List.mem_of_mem_take hr))
    have hT3 : ∀ X : List (List D), List.take (n - at_) (List.take (n - at_) X) = List.take (n - at_) X := by intro X; rw [List.take_take]; congr 1; omega
    have hT2 : List.take (n + 1 - at_) [v] = [v] := List.take_of_length_le (by simp; omega)
    have hap : ∀ (fl' : List (List D)) (bs : List Blk) (o l : Nat), apartD (⟨fl', 5, .mut⟩ :: bs) [.sl [v] 1, .ref 0 o l] = true := by
      intro _ _ _ _
      rw [hvv]
      rfl
    have hyl : (List.take (n - at_) (List.drop at_ fl)).length = n - at_ := by simp; omega
    have hne : ¬ (at_ : Int) = n := by omega
    by_cases h2 : n + 1 ≤ fl.length
    · have h2' : ¬ ((fl.length : Int) < (n : Int) + 1) := by omega
      refine ⟨.ref 0 0 (n + 1), [⟨ovr (ovr fl (at_ + 1) ((fl.drop at_).take (n - at_))) at_ [v], 5, .mut⟩], ?_, ?_⟩
      · refine denF_of [] [66] [] [197] (by simp) ovls197 is_slices_Insert_api_Item_api_Item ?_
        simp -implicitDefEqProofs [-leave, c_slices_Insert_api_Item_api_Item]
        refine outK_slice (at_) (n) (by simp; rfl) rfl (by first | rfl | omega | (simp [boundD]; done) | (simp [boundD]; omega) | (simp; done) | (simp; omega) | (simp [*]; done) | (simp [*]; omega)) (by first | rfl | omega | (simp [boundD]; done) | (simp [boundD]; omega) | (simp; done) | (simp; omega) | (simp [*]; done) | (simp [*]; omega)) (by omega) (by first | rfl | omega | (simp [boundD]; done) | (simp [boundD]; omega) | (simp; done) | (simp; omega) | (simp [*]; done) | (simp [*]; omega)) rfl (by first | rfl | omega | (simp [boundD]; done) | (simp [boundD]; omega) | (simp; done) | (simp; omega) | (simp [*]; done) | (simp [*]; omega)) ?_
        simp -implicitDefEqProofs [-leave, hv, h1, hne, w1, w2, h2']
        refine outK_slice (0) (n + 1) (by simp; rfl) rfl (by first | rfl | omega | (simp [boundD]; done) | (simp [boundD]; omega) | (simp; done) | (simp; omega) | (simp [*]; done) | (simp [*]; omega)) (by first | rfl | omega | (simp [boundD]; done) | (simp [boundD]; omega) | (simp; done) | (simp; omega) | (simp [*]; done) | (simp [*]; omega)) (by omega) (by first | rfl | omega | (simp [boundD]; done) | (simp [boundD]; omega) | (simp; done) | (simp; omega) | (simp [*]; done) | (simp [*]; omega)) rfl (by first | rfl | omega | (simp [boundD]; done) | (simp [boundD]; omega) | (simp; done) | (simp; omega) | (simp [*]; done) | (simp [*]; omega)) ?_
        simp -implicitDefEqProofs [-leave, hv, h1, hne, w1, w2, h2']
        refine outK_slice (at_ + 1) (n + 1) (by simp; rfl) rfl (by first | rfl | omega | (simp [boundD]; done) | (simp [boundD]; omega) | (simp; done) | (simp; omega) | (simp [*]; done) | (simp [*]; omega)) (by first | rfl | omega | (simp [boundD]; done) | (simp [boundD]; omega) | (simp; done) | (simp; omega) | (simp [*]; done) | (simp [*]; omega)) (by omega) (by first | rfl | omega | (simp [boundD]; done) | (simp [boundD]; omega) | (simp; done) | (simp; omega) | (simp [*]; done) | (simp [*]; omega)) rfl (by first | rfl | omega | (simp [boundD]; done) | (simp [boundD]; omega) | (simp; done) | (simp; omega) | (simp [*]; done) | (simp [*]; omega)) ?_
        simp -implicitDefEqProofs [-leave, hv, h1, hne, w1, w2, h2', hap]
        refine outK_slice (at_ + 1) (n + 1) (by simp; rfl) rfl (by first | rfl | omega | (simp [boundD]; done) | (simp [boundD]; omega) | (simp; done) | (simp; omega) | (simp [*]; done) | (simp [*]; omega)) (by first | rfl | omega | (simp [boundD]; done) | (simp [boundD]; omega) | (simp; done) | (simp; omega) | (simp [*]; done) | (simp [*]; omega)) (by omega) (by first | rfl | omega | (simp [boundD]; done) | (simp [boundD]; omega) | (simp; done) | (simp; omega) | (simp [*]; done) | (simp [*]; omega)) rfl (by first | rfl | omega | (simp [boundD]; done) | (simp [boundD]; omega) | (simp; done) | (simp; omega) | (simp [*]; done) | (simp [*]; omega)) ?_
        simp -implicitDefEqProofs [-leave, hv, h1, hne, w1, w2, h2']
        refine outK_slice (at_) (n + 1) (by simp; rfl) rfl (by first | rfl | omega | (simp [boundD]; done) | (simp [boundD]; omega) | (simp; done) | (simp; omega) | (simp [*]; done) | (simp [*]; omega)) (by first | rfl | omega | (simp [boundD]; done) | (simp [boundD]; omega) | (simp; done) | (simp; omega) | (simp [*]; done) | (simp [*]; omega)) (by omega) (by first | rfl | omega | (simp [boundD]; done) | (simp [boundD]; omega) | (simp; done) | (simp; omega) | (simp [*]; done) | (simp [*]; omega)) rfl (by first | rfl | omega | (simp [boundD]; done) | (simp [boundD]; omega) | (simp; done) | (simp; omega) | (simp [*]; done) | (simp [*]; omega)) ?_
        simp -implicitDefEqProofs [-leave, hv, h1, hne, w1, w2, h2', hT1, hfit]
        refine ⟨hrr _, ?_⟩
        try refine overK_if (by first | omega | (simp; done) | (simp; omega)) ?_
        have hB1 := ovr_length (rows := fl) (p := at_ + 1) (ys := List.take (n - at_) (List.drop at_ fl)) (by omega)
        have hBS := hfs.ovr ((hfs.drop at_).take (n - at_)) (at_ + 1)
        generalize hB : ovr fl (at_ + 1) (List.take (n - at_) (List.drop at_ fl)) = B at *
        simp -implicitDefEqProofs [-leave, hv, h1, hne, w1, w2, h2']
        refine outK_slice (at_) (n + 1) (by simp; rfl) rfl (by first | rfl | omega | (simp [boundD]; done) | (simp [boundD]; omega) | (simp; done) | (simp; omega) | (simp [*]; done) | (simp [*]; omega)) (by first | rfl | omega | (simp [boundD]; done) | (simp [boundD]; omega) | (simp; done) | (simp; omega) | (simp [*]; done) | (simp [*]; omega)) (by omega) (by first | rfl | omega | (simp [boundD]; done) | (simp [boundD]; omega) | (simp; done) | (simp; omega) | (simp [*]; done) | (simp [*]; omega)) rfl (by first | rfl | omega | (simp [boundD]; done) | (simp [boundD]; omega) | (simp; done) | (simp; omega) | (simp [*]; done) | (simp [*]; omega)) ?_
        simp -implicitDefEqProofs [-leave, hv, h1, hne, w1, w2, h2', hv1, hT2]
        try refine overK_if (by first | omega | (simp; done) | (simp; omega)) ?_
        simp -implicitDefEqProofs [-leave, hv, h1, hne, w1, w2, h2']
        rw [leave_lent (by omega) (by simpa using hBS.ovr hvS at_)]
        rfl
      · exact outRows_of rfl rfl rfl (by show 0 + (n + 1) ≤ (ovr (ovr fl (at_ + 1) _) at_ [v]).length; rw [ovr_length (by rw [ovr_length (by omega)]; simp; omega), ovr_length (by omega)]; omega) (ins_rowsC hn hlt h2 htake) (.inl rfl)
    · have h3 : fl.length = n := by omega
      have h3' : (n : Int) < (n : Int) + 1 := by omega
      refine ⟨.ref 1 0 (n + 1), [⟨fl, 5, .mut⟩, ⟨ovr (ovr (fl.take at_ ++ List.replicate (n + 1 - at_) (TT 46).zero) at_ [v]) (at_ + 1) ((fl.drop at_).take (n - at_)), 5, .mut⟩], ?_, ?_⟩
      · refine denF_of [] [66] [] [197] (by simp) ovls197 is_slices_Insert_api_Item_api_Item ?_
        simp -implicitDefEqProofs [-leave, c_slices_Insert_api_Item_api_Item]
        refine outK_slice (at_) (n) (by simp; rfl) rfl (by first | rfl | omega | (simp [boundD]; done) | (simp [boundD]; omega) | (simp; done) | (simp; omega) | (simp [*]; done) | (simp [*]; omega)) (by first | rfl | omega | (simp [boundD]; done) | (simp [boundD]; omega) | (simp; done) | (simp; omega) | (simp [*]; done) | (simp [*]; omega)) (by omega) (by first | rfl | omega | (simp [boundD]; done) | (simp [boundD]; omega) | (simp; done) | (simp; omega) | (simp [*]; done) | (simp [*]; omega)) rfl (by first | rfl | omega | (simp [boundD]; done) | (simp [boundD]; omega) | (simp; done) | (simp; omega) | (simp [*]; done) | (simp [*]; omega)) ?_
        simp -implicitDefEqProofs [-leave, hv, h1, hne, w1, w2, h3, h3']
        refine outK_slice (0) (at_) (by simp; rfl) rfl (by first | rfl | omega | (simp [boundD]; done) | (simp [boundD]; omega) | (simp; done) | (simp; omega) | (simp [*]; done) | (simp [*]; omega)) (by first | rfl | omega | (simp [boundD]; done) | (simp [boundD]; omega) | (simp; done) | (simp; omega) | (simp [*]; done) | (simp [*]; omega)) (by omega) (by first | rfl | omega | (simp [boundD]; done) | (simp [boundD]; omega) | (simp; done) | (simp; omega) | (simp [*]; done) | (simp [*]; omega)) rfl (by first | rfl | omega | (simp [boundD]; done) | (simp [boundD]; omega) | (simp; done) | (simp; omega) | (simp [*]; done) | (simp [*]; omega)) ?_
        simp -implicitDefEqProofs [-leave, hv, h1, hne, w1, w2, w3, h3, h3']
        refine appK_if (by omega) ?_
        have e1 : at_ + (n + 1 - at_) = n + 1 := by omega
        simp -implicitDefEqProofs [-leave, hv, h1, hne, w1, w2, w3, h3, h3', e1]
        repeat' (first | (refine appK2_if (by omega) ?_) | (refine appK2_else (by omega) ?_))
        simp -implicitDefEqProofs [-leave, hv, h1, hne, w1, w2, w3, h3, h3', e1]
        have hA1 : (List.take at_ fl ++ List.replicate (n + 1 - at_) [D.int IntKind.i64 0, D.int IntKind.i64 0, D.int IntKind.i64 0, D.int IntKind.i64 0, D.bool false]).length = n + 1 := by simp; omega
        generalize hA : List.take at_ fl ++ List.replicate (n + 1 - at_) [D.int IntKind.i64 0, D.int IntKind.i64 0, D.int IntKind.i64 0, D.int IntKind.i64 0, D.bool false] = A at *
        refine outK_slice (at_) (n + 1) (by simp; rfl) rfl (by first | rfl | omega | (simp [boundD]; done) | (simp [boundD]; omega) | (simp; done) | (simp; omega) | (simp [*]; done) | (simp [*]; omega)) (by first | rfl | omega | (simp [boundD]; done) | (simp [boundD]; omega) | (simp; done) | (simp; omega) | (simp [*]; done) | (simp [*]; omega)) (by omega) (by first | rfl | omega | (simp [boundD]; done) | (simp [boundD]; omega) | (simp; done) | (simp; omega) | (simp [*]; done) | (simp [*]; omega)) rfl (by first | rfl | omega | (simp [boundD]; done) | (simp [boundD]; omega) | (simp; done) | (simp; omega) | (simp [*]; done) | (simp [*]; omega)) ?_
        simp -implicitDefEqProofs [-leave, hv, h1, hne, w1, w2, h3, hv1, hT2]
        try refine overK_if (by first | omega | (simp; done) | (simp; omega)) ?_
        have hB1 := ovr_length (rows := A) (p := at_) (ys := [v]) (by simp; omega)
        generalize hB : ovr A at_ [v] = B at *
        simp -implicitDefEqProofs [-leave, hv, h1, hne, w1, w2, h3]
        refine outK_slice (at_ + 1) (n + 1) (by simp; rfl) rfl (by first | rfl | omega | (simp [boundD]; done) | (simp [boundD]; omega) | (simp; done) | (simp; omega) | (simp [*]; done) | (simp [*]; omega)) (by first | rfl | omega | (simp [boundD]; done) | (simp [boundD]; omega) | (simp; done) | (simp; omega) | (simp [*]; done) | (simp [*]; omega)) (by omega) (by first | rfl | omega | (simp [boundD]; done) | (simp [boundD]; omega) | (simp; done) | (simp; omega) | (simp [*]; done) | (simp [*]; omega)) rfl (by first | rfl | omega | (simp [boundD]; done) | (simp [boundD]; omega) | (simp; done) | (simp; omega) | (simp [*]; done) | (simp [*]; omega)) ?_
        simp -implicitDefEqProofs [-leave, hv, h1, hne, w1, w2, h3]
        refine outK_slice (at_) (n) (by simp; rfl) rfl (by first | rfl | omega | (simp [boundD]; done) | (simp [boundD]; omega) | (simp; done) | (simp; omega) | (simp [*]; done) | (simp [*]; omega)) (by first | rfl | omega | (simp [boundD]; done) | (simp [boundD]; omega) | (simp; done) | (simp; omega) | (simp [*]; done) | (simp [*]; omega)) (by omega) (by first | rfl | omega | (simp [boundD]; done) | (simp [boundD]; omega) | (simp; done) | (simp; omega) | (simp [*]; done) | (simp [*]; omega)) rfl (by first | rfl | omega | (simp [boundD]; done) | (simp [boundD]; omega) | (simp; done) | (simp; omega) | (simp [*]; done) | (simp [*]; omega)) ?_
        simp -implicitDefEqProofs [-leave, hv, h1, hne, w1, w2, h3, hfit, hT3]
        refine ⟨hrr _, ?_⟩
        try refine overK_if (by first | omega | (simp; done) | (simp; omega)) ?_
        try simp -implicitDefEqProofs [-leave, hv, h1, hne, w1, w2, h3]
        rw [leave_new (by omega) rfl rfl (by simpa using hfs)]
        simp [hA, hB]
      · exact outRows_of rfl rfl rfl (by
          have hA1 : (List.take at_ fl ++ List.replicate (n + 1 - at_) (TT 46).zero).length = n + 1 := by simp; omega
          show 0 + (n + 1) ≤ (ovr (ovr _ at_ [v]) (at_ + 1) _).length
          rw [ovr_length (by rw [ovr_length (by rw [hA1]; simp; omega), hA1]; omega), ovr_length (by rw [hA1]; simp; omega), hA1]; omega) (ins_rowsB hn hlt h3 htake) (.inr (by omega))
theorem clone_Told (rows : List (List D)) (hf : Fits 3 rows) (hl : rows.length * 24 ≤ 140737488355328) : Den PP 170 [.sl rows rows.length] [] (.ref 0 0 rows.length) [⟨rows, 3, .mut⟩] := by
  cases hr : rows with
  | nil =>
    refine den_zs (pre := []) (post := []) ?_ ?_
    · refine den_of [] [] is_slices_Clone_api_Told_api_Told ?_
      simp -implicitDefEqProofs [c_slices_Clone_api_Told_api_Told]
    · refine den_of [] [] is_slices_Clone_api_Told_api_Told ?_
      simp -implicitDefEqProofs [c_slices_Clone_api_Told_api_Told, Fits]
  | cons r rs =>
    rw [hr] at hf hl
    have h63 : (r :: rs).length ≤ 9223372036854775807 := by omega
    have hlen : 0 < (r :: rs).length := by simp
    generalize hn : (r :: rs).length = n at *
    generalize r :: rs = rows at *
    refine den_of [] [] is_slices_Clone_api_Told_api_Told ?_
    simp -implicitDefEqProofs [c_slices_Clone_api_Told_api_Told, hlen, List.take_of_length_le (Nat.le_of_eq hn), hf, hn, hl, h63]
end Go.AM
/- AM: contracts: a view's ends, a key's owner. -/
namespace Go.AM
set_option linter.unusedSimpArgs false
set_option linter.unusedVariables false
set_option maxRecDepth 8000
set_option maxHeartbeats 0
end Go.AM
/- AM: contracts: a key's owner. -/
namespace Go.AM
set_option linter.unusedSimpArgs false
set_option linter.unusedVariables false
set_option maxRecDepth 8000
set_option maxHeartbeats 0
end Go.AM
/- AM: contracts: the document's answers about views. -/
namespace Go.AM
set_option linter.unusedSimpArgs false
set_option linter.unusedVariables false
set_option maxRecDepth 8000
set_option maxHeartbeats 0
theorem law_SameInts (xs ys : List Int) (hl : xs.length ≤ cap) : Den PP 104 [intsD xs, intsD ys] [] (.bool (decide (xs = ys))) [] := by
  refine den_of [] [] is_gimmallaw0_SameInts ?_
  simp -implicitDefEqProofs [c_gimmallaw0_SameInts, intsD]
  refine condC_split (fun h => ?_) (fun h => ?_)
  · simp -implicitDefEqProofs
    intro he
    subst he
    simp at h
  have hlen : xs.length = ys.length := by simp at h; omega
  simp -implicitDefEqProofs
  refine anyLoop_of (xs.length + 1) ?_
  have key : ∀ (Q : Ex → St → Prop) (r : Bool) (hQ1 : ∀ fr, r = true → Q .normal ⟨fr, []⟩) (hQ2 : ∀ fr bs, r = false → fr 4 = .bool false → Q .ret ⟨fr, bs⟩) (rest : List Int) (i : Nat) (fr : Nat → D), xs.drop i = rest → i ≤ xs.length →
      fr 0 = .sl (xs.map irow) xs.length → fr 1 = .sl (ys.map irow) ys.length → fr 5 = .int .i64 i → decide (rest = ys.drop i) = r → sLoop (cf 0 [] []) 0 c_gimmallaw0_SameInts_L0 (blockQ 0 Q) (rest.length + 1) ⟨fr, []⟩ := by
    intro Q r hQ1 hQ2 rest
    induction rest with
    | nil =>
      intro i fr e hi h0 h1 h5 hm
      refine sLoop_body c_gimmallaw0_SameInts_L0.eq_1 ?_
      have hi' := drop_nil e hi
      simp -implicitDefEqProofs [h0, h1, h5, hi']
      exact hQ1 _ (by rw [← hm, hi', hlen]; simp)
    | cons x rest ih =>
      intro i fr e hi h0 h1 h5 hm
      refine sLoop_body c_gimmallaw0_SameInts_L0.eq_1 ?_
      obtain ⟨hlt, hget, hd, hl2⟩ := drop_cons e
      have hlt' : (i : Int) < xs.length := by omega
      have hlt2 : (i : Int) < ys.length := by omega
      have hw := wrap_next (n := i) (by unfold cap at hl; omega)
      obtain ⟨y, hy⟩ : ∃ y, ys[i]? = some y := ⟨ys[i], by simp⟩
      have hyd : ys.drop i = y :: ys.drop (i + 1) := by
        rw [List.drop_eq_getElem_cons (by omega)]
        have : ys[i] = y := by
          have := (List.getElem?_eq_some_iff.1 hy).2
          exact this
        rw [this]
      simp -implicitDefEqProofs [h0, h1, h5, hlt', hlt2, hget, hy, irow]
      refine condC_split (fun h2 => ?_) (fun h2 => ?_)
      all_goals simp -implicitDefEqProofs [h2, h0, h1, h5, hw]
      · refine hQ2 _ _ ?_ (by rfl)
        rw [← hm, hyd]
        simp at h2
        simp [h2]
      · refine ih (i + 1) _ hd (by omega) (by simp [h0, h1, h5]) (by simp [h0, h1, h5]) (by simp) ?_
        rw [← hm, hyd]
        simp at h2
        simp [h2]
  refine key _ (decide (xs = ys)) (fun fr h => ?_) (fun fr bs h h2 => ?_) xs 0 _ rfl (Nat.zero_le _) rfl rfl rfl rfl
  · simp -implicitDefEqProofs [h]
  · simp -implicitDefEqProofs [h, h2]

theorem ref_PassiveMay (xs : List Int) (hl : xs.length ≤ cap) : Den PP 213 [intsD xs] [] (.bool (refPassiveMay xs)) [] := by
  have hc := ref_placesMay xs hl
  simp [intsD] at hc
  refine den_of [] [] is_gimmalref1_PassiveMay ?_
  simp -implicitDefEqProofs [c_gimmalref1_PassiveMay, intsD]
  refine anyLoop_of (xs.length + 1) ?_
  have key : ∀ (Q : Ex → St → Prop) (r : Bool) (hQ1 : ∀ fr, r = true → fr 0 = .sl (xs.map irow) xs.length → Q .normal ⟨fr, []⟩) (hQ2 : ∀ fr bs, r = false → fr 2 = .bool false → Q .ret ⟨fr, bs⟩) (n j : Nat) (fr : Nat → D), xs.length - j ≤ n → 1 ≤ j →
      fr 0 = .sl (xs.map irow) xs.length → fr 3 = .int .i64 j → incrAt xs j = r → sLoop (cf 0 [] []) 0 c_gimmalref1_PassiveMay_L0 (blockQ 0 Q) (n + 1) ⟨fr, []⟩ := by
    intro Q r hQ1 hQ2 n
    induction n with
    | zero =>
      intro j fr hn hj h0 h3 hm
      refine sLoop_body c_gimmalref1_PassiveMay_L0.eq_1 ?_
      have hx : ¬ (j < xs.length) := by omega
      simp -implicitDefEqProofs [h0, h3, hx]
      exact hQ1 _ (by rw [← hm]; exact incrAt_end (List.drop_of_length_le (by omega))) (by simp [h0, h3])
    | succ n ih =>
      intro j fr hn hj h0 h3 hm
      refine sLoop_body c_gimmalref1_PassiveMay_L0.eq_1 ?_
      by_cases hx : j < xs.length
      · have hlt' : (j : Int) < xs.length := by omega
        have hw := wrap_next (n := j) (by unfold cap at hl; omega)
        have hwp : IntKind.wrap .i64 ((j : Int) - 1) = ((j - 1 : Nat) : Int) := by unfold cap at hl; rw [wrap_in (by omega) (by omega)]; omega
        have hlt2 : ((j - 1 : Nat) : Int) < xs.length := by omega
        obtain ⟨x, hxv⟩ : ∃ x, xs[j]? = some x := ⟨xs[j], by simp⟩
        obtain ⟨y, hyv⟩ : ∃ y, xs[j - 1]? = some y := ⟨xs[j - 1], by simp⟩
        rw [incrAt_next hj hyv hxv] at hm
        simp -implicitDefEqProofs [h0, h3, hlt', hwp, hlt2, hxv, hyv, irow]
        refine condC_dec (fun h2 => ?_) (fun h2 => ?_)
        all_goals simp -implicitDefEqProofs [h2, h0, h3, hw]
        · exact hQ2 _ _ (by rw [← hm]; simp; intros; omega) (by rfl)
        · exact ih (j + 1) _ (by omega) (by omega) (by simp [h0, h3]) (by simp) (by rw [← hm]; simp [show y < x by omega])
      · simp -implicitDefEqProofs [h0, h3, hx]
        exact hQ1 _ (by rw [← hm]; exact incrAt_end (List.drop_of_length_le (by omega))) (by simp [h0, h3])
  refine key _ (incr xs) (fun fr h h0 => ?_) (fun fr bs h h2 => ?_) xs.length 1 _ (by omega) (by omega) rfl rfl (incrAt_start xs)
  · simp -implicitDefEqProofs [h, h0]
    refine callThen_of hc ?_
    simp -implicitDefEqProofs
    refine gOps_split (fun h2 => ?_) (fun h2 => ?_)
    all_goals simp -implicitDefEqProofs [h2, h, h0, refPassiveMay]
    omega
  · simp -implicitDefEqProofs [h, h2, refPassiveMay]
end Go.AM
/- AM: contracts: the document's peers. -/
namespace Go.AM
set_option linter.unusedSimpArgs false
set_option linter.unusedVariables false
set_option maxRecDepth 8000
set_option maxHeartbeats 0
theorem ref_PeersMay (base : Int) (ps : List Peer) (hl : ps.length ≤ cap) : Den PP 212 [.int .i64 base, peersD ps] [] (.bool (refPeersMay base ps)) [] := by
  refine den_of [] [] is_gimmalref1_PeersMay ?_
  simp -implicitDefEqProofs [c_gimmalref1_PeersMay, peersD]
  refine anyLoop_of (ps.length + 1) ?_
  have key : ∀ (Q : Ex → St → Prop) (r : Bool) (hQ1 : ∀ fr, r = true → fr 0 = .int .i64 base → fr 1 = .sl (ps.map Peer.row) ps.length → Q .normal ⟨fr, []⟩) (hQ2 : ∀ fr bs, r = false → fr 4 = .bool false → Q .ret ⟨fr, bs⟩) (rest : List Peer) (i : Nat) (fr : Nat → D), ps.drop i = rest → i ≤ ps.length →
      fr 0 = .int .i64 base → fr 1 = .sl (ps.map Peer.row) ps.length → fr 5 = .int .i64 i → refPeersOk base (if i = 0 then none else ps[i - 1]?) rest = r → sLoop (cf 0 [] []) 0 c_gimmalref1_PeersMay_L0 (blockQ 0 Q) (rest.length + 1) ⟨fr, []⟩ := by
    intro Q r hQ1 hQ2 rest
    induction rest with
    | nil =>
      intro i fr e hi h0 h1 h5 hm
      refine sLoop_body c_gimmalref1_PeersMay_L0.eq_1 ?_
      have hi' := drop_nil e hi
      simp -implicitDefEqProofs [h0, h1, h5, hi']
      exact hQ1 _ hm.symm (by simp [h0, h1, h5]) (by simp [h0, h1, h5])
    | cons p rest ih =>
      intro i fr e hi h0 h1 h5 hm
      refine sLoop_body c_gimmalref1_PeersMay_L0.eq_1 ?_
      obtain ⟨hlt, hget, hd, hlen⟩ := drop_cons e
      have hlt' : (i : Int) < ps.length := by omega
      have hw := wrap_next (n := i) (by unfold cap at hl; omega)
      have hprev : (if i + 1 = 0 then none else ps[i + 1 - 1]?) = some p := by simp [hget]
      simp only [refPeersOk] at hm
      simp -implicitDefEqProofs [h0, h1, h5, hlt', hget, Peer.row]
      refine callThen_of (ref_PlaceMay p.id) ?_
      simp -implicitDefEqProofs [h0, h1, h5]
      refine gOps_split (fun g1 => ?_) (fun g1 => ?_)
      rotate_left
      · simp -implicitDefEqProofs [g1, h0, h1, h5]
        exact hQ2 _ _ (by rw [← hm]; simp [g1]) (by rfl)
      simp -implicitDefEqProofs [g1, h0, h1, h5, hlt', hget, Peer.row]
      refine gOps_not (fun g2 => ?_) (fun g2 => ?_)
      · simp -implicitDefEqProofs [g2, h0, h1, h5]
        exact hQ2 _ _ (by rw [← hm]; simp at g2; simp [g2]) (by rfl)
      simp -implicitDefEqProofs [g2, h0, h1, h5, hlt', hget, Peer.row]
      refine gOps_ndec (fun g3 => ?_) (fun g3 => ?_)
      · simp -implicitDefEqProofs [g3, h0, h1, h5]
        exact hQ2 _ _ (by rw [← hm]; simp; intros; omega) (by rfl)
      simp -implicitDefEqProofs [g3, h0, h1, h5, hlt', hget, Peer.row]
      refine gOps_ndec (fun g4 => ?_) (fun g4 => ?_)
      · simp -implicitDefEqProofs [g4, h0, h1, h5]
        exact hQ2 _ _ (by rw [← hm]; simp; intros; omega) (by rfl)
      simp -implicitDefEqProofs [g4, h0, h1, h5, hlt', hget, Peer.row]
      have g2' : decide (p.id ≠ base) = true := by simp at g2; simp [g2]
      rw [g1, g2', decide_eq_true (show 0 ≤ p.missed by omega), decide_eq_true (show p.missed < 3 by omega)] at hm
      by_cases hi0 : i = 0
      · simp -implicitDefEqProofs [hi0, h0, h1, h5]
        rw [hi0] at hw
        simp -implicitDefEqProofs at hw
        simp -implicitDefEqProofs [hw]
        refine ih 1 _ (by rw [← hd, hi0]) (by omega) (by simp [h0, h1, h5]) (by simp [h0, h1, h5]) (by simp) ?_
        rw [hi0] at hprev hm
        rw [← hm]
        simp at hprev ⊢
        rw [hprev]
      · have hpos : 0 < i := by omega
        have hwp : IntKind.wrap .i64 ((i : Int) - 1) = ((i - 1 : Nat) : Int) := by unfold cap at hl; rw [wrap_in (by omega) (by omega)]; omega
        have hlt2 : ((i - 1 : Nat) : Int) < ps.length := by omega
        obtain ⟨q, hq⟩ : ∃ q, ps[i - 1]? = some q := ⟨ps[i - 1], by simp⟩
        rw [if_neg hi0, hq] at hm
        simp -implicitDefEqProofs [hpos, h0, h1, h5, hwp, hlt2, hq, Peer.row]
        refine callThen_of (ref_far base q.id) ?_
        simp -implicitDefEqProofs [h0, h1, h5, hlt', hget, Peer.row]
        refine callThen_of (ref_far base p.id) ?_
        simp -implicitDefEqProofs [h0, h1, h5]
        refine condC_dec (fun h2 => ?_) (fun h2 => ?_)
        all_goals simp -implicitDefEqProofs [h2, h0, h1, h5, hw]
        · exact hQ2 _ _ (by rw [← hm]; simp; intros; omega) (by rfl)
        · refine ih (i + 1) _ hd (by omega) (by simp [h0, h1, h5]) (by simp [h0, h1, h5]) (by simp) ?_
          rw [hprev, ← hm]
          simp [show far base q.id < far base p.id by omega]
  refine key _ (refPeersOk base none ps) (fun fr h h0 h1 => ?_) (fun fr bs h h4 => ?_) ps 0 _ rfl (Nat.zero_le _) rfl rfl rfl rfl
  · simp -implicitDefEqProofs [h, h0, h1]
    refine callThen_of (ref_PlaceMay base) ?_
    simp -implicitDefEqProofs [h0, h1]
    refine gOps_split (fun h2 => ?_) (fun h2 => ?_)
    all_goals simp -implicitDefEqProofs [h2, h, h0, h1, refPeersMay]
    omega
  · simp -implicitDefEqProofs [h, h4, refPeersMay]
end Go.AM
/- AM: contracts: the document's answers about views. -/
namespace Go.AM
set_option linter.unusedSimpArgs false
set_option linter.unusedVariables false
set_option maxRecDepth 8000
set_option maxHeartbeats 0
def inv_Heard (base : Int) (ps : List Peer) (id : Int) (i : Nat) (rest : List Peer) : St → Prop := fun ⟨fr, bs⟩ => ∃ acc inn, bs = [⟨[], 2, .mut⟩, ⟨acc.map Peer.row, 2, .mut⟩] ∧ acc.length ≤ 2 * i ∧ acc ++ hearG base id inn rest = hearG base id false ps ∧
  fr 0 = .int .i64 base ∧ fr 1 = .sl (ps.map Peer.row) ps.length ∧ fr 2 = .int .i64 id ∧ fr 8 = .ref 1 0 acc.length ∧ fr 9 = .bool inn ∧ fr 10 = .int .i64 i
def end_Heard (base : Int) (ps : List Peer) (id : Int) : St → Prop := fun ⟨fr, bs⟩ => ∃ acc inn, bs = [⟨[], 2, .mut⟩, ⟨acc.map Peer.row, 2, .mut⟩] ∧ acc.length ≤ 2 * ps.length ∧ acc ++ hearG base id inn [] = hearG base id false ps ∧
  fr 2 = .int .i64 id ∧ fr 8 = .ref 1 0 acc.length ∧ fr 9 = .bool inn
theorem ref_Heard (base : Int) (ps : List Peer) (id : Int) (hl : ps.length ≤ cap16) :
    Den PP 217 [.int .i64 base, peersD ps, .int .i64 id] [] (.tup [.ref 0 0 (refHeard base ps id).1.length, .int .i64 (refHeard base ps id).2]) [⟨(refHeard base ps id).1.map Peer.row, 2, .mut⟩] := by
  have hc := ref_PeersMay base ps (cap_of hl)
  simp [peersD] at hc
  refine den_of [] [] is_gimmalref1_Heard ?_
  simp -implicitDefEqProofs [c_gimmalref1_Heard, peersD]
  repeat' ((first | refine callThen_of (by first | exact hc | exact ref_PlaceMay _) ?_ | with_reducible refine gOps_dec (fun _ => ?_) (fun _ => ?_) | with_reducible refine gOps_ndec (fun _ => ?_) (fun _ => ?_) | (with_reducible refine gOps_and (fun hq => ?_) (fun hq => ?_) <;> (try simp at hq)) | (with_reducible refine gOps_or (fun hq => ?_) (fun hq => ?_) <;> (try simp at hq)) | (with_reducible refine gOps_not (fun hq => ?_) (fun hq => ?_) <;> (try simp at hq)) | (with_reducible refine gOps_split (fun hq => ?_) (fun hq => ?_) <;> (try simp at hq)) | with_reducible refine condC_dec (fun _ => ?_) (fun _ => ?_) | with_reducible refine condC_ndec (fun _ => ?_) (fun _ => ?_) | (with_reducible refine condC_and (fun hq => ?_) (fun hq => ?_) <;> (try simp at hq)) | (with_reducible refine condC_or (fun hq => ?_) (fun hq => ?_) <;> (try simp at hq)) | (with_reducible refine condC_not (fun hq => ?_) (fun hq => ?_) <;> (try simp at hq)) | (with_reducible refine condC_split (fun hq => ?_) (fun hq => ?_) <;> (try simp at hq)) | refine appK2_if (by omega) ?_ | refine pureV_if (by omega) ?_) <;> simp -implicitDefEqProofs [*, refHeard])
  have hps : ps.length ≤ 16 := by
    have := ‹refPeersMay base ps = true›
    simp [refPeersMay] at this
    omega
  refine list_rule ps (inv_Heard base ps id) (end_Heard base ps id) (fun _ => False) c_gimmalref1_Heard_L0.eq_1 ?_ ?_ ?_ ?_ ?_
  · exact ⟨[], false, rfl, by simp, rfl, rfl, rfl, rfl, rfl, rfl, rfl⟩
  · rintro i ⟨fr, bs⟩ hi ⟨acc, inn, hb, hal, he, h0, h1, h2, h8, h9, h10⟩
    simp -implicitDefEqProofs [*]
    exact ⟨acc, inn, by simp [*], by simpa [hi] using hal, he, by simp [*], by simp [*], by simp [*]⟩
  · rintro i p rest ⟨fr, bs⟩ hlt hget hg hd hd2 ⟨acc, inn, hb, hal, he, h0, h1, h2, h8, h9, h10⟩
    have hlt' : (i : Int) < ps.length := by omega
    have hw := wrap_next (n := i) (by unfold cap16 at hl; omega)
    simp only [hearG] at he
    subst hb
    simp -implicitDefEqProofs [h0, h1, h2, h8, h9, h10, hlt', hget, Peer.row]
    have r1 := ref_far base p.id
    have r2 := ref_far base id
    repeat' ((first | refine callThen_of (by first | exact r1 | exact r2) ?_ | with_reducible refine gOps_dec (fun _ => ?_) (fun _ => ?_) | with_reducible refine gOps_ndec (fun _ => ?_) (fun _ => ?_) | (with_reducible refine gOps_and (fun hq => ?_) (fun hq => ?_) <;> (try simp at hq)) | (with_reducible refine gOps_or (fun hq => ?_) (fun hq => ?_) <;> (try simp at hq)) | (with_reducible refine gOps_not (fun hq => ?_) (fun hq => ?_) <;> (try simp at hq)) | (with_reducible refine gOps_split (fun hq => ?_) (fun hq => ?_) <;> (try simp at hq)) | with_reducible refine condC_dec (fun _ => ?_) (fun _ => ?_) | with_reducible refine condC_ndec (fun _ => ?_) (fun _ => ?_) | (with_reducible refine condC_and (fun hq => ?_) (fun hq => ?_) <;> (try simp at hq)) | (with_reducible refine condC_or (fun hq => ?_) (fun hq => ?_) <;> (try simp at hq)) | (with_reducible refine condC_not (fun hq => ?_) (fun hq => ?_) <;> (try simp at hq)) | (with_reducible refine condC_split (fun hq => ?_) (fun hq => ?_) <;> (try simp at hq)) | refine appK2_if (by omega) ?_ | refine pureV_if (by omega) ?_) <;> simp -implicitDefEqProofs [*, Peer.row, Fits])
    all_goals
      refine ⟨acc ++ ((if inn = false ∧ far base id ≤ far base p.id then [⟨id, 0⟩] else []) ++ (if p.id = id then [] else [p])), inn || decide (far base id ≤ far base p.id), ?_⟩
      simp [*, Peer.row]
      grind
  · rintro ⟨fr, bs⟩ ⟨acc, inn, rfl, hal, he, h2, h8, h9⟩
    simp only [hearG] at he
    simp -implicitDefEqProofs [h2, h8, h9]
    repeat' ((first | with_reducible refine gOps_dec (fun _ => ?_) (fun _ => ?_) | with_reducible refine gOps_ndec (fun _ => ?_) (fun _ => ?_) | (with_reducible refine gOps_and (fun hq => ?_) (fun hq => ?_) <;> (try simp at hq)) | (with_reducible refine gOps_or (fun hq => ?_) (fun hq => ?_) <;> (try simp at hq)) | (with_reducible refine gOps_not (fun hq => ?_) (fun hq => ?_) <;> (try simp at hq)) | (with_reducible refine gOps_split (fun hq => ?_) (fun hq => ?_) <;> (try simp at hq)) | with_reducible refine condC_dec (fun _ => ?_) (fun _ => ?_) | with_reducible refine condC_ndec (fun _ => ?_) (fun _ => ?_) | (with_reducible refine condC_and (fun hq => ?_) (fun hq => ?_) <;> (try simp at hq)) | (with_reducible refine condC_or (fun hq => ?_) (fun hq => ?_) <;> (try simp at hq)) | (with_reducible refine condC_not (fun hq => ?_) (fun hq => ?_) <;> (try simp at hq)) | (with_reducible refine condC_split (fun hq => ?_) (fun hq => ?_) <;> (try simp at hq)) | refine appK2_if (by omega) ?_ | refine pureV_if (by omega) ?_) <;> simp -implicitDefEqProofs [*, Fits, Peer.row])
    all_goals grind [Peer.row]
  · rintro ⟨fr, bs⟩ h
    exact h.elim

theorem ref_WithoutPassive (xs : List Int) (x : Int) (hl : xs.length ≤ cap) :
    Den PP 218 [intsD xs, .int .i64 x] [] (.tup [.ref 0 0 (refWithout xs x).1.length, .int .i64 (refWithout xs x).2]) [⟨(refWithout xs x).1.map irow, 1, .mut⟩] := by
  have hc := ref_PassiveMay xs hl
  simp [intsD] at hc
  refine den_of [] [] is_gimmalref1_WithoutPassive ?_
  simp -implicitDefEqProofs [c_gimmalref1_WithoutPassive, intsD]
  repeat' ((first | refine callThen_of (by first | exact hc | exact ref_PlaceMay _) ?_ | with_reducible refine gOps_dec (fun _ => ?_) (fun _ => ?_) | with_reducible refine gOps_ndec (fun _ => ?_) (fun _ => ?_) | (with_reducible refine gOps_and (fun hq => ?_) (fun hq => ?_) <;> (try simp at hq)) | (with_reducible refine gOps_or (fun hq => ?_) (fun hq => ?_) <;> (try simp at hq)) | (with_reducible refine gOps_not (fun hq => ?_) (fun hq => ?_) <;> (try simp at hq)) | (with_reducible refine gOps_split (fun hq => ?_) (fun hq => ?_) <;> (try simp at hq)) | with_reducible refine condC_dec (fun _ => ?_) (fun _ => ?_) | with_reducible refine condC_ndec (fun _ => ?_) (fun _ => ?_) | (with_reducible refine condC_and (fun hq => ?_) (fun hq => ?_) <;> (try simp at hq)) | (with_reducible refine condC_or (fun hq => ?_) (fun hq => ?_) <;> (try simp at hq)) | (with_reducible refine condC_not (fun hq => ?_) (fun hq => ?_) <;> (try simp at hq)) | (with_reducible refine condC_split (fun hq => ?_) (fun hq => ?_) <;> (try simp at hq)) | refine appK2_if (by omega) ?_ | refine pureV_if (by omega) ?_) <;> simp -implicitDefEqProofs [*, refWithout])
  refine list_rule xs (fun i rest => fun ⟨fr, bs⟩ => bs = [⟨[], 1, .mut⟩, ⟨((xs.take i).filter (fun y => !decide (y = x))).map irow, 1, .mut⟩] ∧ fr 0 = .sl (xs.map irow) xs.length ∧ fr 1 = .int .i64 x ∧ fr 6 = .ref 1 0 ((xs.take i).filter (fun y => !decide (y = x))).length ∧ fr 7 = .int .i64 i)
    (fun ⟨fr, bs⟩ => bs = [⟨[], 1, .mut⟩, ⟨(xs.filter (fun y => !decide (y = x))).map irow, 1, .mut⟩] ∧ fr 6 = .ref 1 0 (xs.filter (fun y => !decide (y = x))).length) (fun _ => False) c_gimmalref1_WithoutPassive_L0.eq_1 ?_ ?_ ?_ ?_ ?_
  · exact ⟨rfl, rfl, rfl, rfl, rfl⟩
  · rintro i ⟨fr, bs⟩ hi ⟨rfl, h0, h1, h6, h7⟩
    simp -implicitDefEqProofs [*]
  · rintro i a rest ⟨fr, bs⟩ hlt hget hg hd hd2 ⟨rfl, h0, h1, h6, h7⟩
    have hlt' : (i : Int) < xs.length := by omega
    have hw := wrap_next (n := i) (by unfold cap at hl; omega)
    have hlf := List.length_filter_le (fun y => !decide (y = x)) (xs.take i)
    have hlt2 : (xs.take i).length ≤ i := by simp; omega
    have htk : xs.take (i + 1) = xs.take i ++ [a] := by rw [List.take_add_one, hget]; rfl
    unfold cap at hl
    simp -implicitDefEqProofs [*, irow]
    repeat' ((first | with_reducible refine gOps_dec (fun _ => ?_) (fun _ => ?_) | with_reducible refine gOps_ndec (fun _ => ?_) (fun _ => ?_) | (with_reducible refine gOps_and (fun hq => ?_) (fun hq => ?_) <;> (try simp at hq)) | (with_reducible refine gOps_or (fun hq => ?_) (fun hq => ?_) <;> (try simp at hq)) | (with_reducible refine gOps_not (fun hq => ?_) (fun hq => ?_) <;> (try simp at hq)) | (with_reducible refine gOps_split (fun hq => ?_) (fun hq => ?_) <;> (try simp at hq)) | with_reducible refine condC_dec (fun _ => ?_) (fun _ => ?_) | with_reducible refine condC_ndec (fun _ => ?_) (fun _ => ?_) | (with_reducible refine condC_and (fun hq => ?_) (fun hq => ?_) <;> (try simp at hq)) | (with_reducible refine condC_or (fun hq => ?_) (fun hq => ?_) <;> (try simp at hq)) | (with_reducible refine condC_not (fun hq => ?_) (fun hq => ?_) <;> (try simp at hq)) | (with_reducible refine condC_split (fun hq => ?_) (fun hq => ?_) <;> (try simp at hq)) | refine appK2_if (by omega) ?_ | refine pureV_if (by omega) ?_) <;> simp -implicitDefEqProofs [*, irow, Fits])
  · rintro ⟨fr, bs⟩ ⟨rfl, h6⟩
    simp -implicitDefEqProofs [*, refWithout]
  · rintro ⟨fr, bs⟩ h
    exact h.elim

theorem law_SamePeers (xs ys : List Peer) (hl : xs.length ≤ cap) : Den PP 176 [peersD xs, peersD ys] [] (.bool (decide (xs = ys))) [] := by
  refine den_of [] [] is_gimmallaw0_SamePeers ?_
  simp -implicitDefEqProofs [c_gimmallaw0_SamePeers, peersD]
  refine condC_split (fun h => ?_) (fun h => ?_)
  · simp -implicitDefEqProofs
    grind
  have hlen : xs.length = ys.length := by simp at h; omega
  simp -implicitDefEqProofs
  refine list_rule xs (fun i rest => fun ⟨fr, bs⟩ => bs = [] ∧ fr 0 = .sl (xs.map Peer.row) xs.length ∧ fr 1 = .sl (ys.map Peer.row) ys.length ∧ fr 5 = .int .i64 i ∧ (rest = ys.drop i ↔ xs = ys))
    (fun ⟨fr, bs⟩ => bs = [] ∧ xs = ys) (fun ⟨fr, bs⟩ => fr 4 = .bool false ∧ ¬ xs = ys) c_gimmallaw0_SamePeers_L0.eq_1 ?_ ?_ ?_ ?_ ?_
  · exact ⟨rfl, rfl, rfl, rfl, by simp⟩
  · rintro i ⟨fr, bs⟩ hi ⟨rfl, h0, h1, h5, he⟩
    simp -implicitDefEqProofs [*]
    grind
  · rintro i a rest ⟨fr, bs⟩ hlt hget hg hd hd2 ⟨rfl, h0, h1, h5, he⟩
    have hlt' : (i : Int) < xs.length := by omega
    have hlt2 : i < ys.length := by omega
    have hlt3 : (i : Int) < ys.length := by omega
    have hw := wrap_next (n := i) (by unfold cap at hl; omega)
    rw [List.drop_eq_getElem_cons hlt2] at he
    generalize hy : ys[i] = b at he
    simp -implicitDefEqProofs [h0, h1, h5, hlt, hlt', hlt2, hlt3, hget, hg, hy, Peer.row, EQS]
    repeat' ((first | with_reducible refine gOps_dec (fun _ => ?_) (fun _ => ?_) | with_reducible refine gOps_ndec (fun _ => ?_) (fun _ => ?_) | (with_reducible refine gOps_and (fun hq => ?_) (fun hq => ?_) <;> (try simp at hq)) | (with_reducible refine gOps_or (fun hq => ?_) (fun hq => ?_) <;> (try simp at hq)) | (with_reducible refine gOps_not (fun hq => ?_) (fun hq => ?_) <;> (try simp at hq)) | (with_reducible refine gOps_split (fun hq => ?_) (fun hq => ?_) <;> (try simp at hq)) | with_reducible refine condC_dec (fun _ => ?_) (fun _ => ?_) | with_reducible refine condC_ndec (fun _ => ?_) (fun _ => ?_) | (with_reducible refine condC_and (fun hq => ?_) (fun hq => ?_) <;> (try simp at hq)) | (with_reducible refine condC_or (fun hq => ?_) (fun hq => ?_) <;> (try simp at hq)) | (with_reducible refine condC_not (fun hq => ?_) (fun hq => ?_) <;> (try simp at hq)) | (with_reducible refine condC_split (fun hq => ?_) (fun hq => ?_) <;> (try simp at hq)) | refine appK2_if (by omega) ?_ | refine pureV_if (by omega) ?_) <;> simp -implicitDefEqProofs [*, EQS])
    all_goals (obtain ⟨a1, a2⟩ := a; obtain ⟨b1, b2⟩ := b; grind)
  · rintro ⟨fr, bs⟩ ⟨rfl, h6⟩
    simp -implicitDefEqProofs [*]
  · rintro ⟨fr, bs⟩ h
    simp -implicitDefEqProofs [h.1, h.2]
theorem law_SameView (v w : View) (hs : v.small) : Den PP 98 [viewD v, viewD w] [] (.bool (decide (v = w))) [] := by
  have h1 := law_SamePeers v.peers w.peers (cap_of hs.1)
  have h2 := law_SameInts v.passive w.passive hs.2
  simp [peersD, intsD] at h1 h2
  refine den_of [] [] is_gimmallaw0_SameView ?_
  simp -implicitDefEqProofs [c_gimmallaw0_SameView, viewD, View.cells, peersD, intsD]
  repeat' ((first | refine callThen_of (by first | exact h1 | exact h2) ?_ | with_reducible refine gOps_dec (fun _ => ?_) (fun _ => ?_) | with_reducible refine gOps_ndec (fun _ => ?_) (fun _ => ?_) | (with_reducible refine gOps_and (fun hq => ?_) (fun hq => ?_) <;> (try simp at hq)) | (with_reducible refine gOps_or (fun hq => ?_) (fun hq => ?_) <;> (try simp at hq)) | (with_reducible refine gOps_not (fun hq => ?_) (fun hq => ?_) <;> (try simp at hq)) | (with_reducible refine gOps_split (fun hq => ?_) (fun hq => ?_) <;> (try simp at hq)) | with_reducible refine condC_dec (fun _ => ?_) (fun _ => ?_) | with_reducible refine condC_ndec (fun _ => ?_) (fun _ => ?_) | (with_reducible refine condC_and (fun hq => ?_) (fun hq => ?_) <;> (try simp at hq)) | (with_reducible refine condC_or (fun hq => ?_) (fun hq => ?_) <;> (try simp at hq)) | (with_reducible refine condC_not (fun hq => ?_) (fun hq => ?_) <;> (try simp at hq)) | (with_reducible refine condC_split (fun hq => ?_) (fun hq => ?_) <;> (try simp at hq)) | refine appK2_if (by omega) ?_ | refine pureV_if (by omega) ?_) <;> simp -implicitDefEqProofs [*, peersD])
  all_goals (obtain ⟨a, b, c⟩ := v; obtain ⟨a', b', c'⟩ := w; grind)
theorem law_CopyView (v : View) (hs : v.small) : Den PP 83 [viewD v] [] (.agg [.int .i64 v.id, .ref 0 0 v.peers.length, .ref 1 0 v.passive.length]) [⟨v.peers.map Peer.row, 2, .mut⟩, ⟨v.passive.map irow, 1, .mut⟩] := by
  obtain ⟨h1, h2⟩ := hs
  unfold cap16 at h1
  unfold cap at h2
  refine den_of [] [] is_gimmallaw0_CopyView ?_
  simp -implicitDefEqProofs [c_gimmallaw0_CopyView, viewD, View.cells, peersD, intsD]
  repeat' ((first | with_reducible refine gOps_dec (fun _ => ?_) (fun _ => ?_) | with_reducible refine gOps_ndec (fun _ => ?_) (fun _ => ?_) | (with_reducible refine gOps_and (fun hq => ?_) (fun hq => ?_) <;> (try simp at hq)) | (with_reducible refine gOps_or (fun hq => ?_) (fun hq => ?_) <;> (try simp at hq)) | (with_reducible refine gOps_not (fun hq => ?_) (fun hq => ?_) <;> (try simp at hq)) | (with_reducible refine gOps_split (fun hq => ?_) (fun hq => ?_) <;> (try simp at hq)) | with_reducible refine condC_dec (fun _ => ?_) (fun _ => ?_) | with_reducible refine condC_ndec (fun _ => ?_) (fun _ => ?_) | (with_reducible refine condC_and (fun hq => ?_) (fun hq => ?_) <;> (try simp at hq)) | (with_reducible refine condC_or (fun hq => ?_) (fun hq => ?_) <;> (try simp at hq)) | (with_reducible refine condC_not (fun hq => ?_) (fun hq => ?_) <;> (try simp at hq)) | (with_reducible refine condC_split (fun hq => ?_) (fun hq => ?_) <;> (try simp at hq)) | refine appK2_if (by omega) ?_ | refine pureV_if (by omega) ?_) <;> simp -implicitDefEqProofs [*])
end Go.AM
/- Plain law: places put in their row, taken out. -/
namespace Go.AM
set_option linter.unusedSimpArgs false
set_option linter.unusedVariables false

theorem rising_ext : ∀ {xs ys : List Int}, xs.Pairwise (· < ·) → ys.Pairwise (· < ·) → (∀ a, a ∈ xs ↔ a ∈ ys) → xs = ys := by
  intro xs
  induction xs with
  | nil =>
    intro ys _ _ h
    cases ys with
    | nil => rfl
    | cons y ys => exact absurd ((h y).2 (by simp)) (by simp)
  | cons x xs ih =>
    intro ys hx hy h
    cases ys with
    | nil => exact absurd ((h x).1 (by simp)) (by simp)
    | cons y ys =>
      rw [List.pairwise_cons] at hx hy
      have hxy : x = y := by
        have h1 := (h x).1 (by simp)
        have h2 := (h y).2 (by simp)
        rcases List.mem_cons.1 h1 with h1 | h1
        · exact h1
        · rcases List.mem_cons.1 h2 with h2 | h2
          · exact h2.symm
          · have := hy.1 _ h1
            have := hx.1 _ h2
            omega
      subst hxy
      congr 1
      refine ih hx.2 hy.2 fun a => ?_
      have := h a
      simp only [List.mem_cons] at this
      constructor
      · intro ha
        rcases this.1 (.inr ha) with h' | h'
        · subst h'; exact absurd (hx.1 _ ha) (by omega)
        · exact h'
      · intro ha
        rcases this.2 (.inr ha) with h' | h'
        · subst h'; exact absurd (hy.1 _ ha) (by omega)
        · exact h'
theorem incr_iff : ∀ xs : List Int, incr xs = true ↔ xs.Pairwise (· < ·) := by
  intro xs
  induction xs with
  | nil => simp [incr]
  | cons x xs ih =>
    cases xs with
    | nil => simp [incr]
    | cons y ys =>
      simp only [incr, Bool.and_eq_true, decide_eq_true_eq, ih, List.pairwise_cons, List.mem_cons]
      constructor
      · rintro ⟨h1, h2, h3⟩
        refine ⟨?_, h2, h3⟩
        rintro a (rfl | ha)
        · exact h1
        · have := h2 a ha
          omega
      · rintro ⟨h1, h2, h3⟩
        exact ⟨h1 y (.inl rfl), h2, h3⟩
theorem passiveMay_iff (xs : List Int) : passiveMay xs = true ↔ xs.Pairwise (· < ·) ∧ (∀ x ∈ xs, place x = true) ∧ xs.length ≤ 16 := by
  rw [← passiveMay_eq]
  simp only [refPassiveMay, Bool.and_eq_true, incr_iff, decide_eq_true_eq, List.all_eq_true]
  constructor
  · rintro ⟨⟨h1, h2⟩, h3⟩; exact ⟨h1, h2, h3⟩
  · rintro ⟨h1, h2, h3⟩; exact ⟨⟨h1, h2⟩, h3⟩

def posI (xs : List Int) (id : Int) : Nat := (xs.takeWhile fun x => decide (x < id)).length
def insU (id : Int) : List Int → List Int
  | [] => [id]
  | x :: xs => if x < id then x :: insU id xs else id :: x :: xs
theorem insL_insU (id : Int) : ∀ xs : List Int, insL xs (posI xs id) id = insU id xs := by
  intro xs
  induction xs with
  | nil => rfl
  | cons x xs ih =>
    unfold insU
    by_cases h : x < id
    · rw [if_pos h, ← ih]
      simp [posI, insL, List.takeWhile_cons, h]
    · rw [if_neg h]
      simp [posI, insL, List.takeWhile_cons, h]
theorem mem_insU {id a : Int} : ∀ {xs : List Int}, a ∈ insU id xs ↔ a = id ∨ a ∈ xs := by
  intro xs
  induction xs with
  | nil => simp [insU]
  | cons x xs ih =>
    unfold insU
    split
    · simp only [List.mem_cons, ih]
      constructor
      · rintro (h | h | h)
        · exact .inr (.inl h)
        · exact .inl h
        · exact .inr (.inr h)
      · rintro (h | h | h)
        · exact .inr (.inl h)
        · exact .inl h
        · exact .inr (.inr h)
    · simp
theorem insU_length (id : Int) (xs : List Int) : (insU id xs).length = xs.length + 1 := by rw [← insL_insU, insL_length]
theorem rising_insU {id : Int} : ∀ {xs : List Int}, xs.Pairwise (· < ·) → id ∉ xs → (insU id xs).Pairwise (· < ·) := by
  intro xs
  induction xs with
  | nil => intro _ _; simp [insU]
  | cons x xs ih =>
    intro h hn
    rw [List.pairwise_cons] at h
    simp only [List.mem_cons, not_or] at hn
    unfold insU
    split
    · rename_i hlt
      rw [List.pairwise_cons]
      refine ⟨fun a ha => ?_, ih h.2 hn.2⟩
      rcases mem_insU.1 ha with rfl | ha
      · exact hlt
      · exact h.1 a ha
    · rename_i hge
      rw [List.pairwise_cons, List.pairwise_cons]
      refine ⟨?_, h⟩
      intro a ha
      rcases List.mem_cons.1 ha with rfl | ha
      · omega
      · have := h.1 a ha
        omega
def withoutP (xs : List Int) (id : Int) : List Int × Int := if passiveMay xs && place id then (xs.filter (fun y => !decide (y = id)), 0) else ([], 800)
theorem refWithout_eq (xs : List Int) (id : Int) : refWithout xs id = withoutP xs id := by
  unfold refWithout withoutP
  rw [passiveMay_eq]
theorem passiveMay_filter {xs : List Int} {p : Int → Bool} (h : passiveMay xs = true) : passiveMay (xs.filter p) = true := by
  obtain ⟨h1, h2, h3⟩ := (passiveMay_iff xs).1 h
  refine (passiveMay_iff _).2 ⟨h1.filter _, fun x hx => h2 x (List.mem_filter.1 hx).1, Nat.le_trans (List.length_filter_le _ _) h3⟩
theorem filter_out {xs : List Int} {id : Int} (h : id ∉ xs) : xs.filter (fun y => !decide (y = id)) = xs := by
  rw [List.filter_eq_self]
  intro a ha
  simp
  rintro rfl
  exact h ha
theorem filter_one {xs : List Int} {id : Int} (h : xs.Pairwise (· < ·)) (hm : id ∈ xs) : xs.length = (xs.filter (fun y => !decide (y = id))).length + 1 := by
  have : xs = insU id (xs.filter (fun y => !decide (y = id))) := by
    refine rising_ext h (rising_insU (h.filter _) (by simp)) fun a => ?_
    rw [mem_insU, List.mem_filter]
    simp
    constructor
    · intro ha
      by_cases h' : a = id
      · exact .inl h'
      · exact .inr ⟨ha, h'⟩
    · rintro (rfl | ⟨ha, _⟩)
      · exact hm
      · exact ha
  have h2 := congrArg List.length this
  rw [insU_length] at h2
  exact h2
theorem fIdx_spec0 (p : Int → Bool) : ∀ (xs : List Int) (i : Nat), (fIdx p i xs = -1 ∧ xs.filter (fun x => !p x) = xs) ∨ ∃ f, fIdx p i xs = ((i + f : Nat) : Int) ∧ f < xs.length ∧ (xs.take (f + 1)).filter (fun x => !p x) = xs.take f := by
  intro xs
  induction xs with
  | nil => intro i; exact .inl ⟨rfl, rfl⟩
  | cons x xs ih =>
    intro i
    simp only [fIdx]
    by_cases h : p x = true
    · right
      exact ⟨0, by simp [h], by simp, by simp [h]⟩
    · have h' : p x = false := by simpa using h
      rw [if_neg h]
      rcases ih (i + 1) with ⟨h1, h2⟩ | ⟨f, h1, h2, h3⟩
      · left
        refine ⟨h1, ?_⟩
        rw [List.filter_cons]
        simp [h', h2]
      · right
        refine ⟨f + 1, by rw [h1]; congr 1; omega, by simpa using h2, ?_⟩
        rw [List.take_succ_cons, List.filter_cons, h3]
        simp [h']
theorem fIdx_spec (p : Int → Bool) (xs : List Int) : (fIdx p 0 xs = -1 ∧ xs.filter (fun x => !p x) = xs) ∨ ∃ f : Nat, fIdx p 0 xs = (f : Int) ∧ f < xs.length ∧ (xs.take (f + 1)).filter (fun x => !p x) = xs.take f := by
  rcases fIdx_spec0 p xs 0 with h | ⟨f, h⟩
  · exact .inl h
  · exact .inr ⟨f, by simpa using h⟩
end Go.AM
/- Plain law: where a search by a comparison ends; stores by it. -/
namespace Go.AM
set_option linter.unusedSimpArgs false
set_option linter.unusedVariables false

def posC {α : Type} (c : α → Int) (xs : List α) : Nat := (xs.takeWhile fun x => decide (c x < 0)).length
def atC {α : Type} (c : α → Int) (xs : List α) : Bool := (xs[posC c xs]?).any fun x => decide (c x = 0)
def MonoC {α : Type} (c : α → Int) (xs : List α) : Prop := ∀ (i j : Nat) (x y : α), i ≤ j → xs[i]? = some x → xs[j]? = some y → c y < 0 → c x < 0
theorem posC_cons {α : Type} (c : α → Int) (a : α) (xs : List α) : posC c (a :: xs) = if c a < 0 then posC c xs + 1 else 0 := by
  unfold posC
  rw [List.takeWhile_cons]
  by_cases h : c a < 0 <;> simp [h]
theorem atC_nil {α : Type} (c : α → Int) : atC c [] = false := rfl
theorem atC_cons {α : Type} (c : α → Int) (a : α) (xs : List α) : atC c (a :: xs) = if c a < 0 then atC c xs else decide (c a = 0) := by
  unfold atC
  rw [posC_cons]
  by_cases h : c a < 0 <;> simp [h]
theorem posC_le {α : Type} (c : α → Int) (xs : List α) : posC c xs ≤ xs.length := by
  induction xs with
  | nil => simp [posC]
  | cons a xs ih => rw [posC_cons]; split <;> simp <;> omega
theorem posC_lo {α : Type} (c : α → Int) (xs : List α) : ∀ (i : Nat) (x : α), i < posC c xs → xs[i]? = some x → c x < 0 := by
  induction xs with
  | nil => intro i x h; simp [posC] at h
  | cons a xs ih =>
    intro i x h hx
    rw [posC_cons] at h
    by_cases ha : c a < 0
    · rw [if_pos ha] at h
      cases i with
      | zero => simp at hx; subst hx; exact ha
      | succ i => exact ih i x (by omega) (by simpa using hx)
    · rw [if_neg ha] at h; omega
theorem posC_at {α : Type} (c : α → Int) (xs : List α) : ∀ x, xs[posC c xs]? = some x → 0 ≤ c x := by
  induction xs with
  | nil => intro x h; simp [posC] at h
  | cons a xs ih =>
    intro x hx
    rw [posC_cons] at hx
    by_cases ha : c a < 0
    · rw [if_pos ha] at hx
      exact ih x (by simpa using hx)
    · rw [if_neg ha] at hx
      simp at hx
      subst hx
      omega
theorem posC_hi {α : Type} {c : α → Int} {xs : List α} (hm : MonoC c xs) : ∀ (i : Nat) (x : α), posC c xs ≤ i → xs[i]? = some x → 0 ≤ c x := by
  intro i x hi hx
  apply Classical.byContradiction
  intro hc
  have hlt : posC c xs < xs.length := by
    have := (List.getElem?_eq_some_iff.1 hx).1
    omega
  have h1 : xs[posC c xs]? = some xs[posC c xs] := by simp
  have h2 := hm _ _ _ _ hi h1 hx (by omega)
  have h3 := posC_at c xs _ h1
  omega
theorem atC_true {α : Type} {c : α → Int} {xs : List α} (h : atC c xs = true) : posC c xs < xs.length ∧ ∃ x, xs[posC c xs]? = some x ∧ c x = 0 := by
  unfold atC at h
  cases hx : xs[posC c xs]? with
  | none => rw [hx] at h; cases h
  | some x =>
    rw [hx] at h
    exact ⟨(List.getElem?_eq_some_iff.1 hx).1, x, rfl, by simpa using h⟩

def keyC (k : Int) (i : Item) : Int := cmpI i.key k
theorem cmpI_lt (a b : Int) : cmpI a b < 0 ↔ a < b := by unfold cmpI; split <;> (try split) <;> omega
theorem cmpI_eq (a b : Int) : cmpI a b = 0 ↔ a = b := by unfold cmpI; split <;> (try split) <;> omega
theorem risingK_get : ∀ {is : List Item}, risingK is → ∀ (i j : Nat) (x y : Item), i < j → is[i]? = some x → is[j]? = some y → x.key < y.key := by
  intro is
  induction is with
  | nil => intro _ i j x y _ h; simp at h
  | cons a is ih =>
    intro h i j x y hij hx hy
    rw [rising_cons] at h
    cases j with
    | zero => omega
    | succ j =>
      simp at hy
      cases i with
      | zero =>
        simp at hx
        subst hx
        exact h.1 y (List.mem_of_getElem? hy)
      | succ i => exact ih h.2 i j x y (by omega) (by simpa using hx) hy
theorem mono_key {is : List Item} (h : risingK is) (k : Int) : MonoC (keyC k) is := by
  intro i j x y hij hx hy hc
  unfold keyC at hc ⊢
  rw [cmpI_lt] at hc ⊢
  by_cases e : i = j
  · subst e
    rw [hx] at hy
    cases hy
    exact hc
  · have := risingK_get h i j x y (by omega) hx hy
    omega
theorem getS_at : ∀ {is : List Item}, risingK is → ∀ k, getS is k = if atC (keyC k) is then is[posC (keyC k) is]? else none := by
  intro is
  induction is with
  | nil => intro _ k; simp [getS, atC_nil]
  | cons a is ih =>
    intro h k
    rw [rising_cons] at h
    rw [getS_cons, posC_cons, atC_cons]
    simp only [keyC, cmpI_lt, cmpI_eq]
    by_cases h1 : a.key < k
    · rw [if_neg (by omega), if_pos h1, if_pos h1, ih h.2 k]
      simp [keyC]
    · by_cases h2 : a.key = k
      · simp [h1, h2]
      · simp [h1, h2]
        exact getS_above h.1 (by omega)
theorem putS_at (x : Item) : ∀ (is : List Item), (∀ a, is[posC (keyC x.key) is]? = some a → atC (keyC x.key) is = true → putS x is = is.set (posC (keyC x.key) is) (bestI a x)) ∧ (atC (keyC x.key) is = false → putS x is = insL is (posC (keyC x.key) is) x) := by
  intro is
  induction is with
  | nil => exact ⟨fun a h => by simp at h, fun _ => by simp [putS, insL, posC]⟩
  | cons b is ih =>
    rw [posC_cons, atC_cons]
    simp only [keyC, cmpI_lt, cmpI_eq]
    by_cases h1 : b.key < x.key
    · simp only [if_pos h1]
      have e : putS x (b :: is) = b :: putS x is := by
        unfold putS
        rw [if_neg (by omega), if_neg (by omega)]
        cases is <;> simp [putS]
      rw [e]
      exact ⟨fun a ha ht => by rw [ih.1 a (by simpa using ha) ht]; rfl, fun ht => by rw [ih.2 ht]; simp [insL, keyC]⟩
    · simp only [if_neg h1]
      by_cases h2 : b.key = x.key
      · refine ⟨fun a ha _ => ?_, fun ht => by simp [h2] at ht⟩
        simp at ha
        subst ha
        simp [putS, h2]
      · refine ⟨fun a ha ht => by simp [h2] at ht, fun _ => ?_⟩
        have h3 : x.key < b.key := by omega
        simp [putS, h3, insL]
def getR (is : List Item) (k : Int) : Item × Bool := if storeMay is then (match getS is k with | some i => (i, true) | none => (zeroItem, false)) else (zeroItem, false)
end Go.AM
/- AM: contracts: binary search by a comparison. -/
namespace Go.AM
set_option linter.unusedSimpArgs false
set_option linter.unusedVariables false
set_option maxRecDepth 8000
set_option maxHeartbeats 0
theorem bsearch_Item (xs : List Item) (g : Nat) (key : Int) (c : Item → Int) (hc : ∀ x ∈ xs, Den PP g [.agg x.row, .int .i64 key] [] (.int .i64 (c x)) []) (hl : xs.length ≤ cap) (hr : MonoC c xs) :
    Den PP 125 [.sl (xs.map Item.row) xs.length, .int .i64 key, .fn g [] []] [] (.tup [.int .i64 (posC c xs), .bool (atC c xs)]) [] := by
  have hlo := posC_lo c xs
  have hhi := posC_hi hr
  have hat := posC_le c xs
  have hac : atC c xs = (xs[posC c xs]?).any fun x => decide (c x = 0) := rfl
  rw [hac]
  clear hac
  generalize posC c xs = at_ at *
  refine den_of [] [] is_slices_BinarySearchFunc_api_Item_api_Item_int ?_
  simp -implicitDefEqProofs [c_slices_BinarySearchFunc_api_Item_api_Item_int]
  refine loop_rule xs.length (fun m ⟨fr, bs⟩ => ∃ lo hi : Nat, bs = [] ∧ hi - lo ≤ m ∧ lo ≤ at_ ∧ at_ ≤ hi ∧ hi ≤ xs.length ∧ fr 0 = .sl (xs.map Item.row) xs.length ∧ fr 1 = .int .i64 key ∧ fr 2 = .fn g [] [] ∧ fr 8 = .int .i64 xs.length ∧ fr 9 = .int .i64 lo ∧ fr 10 = .int .i64 hi)
    (fun ⟨fr, bs⟩ => bs = [] ∧ fr 0 = .sl (xs.map Item.row) xs.length ∧ fr 1 = .int .i64 key ∧ fr 2 = .fn g [] [] ∧ fr 8 = .int .i64 xs.length ∧ fr 9 = .int .i64 at_) (fun _ => False) c_slices_BinarySearchFunc_api_Item_api_Item_int_L0.eq_1 ?_ ?_ ?_ ?_ ?_
  · exact ⟨0, xs.length, rfl, by omega, by omega, hat, by omega, rfl, rfl, rfl, rfl, rfl, rfl⟩
  · rintro ⟨fr, bs⟩ ⟨lo, hi, rfl, h1, h2, h3, h4, h0, h5, h9, h6, h7, h8⟩
    have e1 : lo = at_ := by omega
    have e2 : hi = at_ := by omega
    simp -implicitDefEqProofs [h0, h5, h9, h6, h7, h8, e1, e2]
  · rintro m ⟨fr, bs⟩ ⟨lo, hi, rfl, h1, h2, h3, h4, h0, h5, h9, h6, h7, h8⟩
    by_cases hlt : lo < hi
    · have hlt' : (lo : Int) < hi := by omega
      have hm := mid_eq (lo := lo) (hi := hi) (by omega) (by omega)
      have hml : (lo + hi) / 2 < xs.length := by omega
      have hml' : (((lo + hi) / 2 : Nat) : Int) < xs.length := by omega
      have hw := wrap_next (n := (lo + hi) / 2) (by unfold cap at hl; omega)
      have hb1 : lo ≤ (lo + hi) / 2 := by omega
      have hb2 : (lo + hi) / 2 < hi := by omega
      generalize (lo + hi) / 2 = mid at *
      obtain ⟨x, hx⟩ : ∃ x, xs[mid] = x := ⟨_, rfl⟩
      have hx' : xs[mid]? = some x := by simp [hml, hx]
      have hcx := hc x (List.mem_of_getElem? hx')
      simp only [Item.row] at hcx
      simp -implicitDefEqProofs [h0, h5, h9, h6, h7, h8, hlt', hlt, hm, hml, hml', hx, Item.row]
      refine callThen_of hcx ?_
      simp -implicitDefEqProofs
      refine condC_dec (fun hc => ?_) (fun hc => ?_)
      all_goals simp -implicitDefEqProofs [h0, h5, h9, h6, h7, h8, hc, hw]
      · have : mid < at_ := by
          apply Classical.byContradiction
          intro hx2
          have := hhi mid x (by omega) hx'
          omega
        exact ⟨mid + 1, hi, by omega, by omega, by omega, by omega, by simp, by simp⟩
      · have : at_ ≤ mid := by
          apply Classical.byContradiction
          intro hx2
          have := hlo mid x (by omega) hx'
          omega
        exact ⟨lo, mid, by omega, by omega, by omega, by omega, by simp, by simp⟩
    · have e1 : lo = at_ := by omega
      have e2 : hi = at_ := by omega
      simp -implicitDefEqProofs [h0, h5, h9, h6, h7, h8, e1, e2]
  · rintro ⟨fr, bs⟩ ⟨rfl, h0, h1, h2, h6, h7⟩
    simp -implicitDefEqProofs [h0, h1, h2, h6, h7]
    refine gOps_dec (fun hc2 => ?_) (fun hc2 => ?_)
    · obtain ⟨x, hx⟩ : ∃ x, xs[at_]'(by omega) = x := ⟨_, rfl⟩
      have hal : at_ < xs.length := by omega
      have hx' : xs[at_]? = some x := by simp [hx, hal]
      have hcx := hc x (List.mem_of_getElem? hx')
      simp only [Item.row] at hcx
      simp -implicitDefEqProofs [h0, h1, h2, h6, h7, hc2, hx, hal, Item.row]
      refine callThen_of hcx ?_
      simp -implicitDefEqProofs [h0, h1, h2, h6, h7, hc2, hx, hal, hx', Item.row]
    · have hp : xs[at_]? = none := by rw [List.getElem?_eq_none]; omega
      simp -implicitDefEqProofs [h0, h1, h2, h6, h7, hc2, hp]
  · rintro ⟨fr, bs⟩ h
    exact h.elim
end Go.AM
/- AM: contracts: binary search, places put and taken out. -/
namespace Go.AM
set_option linter.unusedSimpArgs false
set_option linter.unusedVariables false
set_option maxRecDepth 8000
set_option maxHeartbeats 0
theorem deleteFunc_int (xs : List Int) (g : Nat) (caps : List D) (p : Int → Bool) (hp : TellsI g caps p xs) (hl : xs.length ≤ 1000000) :
    GivesC (DenF PP [0]) 225 (xs.map irow) 1 [.fn g [] caps] ((xs.filter fun x => !p x).map irow) := by
  refine gives_of (fun r hr => by obtain ⟨a, _, rfl⟩ := List.mem_map.1 hr; rfl) (StillR.map _ _ fun a _ d hd => by rw [List.mem_singleton.1 hd]; rfl) fun fl hfl hrow hfs htake hget => ?_
  have hi0 := slices_IndexFunc_int xs (by unfold cap; omega) g caps p hp
  have hi1 : Den PP 165 [.sl fl xs.length, .fn g [] caps] [] (.int .i64 (fIdx p 0 xs)) [] := den_cut (by
    simp only [List.map_cons, List.map_nil, D.cut]
    rw [List.length_map] at htake
    rw [htake]
    exact hi0)
  simp only [List.length_map] at *
  rcases fIdx_spec p xs with ⟨he, hf⟩ | ⟨f, he, hf, hff⟩
  · rw [he] at hi1
    refine ⟨.ref 0 0 xs.length, [⟨fl, 1, .mut⟩], ?_, ?_⟩
    · refine denF_of [] [] [] [] (by simp) (fun _ h => absurd h List.not_mem_nil) is_slices_DeleteFunc_int_int ?_
      simp -implicitDefEqProofs [-leave, c_slices_DeleteFunc_int_int, hp.2.1]
      refine callThen_of hi1 ?_
      simp -implicitDefEqProofs [-leave, hp.2.1]
      rw [leave_lent (by omega) (by simpa using hfs)]
      rfl
    · rw [hf]
      exact outRows_of rfl rfl rfl (by simpa using hfl) (by simpa using htake.symm) (.inl rfl)
  · rw [he] at hi1
    have hfl' : f < fl.length := by omega
    have hw := wrap_next (n := f) (by omega)
    have hne : ¬ (f : Int) = -1 := by omega
    have hm1 := List.length_filter_le (fun x => !p x) xs
    obtain ⟨m, hm⟩ : ∃ m, (xs.filter fun x => !p x).length = m := ⟨_, rfl⟩
    rw [hm] at hm1
    have hcells : ∀ k, k < xs.length → fl[k]? = (xs[k]?).map irow := by
      intro k hk
      rw [hget k hk, List.getElem?_map]
    refine ⟨.ref 0 0 m, [⟨(xs.filter fun x => !p x).map irow ++ List.replicate (xs.length - m) [.int .i64 0] ++ fl.drop xs.length, 1, .mut⟩], ?_, ?_⟩
    · refine denF_of [] [] [] [] (by simp) (fun _ h => absurd h List.not_mem_nil) is_slices_DeleteFunc_int_int ?_
      simp -implicitDefEqProofs [-leave, c_slices_DeleteFunc_int_int, hp.2.1]
      refine callThen_of hi1 ?_
      simp -implicitDefEqProofs [-leave, hp.2.1, hne, hw]
      refine loop_rule (xs.length - (f + 1)) (fun q ⟨fr, bs⟩ => ∃ (i j : Nat) (cur : List (List D)), bs = [⟨cur, 1, .mut⟩, ⟨[], 1, .mut⟩] ∧ xs.length - j ≤ q ∧ j ≤ xs.length ∧ i < j ∧ cur.length = fl.length ∧ StillR cur ∧
          (∀ r ∈ cur, r.length = 1) ∧ cur.take i = ((xs.take j).filter fun x => !p x).map irow ∧ cur.drop j = fl.drop j ∧ fr 0 = .ref 0 0 xs.length ∧ fr 1 = .fn g [] caps ∧ fr 5 = .int .i64 i ∧ fr 6 = .int .i64 j)
        (fun ⟨fr, bs⟩ => ∃ cur : List (List D), bs = [⟨cur, 1, .mut⟩, ⟨[], 1, .mut⟩] ∧ m < xs.length ∧ cur.length = fl.length ∧ StillR cur ∧ cur.take m = (xs.filter fun x => !p x).map irow ∧ cur.drop xs.length = fl.drop xs.length ∧ fr 0 = .ref 0 0 xs.length ∧ fr 5 = .int .i64 m)
        (fun _ => False) c_slices_DeleteFunc_int_int_L0.eq_1 ?_ ?_ ?_ ?_ ?_
      · refine ⟨f, f + 1, fl, rfl, by omega, by omega, by omega, rfl, hfs, hrow, ?_, rfl, rfl, rfl, rfl, rfl⟩
        rw [hff, List.map_take, ← htake, List.take_take]
        congr 1
        omega
      · rintro ⟨fr, bs⟩ ⟨i, j, cur, rfl, hq, hj, hij, hcl, hcs, hcr, hct, hcd, h0, h1, h5, h6⟩
        have hje : j = xs.length := by omega
        subst hje
        rw [List.take_length] at hct
        have him : i = m := by
          have := congrArg List.length hct
          simp at this
          omega
        subst him
        simp -implicitDefEqProofs [-leave, h0, h1, h5, h6]
        exact ⟨hij, hcl, hcs, hct, hcd⟩
      · rintro q ⟨fr, bs⟩ ⟨i, j, cur, rfl, hq, hj, hij, hcl, hcs, hcr, hct, hcd, h0, h1, h5, h6⟩
        by_cases hjx : j = xs.length
        · subst hjx
          rw [List.take_length] at hct
          have him : i = m := by
            have := congrArg List.length hct
            simp at this
            omega
          subst him
          simp -implicitDefEqProofs [-leave, h0, h1, h5, h6]
          exact ⟨hij, hcl, hcs, hct, hcd⟩
        · have hjl : j < xs.length := by omega
          have hjl' : (j : Int) < xs.length := by omega
          obtain ⟨x, hx⟩ : ∃ x, xs[j] = x := ⟨_, rfl⟩
          have hx' : xs[j]? = some x := by simp [hjl, hx]
          have hcj : cur[j]? = some [.int .i64 x] := by
            have h7 : (cur.drop j)[0]? = (fl.drop j)[0]? := by rw [hcd]
            rw [List.getElem?_drop, List.getElem?_drop, Nat.add_zero, hcells j hjl, hx'] at h7
            exact h7
          have hwj := wrap_next (n := j) (by omega)
          have hwi := wrap_next (n := i) (by omega)
          have hil' : (i : Int) < xs.length := by omega
          obtain ⟨r0, hr0⟩ : ∃ r0, cur[i]? = some r0 := ⟨cur[i]'(by omega), by simp⟩
          have hr0l : r0.length = 1 := hcr r0 (List.mem_of_getElem? hr0)
          obtain ⟨d0, rfl⟩ := List.length_eq_one_iff.1 hr0l
          have hsw := hcs.sweep
          have hicl : i < cur.length := by omega
          have htk : xs.take (j + 1) = xs.take j ++ [x] := by rw [List.take_add_one, hx']; rfl
          simp -implicitDefEqProofs [-leave, h0, h1, h5, h6, hjl', hcj, hp.1, hp.2.1]
          refine callThen_of (hp.2.2 x (List.mem_of_getElem? hx')) ?_
          simp -implicitDefEqProofs [-leave]
          refine condC_not (fun hpx => ?_) (fun hpx => ?_)
          all_goals simp -implicitDefEqProofs [-leave, h0, h1, h5, h6, hwi, hwj, hil', hr0, hp.1, hp.2.1, hsw]
          · refine ⟨i, j + 1, ?_⟩
            simp
            refine ⟨by omega, by omega, by omega, hcl, hcs, hcr, ?_, ?_⟩
            · rw [htk, List.filter_append, hct]
              simp [hpx]
            · rw [← List.drop_drop, ← List.drop_drop, hcd]
          · refine ⟨i + 1, j + 1, ?_⟩
            simp
            refine ⟨by omega, by omega, by omega, hcl, hcs.set (by simp [D.still]) i, ?_, ?_, ?_⟩
            · intro r hr
              rcases List.mem_or_eq_of_mem_set hr with h | h
              · exact hcr r h
              · rw [h]; rfl
            · rw [htk, List.filter_append, List.map_append, ← hct, List.take_add_one]
              simp [hpx, irow, List.take_set, hicl]
              rw [List.set_eq_of_length_le (by simp; omega)]
            · rw [List.drop_set_of_lt (by omega), ← List.drop_drop, ← List.drop_drop, hcd]
      · rintro ⟨fr, bs⟩ ⟨cur, rfl, hlt, hcl, hcs, hct, hcd, h0, h5⟩
        simp -implicitDefEqProofs [-leave, h0, h5]
        refine outK_slice (m) (xs.length) (by simp; rfl) rfl (by first | rfl | omega | (simp [boundD]; done) | (simp [boundD]; omega) | (simp; done) | (simp; omega)) (by first | rfl | omega | (simp [boundD]; done) | (simp [boundD]; omega) | (simp; done) | (simp; omega)) (by omega) (by first | rfl | omega | (simp [boundD]; done) | (simp [boundD]; omega) | (simp; done) | (simp; omega)) rfl (by first | rfl | omega | (simp [boundD]; done) | (simp [boundD]; omega) | (simp; done) | (simp; omega)) ?_
        simp -implicitDefEqProofs [-leave, h0, h5]
        try refine overK_if (by first | omega | (simp; done) | (simp; omega)) ?_
        try simp -implicitDefEqProofs [-leave, h0, h5]
        have hov := ovr_length (rows := cur) (p := m) (ys := List.replicate (xs.length - m) [D.int IntKind.i64 0]) (by simp; omega)
        refine outK_slice (0) (m) (by simp; rfl) rfl (by first | rfl | omega | (simp [boundD]; done) | (simp [boundD]; omega) | (simp; done) | (simp; omega)) (by first | rfl | omega | (simp [boundD]; done) | (simp [boundD]; omega) | (simp; done) | (simp; omega)) (by omega) (by first | rfl | omega | (simp [boundD]; done) | (simp [boundD]; omega) | (simp; done) | (simp; omega)) rfl (by first | rfl | omega | (simp [boundD]; done) | (simp [boundD]; omega) | (simp; done) | (simp; omega)) ?_
        simp -implicitDefEqProofs [-leave, h0, h5]
        rw [leave_lent (by omega) (by simpa using hcs.ovr (b := List.replicate (xs.length - m) [D.int IntKind.i64 0]) (fun r hr d hd => by rw [(List.mem_replicate.1 hr).2] at hd; rw [List.mem_singleton.1 hd]; rfl) m)]
        simp only [List.take_succ_cons, List.take_zero, ovr, List.length_replicate, hct, show m + (xs.length - m) = xs.length by omega, hcd, List.append_assoc]
      · rintro ⟨fr, bs⟩ h
        exact h.elim
    · refine outRows_of rfl rfl rfl ?_ ?_ (.inl rfl)
      · simp; omega
      · rw [List.drop_zero, List.append_assoc, List.take_left' (by simpa using hm)]
theorem passive_Without_1 (id a : Int) : Den PP 224 [.int .i64 a, .mem [.int .i64 id]] [] (.bool (decide (a = id))) [] := by
  refine den_of [] [] is_passive_Without_1 ?_
  simp -implicitDefEqProofs [c_passive_Without_1]
theorem passive_Without (xs : List Int) (id : Int) (hl : xs.length ≤ cap) : Den PP 191 [intsD xs, .int .i64 id] [] (.tup [.ref 0 0 (withoutP xs id).1.length, .int .i64 (withoutP xs id).2]) [⟨(withoutP xs id).1.map irow, 1, .mut⟩] := by
  have c1 := passive_May xs hl
  have c2 := fun h : xs.length ≤ 16 => clone_int (xs.map irow) (by simp) (by simp; omega)
  have c3 := fun h : xs.length ≤ 16 => deleteFunc_int xs 224 [.mem [.int .i64 id]] (fun a => decide (a = id)) ⟨fun _ => rfl, fun _ _ => rfl, fun a _ => passive_Without_1 id a⟩ (by omega)
  simp only [intsD, List.length_map] at c1 c2
  refine den_ofG [17] [17] [17] [] (fun _ h => absurd h List.not_mem_nil) is_passive_Without ?_
  simp -implicitDefEqProofs [c_passive_Without, intsD]
  refine callThen_of c1 ?_
  simp -implicitDefEqProofs
  refine gOps_split (fun h1 => ?_) (fun h1 => ?_)
  rotate_left
  · simp -implicitDefEqProofs [h1, withoutP]
  obtain ⟨hr, hp, h16⟩ := (passiveMay_iff xs).1 h1
  simp -implicitDefEqProofs [h1]
  refine callThen_of (ring_Place id) ?_
  simp -implicitDefEqProofs
  refine condC_not (fun h2 => ?_) (fun h2 => ?_)
  rotate_left
  · simp -implicitDefEqProofs [h1, h2, withoutP]
  simp -implicitDefEqProofs [h1, h2]
  refine callThen_of (c2 h16) ?_
  simp -implicitDefEqProofs
  refine giveThen_of rfl (by simp) (by simp) (by simp) (c3 h16) ?_
  simp -implicitDefEqProofs [downTo, h1, h2, withoutP]
end Go.AM
/- AM: contracts: the document's answers about views, more. -/
namespace Go.AM
set_option linter.unusedSimpArgs false
set_option linter.unusedVariables false
set_option maxRecDepth 8000
set_option maxHeartbeats 0
theorem ref_ViewMay (v : View) (hs : v.small) : Den PP 160 [viewD v] [] (.bool (refViewMay v)) [] := by
  have c1 := ref_Names v.peers hs.1
  have c2 := ref_has (v.peers.map Peer.id)
  have c3 := ref_PeersMay v.id v.peers (cap_of hs.1)
  have c4 := ref_PassiveMay v.passive hs.2
  simp [peersD, intsD, irow] at c1 c2 c3 c4
  have hw : IntKind.wrap .i64 ((v.peers.length : Int) + v.passive.length) = v.peers.length + v.passive.length := by
    obtain ⟨a, b⟩ := hs
    unfold cap16 at a
    unfold cap at b
    exact wrap_in (by omega) (by omega)
  obtain ⟨A, hA⟩ : ∃ A, v.passive.any (refOdd v) = A := ⟨_, rfl⟩
  refine den_of [] [] is_gimmalref1_ViewMay ?_
  simp -implicitDefEqProofs [c_gimmalref1_ViewMay, viewD, View.cells, peersD, intsD]
  refine callThen_of c1 ?_
  simp -implicitDefEqProofs
  refine list_rule v.passive (fun i rest => fun ⟨fr, bs⟩ => bs = [⟨[v.cells], 3, .box⟩] ∧ fr 1 = .ptr 0 0 0 ∧ fr 3 = .sl (v.peers.map fun p => irow p.id) v.peers.length ∧ fr 4 = .int .i64 i ∧ rest.any (refOdd v) = A)
    (fun ⟨fr, bs⟩ => bs = [⟨[v.cells], 3, .box⟩] ∧ fr 1 = .ptr 0 0 0 ∧ A = false) (fun ⟨fr, bs⟩ => fr 2 = .bool false ∧ A = true) c_gimmalref1_ViewMay_L0.eq_1 ?_ ?_ ?_ ?_ ?_
  · exact ⟨rfl, rfl, rfl, rfl, hA⟩
  · rintro i ⟨fr, bs⟩ hi ⟨rfl, h1, h3, h4, he⟩
    simp -implicitDefEqProofs [h1, h3, h4, hi, View.cells, intsD]
    simpa using he.symm
  · rintro i a rest ⟨fr, bs⟩ hlt hget hg hd hd2 ⟨rfl, h1, h3, h4, he⟩
    have hlt' : (i : Int) < v.passive.length := by omega
    have hw2 := wrap_next (n := i) (by have := hs.2; unfold cap at this; omega)
    have c2' := c2 a (cap_of hs.1)
    simp -implicitDefEqProofs [h1, h3, h4, hlt, hlt', hget, hg, hw2, View.cells, intsD, irow]
    repeat' ((first | refine callThen_of (by first | exact c2') ?_ | with_reducible refine gOps_dec (fun _ => ?_) (fun _ => ?_) | with_reducible refine gOps_ndec (fun _ => ?_) (fun _ => ?_) | (with_reducible refine gOps_and (fun hq => ?_) (fun hq => ?_) <;> (try simp at hq)) | (with_reducible refine gOps_or (fun hq => ?_) (fun hq => ?_) <;> (try simp at hq)) | (with_reducible refine gOps_not (fun hq => ?_) (fun hq => ?_) <;> (try simp at hq)) | (with_reducible refine gOps_split (fun hq => ?_) (fun hq => ?_) <;> (try simp at hq)) | with_reducible refine condC_dec (fun _ => ?_) (fun _ => ?_) | with_reducible refine condC_ndec (fun _ => ?_) (fun _ => ?_) | (with_reducible refine condC_and (fun hq => ?_) (fun hq => ?_) <;> (try simp at hq)) | (with_reducible refine condC_or (fun hq => ?_) (fun hq => ?_) <;> (try simp at hq)) | (with_reducible refine condC_not (fun hq => ?_) (fun hq => ?_) <;> (try simp at hq)) | (with_reducible refine condC_split (fun hq => ?_) (fun hq => ?_) <;> (try simp at hq)) | refine appK2_if (by omega) ?_ | refine pureV_if (by omega) ?_) <;> simp -implicitDefEqProofs [*, View.cells, peersD])
    all_goals grind [refOdd, irow]
  · rintro ⟨fr, bs⟩ ⟨rfl, h1, he⟩
    simp -implicitDefEqProofs [h1, he, hA, View.cells, intsD, peersD]
    repeat' ((first | refine callThen_of (by first | exact c3 | exact c4) ?_ | with_reducible refine gOps_dec (fun _ => ?_) (fun _ => ?_) | with_reducible refine gOps_ndec (fun _ => ?_) (fun _ => ?_) | (with_reducible refine gOps_and (fun hq => ?_) (fun hq => ?_) <;> (try simp at hq)) | (with_reducible refine gOps_or (fun hq => ?_) (fun hq => ?_) <;> (try simp at hq)) | (with_reducible refine gOps_not (fun hq => ?_) (fun hq => ?_) <;> (try simp at hq)) | (with_reducible refine gOps_split (fun hq => ?_) (fun hq => ?_) <;> (try simp at hq)) | with_reducible refine condC_dec (fun _ => ?_) (fun _ => ?_) | with_reducible refine condC_ndec (fun _ => ?_) (fun _ => ?_) | (with_reducible refine condC_and (fun hq => ?_) (fun hq => ?_) <;> (try simp at hq)) | (with_reducible refine condC_or (fun hq => ?_) (fun hq => ?_) <;> (try simp at hq)) | (with_reducible refine condC_not (fun hq => ?_) (fun hq => ?_) <;> (try simp at hq)) | (with_reducible refine condC_split (fun hq => ?_) (fun hq => ?_) <;> (try simp at hq)) | refine appK2_if (by omega) ?_ | refine pureV_if (by omega) ?_) <;> simp -implicitDefEqProofs [*, refViewMay, hw])
    omega
  · rintro ⟨fr, bs⟩ h
    simp -implicitDefEqProofs [h.1, h.2, hA, refViewMay]
theorem ref_ViewMay' (v : View) (hs : v.small) : Den PP 160 [viewD v] [] (.bool (viewMay v)) [] := by
  rw [← viewMay_eq]
  exact ref_ViewMay v hs
end Go.AM
/- AM: contracts: items, stores, nodes. -/
namespace Go.AM
set_option linter.unusedSimpArgs false
set_option linter.unusedVariables false
set_option maxRecDepth 8000
set_option maxHeartbeats 0
theorem version_May (c w : Int) : Den PP 195 [.agg [.int .i64 c, .int .i64 w]] [] (.bool (verMay c w)) [] := by
  refine den_of [] [] is_version_May ?_
  simp -implicitDefEqProofs [c_version_May]
  repeat' ((first | refine callThen_of (by first | exact ring_Place _) ?_ | with_reducible refine gOps_dec (fun _ => ?_) (fun _ => ?_) | with_reducible refine gOps_ndec (fun _ => ?_) (fun _ => ?_) | (with_reducible refine gOps_and (fun hq => ?_) (fun hq => ?_) <;> (try simp at hq)) | (with_reducible refine gOps_or (fun hq => ?_) (fun hq => ?_) <;> (try simp at hq)) | (with_reducible refine gOps_not (fun hq => ?_) (fun hq => ?_) <;> (try simp at hq)) | (with_reducible refine gOps_split (fun hq => ?_) (fun hq => ?_) <;> (try simp at hq)) | with_reducible refine condC_dec (fun _ => ?_) (fun _ => ?_) | with_reducible refine condC_ndec (fun _ => ?_) (fun _ => ?_) | (with_reducible refine condC_and (fun hq => ?_) (fun hq => ?_) <;> (try simp at hq)) | (with_reducible refine condC_or (fun hq => ?_) (fun hq => ?_) <;> (try simp at hq)) | (with_reducible refine condC_not (fun hq => ?_) (fun hq => ?_) <;> (try simp at hq)) | (with_reducible refine condC_split (fun hq => ?_) (fun hq => ?_) <;> (try simp at hq)) | refine appK2_if (by omega) ?_ | refine pureV_if (by omega) ?_) <;> simp -implicitDefEqProofs [*, verMay])
theorem ref_VersionMay (c w : Int) : Den PP 180 [.agg [.int .i64 c, .int .i64 w]] [] (.bool (verMay c w)) [] := by
  refine den_of [] [] is_gimmalref1_VersionMay ?_
  simp -implicitDefEqProofs [c_gimmalref1_VersionMay]
  repeat' ((first | refine callThen_of (by first | exact ref_PlaceMay _) ?_ | with_reducible refine gOps_dec (fun _ => ?_) (fun _ => ?_) | with_reducible refine gOps_ndec (fun _ => ?_) (fun _ => ?_) | (with_reducible refine gOps_and (fun hq => ?_) (fun hq => ?_) <;> (try simp at hq)) | (with_reducible refine gOps_or (fun hq => ?_) (fun hq => ?_) <;> (try simp at hq)) | (with_reducible refine gOps_not (fun hq => ?_) (fun hq => ?_) <;> (try simp at hq)) | (with_reducible refine gOps_split (fun hq => ?_) (fun hq => ?_) <;> (try simp at hq)) | with_reducible refine condC_dec (fun _ => ?_) (fun _ => ?_) | with_reducible refine condC_ndec (fun _ => ?_) (fun _ => ?_) | (with_reducible refine condC_and (fun hq => ?_) (fun hq => ?_) <;> (try simp at hq)) | (with_reducible refine condC_or (fun hq => ?_) (fun hq => ?_) <;> (try simp at hq)) | (with_reducible refine condC_not (fun hq => ?_) (fun hq => ?_) <;> (try simp at hq)) | (with_reducible refine condC_split (fun hq => ?_) (fun hq => ?_) <;> (try simp at hq)) | refine appK2_if (by omega) ?_ | refine pureV_if (by omega) ?_) <;> simp -implicitDefEqProofs [*, verMay])
theorem item_Byte (x : Int) : Den PP 149 [.int .i64 x] [] (.bool (byte x)) [] := by
  refine den_of [] [] is_item_Byte ?_
  simp -implicitDefEqProofs [c_item_Byte]
  repeat' ((first | with_reducible refine gOps_dec (fun _ => ?_) (fun _ => ?_) | with_reducible refine gOps_ndec (fun _ => ?_) (fun _ => ?_) | (with_reducible refine gOps_and (fun hq => ?_) (fun hq => ?_) <;> (try simp at hq)) | (with_reducible refine gOps_or (fun hq => ?_) (fun hq => ?_) <;> (try simp at hq)) | (with_reducible refine gOps_not (fun hq => ?_) (fun hq => ?_) <;> (try simp at hq)) | (with_reducible refine gOps_split (fun hq => ?_) (fun hq => ?_) <;> (try simp at hq)) | with_reducible refine condC_dec (fun _ => ?_) (fun _ => ?_) | with_reducible refine condC_ndec (fun _ => ?_) (fun _ => ?_) | (with_reducible refine condC_and (fun hq => ?_) (fun hq => ?_) <;> (try simp at hq)) | (with_reducible refine condC_or (fun hq => ?_) (fun hq => ?_) <;> (try simp at hq)) | (with_reducible refine condC_not (fun hq => ?_) (fun hq => ?_) <;> (try simp at hq)) | (with_reducible refine condC_split (fun hq => ?_) (fun hq => ?_) <;> (try simp at hq)) | refine appK2_if (by omega) ?_ | refine pureV_if (by omega) ?_) <;> simp -implicitDefEqProofs [*, byte])
theorem ref_byteMay (x : Int) : Den PP 179 [.int .i64 x] [] (.bool (byte x)) [] := by
  refine den_of [] [] is_gimmalref1_byteMay ?_
  simp -implicitDefEqProofs [c_gimmalref1_byteMay]
  repeat' ((first | with_reducible refine gOps_dec (fun _ => ?_) (fun _ => ?_) | with_reducible refine gOps_ndec (fun _ => ?_) (fun _ => ?_) | (with_reducible refine gOps_and (fun hq => ?_) (fun hq => ?_) <;> (try simp at hq)) | (with_reducible refine gOps_or (fun hq => ?_) (fun hq => ?_) <;> (try simp at hq)) | (with_reducible refine gOps_not (fun hq => ?_) (fun hq => ?_) <;> (try simp at hq)) | (with_reducible refine gOps_split (fun hq => ?_) (fun hq => ?_) <;> (try simp at hq)) | with_reducible refine condC_dec (fun _ => ?_) (fun _ => ?_) | with_reducible refine condC_ndec (fun _ => ?_) (fun _ => ?_) | (with_reducible refine condC_and (fun hq => ?_) (fun hq => ?_) <;> (try simp at hq)) | (with_reducible refine condC_or (fun hq => ?_) (fun hq => ?_) <;> (try simp at hq)) | (with_reducible refine condC_not (fun hq => ?_) (fun hq => ?_) <;> (try simp at hq)) | (with_reducible refine condC_split (fun hq => ?_) (fun hq => ?_) <;> (try simp at hq)) | refine appK2_if (by omega) ?_ | refine pureV_if (by omega) ?_) <;> simp -implicitDefEqProofs [*, byte])
  all_goals omega
theorem ref16_byteMay (x : Int) : Den PP 159 [.int .i64 x] [] (.bool (byte x)) [] := by
  refine den_of [] [] is_gimmalref16_byteMay ?_
  simp -implicitDefEqProofs [c_gimmalref16_byteMay]
  repeat' ((first | with_reducible refine gOps_dec (fun _ => ?_) (fun _ => ?_) | with_reducible refine gOps_ndec (fun _ => ?_) (fun _ => ?_) | (with_reducible refine gOps_and (fun hq => ?_) (fun hq => ?_) <;> (try simp at hq)) | (with_reducible refine gOps_or (fun hq => ?_) (fun hq => ?_) <;> (try simp at hq)) | (with_reducible refine gOps_not (fun hq => ?_) (fun hq => ?_) <;> (try simp at hq)) | (with_reducible refine gOps_split (fun hq => ?_) (fun hq => ?_) <;> (try simp at hq)) | with_reducible refine condC_dec (fun _ => ?_) (fun _ => ?_) | with_reducible refine condC_ndec (fun _ => ?_) (fun _ => ?_) | (with_reducible refine condC_and (fun hq => ?_) (fun hq => ?_) <;> (try simp at hq)) | (with_reducible refine condC_or (fun hq => ?_) (fun hq => ?_) <;> (try simp at hq)) | (with_reducible refine condC_not (fun hq => ?_) (fun hq => ?_) <;> (try simp at hq)) | (with_reducible refine condC_split (fun hq => ?_) (fun hq => ?_) <;> (try simp at hq)) | refine appK2_if (by omega) ?_ | refine pureV_if (by omega) ?_) <;> simp -implicitDefEqProofs [*, byte])
  all_goals omega
theorem item_May (i : Item) : Den PP 123 [.agg i.row] [] (.bool (itemMay i)) [] := by
  refine den_of [] [] is_item_May ?_
  simp -implicitDefEqProofs [c_item_May, Item.row]
  repeat' ((first | refine callThen_of (by first | exact item_Byte _ | exact version_May _ _) ?_ | with_reducible refine gOps_dec (fun _ => ?_) (fun _ => ?_) | with_reducible refine gOps_ndec (fun _ => ?_) (fun _ => ?_) | (with_reducible refine gOps_and (fun hq => ?_) (fun hq => ?_) <;> (try simp at hq)) | (with_reducible refine gOps_or (fun hq => ?_) (fun hq => ?_) <;> (try simp at hq)) | (with_reducible refine gOps_not (fun hq => ?_) (fun hq => ?_) <;> (try simp at hq)) | (with_reducible refine gOps_split (fun hq => ?_) (fun hq => ?_) <;> (try simp at hq)) | with_reducible refine condC_dec (fun _ => ?_) (fun _ => ?_) | with_reducible refine condC_ndec (fun _ => ?_) (fun _ => ?_) | (with_reducible refine condC_and (fun hq => ?_) (fun hq => ?_) <;> (try simp at hq)) | (with_reducible refine condC_or (fun hq => ?_) (fun hq => ?_) <;> (try simp at hq)) | (with_reducible refine condC_not (fun hq => ?_) (fun hq => ?_) <;> (try simp at hq)) | (with_reducible refine condC_split (fun hq => ?_) (fun hq => ?_) <;> (try simp at hq)) | refine appK2_if (by omega) ?_ | refine pureV_if (by omega) ?_) <;> simp -implicitDefEqProofs [*, itemMay])
theorem ref_ItemMay (i : Item) : Den PP 106 [.agg i.row] [] (.bool (itemMay i)) [] := by
  refine den_of [] [] is_gimmalref1_ItemMay ?_
  simp -implicitDefEqProofs [c_gimmalref1_ItemMay, Item.row]
  repeat' ((first | refine callThen_of (by first | exact ref_byteMay _ | exact ref_VersionMay _ _) ?_ | with_reducible refine gOps_dec (fun _ => ?_) (fun _ => ?_) | with_reducible refine gOps_ndec (fun _ => ?_) (fun _ => ?_) | (with_reducible refine gOps_and (fun hq => ?_) (fun hq => ?_) <;> (try simp at hq)) | (with_reducible refine gOps_or (fun hq => ?_) (fun hq => ?_) <;> (try simp at hq)) | (with_reducible refine gOps_not (fun hq => ?_) (fun hq => ?_) <;> (try simp at hq)) | (with_reducible refine gOps_split (fun hq => ?_) (fun hq => ?_) <;> (try simp at hq)) | with_reducible refine condC_dec (fun _ => ?_) (fun _ => ?_) | with_reducible refine condC_ndec (fun _ => ?_) (fun _ => ?_) | (with_reducible refine condC_and (fun hq => ?_) (fun hq => ?_) <;> (try simp at hq)) | (with_reducible refine condC_or (fun hq => ?_) (fun hq => ?_) <;> (try simp at hq)) | (with_reducible refine condC_not (fun hq => ?_) (fun hq => ?_) <;> (try simp at hq)) | (with_reducible refine condC_split (fun hq => ?_) (fun hq => ?_) <;> (try simp at hq)) | refine appK2_if (by omega) ?_ | refine pureV_if (by omega) ?_) <;> simp -implicitDefEqProofs [*, itemMay])
theorem ref_ItemMay_raw (k c w v : Int) (g : Bool) : Den PP 106 [.agg [.int .i64 k, .int .i64 c, .int .i64 w, .int .i64 v, .bool g]] [] (.bool (itemMay ⟨k, c, w, v, g⟩)) [] := ref_ItemMay ⟨k, c, w, v, g⟩
theorem item_May_raw (k c w v : Int) (g : Bool) : Den PP 123 [.agg [.int .i64 k, .int .i64 c, .int .i64 w, .int .i64 v, .bool g]] [] (.bool (itemMay ⟨k, c, w, v, g⟩)) [] := item_May ⟨k, c, w, v, g⟩
def prevKey (is : List Item) (i : Nat) : Option Int := if i = 0 then none else (is[i - 1]?).map Item.key
theorem store_May (is : List Item) (hl : is.length ≤ cap16) : Den PP 115 [itemsD is] [] (.bool (storeMay is)) [] := by
  obtain ⟨A, hA⟩ : ∃ A, itemsOk none is = A := ⟨_, rfl⟩
  unfold cap16 at hl
  refine den_of [] [] is_store_May ?_
  simp -implicitDefEqProofs [c_store_May, itemsD]
  refine list_rule is (fun i rest => fun ⟨fr, bs⟩ => bs = [] ∧ fr 0 = itemsD is ∧ fr 5 = itemsD is ∧ fr 6 = .int .i64 is.length ∧ fr 7 = .int .i64 i ∧ itemsOk (prevKey is i) rest = A)
    (fun ⟨fr, bs⟩ => bs = [] ∧ fr 0 = itemsD is ∧ A = true) (fun ⟨fr, bs⟩ => fr 2 = .bool false ∧ A = false) c_store_May_L0.eq_1 ?_ ?_ ?_ ?_ ?_
  · exact ⟨rfl, rfl, rfl, rfl, rfl, hA⟩
  · rintro i ⟨fr, bs⟩ hi ⟨rfl, h0, h5, h6, h7, he⟩
    simp -implicitDefEqProofs [h0, h5, h6, h7, hi]
    simpa [itemsOk] using he.symm
  · rintro i a rest ⟨fr, bs⟩ hlt hget hg hd hd2 ⟨rfl, h0, h5, h6, h7, he⟩
    have hlt' : (i : Int) < is.length := by omega
    have hw := wrap_next (n := i) (by omega)
    have c1 := item_May a
    simp [Item.row] at c1
    simp only [itemsOk] at he
    have hp : prevKey is (i + 1) = some a.key := by simp [prevKey, hget]
    cases i with
    | zero =>
      simp [prevKey] at he
      simp -implicitDefEqProofs [h0, h5, h6, h7, hlt, hlt', hget, hg, itemsD, Item.row]
      repeat' ((first | refine callThen_of (by first | exact c1) ?_ | with_reducible refine gOps_dec (fun _ => ?_) (fun _ => ?_) | with_reducible refine gOps_ndec (fun _ => ?_) (fun _ => ?_) | (with_reducible refine gOps_and (fun hq => ?_) (fun hq => ?_) <;> (try simp at hq)) | (with_reducible refine gOps_or (fun hq => ?_) (fun hq => ?_) <;> (try simp at hq)) | (with_reducible refine gOps_not (fun hq => ?_) (fun hq => ?_) <;> (try simp at hq)) | (with_reducible refine gOps_split (fun hq => ?_) (fun hq => ?_) <;> (try simp at hq)) | with_reducible refine condC_dec (fun _ => ?_) (fun _ => ?_) | with_reducible refine condC_ndec (fun _ => ?_) (fun _ => ?_) | (with_reducible refine condC_and (fun hq => ?_) (fun hq => ?_) <;> (try simp at hq)) | (with_reducible refine condC_or (fun hq => ?_) (fun hq => ?_) <;> (try simp at hq)) | (with_reducible refine condC_not (fun hq => ?_) (fun hq => ?_) <;> (try simp at hq)) | (with_reducible refine condC_split (fun hq => ?_) (fun hq => ?_) <;> (try simp at hq)) | refine appK2_if (by omega) ?_ | refine pureV_if (by omega) ?_) <;> simp -implicitDefEqProofs [*, itemsD, Item.row, hw])
      all_goals grind
    | succ j =>
      have hj : j < is.length := by omega
      have hj' : (j : Int) < is.length := by omega
      have hjw : IntKind.wrap .i64 (j : Int) = j := wrap_in (by omega) (by omega)
      obtain ⟨b, hb⟩ : ∃ b, is[j] = b := ⟨_, rfl⟩
      have hpj : prevKey is (j + 1) = some b.key := by simp [prevKey, hj, hb]
      rw [hpj] at he
      simp -implicitDefEqProofs [h0, h5, h6, h7, hlt, hlt', hget, hg, itemsD, Item.row]
      repeat' ((first | refine callThen_of (by first | exact c1) ?_ | with_reducible refine gOps_dec (fun _ => ?_) (fun _ => ?_) | with_reducible refine gOps_ndec (fun _ => ?_) (fun _ => ?_) | (with_reducible refine gOps_and (fun hq => ?_) (fun hq => ?_) <;> (try simp at hq)) | (with_reducible refine gOps_or (fun hq => ?_) (fun hq => ?_) <;> (try simp at hq)) | (with_reducible refine gOps_not (fun hq => ?_) (fun hq => ?_) <;> (try simp at hq)) | (with_reducible refine gOps_split (fun hq => ?_) (fun hq => ?_) <;> (try simp at hq)) | with_reducible refine condC_dec (fun _ => ?_) (fun _ => ?_) | with_reducible refine condC_ndec (fun _ => ?_) (fun _ => ?_) | (with_reducible refine condC_and (fun hq => ?_) (fun hq => ?_) <;> (try simp at hq)) | (with_reducible refine condC_or (fun hq => ?_) (fun hq => ?_) <;> (try simp at hq)) | (with_reducible refine condC_not (fun hq => ?_) (fun hq => ?_) <;> (try simp at hq)) | (with_reducible refine condC_split (fun hq => ?_) (fun hq => ?_) <;> (try simp at hq)) | refine appK2_if (by omega) ?_ | refine pureV_if (by omega) ?_) <;> simp -implicitDefEqProofs [*, itemsD, Item.row, hw, hb])
      all_goals grind
  · rintro ⟨fr, bs⟩ ⟨rfl, h0, h1⟩
    simp -implicitDefEqProofs [h0, itemsD, storeMay, hA, h1]
    omega
  · rintro ⟨fr, bs⟩ h
    simp -implicitDefEqProofs [h.1, h.2, storeMay, hA]
theorem ref_StoreMay (is : List Item) (hl : is.length ≤ cap16) : Den PP 56 [itemsD is] [] (.bool (storeMay is)) [] := by
  obtain ⟨A, hA⟩ : ∃ A, itemsOk none is = A := ⟨_, rfl⟩
  unfold cap16 at hl
  refine den_of [] [] is_gimmalref1_StoreMay ?_
  simp -implicitDefEqProofs [c_gimmalref1_StoreMay, itemsD]
  refine list_rule is (fun i rest => fun ⟨fr, bs⟩ => bs = [] ∧ fr 0 = itemsD is ∧ fr 3 = .int .i64 i ∧ itemsOk (prevKey is i) rest = A)
    (fun ⟨fr, bs⟩ => bs = [] ∧ fr 0 = itemsD is ∧ A = true) (fun ⟨fr, bs⟩ => fr 2 = .bool false ∧ A = false) c_gimmalref1_StoreMay_L0.eq_1 ?_ ?_ ?_ ?_ ?_
  · exact ⟨rfl, rfl, rfl, hA⟩
  · rintro i ⟨fr, bs⟩ hi ⟨rfl, h0, h3, he⟩
    simp -implicitDefEqProofs [h0, h3, hi, itemsD]
    simpa [itemsOk] using he.symm
  · rintro i a rest ⟨fr, bs⟩ hlt hget hg hd hd2 ⟨rfl, h0, h3, he⟩
    have hlt' : (i : Int) < is.length := by omega
    have hw := wrap_next (n := i) (by omega)
    have c1 := ref_ItemMay a
    simp [Item.row] at c1
    simp only [itemsOk] at he
    have hp : prevKey is (i + 1) = some a.key := by simp [prevKey, hget]
    cases i with
    | zero =>
      simp [prevKey] at he
      simp -implicitDefEqProofs [h0, h3, hlt, hlt', hget, hg, itemsD, Item.row]
      repeat' ((first | refine callThen_of (by first | exact c1) ?_ | with_reducible refine gOps_dec (fun _ => ?_) (fun _ => ?_) | with_reducible refine gOps_ndec (fun _ => ?_) (fun _ => ?_) | (with_reducible refine gOps_and (fun hq => ?_) (fun hq => ?_) <;> (try simp at hq)) | (with_reducible refine gOps_or (fun hq => ?_) (fun hq => ?_) <;> (try simp at hq)) | (with_reducible refine gOps_not (fun hq => ?_) (fun hq => ?_) <;> (try simp at hq)) | (with_reducible refine gOps_split (fun hq => ?_) (fun hq => ?_) <;> (try simp at hq)) | with_reducible refine condC_dec (fun _ => ?_) (fun _ => ?_) | with_reducible refine condC_ndec (fun _ => ?_) (fun _ => ?_) | (with_reducible refine condC_and (fun hq => ?_) (fun hq => ?_) <;> (try simp at hq)) | (with_reducible refine condC_or (fun hq => ?_) (fun hq => ?_) <;> (try simp at hq)) | (with_reducible refine condC_not (fun hq => ?_) (fun hq => ?_) <;> (try simp at hq)) | (with_reducible refine condC_split (fun hq => ?_) (fun hq => ?_) <;> (try simp at hq)) | refine appK2_if (by omega) ?_ | refine pureV_if (by omega) ?_) <;> simp -implicitDefEqProofs [*, itemsD, Item.row, hw])
      all_goals grind
    | succ j =>
      have hj : j < is.length := by omega
      have hj' : (j : Int) < is.length := by omega
      have hjw : IntKind.wrap .i64 (j : Int) = j := wrap_in (by omega) (by omega)
      obtain ⟨b, hb⟩ : ∃ b, is[j] = b := ⟨_, rfl⟩
      have hpj : prevKey is (j + 1) = some b.key := by simp [prevKey, hj, hb]
      rw [hpj] at he
      simp -implicitDefEqProofs [h0, h3, hlt, hlt', hget, hg, itemsD, Item.row]
      repeat' ((first | refine callThen_of (by first | exact c1) ?_ | with_reducible refine gOps_dec (fun _ => ?_) (fun _ => ?_) | with_reducible refine gOps_ndec (fun _ => ?_) (fun _ => ?_) | (with_reducible refine gOps_and (fun hq => ?_) (fun hq => ?_) <;> (try simp at hq)) | (with_reducible refine gOps_or (fun hq => ?_) (fun hq => ?_) <;> (try simp at hq)) | (with_reducible refine gOps_not (fun hq => ?_) (fun hq => ?_) <;> (try simp at hq)) | (with_reducible refine gOps_split (fun hq => ?_) (fun hq => ?_) <;> (try simp at hq)) | with_reducible refine condC_dec (fun _ => ?_) (fun _ => ?_) | with_reducible refine condC_ndec (fun _ => ?_) (fun _ => ?_) | (with_reducible refine condC_and (fun hq => ?_) (fun hq => ?_) <;> (try simp at hq)) | (with_reducible refine condC_or (fun hq => ?_) (fun hq => ?_) <;> (try simp at hq)) | (with_reducible refine condC_not (fun hq => ?_) (fun hq => ?_) <;> (try simp at hq)) | (with_reducible refine condC_split (fun hq => ?_) (fun hq => ?_) <;> (try simp at hq)) | refine appK2_if (by omega) ?_ | refine pureV_if (by omega) ?_) <;> simp -implicitDefEqProofs [*, itemsD, Item.row, hw, hb])
      all_goals grind
  · rintro ⟨fr, bs⟩ ⟨rfl, h0, h1⟩
    simp -implicitDefEqProofs [h0, itemsD, storeMay, hA, h1]
    omega
  · rintro ⟨fr, bs⟩ h
    simp -implicitDefEqProofs [h.1, h.2, storeMay, hA]
theorem node_odd (t : Told) : Den PP 117 [.agg t.row] [] (.bool (toldOdd t)) [] := by
  refine den_of [] [] is_node_odd ?_
  simp -implicitDefEqProofs [c_node_odd, Told.row]
  repeat' ((first | refine callThen_of (by first | exact item_Byte _) ?_ | with_reducible refine gOps_dec (fun _ => ?_) (fun _ => ?_) | with_reducible refine gOps_ndec (fun _ => ?_) (fun _ => ?_) | (with_reducible refine gOps_and (fun hq => ?_) (fun hq => ?_) <;> (try simp at hq)) | (with_reducible refine gOps_or (fun hq => ?_) (fun hq => ?_) <;> (try simp at hq)) | (with_reducible refine gOps_not (fun hq => ?_) (fun hq => ?_) <;> (try simp at hq)) | (with_reducible refine gOps_split (fun hq => ?_) (fun hq => ?_) <;> (try simp at hq)) | with_reducible refine condC_dec (fun _ => ?_) (fun _ => ?_) | with_reducible refine condC_ndec (fun _ => ?_) (fun _ => ?_) | (with_reducible refine condC_and (fun hq => ?_) (fun hq => ?_) <;> (try simp at hq)) | (with_reducible refine condC_or (fun hq => ?_) (fun hq => ?_) <;> (try simp at hq)) | (with_reducible refine condC_not (fun hq => ?_) (fun hq => ?_) <;> (try simp at hq)) | (with_reducible refine condC_split (fun hq => ?_) (fun hq => ?_) <;> (try simp at hq)) | refine appK2_if (by omega) ?_ | refine pureV_if (by omega) ?_) <;> simp -implicitDefEqProofs [*, toldOdd])
end Go.AM
/- AM: contracts: nodes, sharing. -/
namespace Go.AM
set_option linter.unusedSimpArgs false
set_option linter.unusedVariables false
set_option maxRecDepth 8000
set_option maxHeartbeats 0
theorem slices_IndexFunc_Told (xs : List Told) (hl : xs.length ≤ cap) : Den PP 189 [toldsD xs, .fn 117 [] []] [] (.int .i64 (gIdx toldOdd 0 xs)) [] := by
  obtain ⟨A, hA⟩ : ∃ A, gIdx toldOdd 0 xs = A := ⟨_, rfl⟩
  unfold cap at hl
  refine den_of [] [] is_slices_IndexFunc_api_Told_api_Told ?_
  simp -implicitDefEqProofs [c_slices_IndexFunc_api_Told_api_Told, toldsD, hA]
  refine list_rule xs (fun i rest => fun ⟨fr, bs⟩ => bs = [] ∧ fr 0 = toldsD xs ∧ fr 1 = .fn 117 [] [] ∧ fr 7 = .int .i64 xs.length ∧ fr 8 = .int .i64 i ∧ gIdx toldOdd i rest = A)
    (fun ⟨fr, bs⟩ => bs = [] ∧ A = -1) (fun ⟨fr, bs⟩ => fr 4 = .int .i64 A) c_slices_IndexFunc_api_Told_api_Told_L0.eq_1 ?_ ?_ ?_ ?_ ?_
  · exact ⟨rfl, rfl, rfl, rfl, rfl, hA⟩
  · rintro i ⟨fr, bs⟩ hi ⟨rfl, h0, h1, h7, h8, he⟩
    simp -implicitDefEqProofs [h0, h1, h7, h8, hi]
    simpa [gIdx] using he.symm
  · rintro i a rest ⟨fr, bs⟩ hlt hget hg hd hd2 ⟨rfl, h0, h1, h7, h8, he⟩
    have hlt' : (i : Int) < xs.length := by omega
    have hw := wrap_next (n := i) (by omega)
    have c1 := node_odd a
    simp [Told.row] at c1
    simp only [gIdx] at he
    simp -implicitDefEqProofs [h0, h1, h7, h8, hlt, hlt', hget, hg, toldsD, Told.row]
    repeat' ((first | refine callThen_of (by first | exact c1) ?_ | with_reducible refine gOps_dec (fun _ => ?_) (fun _ => ?_) | with_reducible refine gOps_ndec (fun _ => ?_) (fun _ => ?_) | (with_reducible refine gOps_and (fun hq => ?_) (fun hq => ?_) <;> (try simp at hq)) | (with_reducible refine gOps_or (fun hq => ?_) (fun hq => ?_) <;> (try simp at hq)) | (with_reducible refine gOps_not (fun hq => ?_) (fun hq => ?_) <;> (try simp at hq)) | (with_reducible refine gOps_split (fun hq => ?_) (fun hq => ?_) <;> (try simp at hq)) | with_reducible refine condC_dec (fun _ => ?_) (fun _ => ?_) | with_reducible refine condC_ndec (fun _ => ?_) (fun _ => ?_) | (with_reducible refine condC_and (fun hq => ?_) (fun hq => ?_) <;> (try simp at hq)) | (with_reducible refine condC_or (fun hq => ?_) (fun hq => ?_) <;> (try simp at hq)) | (with_reducible refine condC_not (fun hq => ?_) (fun hq => ?_) <;> (try simp at hq)) | (with_reducible refine condC_split (fun hq => ?_) (fun hq => ?_) <;> (try simp at hq)) | refine appK2_if (by omega) ?_ | refine pureV_if (by omega) ?_) <;> simp -implicitDefEqProofs [*, toldsD, Told.row, hw])
    all_goals grind
  · rintro ⟨fr, bs⟩ ⟨rfl, h1⟩
    simp -implicitDefEqProofs [h1]
  · rintro ⟨fr, bs⟩ h
    simp -implicitDefEqProofs [h]
theorem slices_ContainsFunc_Told (xs : List Told) (hl : xs.length ≤ cap) : Den PP 116 [toldsD xs, .fn 117 [] []] [] (.bool (xs.any toldOdd)) [] := by
  have c1 := slices_IndexFunc_Told xs hl
  have h1 := gIdx_any toldOdd xs 0
  obtain ⟨A, hA⟩ : ∃ A, xs.any toldOdd = A := ⟨_, rfl⟩
  rw [hA] at h1
  simp [toldsD] at c1
  refine den_of [] [] is_slices_ContainsFunc_api_Told_api_Told ?_
  simp -implicitDefEqProofs [c_slices_ContainsFunc_api_Told_api_Told, toldsD]
  refine callThen_of c1 ?_
  simp -implicitDefEqProofs [h1, hA]
theorem node_May (x : Node) (hs : x.small) : Den PP 40 [nodeD x] [] (.bool (nodeMay x)) [] := by
  obtain ⟨h1, h2, h3⟩ := hs
  have c1 := view_May x.view h1
  have c2 := store_May x.items (by unfold cap16; omega)
  have c3 := slices_ContainsFunc_Told x.log (by unfold cap; omega)
  obtain ⟨A, hA⟩ : ∃ A, x.log.any toldOdd = A := ⟨_, rfl⟩
  rw [hA] at c3
  simp [viewD, View.cells, peersD, intsD, itemsD, toldsD] at c1 c2 c3
  obtain ⟨hp, hq⟩ := h1
  unfold cap16 at hp
  unfold cap at hq
  have w1 : IntKind.wrap .i64 ((x.view.peers.length : Int) + x.view.passive.length) = x.view.peers.length + x.view.passive.length := wrap_in (by omega) (by omega)
  have w2 : IntKind.wrap .i64 ((x.view.peers.length : Int) + x.view.passive.length + x.items.length) = x.view.peers.length + x.view.passive.length + x.items.length := wrap_in (by omega) (by omega)
  have w3 : IntKind.wrap .i64 ((x.view.peers.length : Int) + x.view.passive.length + x.items.length + x.log.length) = x.view.peers.length + x.view.passive.length + x.items.length + x.log.length := wrap_in (by omega) (by omega)
  refine den_of [] [] is_node_May ?_
  simp -implicitDefEqProofs [c_node_May, nodeD, Node.cells, peersD, intsD, itemsD, toldsD]
  repeat' ((first | refine callThen_of (by first | exact c1 | exact c2 | exact c3) ?_ | with_reducible refine gOps_dec (fun _ => ?_) (fun _ => ?_) | with_reducible refine gOps_ndec (fun _ => ?_) (fun _ => ?_) | (with_reducible refine gOps_and (fun hq => ?_) (fun hq => ?_) <;> (try simp at hq)) | (with_reducible refine gOps_or (fun hq => ?_) (fun hq => ?_) <;> (try simp at hq)) | (with_reducible refine gOps_not (fun hq => ?_) (fun hq => ?_) <;> (try simp at hq)) | (with_reducible refine gOps_split (fun hq => ?_) (fun hq => ?_) <;> (try simp at hq)) | with_reducible refine condC_dec (fun _ => ?_) (fun _ => ?_) | with_reducible refine condC_ndec (fun _ => ?_) (fun _ => ?_) | (with_reducible refine condC_and (fun hq => ?_) (fun hq => ?_) <;> (try simp at hq)) | (with_reducible refine condC_or (fun hq => ?_) (fun hq => ?_) <;> (try simp at hq)) | (with_reducible refine condC_not (fun hq => ?_) (fun hq => ?_) <;> (try simp at hq)) | (with_reducible refine condC_split (fun hq => ?_) (fun hq => ?_) <;> (try simp at hq)) | refine appK2_if (by omega) ?_ | refine pureV_if (by omega) ?_) <;> simp -implicitDefEqProofs [*, w1, w2, w3])
  all_goals simp only [nodeMay, emptyN, hA]
  all_goals grind
theorem node_Up (x : Node) (hs : x.small) : Den PP 84 [nodeD x] [] (.bool (nodeUp x)) [] := by
  have c1 := node_May x hs
  simp only [nodeD, Node.cells, peersD, intsD, itemsD, toldsD] at c1
  refine den_of [] [] is_node_Up ?_
  cases hu : x.up
  all_goals
    rw [hu] at c1
    simp -implicitDefEqProofs [c_node_Up, nodeD, Node.cells, peersD, intsD, itemsD, toldsD, hu]
    repeat' ((first | refine callThen_of (by first | exact c1) ?_ | with_reducible refine gOps_dec (fun _ => ?_) (fun _ => ?_) | with_reducible refine gOps_ndec (fun _ => ?_) (fun _ => ?_) | (with_reducible refine gOps_and (fun hq => ?_) (fun hq => ?_) <;> (try simp at hq)) | (with_reducible refine gOps_or (fun hq => ?_) (fun hq => ?_) <;> (try simp at hq)) | (with_reducible refine gOps_not (fun hq => ?_) (fun hq => ?_) <;> (try simp at hq)) | (with_reducible refine gOps_split (fun hq => ?_) (fun hq => ?_) <;> (try simp at hq)) | with_reducible refine condC_dec (fun _ => ?_) (fun _ => ?_) | with_reducible refine condC_ndec (fun _ => ?_) (fun _ => ?_) | (with_reducible refine condC_and (fun hq => ?_) (fun hq => ?_) <;> (try simp at hq)) | (with_reducible refine condC_or (fun hq => ?_) (fun hq => ?_) <;> (try simp at hq)) | (with_reducible refine condC_not (fun hq => ?_) (fun hq => ?_) <;> (try simp at hq)) | (with_reducible refine condC_split (fun hq => ?_) (fun hq => ?_) <;> (try simp at hq)) | refine appK2_if (by omega) ?_ | refine pureV_if (by omega) ?_) <;> simp -implicitDefEqProofs [*])
    all_goals simp [nodeUp, hu]
end Go.AM
