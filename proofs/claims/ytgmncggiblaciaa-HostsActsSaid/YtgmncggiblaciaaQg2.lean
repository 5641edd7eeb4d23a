/- Part 2 of a proof: hostsActs holds for every input; no condition. -/
import Derived.Test.YtgmncggiblaciaaProg
import Derived.KernelRfl
import Derived.ProofKit
import Derived.Test.YtgmncggiblaciaaAb0
import Derived.Test.YtgmncggiblaciaaAb1
import Derived.Test.YtgmncggiblaciaaAb2
import Derived.Test.YtgmncggiblaciaaAb3
import Derived.Test.YtgmncggiblaciaaAb4
import Derived.Test.YtgmncggiblaciaaAb5
import Derived.Test.YtgmncggiblaciaaAb6
import Derived.Test.YtgmncggiblaciaaAb7
import Derived.Test.YtgmncggiblaciaaAb8
import Derived.Test.YtgmncggiblaciaaAb8a
import Derived.Test.YtgmncggiblaciaaAb8b
import Derived.Test.YtgmncggiblaciaaAb8c
import Derived.Test.YtgmncggiblaciaaAb8d
import Derived.Test.YtgmncggiblaciaaAb9
import Derived.Test.YtgmncggiblaciaaAb10
import Derived.Test.YtgmncggiblaciaaAb11
import Derived.Test.YtgmncggiblaciaaAb12
import Derived.Test.YtgmncggiblaciaaAb13
import Derived.Test.YtgmncggiblaciaaAb14
import Derived.Test.YtgmncggiblaciaaAb15
import Derived.Test.YtgmncggiblaciaaAb16
import Derived.Test.YtgmncggiblaciaaAb17
import Derived.Test.YtgmncggiblaciaaAb18
import Derived.Test.YtgmncggiblaciaaAb19
import Derived.Test.YtgmncggiblaciaaAb20
import Derived.Test.YtgmncggiblaciaaAb21
import Derived.Test.YtgmncggiblaciaaQg1
set_option linter.unusedSimpArgs false
set_option linter.unusedVariables false
set_option linter.defProp false
/- The code of functions without what an evaluation has no need of, by program. -/
namespace Go.Proofs.Ytgmncggiblaciaa
open Go Go.Proofs.Ytgmncggiblaciaa.Ab
namespace Cd
/-- examiner/examinerlaw36.HostsActs -/
def cd9 : CC := (.seq (.reg [⟨some 3, (Op.box 24 (Operand.tmp 0)), none⟩,
  ⟨some 4, (Op.box 33 (Operand.tmp 1)), none⟩,
  ⟨some 5, (Op.box 39 (Operand.tmp 2)), none⟩,
  ⟨some 6, (Op.assign (Operand.const (Value.bool false))), none⟩])
 (.seq (.seq (.reg [⟨some 15, (Op.call { callee := (Callee.value (Operand.func 23)), args := #[], argTypes := #[] }), none⟩,
  ⟨some 16, (Op.unOp UnOp.not 4 (Operand.tmp 15)), none⟩])
 (.cond (Operand.tmp 16) (.seq (.reg [⟨some 6, (Op.assign (Operand.const (Value.bool false))), none⟩])
 .ret) .skip))
 (.seq (.seq (.reg [⟨some 17, (Op.load 24 (Operand.tmp 3)), none⟩,
  ⟨some 18, (Op.load 33 (Operand.tmp 4)), none⟩,
  ⟨some 19, (Op.call { callee := (Callee.value (Operand.func 24)), args := #[(Operand.tmp 17), (Operand.tmp 18)], argTypes := #[24, 33] }), none⟩,
  ⟨some 20, (Op.unOp UnOp.not 4 (Operand.tmp 19)), none⟩])
 (.cond (Operand.tmp 20) (.seq (.reg [⟨some 6, (Op.assign (Operand.const (Value.bool true))), none⟩])
 .ret) .skip))
 (.seq (.dr [⟨0, .R, ⟨some 22, (Op.load 24 (Operand.tmp 3)), none⟩, [], false⟩,
  ⟨2, .F, ⟨some 24, (Op.load 33 (Operand.tmp 4)), none⟩, [], false⟩,
  ⟨1, .E, ⟨some 23, (Op.call { callee := (Callee.value (Operand.func 13)), args := #[(Operand.tmp 22)], argTypes := #[24] }), none⟩, [], false⟩,
  ⟨3, .E, ⟨some 25, (Op.call { callee := (Callee.value (Operand.func 17)), args := #[(Operand.tmp 24)], argTypes := #[33] }), none⟩, [], false⟩,
  ⟨4, .E, ⟨some 26, (Op.call { callee := (Callee.value (Operand.func 20)), args := #[(Operand.tmp 23), (Operand.tmp 25)], argTypes := #[24, 33] }), none⟩, [], false⟩,
  ⟨5, .F, ⟨some 21, (Op.move (Operand.tmp 26)), none⟩, [], false⟩,
  ⟨6, .F, ⟨some 27, (Op.extract (Operand.tmp 21) 0), none⟩, [], false⟩,
  ⟨7, .F, ⟨some 28, (Op.extract (Operand.tmp 21) 1), none⟩, [], false⟩,
  ⟨8, .F, ⟨some 7, (Op.assign (Operand.tmp 27)), none⟩, [], false⟩,
  ⟨9, .F, ⟨some 8, (Op.assign (Operand.tmp 28)), none⟩, [], false⟩])
 (.seq (.dr [⟨0, .R, ⟨some 30, (Op.load 24 (Operand.tmp 3)), none⟩, [], false⟩,
  ⟨2, .F, ⟨some 32, (Op.load 33 (Operand.tmp 4)), none⟩, [], false⟩,
  ⟨4, .F, ⟨some 34, (Op.load 39 (Operand.tmp 5)), none⟩, [], false⟩,
  ⟨9, .A, ⟨some 9, (Op.alloc 33), none⟩, [], false⟩,
  ⟨1, .E, ⟨some 31, (Op.call { callee := (Callee.value (Operand.func 13)), args := #[(Operand.tmp 30)], argTypes := #[24] }), none⟩, [], false⟩,
  ⟨3, .E, ⟨some 33, (Op.call { callee := (Callee.value (Operand.func 17)), args := #[(Operand.tmp 32)], argTypes := #[33] }), none⟩, [], false⟩,
  ⟨5, .E, ⟨some 35, (Op.call { callee := (Callee.value (Operand.func 16)), args := #[(Operand.tmp 31), (Operand.tmp 33), (Operand.tmp 34)], argTypes := #[24, 33, 39] }), none⟩, [], false⟩,
  ⟨6, .F, ⟨some 29, (Op.move (Operand.tmp 35)), none⟩, [], false⟩,
  ⟨7, .F, ⟨some 36, (Op.extract (Operand.tmp 29) 0), none⟩, [], false⟩,
  ⟨8, .F, ⟨some 37, (Op.extract (Operand.tmp 29) 1), none⟩, [], false⟩,
  ⟨10, .E, ⟨none, (Op.store 33 (Operand.tmp 9) (Operand.tmp 36)), none⟩, [9], false⟩,
  ⟨11, .F, ⟨some 10, (Op.assign (Operand.tmp 37)), none⟩, [], false⟩])
 (.seq (.seq (.reg [⟨some 38, (Op.load 24 (Operand.tmp 3)), none⟩,
  ⟨some 39, (Op.load 33 (Operand.tmp 4)), none⟩,
  ⟨some 40, (Op.call { callee := (Callee.value (Operand.func 15)), args := #[(Operand.tmp 38), (Operand.tmp 39)], argTypes := #[24, 33] }), none⟩,
  ⟨some 11, (Op.assign (Operand.tmp 40)), none⟩])
 (.seq (.reg [⟨some 41, (Op.move (Operand.tmp 11)), none⟩,
  ⟨some 42, (Op.binOp BinOp.neq 3 (Operand.tmp 41) (Operand.const (Value.int IntKind.i64 0)) 3), none⟩])
 (.cond (Operand.tmp 42) (.seq (.reg [⟨some 43, (Op.move (Operand.tmp 8)), none⟩,
  ⟨some 44, (Op.move (Operand.tmp 11)), none⟩,
  ⟨some 45, (Op.binOp BinOp.eql 3 (Operand.tmp 43) (Operand.tmp 44) 3), none⟩,
  ⟨some 46, (Op.move (Operand.tmp 45)), none⟩,
  ⟨some 47, (Op.move (Operand.tmp 7)), some (46, true)⟩,
  ⟨some 48, (Op.call { callee := (Callee.builtin Builtin.len), args := #[(Operand.tmp 47)], argTypes := #[25] }), some (46, true)⟩,
  ⟨some 49, (Op.binOp BinOp.eql 3 (Operand.tmp 48) (Operand.const (Value.int IntKind.i64 0)) 3), some (46, true)⟩,
  ⟨some 50, (Op.pick (Operand.tmp 46) (Operand.tmp 49) (Operand.const (Value.bool false))), none⟩,
  ⟨some 51, (Op.move (Operand.tmp 50)), none⟩,
  ⟨some 52, (Op.move (Operand.tmp 10)), some (51, true)⟩,
  ⟨some 53, (Op.move (Operand.tmp 11)), some (51, true)⟩,
  ⟨some 54, (Op.binOp BinOp.eql 3 (Operand.tmp 52) (Operand.tmp 53) 3), some (51, true)⟩,
  ⟨some 55, (Op.pick (Operand.tmp 51) (Operand.tmp 54) (Operand.const (Value.bool false))), none⟩,
  ⟨some 56, (Op.move (Operand.tmp 55)), none⟩,
  ⟨some 57, (Op.load 33 (Operand.tmp 9)), some (56, true)⟩,
  ⟨some 58, (Op.build 33 #[]), some (56, true)⟩,
  ⟨some 59, (Op.call { callee := (Callee.value (Operand.func 27)), args := #[(Operand.tmp 57), (Operand.tmp 58)], argTypes := #[33, 33] }), some (56, true)⟩,
  ⟨some 60, (Op.pick (Operand.tmp 56) (Operand.tmp 59) (Operand.const (Value.bool false))), none⟩,
  ⟨some 6, (Op.assign (Operand.tmp 60)), none⟩])
 .ret) .skip)))
 (.seq (.reg [⟨some 61, (Op.load 24 (Operand.tmp 3)), none⟩,
  ⟨some 62, (Op.load 33 (Operand.tmp 4)), none⟩,
  ⟨some 63, (Op.call { callee := (Callee.value (Operand.func 36)), args := #[(Operand.tmp 61), (Operand.tmp 62)], argTypes := #[24, 33] }), none⟩,
  ⟨some 12, (Op.assign (Operand.tmp 63)), none⟩])
 (.seq (.seq (.reg [⟨some 64, (Op.move (Operand.tmp 8)), none⟩,
  ⟨some 65, (Op.binOp BinOp.neq 34 (Operand.tmp 64) (Operand.const (Value.int IntKind.i64 0)) 34), none⟩,
  ⟨some 66, (Op.move (Operand.tmp 65)), none⟩,
  ⟨some 67, (Op.move (Operand.tmp 7)), some (66, false)⟩,
  ⟨some 68, (Op.call { callee := (Callee.builtin Builtin.len), args := #[(Operand.tmp 67)], argTypes := #[25] }), some (66, false)⟩,
  ⟨some 69, (Op.move (Operand.tmp 12)), some (66, false)⟩,
  ⟨some 70, (Op.call { callee := (Callee.builtin Builtin.len), args := #[(Operand.tmp 69)], argTypes := #[25] }), some (66, false)⟩,
  ⟨some 71, (Op.binOp BinOp.neq 3 (Operand.tmp 68) (Operand.tmp 70) 3), some (66, false)⟩,
  ⟨some 72, (Op.pick (Operand.tmp 66) (Operand.const (Value.bool true)) (Operand.tmp 71)), none⟩])
 (.cond (Operand.tmp 72) (.seq (.reg [⟨some 6, (Op.assign (Operand.const (Value.bool false))), none⟩])
 .ret) .skip))
 (.seq (.seq (.reg [⟨some 13, (Op.assign (Operand.const (Value.int IntKind.i64 0))), none⟩])
 (.block 0 (.loop (.seq (.seq (.reg [⟨some 73, (Op.move (Operand.tmp 13)), none⟩,
  ⟨some 74, (Op.move (Operand.tmp 7)), none⟩,
  ⟨some 75, (Op.call { callee := (Callee.builtin Builtin.len), args := #[(Operand.tmp 74)], argTypes := #[25] }), none⟩,
  ⟨some 76, (Op.binOp BinOp.lss 3 (Operand.tmp 73) (Operand.tmp 75) 3), none⟩])
 (.cond (Operand.tmp 76) .skip (.exit 0)))
 (.seq (.block 1 (.seq (.dr [⟨0, .F, ⟨some 79, (Op.move (Operand.tmp 7)), none⟩, [], false⟩,
  ⟨1, .F, ⟨some 80, (Op.move (Operand.tmp 13)), none⟩, [], false⟩,
  ⟨2, .F, ⟨some 81, (Op.indexAddr 25 (Operand.tmp 79) (Operand.tmp 80)), none⟩, [], false⟩,
  ⟨3, .R, ⟨some 82, (Op.load 39 (Operand.tmp 81)), none⟩, [], false⟩,
  ⟨4, .F, ⟨some 83, (Op.move (Operand.tmp 12)), none⟩, [], false⟩,
  ⟨5, .F, ⟨some 84, (Op.move (Operand.tmp 13)), none⟩, [], false⟩,
  ⟨6, .F, ⟨some 85, (Op.indexAddr 25 (Operand.tmp 83) (Operand.tmp 84)), none⟩, [], false⟩,
  ⟨7, .R, ⟨some 86, (Op.load 39 (Operand.tmp 85)), none⟩, [], false⟩,
  ⟨8, .F, ⟨some 87, (Op.binOp BinOp.neq 39 (Operand.tmp 82) (Operand.tmp 86) 39), none⟩, [], false⟩])
 (.cond (Operand.tmp 87) (.seq (.reg [⟨some 6, (Op.assign (Operand.const (Value.bool false))), none⟩])
 .ret) .skip)))
 (.reg [⟨some 77, (Op.move (Operand.tmp 13)), none⟩,
  ⟨some 78, (Op.binOp BinOp.add 3 (Operand.tmp 77) (Operand.const (Value.int IntKind.i64 1)) 3), none⟩,
  ⟨some 13, (Op.assign (Operand.tmp 78)), none⟩]))))))
 (.seq (.seq (.reg [⟨some 88, (Op.load 24 (Operand.tmp 3)), none⟩,
  ⟨some 89, (Op.load 33 (Operand.tmp 4)), none⟩,
  ⟨some 90, (Op.load 39 (Operand.tmp 5)), none⟩,
  ⟨some 91, (Op.call { callee := (Callee.value (Operand.func 37)), args := #[(Operand.tmp 88), (Operand.tmp 89), (Operand.tmp 90)], argTypes := #[24, 33, 39] }), none⟩,
  ⟨some 14, (Op.assign (Operand.tmp 91)), none⟩])
 (.seq (.reg [⟨some 92, (Op.move (Operand.tmp 14)), none⟩,
  ⟨some 93, (Op.binOp BinOp.neq 3 (Operand.tmp 92) (Operand.const (Value.int IntKind.i64 0)) 3), none⟩])
 (.cond (Operand.tmp 93) (.seq (.reg [⟨some 94, (Op.move (Operand.tmp 10)), none⟩,
  ⟨some 95, (Op.move (Operand.tmp 14)), none⟩,
  ⟨some 96, (Op.binOp BinOp.eql 3 (Operand.tmp 94) (Operand.tmp 95) 3), none⟩,
  ⟨some 97, (Op.move (Operand.tmp 96)), none⟩,
  ⟨some 98, (Op.load 33 (Operand.tmp 9)), some (97, true)⟩,
  ⟨some 99, (Op.build 33 #[]), some (97, true)⟩,
  ⟨some 100, (Op.call { callee := (Callee.value (Operand.func 27)), args := #[(Operand.tmp 98), (Operand.tmp 99)], argTypes := #[33, 33] }), some (97, true)⟩,
  ⟨some 101, (Op.pick (Operand.tmp 97) (Operand.tmp 100) (Operand.const (Value.bool false))), none⟩,
  ⟨some 6, (Op.assign (Operand.tmp 101)), none⟩])
 .ret) .skip)))
 (.seq (.dr [⟨0, .F, ⟨some 102, (Op.move (Operand.tmp 10)), none⟩, [], false⟩,
  ⟨1, .F, ⟨some 103, (Op.binOp BinOp.eql 34 (Operand.tmp 102) (Operand.const (Value.int IntKind.i64 0)) 34), none⟩, [], false⟩,
  ⟨2, .F, ⟨some 104, (Op.move (Operand.tmp 103)), none⟩, [], false⟩,
  ⟨3, .R, ⟨some 105, (Op.load 33 (Operand.tmp 9)), some (104, true)⟩, [], false⟩,
  ⟨4, .R, ⟨some 106, (Op.load 24 (Operand.tmp 3)), some (104, true)⟩, [], false⟩,
  ⟨5, .R, ⟨some 107, (Op.load 33 (Operand.tmp 4)), some (104, true)⟩, [], false⟩,
  ⟨6, .R, ⟨some 108, (Op.load 39 (Operand.tmp 5)), some (104, true)⟩, [], false⟩,
  ⟨7, .E, ⟨some 109, (Op.call { callee := (Callee.value (Operand.func 38)), args := #[(Operand.tmp 106), (Operand.tmp 107), (Operand.tmp 108)], argTypes := #[24, 33, 39] }), some (104, true)⟩, [], true⟩,
  ⟨8, .E, ⟨some 110, (Op.call { callee := (Callee.value (Operand.func 27)), args := #[(Operand.tmp 105), (Operand.tmp 109)], argTypes := #[33, 33] }), some (104, true)⟩, [], false⟩,
  ⟨9, .F, ⟨some 111, (Op.pick (Operand.tmp 104) (Operand.tmp 110) (Operand.const (Value.bool false))), none⟩, [], false⟩,
  ⟨10, .F, ⟨some 6, (Op.assign (Operand.tmp 111)), none⟩, [], false⟩])
 .ret)))))))))))
theorem fn9 : FnFact Try.prog 9 112 [(5, [(0, 3), (2, 0), (1, 2), (3, 2), (4, 2), (5, 0), (6, 0), (7, 0), (8, 0), (9, 0)], [[], [0], [], [0, 1, 2], [0, 1, 2, 3], [0, 1, 2, 3, 4], [0, 1, 2, 3, 4, 5], [0, 1, 2, 3, 4, 5], [0, 1, 2, 3, 4, 5, 6], [0, 1, 2, 3, 4, 5, 6, 7, 8]]), (6, [(0, 3), (2, 0), (4, 0), (9, 1), (1, 2), (3, 2), (5, 2), (6, 0), (7, 0), (8, 0), (10, 2), (11, 0)], [[], [0], [], [0, 1, 2], [], [0, 1, 2, 3, 4], [0, 1, 2, 3, 4, 5], [0, 1, 2, 3, 4, 5, 6], [0, 1, 2, 3, 4, 5, 6], [], [0, 1, 2, 3, 4, 5, 6, 7, 9], [0, 1, 2, 3, 4, 5, 6, 7, 8, 9, 10]]), (16, [(0, 0), (1, 0), (2, 0), (3, 3), (4, 0), (5, 0), (6, 0), (7, 3), (8, 0)], [[], [], [0, 1], [0, 1, 2], [], [], [4, 5], [4, 5, 6], [0, 1, 2, 3, 4, 5, 6, 7]]), (21, [(0, 0), (1, 0), (2, 0), (3, 3), (4, 3), (5, 3), (6, 3), (7, 4), (8, 2), (9, 0), (10, 0)], [[], [0], [0, 1], [0, 1, 2], [0, 1, 2], [0, 1, 2], [0, 1, 2], [0, 1, 2, 4, 5, 6], [0, 1, 2, 3, 4, 5, 6, 7], [0, 1, 2, 3, 4, 5, 6, 7, 8], [0, 1, 2, 3, 4, 5, 6, 7, 8, 9]])] [(ResultVar.tmp 6)] cd9 := ⟨by kernel_rfl, ⟨Try.f9, Try.func9, by kernel_rfl, by rfl, Try.ntmps9, congrArg Array.toList Try.results9⟩⟩
/-- examiner/examinerref36.CheckCase -/
def cd11 : CC := (.seq (.reg [⟨some 1, (Op.box 24 (Operand.tmp 0)), none⟩,
  ⟨some 2, (Op.assign (Operand.const (Value.int IntKind.i64 0))), none⟩,
  ⟨some 3, (Op.assign (Operand.const (Value.int IntKind.i64 0))), none⟩])
 (.seq (.seq (.reg [⟨some 5, (Op.fieldAddr 24 (Operand.tmp 1) 0), none⟩,
  ⟨some 6, (Op.load 3 (Operand.tmp 5)), none⟩,
  ⟨some 7, (Op.call { callee := (Callee.value (Operand.func 29)), args := #[(Operand.tmp 6), (Operand.const (Value.int IntKind.i64 1)), (Operand.const (Value.int IntKind.i64 4))], argTypes := #[3, 3, 3] }), none⟩,
  ⟨some 8, (Op.unOp UnOp.not 4 (Operand.tmp 7)), none⟩])
 (.cond (Operand.tmp 8) (.seq (.reg [⟨some 2, (Op.assign (Operand.const (Value.int IntKind.i64 0))), none⟩,
  ⟨some 3, (Op.assign (Operand.const (Value.int IntKind.i64 3))), none⟩])
 .ret) .skip))
 (.seq (.seq (.reg [⟨some 9, (Op.fieldAddr 24 (Operand.tmp 1) 1), none⟩,
  ⟨some 10, (Op.load 22 (Operand.tmp 9)), none⟩,
  ⟨some 11, (Op.call { callee := (Callee.builtin Builtin.len), args := #[(Operand.tmp 10)], argTypes := #[22] }), none⟩,
  ⟨some 12, (Op.binOp BinOp.eql 3 (Operand.tmp 11) (Operand.const (Value.int IntKind.i64 0)) 3), none⟩])
 (.cond (Operand.tmp 12) (.seq (.reg [⟨some 2, (Op.assign (Operand.const (Value.int IntKind.i64 0))), none⟩,
  ⟨some 3, (Op.assign (Operand.const (Value.int IntKind.i64 1))), none⟩])
 .ret) .skip))
 (.seq (.seq (.reg [⟨some 13, (Op.fieldAddr 24 (Operand.tmp 1) 1), none⟩,
  ⟨some 14, (Op.load 22 (Operand.tmp 13)), none⟩,
  ⟨some 15, (Op.call { callee := (Callee.builtin Builtin.len), args := #[(Operand.tmp 14)], argTypes := #[22] }), none⟩,
  ⟨some 16, (Op.binOp BinOp.gtr 3 (Operand.tmp 15) (Operand.const (Value.int IntKind.i64 6)) 3), none⟩])
 (.cond (Operand.tmp 16) (.seq (.reg [⟨some 2, (Op.assign (Operand.const (Value.int IntKind.i64 0))), none⟩,
  ⟨some 3, (Op.assign (Operand.const (Value.int IntKind.i64 2))), none⟩])
 .ret) .skip))
 (.seq (.seq (.reg [⟨some 17, (Op.fieldAddr 24 (Operand.tmp 1) 2), none⟩,
  ⟨some 18, (Op.load 22 (Operand.tmp 17)), none⟩,
  ⟨some 19, (Op.call { callee := (Callee.builtin Builtin.len), args := #[(Operand.tmp 18)], argTypes := #[22] }), none⟩,
  ⟨some 20, (Op.fieldAddr 24 (Operand.tmp 1) 1), none⟩,
  ⟨some 21, (Op.load 22 (Operand.tmp 20)), none⟩,
  ⟨some 22, (Op.call { callee := (Callee.builtin Builtin.len), args := #[(Operand.tmp 21)], argTypes := #[22] }), none⟩,
  ⟨some 23, (Op.binOp BinOp.neq 3 (Operand.tmp 19) (Operand.tmp 22) 3), none⟩])
 (.cond (Operand.tmp 23) (.seq (.reg [⟨some 2, (Op.assign (Operand.const (Value.int IntKind.i64 0))), none⟩,
  ⟨some 3, (Op.assign (Operand.const (Value.int IntKind.i64 6))), none⟩])
 .ret) .skip))
 (.seq (.seq (.reg [⟨some 4, (Op.assign (Operand.const (Value.int IntKind.i64 0))), none⟩])
 (.block 0 (.loop (.seq (.seq (.reg [⟨some 24, (Op.move (Operand.tmp 4)), none⟩,
  ⟨some 25, (Op.fieldAddr 24 (Operand.tmp 1) 1), none⟩,
  ⟨some 26, (Op.load 22 (Operand.tmp 25)), none⟩,
  ⟨some 27, (Op.call { callee := (Callee.builtin Builtin.len), args := #[(Operand.tmp 26)], argTypes := #[22] }), none⟩,
  ⟨some 28, (Op.binOp BinOp.lss 3 (Operand.tmp 24) (Operand.tmp 27) 3), none⟩])
 (.cond (Operand.tmp 28) .skip (.exit 0)))
 (.seq (.block 1 (.seq (.dr [⟨0, .F, ⟨some 31, (Op.fieldAddr 24 (Operand.tmp 1) 1), none⟩, [], false⟩,
  ⟨1, .R, ⟨some 32, (Op.load 22 (Operand.tmp 31)), none⟩, [], false⟩,
  ⟨2, .F, ⟨some 33, (Op.move (Operand.tmp 4)), none⟩, [], false⟩,
  ⟨3, .F, ⟨some 34, (Op.indexAddr 22 (Operand.tmp 32) (Operand.tmp 33)), none⟩, [], false⟩,
  ⟨4, .R, ⟨some 35, (Op.load 3 (Operand.tmp 34)), none⟩, [], false⟩,
  ⟨5, .F, ⟨some 36, (Op.fieldAddr 24 (Operand.tmp 1) 0), none⟩, [], false⟩,
  ⟨6, .R, ⟨some 37, (Op.load 3 (Operand.tmp 36)), none⟩, [], false⟩,
  ⟨7, .F, ⟨some 38, (Op.binOp BinOp.sub 3 (Operand.tmp 37) (Operand.const (Value.int IntKind.i64 1)) 3), none⟩, [], false⟩,
  ⟨8, .E, ⟨some 39, (Op.call { callee := (Callee.value (Operand.func 29)), args := #[(Operand.tmp 35), (Operand.const (Value.int IntKind.i64 0)), (Operand.tmp 38)], argTypes := #[3, 3, 3] }), none⟩, [], false⟩,
  ⟨9, .F, ⟨some 40, (Op.unOp UnOp.not 4 (Operand.tmp 39)), none⟩, [], false⟩,
  ⟨10, .F, ⟨some 41, (Op.move (Operand.tmp 40)), none⟩, [], false⟩,
  ⟨11, .F, ⟨some 42, (Op.fieldAddr 24 (Operand.tmp 1) 2), some (41, false)⟩, [], false⟩,
  ⟨12, .R, ⟨some 43, (Op.load 22 (Operand.tmp 42)), some (41, false)⟩, [], false⟩,
  ⟨13, .F, ⟨some 44, (Op.move (Operand.tmp 4)), some (41, false)⟩, [], false⟩,
  ⟨14, .F, ⟨some 45, (Op.indexAddr 22 (Operand.tmp 43) (Operand.tmp 44)), some (41, false)⟩, [], false⟩,
  ⟨15, .R, ⟨some 46, (Op.load 3 (Operand.tmp 45)), some (41, false)⟩, [], false⟩,
  ⟨16, .E, ⟨some 47, (Op.call { callee := (Callee.value (Operand.func 40)), args := #[(Operand.tmp 46)], argTypes := #[3] }), some (41, false)⟩, [], false⟩,
  ⟨17, .F, ⟨some 48, (Op.unOp UnOp.not 4 (Operand.tmp 47)), some (41, false)⟩, [], false⟩,
  ⟨18, .F, ⟨some 49, (Op.pick (Operand.tmp 41) (Operand.const (Value.bool true)) (Operand.tmp 48)), none⟩, [], false⟩])
 (.cond (Operand.tmp 49) (.seq (.reg [⟨some 50, (Op.move (Operand.tmp 4)), none⟩,
  ⟨some 2, (Op.assign (Operand.tmp 50)), none⟩,
  ⟨some 3, (Op.assign (Operand.const (Value.int IntKind.i64 3))), none⟩])
 .ret) .skip)))
 (.reg [⟨some 29, (Op.move (Operand.tmp 4)), none⟩,
  ⟨some 30, (Op.binOp BinOp.add 3 (Operand.tmp 29) (Operand.const (Value.int IntKind.i64 1)) 3), none⟩,
  ⟨some 4, (Op.assign (Operand.tmp 30)), none⟩]))))))
 (.seq (.reg [⟨some 2, (Op.assign (Operand.const (Value.int IntKind.i64 0))), none⟩,
  ⟨some 3, (Op.assign (Operand.const (Value.int IntKind.i64 0))), none⟩])
 .ret)))))))
theorem fn11 : FnFact Try.prog 11 51 [(12, [(0, 0), (1, 3), (2, 0), (3, 0), (4, 3), (5, 0), (6, 3), (7, 0), (8, 2), (9, 0), (10, 0), (11, 0), (12, 3), (13, 0), (14, 0), (15, 3), (16, 2), (17, 0), (18, 0)], [[], [0], [], [0, 1, 2], [0, 1, 2, 3], [], [5], [5, 6], [0, 1, 2, 3, 4, 5, 6, 7], [0, 1, 2, 3, 4, 5, 6, 7, 8], [0, 1, 2, 3, 4, 5, 6, 7, 8, 9], [0, 1, 2, 3, 4, 5, 6, 7, 8, 9, 10], [0, 1, 2, 3, 4, 5, 6, 7, 8, 9, 10, 11], [0, 1, 2, 3, 4, 5, 6, 7, 8, 9, 10], [0, 1, 2, 3, 4, 5, 6, 7, 8, 9, 10, 11, 12, 13], [0, 1, 2, 3, 4, 5, 6, 7, 8, 9, 10, 11, 12, 13, 14], [0, 1, 2, 3, 4, 5, 6, 7, 8, 9, 10, 11, 12, 13, 14, 15], [0, 1, 2, 3, 4, 5, 6, 7, 8, 9, 10, 11, 12, 13, 14, 15, 16], [0, 1, 2, 3, 4, 5, 6, 7, 8, 9, 10, 11, 12, 13, 14, 15, 16, 17]])] [(ResultVar.tmp 2), (ResultVar.tmp 3)] cd11 := ⟨by kernel_rfl, ⟨Try.f11, Try.func11, by kernel_rfl, by rfl, Try.ntmps11, congrArg Array.toList Try.results11⟩⟩
/-- examiner/examinerref36.OwnCase -/
def cd13 : CC := (.seq (.reg [⟨some 1, (Op.box 24 (Operand.tmp 0)), none⟩,
  ⟨some 2, (Op.alloc 24), none⟩])
 (.seq (.dr [⟨0, .F, ⟨some 3, (Op.fieldAddr 24 (Operand.tmp 1) 0), none⟩, [], false⟩,
  ⟨1, .F, ⟨some 4, (Op.load 3 (Operand.tmp 3)), none⟩, [], false⟩,
  ⟨2, .F, ⟨some 5, (Op.fieldAddr 24 (Operand.tmp 1) 1), none⟩, [], false⟩,
  ⟨3, .R, ⟨some 6, (Op.load 22 (Operand.tmp 5)), none⟩, [], false⟩,
  ⟨5, .F, ⟨some 8, (Op.fieldAddr 24 (Operand.tmp 1) 2), none⟩, [], false⟩,
  ⟨6, .F, ⟨some 9, (Op.load 22 (Operand.tmp 8)), none⟩, [], false⟩,
  ⟨4, .E, ⟨some 7, (Op.call { callee := (Callee.value (Operand.func 43)), args := #[(Operand.tmp 6)], argTypes := #[22] }), none⟩, [], false⟩,
  ⟨7, .E, ⟨some 10, (Op.call { callee := (Callee.value (Operand.func 43)), args := #[(Operand.tmp 9)], argTypes := #[22] }), none⟩, [], false⟩,
  ⟨8, .F, ⟨some 11, (Op.build 24 #[(0, (Operand.tmp 4)), (1, (Operand.tmp 7)), (2, (Operand.tmp 10))]), none⟩, [], false⟩,
  ⟨9, .E, ⟨none, (Op.store 24 (Operand.tmp 2) (Operand.tmp 11)), none⟩, [], false⟩])
 .ret))
theorem fn13 : FnFact Try.prog 13 12 [(1, [(0, 0), (1, 0), (2, 0), (3, 3), (5, 0), (6, 0), (4, 2), (7, 2), (8, 0), (9, 2)], [[], [0], [], [2], [2, 3], [], [5], [2, 3, 4, 5, 6], [0, 1, 2, 3, 4, 5, 6, 7], [0, 1, 2, 3, 4, 5, 6, 7, 8]])] [(ResultVar.cell 2 24)] cd13 := ⟨by kernel_rfl, ⟨Try.f13, Try.func13, by kernel_rfl, by rfl, Try.ntmps13, congrArg Array.toList Try.results13⟩⟩
/-- examiner/examinerref36.StateErr -/
def cd15 : CC := (.seq (.reg [⟨some 2, (Op.box 24 (Operand.tmp 0)), none⟩,
  ⟨some 3, (Op.box 33 (Operand.tmp 1)), none⟩,
  ⟨some 4, (Op.assign (Operand.const (Value.int IntKind.i64 0))), none⟩])
 (.seq (.reg [⟨some 8, (Op.load 24 (Operand.tmp 2)), none⟩,
  ⟨some 9, (Op.load 33 (Operand.tmp 3)), none⟩,
  ⟨some 10, (Op.call { callee := (Callee.value (Operand.func 35)), args := #[(Operand.tmp 8), (Operand.tmp 9)], argTypes := #[24, 33] }), none⟩,
  ⟨some 7, (Op.move (Operand.tmp 10)), none⟩,
  ⟨some 11, (Op.extract (Operand.tmp 7) 0), none⟩,
  ⟨some 12, (Op.extract (Operand.tmp 7) 1), none⟩,
  ⟨some 5, (Op.assign (Operand.tmp 11)), none⟩,
  ⟨some 6, (Op.assign (Operand.tmp 12)), none⟩])
 (.seq (.reg [⟨some 13, (Op.move (Operand.tmp 6)), none⟩,
  ⟨some 4, (Op.assign (Operand.tmp 13)), none⟩])
 .ret)))
theorem fn15 : FnFact Try.prog 15 14 [] [(ResultVar.tmp 4)] cd15 := ⟨by kernel_rfl, ⟨Try.f15, Try.func15, by kernel_rfl, by rfl, Try.ntmps15, congrArg Array.toList Try.results15⟩⟩
/-- examiner/hosts.Acted -/
def cd16 : CC := (.seq (.reg [⟨some 3, (Op.box 24 (Operand.tmp 0)), none⟩,
  ⟨some 4, (Op.box 33 (Operand.tmp 1)), none⟩,
  ⟨some 5, (Op.box 39 (Operand.tmp 2)), none⟩,
  ⟨some 6, (Op.alloc 33), none⟩,
  ⟨some 7, (Op.assign (Operand.const (Value.int IntKind.i64 0))), none⟩])
 (.seq (.reg [⟨some 10, (Op.load 24 (Operand.tmp 3)), none⟩,
  ⟨some 11, (Op.load 33 (Operand.tmp 4)), none⟩,
  ⟨some 12, (Op.call { callee := (Callee.value (Operand.func 44)), args := #[(Operand.tmp 10), (Operand.tmp 11)], argTypes := #[24, 33] }), none⟩,
  ⟨some 8, (Op.assign (Operand.tmp 12)), none⟩])
 (.seq (.seq (.reg [⟨some 13, (Op.move (Operand.tmp 8)), none⟩,
  ⟨some 14, (Op.binOp BinOp.eql 34 (Operand.tmp 13) (Operand.const (Value.int IntKind.i64 0)) 34), none⟩])
 (.cond (Operand.tmp 14) (.reg [⟨some 15, (Op.load 24 (Operand.tmp 3)), none⟩,
  ⟨some 16, (Op.load 33 (Operand.tmp 4)), none⟩,
  ⟨some 17, (Op.load 39 (Operand.tmp 5)), none⟩,
  ⟨some 18, (Op.call { callee := (Callee.value (Operand.func 45)), args := #[(Operand.tmp 15), (Operand.tmp 16), (Operand.tmp 17)], argTypes := #[24, 33, 39] }), none⟩,
  ⟨some 8, (Op.assign (Operand.tmp 18)), none⟩]) .skip))
 (.seq (.seq (.reg [⟨some 19, (Op.move (Operand.tmp 8)), none⟩,
  ⟨some 20, (Op.binOp BinOp.neq 34 (Operand.tmp 19) (Operand.const (Value.int IntKind.i64 0)) 34), none⟩])
 (.cond (Operand.tmp 20) (.seq (.reg [⟨some 21, (Op.build 33 #[]), none⟩,
  ⟨some 22, (Op.move (Operand.tmp 8)), none⟩,
  ⟨none, (Op.store 33 (Operand.tmp 6) (Operand.tmp 21)), none⟩,
  ⟨some 7, (Op.assign (Operand.tmp 22)), none⟩])
 .ret) .skip))
 (.seq (.dr [⟨0, .F, ⟨some 23, (Op.load 24 (Operand.tmp 3)), none⟩, [], false⟩,
  ⟨1, .R, ⟨some 24, (Op.load 33 (Operand.tmp 4)), none⟩, [], false⟩,
  ⟨2, .E, ⟨some 25, (Op.call { callee := (Callee.value (Operand.func 46)), args := #[(Operand.tmp 24)], argTypes := #[33] }), none⟩, [], false⟩,
  ⟨3, .F, ⟨some 26, (Op.build 85 #[(0, (Operand.tmp 23)), (1, (Operand.tmp 25))]), none⟩, [], false⟩,
  ⟨4, .A, ⟨some 27, (Op.box 85 (Operand.tmp 26)), none⟩, [], false⟩,
  ⟨5, .F, ⟨some 9, (Op.assign (Operand.tmp 27)), none⟩, [], false⟩])
 (.seq (.reg [⟨some 28, (Op.move (Operand.tmp 9)), none⟩,
  ⟨some 29, (Op.load 39 (Operand.tmp 5)), none⟩,
  ⟨some 30, (Op.call { callee := (Callee.value (Operand.func 47)), args := #[(Operand.tmp 28), (Operand.tmp 29)], argTypes := #[83, 39] }), none⟩])
 (.seq (.reg [⟨some 31, (Op.move (Operand.tmp 9)), none⟩,
  ⟨some 32, (Op.nilCheck (Operand.tmp 31)), none⟩,
  ⟨some 33, (Op.fieldAddr 85 (Operand.tmp 32) 1), none⟩,
  ⟨some 34, (Op.load 33 (Operand.tmp 33)), none⟩,
  ⟨none, (Op.store 33 (Operand.tmp 6) (Operand.tmp 34)), none⟩,
  ⟨some 7, (Op.assign (Operand.const (Value.int IntKind.i64 0))), none⟩])
 .ret)))))))
theorem fn16 : FnFact Try.prog 16 35 [(6, [(0, 0), (1, 3), (2, 2), (3, 0), (4, 1), (5, 0)], [[], [], [1], [0, 1, 2], [0, 1, 2, 3], [0, 1, 2, 3, 4]])] [(ResultVar.cell 6 33), (ResultVar.tmp 7)] cd16 := ⟨by kernel_rfl, ⟨Try.f16, Try.func16, by kernel_rfl, by rfl, Try.ntmps16, congrArg Array.toList Try.results16⟩⟩
/-- examiner/examinerref36.Own -/
def cd17 : CC := (.seq (.reg [⟨some 1, (Op.box 33 (Operand.tmp 0)), none⟩,
  ⟨some 2, (Op.alloc 33), none⟩])
 (.seq (.dr [⟨0, .F, ⟨some 5, (Op.buildSlice 29 0 #[]), none⟩, [], false⟩,
  ⟨1, .F, ⟨some 6, (Op.fieldAddr 33 (Operand.tmp 1) 0), none⟩, [], false⟩,
  ⟨2, .R, ⟨some 7, (Op.load 29 (Operand.tmp 6)), none⟩, [], false⟩,
  ⟨4, .F, ⟨some 9, (Op.fieldAddr 33 (Operand.tmp 1) 1), none⟩, [], false⟩,
  ⟨5, .F, ⟨some 10, (Op.load 3 (Operand.tmp 9)), none⟩, [], false⟩,
  ⟨6, .F, ⟨some 11, (Op.buildSlice 31 0 #[]), none⟩, [], false⟩,
  ⟨7, .F, ⟨some 12, (Op.fieldAddr 33 (Operand.tmp 1) 3), none⟩, [], false⟩,
  ⟨8, .F, ⟨some 13, (Op.load 31 (Operand.tmp 12)), none⟩, [], false⟩,
  ⟨11, .A, ⟨some 3, (Op.alloc 33), none⟩, [], false⟩,
  ⟨3, .E, ⟨some 8, (Op.call { callee := (Callee.builtin Builtin.append), args := #[(Operand.tmp 5), (Operand.tmp 7)], argTypes := #[29, 29] }), none⟩, [], false⟩,
  ⟨9, .E, ⟨some 14, (Op.call { callee := (Callee.builtin Builtin.append), args := #[(Operand.tmp 11), (Operand.tmp 13)], argTypes := #[31, 31] }), none⟩, [], false⟩,
  ⟨10, .F, ⟨some 15, (Op.build 33 #[(0, (Operand.tmp 8)), (1, (Operand.tmp 10)), (3, (Operand.tmp 14))]), none⟩, [], false⟩,
  ⟨12, .E, ⟨none, (Op.store 33 (Operand.tmp 3) (Operand.tmp 15)), none⟩, [11], false⟩])
 (.seq (.seq (.reg [⟨some 4, (Op.assign (Operand.const (Value.int IntKind.i64 0))), none⟩])
 (.block 0 (.loop (.seq (.seq (.reg [⟨some 16, (Op.move (Operand.tmp 4)), none⟩,
  ⟨some 17, (Op.fieldAddr 33 (Operand.tmp 1) 2), none⟩,
  ⟨some 18, (Op.load 30 (Operand.tmp 17)), none⟩,
  ⟨some 19, (Op.call { callee := (Callee.builtin Builtin.len), args := #[(Operand.tmp 18)], argTypes := #[30] }), none⟩,
  ⟨some 20, (Op.binOp BinOp.lss 3 (Operand.tmp 16) (Operand.tmp 19) 3), none⟩])
 (.cond (Operand.tmp 20) .skip (.exit 0)))
 (.seq (.block 1 (.dr [⟨0, .F, ⟨some 23, (Op.fieldAddr 33 (Operand.tmp 3) 2), none⟩, [], false⟩,
  ⟨1, .R, ⟨some 24, (Op.load 30 (Operand.tmp 23)), none⟩, [], false⟩,
  ⟨2, .F, ⟨some 25, (Op.fieldAddr 33 (Operand.tmp 1) 2), none⟩, [], false⟩,
  ⟨3, .F, ⟨some 26, (Op.load 30 (Operand.tmp 25)), none⟩, [], false⟩,
  ⟨4, .F, ⟨some 27, (Op.move (Operand.tmp 4)), none⟩, [], false⟩,
  ⟨5, .F, ⟨some 28, (Op.indexAddr 30 (Operand.tmp 26) (Operand.tmp 27)), none⟩, [], false⟩,
  ⟨6, .F, ⟨some 29, (Op.fieldAddr 80 (Operand.tmp 28) 0), none⟩, [], false⟩,
  ⟨7, .F, ⟨some 30, (Op.load 4 (Operand.tmp 29)), none⟩, [], false⟩,
  ⟨8, .F, ⟨some 31, (Op.buildSlice 78 0 #[]), none⟩, [], false⟩,
  ⟨9, .F, ⟨some 32, (Op.fieldAddr 33 (Operand.tmp 1) 2), none⟩, [], false⟩,
  ⟨10, .R, ⟨some 33, (Op.load 30 (Operand.tmp 32)), none⟩, [], false⟩,
  ⟨11, .F, ⟨some 34, (Op.move (Operand.tmp 4)), none⟩, [], false⟩,
  ⟨12, .F, ⟨some 35, (Op.indexAddr 30 (Operand.tmp 33) (Operand.tmp 34)), none⟩, [], false⟩,
  ⟨13, .F, ⟨some 36, (Op.fieldAddr 80 (Operand.tmp 35) 1), none⟩, [], false⟩,
  ⟨14, .R, ⟨some 37, (Op.load 78 (Operand.tmp 36)), none⟩, [], false⟩,
  ⟨15, .E, ⟨some 38, (Op.call { callee := (Callee.builtin Builtin.append), args := #[(Operand.tmp 31), (Operand.tmp 37)], argTypes := #[78, 78] }), none⟩, [], true⟩,
  ⟨16, .F, ⟨some 39, (Op.build 80 #[(0, (Operand.tmp 30)), (1, (Operand.tmp 38))]), none⟩, [], false⟩,
  ⟨17, .F, ⟨some 40, (Op.buildSlice 30 1 #[(0, (Operand.tmp 39))]), none⟩, [], false⟩,
  ⟨18, .E, ⟨some 41, (Op.call { callee := (Callee.builtin Builtin.append), args := #[(Operand.tmp 24), (Operand.tmp 40)], argTypes := #[30, 30] }), none⟩, [], false⟩,
  ⟨19, .F, ⟨some 42, (Op.fieldAddr 33 (Operand.tmp 3) 2), none⟩, [], false⟩,
  ⟨20, .E, ⟨none, (Op.store 30 (Operand.tmp 42) (Operand.tmp 41)), none⟩, [], false⟩]))
 (.reg [⟨some 21, (Op.move (Operand.tmp 4)), none⟩,
  ⟨some 22, (Op.binOp BinOp.add 3 (Operand.tmp 21) (Operand.const (Value.int IntKind.i64 1)) 3), none⟩,
  ⟨some 4, (Op.assign (Operand.tmp 22)), none⟩]))))))
 (.seq (.reg [⟨some 43, (Op.load 33 (Operand.tmp 3)), none⟩,
  ⟨none, (Op.store 33 (Operand.tmp 2) (Operand.tmp 43)), none⟩])
 .ret))))
theorem fn17 : FnFact Try.prog 17 44 [(1, [(0, 0), (1, 0), (2, 3), (4, 0), (5, 0), (6, 0), (7, 0), (8, 0), (11, 1), (3, 2), (9, 2), (10, 0), (12, 2)], [[], [], [1], [0, 1, 2], [], [4], [], [], [7], [0, 1, 2, 3, 6, 7, 8], [0, 1, 2, 3, 4, 5, 6, 7, 8, 9], [], [0, 1, 2, 3, 4, 5, 6, 7, 8, 9, 10, 11]]), (5, [(0, 0), (1, 3), (2, 0), (3, 0), (4, 0), (5, 0), (6, 0), (7, 0), (8, 0), (9, 0), (10, 3), (11, 0), (12, 0), (13, 0), (14, 3), (15, 4), (16, 0), (17, 0), (18, 2), (19, 0), (20, 2)], [[], [0], [], [2], [], [2, 3, 4], [2, 3, 4, 5], [2, 3, 4, 5, 6], [], [], [9], [], [9, 10, 11], [9, 10, 11, 12], [9, 10, 11, 12, 13], [8, 9, 10, 11, 12, 13, 14], [2, 3, 4, 5, 6, 7, 8, 9, 10, 11, 12, 13, 14, 15], [2, 3, 4, 5, 6, 7, 8, 9, 10, 11, 12, 13, 14, 15, 16], [0, 1, 2, 3, 4, 5, 6, 7, 8, 9, 10, 11, 12, 13, 14, 15, 16, 17], [0, 1, 2, 3, 4, 5, 6, 7, 8, 9, 10, 11, 12, 13, 14, 15, 16, 17, 18], [0, 1, 2, 3, 4, 5, 6, 7, 8, 9, 10, 11, 12, 13, 14, 15, 16, 17, 18, 19]])] [(ResultVar.cell 2 33)] cd17 := ⟨by kernel_rfl, ⟨Try.f17, Try.func17, by kernel_rfl, by rfl, Try.ntmps17, congrArg Array.toList Try.results17⟩⟩
/-- examiner/hosts.IsOver -/
def cd18 : CC := (.seq (.reg [⟨some 2, (Op.box 24 (Operand.tmp 0)), none⟩,
  ⟨some 3, (Op.box 33 (Operand.tmp 1)), none⟩,
  ⟨some 4, (Op.assign (Operand.const (Value.bool false))), none⟩,
  ⟨some 5, (Op.assign (Operand.const (Value.int IntKind.i64 0))), none⟩])
 (.seq (.seq (.reg [⟨some 7, (Op.load 24 (Operand.tmp 2)), none⟩,
  ⟨some 8, (Op.load 33 (Operand.tmp 3)), none⟩,
  ⟨some 9, (Op.call { callee := (Callee.value (Operand.func 44)), args := #[(Operand.tmp 7), (Operand.tmp 8)], argTypes := #[24, 33] }), none⟩,
  ⟨some 6, (Op.assign (Operand.tmp 9)), none⟩])
 (.seq (.reg [⟨some 10, (Op.move (Operand.tmp 6)), none⟩,
  ⟨some 11, (Op.binOp BinOp.neq 34 (Operand.tmp 10) (Operand.const (Value.int IntKind.i64 0)) 34), none⟩])
 (.cond (Operand.tmp 11) (.seq (.reg [⟨some 12, (Op.move (Operand.tmp 6)), none⟩,
  ⟨some 4, (Op.assign (Operand.const (Value.bool false))), none⟩,
  ⟨some 5, (Op.assign (Operand.tmp 12)), none⟩])
 .ret) .skip)))
 (.seq (.reg [⟨some 13, (Op.fieldAddr 33 (Operand.tmp 3) 0), none⟩,
  ⟨some 14, (Op.load 29 (Operand.tmp 13)), none⟩,
  ⟨some 15, (Op.call { callee := (Callee.value (Operand.func 48)), args := #[(Operand.tmp 14), (Operand.func 49)], argTypes := #[29, 88] }), none⟩,
  ⟨some 16, (Op.unOp UnOp.not 4 (Operand.tmp 15)), none⟩,
  ⟨some 4, (Op.assign (Operand.tmp 16)), none⟩,
  ⟨some 5, (Op.assign (Operand.const (Value.int IntKind.i64 0))), none⟩])
 .ret)))
theorem fn18 : FnFact Try.prog 18 17 [] [(ResultVar.tmp 4), (ResultVar.tmp 5)] cd18 := ⟨by kernel_rfl, ⟨Try.f18, Try.func18, by kernel_rfl, by rfl, Try.ntmps18, congrArg Array.toList Try.results18⟩⟩
/-- examiner/hosts.ActsIn -/
def cd20 : CC := (.seq (.reg [⟨some 2, (Op.box 24 (Operand.tmp 0)), none⟩,
  ⟨some 3, (Op.box 33 (Operand.tmp 1)), none⟩,
  ⟨some 4, (Op.assign (Operand.const (Value.slice none 0 0))), none⟩,
  ⟨some 5, (Op.assign (Operand.const (Value.int IntKind.i64 0))), none⟩])
 (.seq (.seq (.reg [⟨some 11, (Op.load 24 (Operand.tmp 2)), none⟩,
  ⟨some 12, (Op.load 33 (Operand.tmp 3)), none⟩,
  ⟨some 13, (Op.call { callee := (Callee.value (Operand.func 44)), args := #[(Operand.tmp 11), (Operand.tmp 12)], argTypes := #[24, 33] }), none⟩,
  ⟨some 6, (Op.assign (Operand.tmp 13)), none⟩])
 (.seq (.reg [⟨some 14, (Op.move (Operand.tmp 6)), none⟩,
  ⟨some 15, (Op.binOp BinOp.neq 34 (Operand.tmp 14) (Operand.const (Value.int IntKind.i64 0)) 34), none⟩])
 (.cond (Operand.tmp 15) (.seq (.reg [⟨some 16, (Op.move (Operand.tmp 6)), none⟩,
  ⟨some 4, (Op.assign (Operand.const (Value.slice none 0 0))), none⟩,
  ⟨some 5, (Op.assign (Operand.tmp 16)), none⟩])
 .ret) .skip)))
 (.seq (.reg [⟨some 7, (Op.assign (Operand.const (Value.slice none 0 0))), none⟩])
 (.seq (.seq (.reg [⟨some 17, (Op.move (Operand.const (Value.int IntKind.i64 0))), none⟩])
 (.block 0 (.loop (.seq (.reg [⟨some 18, (Op.binOp BinOp.lss 3 (Operand.tmp 17) (Operand.const (Value.int IntKind.i64 8)) 3), none⟩])
 (.seq (.cond (Operand.tmp 18) .skip (.exit 0))
 (.seq (.block 1 (.seq (.reg [⟨some 19, (Op.move (Operand.tmp 17)), none⟩,
  ⟨some 8, (Op.assign (Operand.tmp 19)), none⟩])
 (.seq (.reg [⟨some 20, (Op.fieldAddr 33 (Operand.tmp 3) 3), none⟩,
  ⟨some 21, (Op.load 31 (Operand.tmp 20)), none⟩,
  ⟨some 22, (Op.call { callee := (Callee.builtin Builtin.len), args := #[(Operand.tmp 21)], argTypes := #[31] }), none⟩,
  ⟨some 23, (Op.fieldAddr 24 (Operand.tmp 2) 1), none⟩,
  ⟨some 24, (Op.load 22 (Operand.tmp 23)), none⟩,
  ⟨some 25, (Op.call { callee := (Callee.builtin Builtin.len), args := #[(Operand.tmp 24)], argTypes := #[22] }), none⟩,
  ⟨some 26, (Op.fieldAddr 24 (Operand.tmp 2) 0), none⟩,
  ⟨some 27, (Op.load 3 (Operand.tmp 26)), none⟩,
  ⟨some 28, (Op.call { callee := (Callee.builtin Builtin.max), args := #[(Operand.tmp 22), (Operand.tmp 25), (Operand.tmp 27)], argTypes := #[3, 3, 3] }), none⟩,
  ⟨some 29, (Op.move (Operand.const (Value.int IntKind.i64 0))), none⟩])
 (.block 2 (.loop (.seq (.reg [⟨some 30, (Op.binOp BinOp.lss 3 (Operand.tmp 29) (Operand.tmp 28) 3), none⟩])
 (.seq (.cond (Operand.tmp 30) .skip (.exit 2))
 (.seq (.block 3 (.seq (.reg [⟨some 31, (Op.move (Operand.tmp 29)), none⟩,
  ⟨some 9, (Op.assign (Operand.tmp 31)), none⟩])
 (.seq (.reg [⟨some 32, (Op.move (Operand.tmp 8)), none⟩,
  ⟨some 33, (Op.move (Operand.tmp 9)), none⟩,
  ⟨some 34, (Op.build 39 #[(0, (Operand.tmp 32)), (1, (Operand.tmp 33))]), none⟩,
  ⟨some 10, (Op.alloc 39), none⟩,
  ⟨none, (Op.store 39 (Operand.tmp 10) (Operand.tmp 34)), none⟩])
 (.seq (.reg [⟨some 35, (Op.load 24 (Operand.tmp 2)), none⟩,
  ⟨some 36, (Op.load 33 (Operand.tmp 3)), none⟩,
  ⟨some 37, (Op.load 39 (Operand.tmp 10)), none⟩,
  ⟨some 38, (Op.call { callee := (Callee.value (Operand.func 50)), args := #[(Operand.tmp 35), (Operand.tmp 36), (Operand.tmp 37)], argTypes := #[24, 33, 39] }), none⟩])
 (.cond (Operand.tmp 38) (.reg [⟨some 39, (Op.move (Operand.tmp 7)), none⟩,
  ⟨some 40, (Op.load 39 (Operand.tmp 10)), none⟩,
  ⟨some 41, (Op.buildSlice 25 1 #[(0, (Operand.tmp 40))]), none⟩,
  ⟨some 42, (Op.call { callee := (Callee.builtin Builtin.append), args := #[(Operand.tmp 39), (Operand.tmp 41)], argTypes := #[25, 25] }), none⟩,
  ⟨some 7, (Op.assign (Operand.tmp 42)), none⟩]) .skip)))))
 (.reg [⟨some 43, (Op.binOp BinOp.add 3 (Operand.tmp 29) (Operand.const (Value.int IntKind.i64 1)) 3), none⟩,
  ⟨some 29, (Op.move (Operand.tmp 43)), none⟩])))))))))
 (.reg [⟨some 44, (Op.binOp BinOp.add 3 (Operand.tmp 17) (Operand.const (Value.int IntKind.i64 1)) 3), none⟩,
  ⟨some 17, (Op.move (Operand.tmp 44)), none⟩])))))))
 (.seq (.reg [⟨some 45, (Op.move (Operand.tmp 7)), none⟩,
  ⟨some 4, (Op.assign (Operand.tmp 45)), none⟩,
  ⟨some 5, (Op.assign (Operand.const (Value.int IntKind.i64 0))), none⟩])
 .ret)))))
theorem fn20 : FnFact Try.prog 20 46 [] [(ResultVar.tmp 4), (ResultVar.tmp 5)] cd20 := ⟨by kernel_rfl, ⟨Try.f20, Try.func20, by kernel_rfl, by rfl, Try.ntmps20, congrArg Array.toList Try.results20⟩⟩
/-- examiner/examinerlaw36.awake -/
def cd23 : CC := (.seq (.reg [⟨some 0, (Op.assign (Operand.const (Value.bool false))), none⟩])
 (.seq (.reg [⟨some 9, (Op.call { callee := (Callee.value (Operand.func 39)), args := #[], argTypes := #[] }), none⟩,
  ⟨some 10, (Op.build 39 #[(0, (Operand.const (Value.int IntKind.i64 0)))]), none⟩,
  ⟨some 11, (Op.build 39 #[(0, (Operand.const (Value.int IntKind.i64 1)))]), none⟩,
  ⟨some 12, (Op.build 39 #[(0, (Operand.const (Value.int IntKind.i64 4)))]), none⟩,
  ⟨some 13, (Op.build 39 #[(0, (Operand.const (Value.int IntKind.i64 1))), (1, (Operand.const (Value.int IntKind.i64 1)))]), none⟩,
  ⟨some 14, (Op.buildSlice 25 4 #[(0, (Operand.tmp 10)), (1, (Operand.tmp 11)), (2, (Operand.tmp 12)), (3, (Operand.tmp 13))]), none⟩,
  ⟨some 15, (Op.call { callee := (Callee.value (Operand.func 25)), args := #[(Operand.tmp 9), (Operand.tmp 14)], argTypes := #[24, 25] }), none⟩,
  ⟨some 8, (Op.move (Operand.tmp 15)), none⟩,
  ⟨some 16, (Op.extract (Operand.tmp 8) 0), none⟩,
  ⟨some 17, (Op.extract (Operand.tmp 8) 1), none⟩,
  ⟨some 18, (Op.extract (Operand.tmp 8) 2), none⟩,
  ⟨some 1, (Op.alloc 33), none⟩,
  ⟨none, (Op.store 33 (Operand.tmp 1) (Operand.tmp 16)), none⟩,
  ⟨some 2, (Op.assign (Operand.tmp 17)), none⟩,
  ⟨some 3, (Op.assign (Operand.tmp 18)), none⟩])
 (.seq (.dr [⟨1, .R, ⟨some 21, (Op.load 33 (Operand.tmp 1)), none⟩, [], false⟩,
  ⟨0, .E, ⟨some 20, (Op.call { callee := (Callee.value (Operand.func 39)), args := #[], argTypes := #[] }), none⟩, [], true⟩,
  ⟨2, .E, ⟨some 22, (Op.call { callee := (Callee.value (Operand.func 18)), args := #[(Operand.tmp 20), (Operand.tmp 21)], argTypes := #[24, 33] }), none⟩, [], false⟩,
  ⟨3, .F, ⟨some 19, (Op.move (Operand.tmp 22)), none⟩, [], false⟩,
  ⟨4, .F, ⟨some 23, (Op.extract (Operand.tmp 19) 0), none⟩, [], false⟩,
  ⟨5, .F, ⟨some 24, (Op.extract (Operand.tmp 19) 1), none⟩, [], false⟩,
  ⟨6, .F, ⟨some 4, (Op.assign (Operand.tmp 23)), none⟩, [], false⟩,
  ⟨7, .F, ⟨some 5, (Op.assign (Operand.tmp 24)), none⟩, [], false⟩])
 (.seq (.reg [⟨some 26, (Op.call { callee := (Callee.value (Operand.func 39)), args := #[], argTypes := #[] }), none⟩,
  ⟨some 27, (Op.call { callee := (Callee.value (Operand.func 28)), args := #[(Operand.tmp 26), (Operand.const (Value.int IntKind.i64 3))], argTypes := #[24, 3] }), none⟩,
  ⟨some 25, (Op.move (Operand.tmp 27)), none⟩,
  ⟨some 28, (Op.extract (Operand.tmp 25) 0), none⟩,
  ⟨some 29, (Op.extract (Operand.tmp 25) 1), none⟩,
  ⟨some 6, (Op.assign (Operand.tmp 28)), none⟩,
  ⟨some 7, (Op.assign (Operand.tmp 29)), none⟩])
 (.seq (.reg [⟨some 30, (Op.move (Operand.tmp 3)), none⟩,
  ⟨some 31, (Op.binOp BinOp.eql 34 (Operand.tmp 30) (Operand.const (Value.int IntKind.i64 0)) 34), none⟩,
  ⟨some 32, (Op.move (Operand.tmp 31)), none⟩,
  ⟨some 33, (Op.move (Operand.tmp 2)), some (32, true)⟩,
  ⟨some 34, (Op.binOp BinOp.eql 3 (Operand.tmp 33) (Operand.const (Value.int IntKind.i64 4)) 3), some (32, true)⟩,
  ⟨some 35, (Op.pick (Operand.tmp 32) (Operand.tmp 34) (Operand.const (Value.bool false))), none⟩,
  ⟨some 36, (Op.move (Operand.tmp 35)), none⟩,
  ⟨some 37, (Op.fieldAddr 33 (Operand.tmp 1) 1), some (36, true)⟩,
  ⟨some 38, (Op.load 3 (Operand.tmp 37)), some (36, true)⟩,
  ⟨some 39, (Op.binOp BinOp.eql 3 (Operand.tmp 38) (Operand.const (Value.int IntKind.i64 1)) 3), some (36, true)⟩,
  ⟨some 40, (Op.pick (Operand.tmp 36) (Operand.tmp 39) (Operand.const (Value.bool false))), none⟩,
  ⟨some 41, (Op.move (Operand.tmp 40)), none⟩,
  ⟨some 42, (Op.fieldAddr 33 (Operand.tmp 1) 3), some (41, true)⟩,
  ⟨some 43, (Op.load 31 (Operand.tmp 42)), some (41, true)⟩,
  ⟨some 44, (Op.call { callee := (Callee.builtin Builtin.len), args := #[(Operand.tmp 43)], argTypes := #[31] }), some (41, true)⟩,
  ⟨some 45, (Op.binOp BinOp.eql 3 (Operand.tmp 44) (Operand.const (Value.int IntKind.i64 2)) 3), some (41, true)⟩,
  ⟨some 46, (Op.pick (Operand.tmp 41) (Operand.tmp 45) (Operand.const (Value.bool false))), none⟩,
  ⟨some 47, (Op.move (Operand.tmp 46)), none⟩,
  ⟨some 48, (Op.move (Operand.tmp 5)), some (47, true)⟩,
  ⟨some 49, (Op.binOp BinOp.eql 34 (Operand.tmp 48) (Operand.const (Value.int IntKind.i64 0)) 34), some (47, true)⟩,
  ⟨some 50, (Op.pick (Operand.tmp 47) (Operand.tmp 49) (Operand.const (Value.bool false))), none⟩,
  ⟨some 51, (Op.move (Operand.tmp 50)), none⟩,
  ⟨some 52, (Op.move (Operand.tmp 4)), some (51, true)⟩,
  ⟨some 53, (Op.pick (Operand.tmp 51) (Operand.tmp 52) (Operand.const (Value.bool false))), none⟩,
  ⟨some 54, (Op.move (Operand.tmp 53)), none⟩,
  ⟨some 55, (Op.move (Operand.tmp 7)), some (54, true)⟩,
  ⟨some 56, (Op.binOp BinOp.eql 34 (Operand.tmp 55) (Operand.const (Value.int IntKind.i64 23)) 34), some (54, true)⟩,
  ⟨some 57, (Op.pick (Operand.tmp 54) (Operand.tmp 56) (Operand.const (Value.bool false))), none⟩,
  ⟨some 0, (Op.assign (Operand.tmp 57)), none⟩])
 .ret)))))
theorem fn23 : FnFact Try.prog 23 58 [(2, [(1, 3), (0, 4), (2, 2), (3, 0), (4, 0), (5, 0), (6, 0), (7, 0)], [[], [], [0, 1], [0, 1, 2], [0, 1, 2, 3], [0, 1, 2, 3], [0, 1, 2, 3, 4], [0, 1, 2, 3, 4, 5, 6]])] [(ResultVar.tmp 0)] cd23 := ⟨by kernel_rfl, ⟨Try.f23, Try.func23, by kernel_rfl, by rfl, Try.ntmps23, congrArg Array.toList Try.results23⟩⟩
/-- examiner/examinerlaw36.small -/
def cd24 : CC := (.seq (.reg [⟨some 2, (Op.box 24 (Operand.tmp 0)), none⟩,
  ⟨some 3, (Op.box 33 (Operand.tmp 1)), none⟩,
  ⟨some 4, (Op.assign (Operand.const (Value.bool false))), none⟩])
 (.seq (.seq (.reg [⟨some 6, (Op.fieldAddr 24 (Operand.tmp 2) 1), none⟩,
  ⟨some 7, (Op.load 22 (Operand.tmp 6)), none⟩,
  ⟨some 8, (Op.call { callee := (Callee.builtin Builtin.len), args := #[(Operand.tmp 7)], argTypes := #[22] }), none⟩,
  ⟨some 9, (Op.binOp BinOp.gtr 3 (Operand.tmp 8) (Operand.const (Value.int IntKind.i64 9)) 3), none⟩,
  ⟨some 10, (Op.move (Operand.tmp 9)), none⟩,
  ⟨some 11, (Op.fieldAddr 24 (Operand.tmp 2) 2), some (10, false)⟩,
  ⟨some 12, (Op.load 22 (Operand.tmp 11)), some (10, false)⟩,
  ⟨some 13, (Op.call { callee := (Callee.builtin Builtin.len), args := #[(Operand.tmp 12)], argTypes := #[22] }), some (10, false)⟩,
  ⟨some 14, (Op.binOp BinOp.gtr 3 (Operand.tmp 13) (Operand.const (Value.int IntKind.i64 9)) 3), some (10, false)⟩,
  ⟨some 15, (Op.pick (Operand.tmp 10) (Operand.const (Value.bool true)) (Operand.tmp 14)), none⟩,
  ⟨some 16, (Op.move (Operand.tmp 15)), none⟩,
  ⟨some 17, (Op.fieldAddr 33 (Operand.tmp 3) 0), some (16, false)⟩,
  ⟨some 18, (Op.load 29 (Operand.tmp 17)), some (16, false)⟩,
  ⟨some 19, (Op.call { callee := (Callee.builtin Builtin.len), args := #[(Operand.tmp 18)], argTypes := #[29] }), some (16, false)⟩,
  ⟨some 20, (Op.binOp BinOp.gtr 3 (Operand.tmp 19) (Operand.const (Value.int IntKind.i64 9)) 3), some (16, false)⟩,
  ⟨some 21, (Op.pick (Operand.tmp 16) (Operand.const (Value.bool true)) (Operand.tmp 20)), none⟩,
  ⟨some 22, (Op.move (Operand.tmp 21)), none⟩,
  ⟨some 23, (Op.fieldAddr 33 (Operand.tmp 3) 2), some (22, false)⟩,
  ⟨some 24, (Op.load 30 (Operand.tmp 23)), some (22, false)⟩,
  ⟨some 25, (Op.call { callee := (Callee.builtin Builtin.len), args := #[(Operand.tmp 24)], argTypes := #[30] }), some (22, false)⟩,
  ⟨some 26, (Op.binOp BinOp.gtr 3 (Operand.tmp 25) (Operand.const (Value.int IntKind.i64 9)) 3), some (22, false)⟩,
  ⟨some 27, (Op.pick (Operand.tmp 22) (Operand.const (Value.bool true)) (Operand.tmp 26)), none⟩,
  ⟨some 28, (Op.move (Operand.tmp 27)), none⟩,
  ⟨some 29, (Op.fieldAddr 33 (Operand.tmp 3) 3), some (28, false)⟩,
  ⟨some 30, (Op.load 31 (Operand.tmp 29)), some (28, false)⟩,
  ⟨some 31, (Op.call { callee := (Callee.builtin Builtin.len), args := #[(Operand.tmp 30)], argTypes := #[31] }), some (28, false)⟩,
  ⟨some 32, (Op.binOp BinOp.gtr 3 (Operand.tmp 31) (Operand.const (Value.int IntKind.i64 15)) 3), some (28, false)⟩,
  ⟨some 33, (Op.pick (Operand.tmp 28) (Operand.const (Value.bool true)) (Operand.tmp 32)), none⟩])
 (.cond (Operand.tmp 33) (.seq (.reg [⟨some 4, (Op.assign (Operand.const (Value.bool false))), none⟩])
 .ret) .skip))
 (.seq (.seq (.reg [⟨some 5, (Op.assign (Operand.const (Value.int IntKind.i64 0))), none⟩])
 (.block 0 (.loop (.seq (.seq (.reg [⟨some 34, (Op.move (Operand.tmp 5)), none⟩,
  ⟨some 35, (Op.fieldAddr 33 (Operand.tmp 3) 2), none⟩,
  ⟨some 36, (Op.load 30 (Operand.tmp 35)), none⟩,
  ⟨some 37, (Op.call { callee := (Callee.builtin Builtin.len), args := #[(Operand.tmp 36)], argTypes := #[30] }), none⟩,
  ⟨some 38, (Op.binOp BinOp.lss 3 (Operand.tmp 34) (Operand.tmp 37) 3), none⟩])
 (.cond (Operand.tmp 38) .skip (.exit 0)))
 (.seq (.block 1 (.seq (.reg [⟨some 41, (Op.fieldAddr 33 (Operand.tmp 3) 2), none⟩,
  ⟨some 42, (Op.load 30 (Operand.tmp 41)), none⟩,
  ⟨some 43, (Op.move (Operand.tmp 5)), none⟩,
  ⟨some 44, (Op.indexAddr 30 (Operand.tmp 42) (Operand.tmp 43)), none⟩,
  ⟨some 45, (Op.fieldAddr 80 (Operand.tmp 44) 1), none⟩,
  ⟨some 46, (Op.load 78 (Operand.tmp 45)), none⟩,
  ⟨some 47, (Op.call { callee := (Callee.builtin Builtin.len), args := #[(Operand.tmp 46)], argTypes := #[78] }), none⟩,
  ⟨some 48, (Op.binOp BinOp.gtr 3 (Operand.tmp 47) (Operand.const (Value.int IntKind.i64 9)) 3), none⟩])
 (.cond (Operand.tmp 48) (.seq (.reg [⟨some 4, (Op.assign (Operand.const (Value.bool false))), none⟩])
 .ret) .skip)))
 (.reg [⟨some 39, (Op.move (Operand.tmp 5)), none⟩,
  ⟨some 40, (Op.binOp BinOp.add 3 (Operand.tmp 39) (Operand.const (Value.int IntKind.i64 1)) 3), none⟩,
  ⟨some 5, (Op.assign (Operand.tmp 40)), none⟩]))))))
 (.seq (.reg [⟨some 4, (Op.assign (Operand.const (Value.bool true))), none⟩])
 .ret))))
theorem fn24 : FnFact Try.prog 24 49 [] [(ResultVar.tmp 4)] cd24 := ⟨by kernel_rfl, ⟨Try.f24, Try.func24, by kernel_rfl, by rfl, Try.ntmps24, congrArg Array.toList Try.results24⟩⟩
/-- examiner/hosts.RunOf -/
def cd25 : CC := (.seq (.reg [⟨some 2, (Op.box 24 (Operand.tmp 0)), none⟩,
  ⟨some 4, (Op.alloc 33), none⟩,
  ⟨some 5, (Op.assign (Operand.const (Value.int IntKind.i64 0))), none⟩,
  ⟨some 6, (Op.assign (Operand.const (Value.int IntKind.i64 0))), none⟩])
 (.seq (.seq (.reg [⟨some 12, (Op.load 24 (Operand.tmp 2)), none⟩,
  ⟨some 13, (Op.call { callee := (Callee.value (Operand.func 41)), args := #[(Operand.tmp 12)], argTypes := #[24] }), none⟩,
  ⟨some 7, (Op.assign (Operand.tmp 13)), none⟩])
 (.block 0 (.seq (.reg [⟨some 15, (Op.move (Operand.tmp 7)), none⟩,
  ⟨some 16, (Op.binOp BinOp.neq 34 (Operand.tmp 15) (Operand.const (Value.int IntKind.i64 0)) 34), none⟩,
  ⟨some 14, (Op.assign (Operand.tmp 16)), none⟩])
 (.cond (Operand.tmp 14) (.seq (.reg [⟨some 17, (Op.build 33 #[]), none⟩,
  ⟨some 18, (Op.move (Operand.tmp 7)), none⟩,
  ⟨none, (Op.store 33 (Operand.tmp 4) (Operand.tmp 17)), none⟩,
  ⟨some 5, (Op.assign (Operand.const (Value.int IntKind.i64 0))), none⟩,
  ⟨some 6, (Op.assign (Operand.tmp 18)), none⟩])
 .ret) (.seq (.reg [⟨some 20, (Op.move (Operand.tmp 1)), none⟩,
  ⟨some 21, (Op.call { callee := (Callee.builtin Builtin.len), args := #[(Operand.tmp 20)], argTypes := #[25] }), none⟩,
  ⟨some 22, (Op.binOp BinOp.gtr 3 (Operand.tmp 21) (Operand.const (Value.int IntKind.i64 60)) 3), none⟩,
  ⟨some 19, (Op.assign (Operand.tmp 22)), none⟩])
 (.cond (Operand.tmp 19) (.seq (.reg [⟨some 23, (Op.build 33 #[]), none⟩,
  ⟨none, (Op.store 33 (Operand.tmp 4) (Operand.tmp 23)), none⟩,
  ⟨some 5, (Op.assign (Operand.const (Value.int IntKind.i64 0))), none⟩,
  ⟨some 6, (Op.assign (Operand.const (Value.int IntKind.i64 2))), none⟩])
 .ret) .skip))))))
 (.seq (.dr [⟨0, .F, ⟨some 24, (Op.load 24 (Operand.tmp 2)), none⟩, [], false⟩,
  ⟨1, .R, ⟨some 25, (Op.load 24 (Operand.tmp 2)), none⟩, [], false⟩,
  ⟨2, .E, ⟨some 26, (Op.call { callee := (Callee.value (Operand.func 42)), args := #[(Operand.tmp 25)], argTypes := #[24] }), none⟩, [], false⟩,
  ⟨3, .F, ⟨some 27, (Op.build 85 #[(0, (Operand.tmp 24)), (1, (Operand.tmp 26))]), none⟩, [], false⟩,
  ⟨4, .A, ⟨some 28, (Op.box 85 (Operand.tmp 27)), none⟩, [], false⟩,
  ⟨5, .F, ⟨some 8, (Op.assign (Operand.tmp 28)), none⟩, [], false⟩])
 (.seq (.seq (.reg [⟨some 29, (Op.move (Operand.tmp 1)), none⟩,
  ⟨some 30, (Op.call { callee := (Callee.builtin Builtin.len), args := #[(Operand.tmp 29)], argTypes := #[25] }), none⟩,
  ⟨some 31, (Op.move (Operand.const (Value.int IntKind.i64 0))), none⟩])
 (.block 1 (.loop (.seq (.reg [⟨some 32, (Op.binOp BinOp.lss 3 (Operand.tmp 31) (Operand.tmp 30) 3), none⟩])
 (.seq (.cond (Operand.tmp 32) .skip (.exit 1))
 (.seq (.block 2 (.seq (.reg [⟨some 33, (Op.move (Operand.tmp 31)), none⟩,
  ⟨some 34, (Op.indexAddr 25 (Operand.tmp 29) (Operand.tmp 31)), none⟩,
  ⟨some 35, (Op.load 39 (Operand.tmp 34)), none⟩,
  ⟨some 10, (Op.alloc 39), none⟩,
  ⟨some 9, (Op.assign (Operand.tmp 33)), none⟩,
  ⟨none, (Op.store 39 (Operand.tmp 10) (Operand.tmp 35)), none⟩])
 (.seq (.seq (.dr [⟨0, .R, ⟨some 36, (Op.load 24 (Operand.tmp 2)), none⟩, [], false⟩,
  ⟨1, .F, ⟨some 37, (Op.move (Operand.tmp 8)), none⟩, [], false⟩,
  ⟨2, .F, ⟨some 38, (Op.nilCheck (Operand.tmp 37)), none⟩, [], false⟩,
  ⟨3, .F, ⟨some 39, (Op.fieldAddr 85 (Operand.tmp 38) 1), none⟩, [], false⟩,
  ⟨4, .R, ⟨some 40, (Op.load 33 (Operand.tmp 39)), none⟩, [], false⟩,
  ⟨5, .R, ⟨some 41, (Op.load 39 (Operand.tmp 10)), none⟩, [], false⟩,
  ⟨6, .E, ⟨some 42, (Op.call { callee := (Callee.value (Operand.func 45)), args := #[(Operand.tmp 36), (Operand.tmp 40), (Operand.tmp 41)], argTypes := #[24, 33, 39] }), none⟩, [], false⟩,
  ⟨7, .F, ⟨some 11, (Op.assign (Operand.tmp 42)), none⟩, [], false⟩])
 (.seq (.reg [⟨some 43, (Op.move (Operand.tmp 11)), none⟩,
  ⟨some 44, (Op.binOp BinOp.neq 34 (Operand.tmp 43) (Operand.const (Value.int IntKind.i64 0)) 34), none⟩])
 (.cond (Operand.tmp 44) (.seq (.reg [⟨some 45, (Op.build 33 #[]), none⟩,
  ⟨some 46, (Op.move (Operand.tmp 9)), none⟩,
  ⟨some 47, (Op.move (Operand.tmp 11)), none⟩,
  ⟨none, (Op.store 33 (Operand.tmp 4) (Operand.tmp 45)), none⟩,
  ⟨some 5, (Op.assign (Operand.tmp 46)), none⟩,
  ⟨some 6, (Op.assign (Operand.tmp 47)), none⟩])
 .ret) .skip)))
 (.reg [⟨some 48, (Op.move (Operand.tmp 8)), none⟩,
  ⟨some 49, (Op.load 39 (Operand.tmp 10)), none⟩,
  ⟨some 50, (Op.call { callee := (Callee.value (Operand.func 47)), args := #[(Operand.tmp 48), (Operand.tmp 49)], argTypes := #[83, 39] }), none⟩]))))
 (.reg [⟨some 51, (Op.binOp BinOp.add 3 (Operand.tmp 31) (Operand.const (Value.int IntKind.i64 1)) 3), none⟩,
  ⟨some 31, (Op.move (Operand.tmp 51)), none⟩])))))))
 (.seq (.reg [⟨some 52, (Op.move (Operand.tmp 8)), none⟩,
  ⟨some 53, (Op.nilCheck (Operand.tmp 52)), none⟩,
  ⟨some 54, (Op.fieldAddr 85 (Operand.tmp 53) 1), none⟩,
  ⟨some 55, (Op.load 33 (Operand.tmp 54)), none⟩,
  ⟨some 56, (Op.move (Operand.tmp 1)), none⟩,
  ⟨some 57, (Op.call { callee := (Callee.builtin Builtin.len), args := #[(Operand.tmp 56)], argTypes := #[25] }), none⟩,
  ⟨none, (Op.store 33 (Operand.tmp 4) (Operand.tmp 55)), none⟩,
  ⟨some 5, (Op.assign (Operand.tmp 57)), none⟩,
  ⟨some 6, (Op.assign (Operand.const (Value.int IntKind.i64 0))), none⟩])
 .ret)))))
theorem fn25 : FnFact Try.prog 25 58 [(6, [(0, 0), (1, 3), (2, 2), (3, 0), (4, 1), (5, 0)], [[], [], [1], [0, 1, 2], [0, 1, 2, 3], [0, 1, 2, 3, 4]]), (10, [(0, 3), (1, 0), (2, 0), (3, 0), (4, 3), (5, 3), (6, 2), (7, 0)], [[], [], [1], [1, 2], [1, 2, 3], [], [0, 1, 2, 3, 4, 5], [0, 1, 2, 3, 4, 5, 6]])] [(ResultVar.cell 4 33), (ResultVar.tmp 5), (ResultVar.tmp 6)] cd25 := ⟨by kernel_rfl, ⟨Try.f25, Try.func25, by kernel_rfl, by rfl, Try.ntmps25, congrArg Array.toList Try.results25⟩⟩
/-- examiner/examinerref36.Same -/
def cd27 : CC := (.seq (.reg [⟨some 2, (Op.box 33 (Operand.tmp 0)), none⟩,
  ⟨some 3, (Op.box 33 (Operand.tmp 1)), none⟩,
  ⟨some 4, (Op.assign (Operand.const (Value.bool false))), none⟩])
 (.seq (.seq (.reg [⟨some 11, (Op.fieldAddr 33 (Operand.tmp 2) 1), none⟩,
  ⟨some 12, (Op.load 3 (Operand.tmp 11)), none⟩,
  ⟨some 13, (Op.fieldAddr 33 (Operand.tmp 3) 1), none⟩,
  ⟨some 14, (Op.load 3 (Operand.tmp 13)), none⟩,
  ⟨some 15, (Op.binOp BinOp.neq 3 (Operand.tmp 12) (Operand.tmp 14) 3), none⟩,
  ⟨some 16, (Op.move (Operand.tmp 15)), none⟩,
  ⟨some 17, (Op.fieldAddr 33 (Operand.tmp 2) 0), some (16, false)⟩,
  ⟨some 18, (Op.load 29 (Operand.tmp 17)), some (16, false)⟩,
  ⟨some 19, (Op.call { callee := (Callee.builtin Builtin.len), args := #[(Operand.tmp 18)], argTypes := #[29] }), some (16, false)⟩,
  ⟨some 20, (Op.fieldAddr 33 (Operand.tmp 3) 0), some (16, false)⟩,
  ⟨some 21, (Op.load 29 (Operand.tmp 20)), some (16, false)⟩,
  ⟨some 22, (Op.call { callee := (Callee.builtin Builtin.len), args := #[(Operand.tmp 21)], argTypes := #[29] }), some (16, false)⟩,
  ⟨some 23, (Op.binOp BinOp.neq 3 (Operand.tmp 19) (Operand.tmp 22) 3), some (16, false)⟩,
  ⟨some 24, (Op.pick (Operand.tmp 16) (Operand.const (Value.bool true)) (Operand.tmp 23)), none⟩,
  ⟨some 25, (Op.move (Operand.tmp 24)), none⟩,
  ⟨some 26, (Op.fieldAddr 33 (Operand.tmp 2) 2), some (25, false)⟩,
  ⟨some 27, (Op.load 30 (Operand.tmp 26)), some (25, false)⟩,
  ⟨some 28, (Op.call { callee := (Callee.builtin Builtin.len), args := #[(Operand.tmp 27)], argTypes := #[30] }), some (25, false)⟩,
  ⟨some 29, (Op.fieldAddr 33 (Operand.tmp 3) 2), some (25, false)⟩,
  ⟨some 30, (Op.load 30 (Operand.tmp 29)), some (25, false)⟩,
  ⟨some 31, (Op.call { callee := (Callee.builtin Builtin.len), args := #[(Operand.tmp 30)], argTypes := #[30] }), some (25, false)⟩,
  ⟨some 32, (Op.binOp BinOp.neq 3 (Operand.tmp 28) (Operand.tmp 31) 3), some (25, false)⟩,
  ⟨some 33, (Op.pick (Operand.tmp 25) (Operand.const (Value.bool true)) (Operand.tmp 32)), none⟩,
  ⟨some 34, (Op.move (Operand.tmp 33)), none⟩,
  ⟨some 35, (Op.fieldAddr 33 (Operand.tmp 2) 3), some (34, false)⟩,
  ⟨some 36, (Op.load 31 (Operand.tmp 35)), some (34, false)⟩,
  ⟨some 37, (Op.call { callee := (Callee.builtin Builtin.len), args := #[(Operand.tmp 36)], argTypes := #[31] }), some (34, false)⟩,
  ⟨some 38, (Op.fieldAddr 33 (Operand.tmp 3) 3), some (34, false)⟩,
  ⟨some 39, (Op.load 31 (Operand.tmp 38)), some (34, false)⟩,
  ⟨some 40, (Op.call { callee := (Callee.builtin Builtin.len), args := #[(Operand.tmp 39)], argTypes := #[31] }), some (34, false)⟩,
  ⟨some 41, (Op.binOp BinOp.neq 3 (Operand.tmp 37) (Operand.tmp 40) 3), some (34, false)⟩,
  ⟨some 42, (Op.pick (Operand.tmp 34) (Operand.const (Value.bool true)) (Operand.tmp 41)), none⟩])
 (.cond (Operand.tmp 42) (.seq (.reg [⟨some 4, (Op.assign (Operand.const (Value.bool false))), none⟩])
 .ret) .skip))
 (.seq (.seq (.reg [⟨some 5, (Op.assign (Operand.const (Value.int IntKind.i64 0))), none⟩])
 (.block 0 (.loop (.seq (.seq (.reg [⟨some 43, (Op.move (Operand.tmp 5)), none⟩,
  ⟨some 44, (Op.fieldAddr 33 (Operand.tmp 2) 0), none⟩,
  ⟨some 45, (Op.load 29 (Operand.tmp 44)), none⟩,
  ⟨some 46, (Op.call { callee := (Callee.builtin Builtin.len), args := #[(Operand.tmp 45)], argTypes := #[29] }), none⟩,
  ⟨some 47, (Op.binOp BinOp.lss 3 (Operand.tmp 43) (Operand.tmp 46) 3), none⟩])
 (.cond (Operand.tmp 47) .skip (.exit 0)))
 (.seq (.block 1 (.seq (.dr [⟨0, .F, ⟨some 50, (Op.fieldAddr 33 (Operand.tmp 2) 0), none⟩, [], false⟩,
  ⟨1, .R, ⟨some 51, (Op.load 29 (Operand.tmp 50)), none⟩, [], false⟩,
  ⟨2, .F, ⟨some 52, (Op.move (Operand.tmp 5)), none⟩, [], false⟩,
  ⟨3, .F, ⟨some 53, (Op.indexAddr 29 (Operand.tmp 51) (Operand.tmp 52)), none⟩, [], false⟩,
  ⟨4, .R, ⟨some 54, (Op.load 68 (Operand.tmp 53)), none⟩, [], false⟩,
  ⟨5, .F, ⟨some 55, (Op.fieldAddr 33 (Operand.tmp 3) 0), none⟩, [], false⟩,
  ⟨6, .R, ⟨some 56, (Op.load 29 (Operand.tmp 55)), none⟩, [], false⟩,
  ⟨7, .F, ⟨some 57, (Op.move (Operand.tmp 5)), none⟩, [], false⟩,
  ⟨8, .F, ⟨some 58, (Op.indexAddr 29 (Operand.tmp 56) (Operand.tmp 57)), none⟩, [], false⟩,
  ⟨9, .R, ⟨some 59, (Op.load 68 (Operand.tmp 58)), none⟩, [], false⟩,
  ⟨10, .F, ⟨some 60, (Op.binOp BinOp.neq 68 (Operand.tmp 54) (Operand.tmp 59) 68), none⟩, [], false⟩])
 (.cond (Operand.tmp 60) (.seq (.reg [⟨some 4, (Op.assign (Operand.const (Value.bool false))), none⟩])
 .ret) .skip)))
 (.reg [⟨some 48, (Op.move (Operand.tmp 5)), none⟩,
  ⟨some 49, (Op.binOp BinOp.add 3 (Operand.tmp 48) (Operand.const (Value.int IntKind.i64 1)) 3), none⟩,
  ⟨some 5, (Op.assign (Operand.tmp 49)), none⟩]))))))
 (.seq (.seq (.reg [⟨some 6, (Op.assign (Operand.const (Value.int IntKind.i64 0))), none⟩])
 (.block 2 (.loop (.seq (.seq (.reg [⟨some 61, (Op.move (Operand.tmp 6)), none⟩,
  ⟨some 62, (Op.fieldAddr 33 (Operand.tmp 2) 3), none⟩,
  ⟨some 63, (Op.load 31 (Operand.tmp 62)), none⟩,
  ⟨some 64, (Op.call { callee := (Callee.builtin Builtin.len), args := #[(Operand.tmp 63)], argTypes := #[31] }), none⟩,
  ⟨some 65, (Op.binOp BinOp.lss 3 (Operand.tmp 61) (Operand.tmp 64) 3), none⟩])
 (.cond (Operand.tmp 65) .skip (.exit 2)))
 (.seq (.block 3 (.seq (.dr [⟨0, .F, ⟨some 68, (Op.fieldAddr 33 (Operand.tmp 2) 3), none⟩, [], false⟩,
  ⟨1, .R, ⟨some 69, (Op.load 31 (Operand.tmp 68)), none⟩, [], false⟩,
  ⟨2, .F, ⟨some 70, (Op.move (Operand.tmp 6)), none⟩, [], false⟩,
  ⟨3, .F, ⟨some 71, (Op.indexAddr 31 (Operand.tmp 69) (Operand.tmp 70)), none⟩, [], false⟩,
  ⟨4, .R, ⟨some 72, (Op.load 92 (Operand.tmp 71)), none⟩, [], false⟩,
  ⟨5, .F, ⟨some 73, (Op.fieldAddr 33 (Operand.tmp 3) 3), none⟩, [], false⟩,
  ⟨6, .R, ⟨some 74, (Op.load 31 (Operand.tmp 73)), none⟩, [], false⟩,
  ⟨7, .F, ⟨some 75, (Op.move (Operand.tmp 6)), none⟩, [], false⟩,
  ⟨8, .F, ⟨some 76, (Op.indexAddr 31 (Operand.tmp 74) (Operand.tmp 75)), none⟩, [], false⟩,
  ⟨9, .R, ⟨some 77, (Op.load 92 (Operand.tmp 76)), none⟩, [], false⟩,
  ⟨10, .F, ⟨some 78, (Op.binOp BinOp.neq 92 (Operand.tmp 72) (Operand.tmp 77) 92), none⟩, [], false⟩])
 (.cond (Operand.tmp 78) (.seq (.reg [⟨some 4, (Op.assign (Operand.const (Value.bool false))), none⟩])
 .ret) .skip)))
 (.reg [⟨some 66, (Op.move (Operand.tmp 6)), none⟩,
  ⟨some 67, (Op.binOp BinOp.add 3 (Operand.tmp 66) (Operand.const (Value.int IntKind.i64 1)) 3), none⟩,
  ⟨some 6, (Op.assign (Operand.tmp 67)), none⟩]))))))
 (.seq (.seq (.reg [⟨some 7, (Op.assign (Operand.const (Value.int IntKind.i64 0))), none⟩])
 (.block 4 (.loop (.seq (.seq (.reg [⟨some 79, (Op.move (Operand.tmp 7)), none⟩,
  ⟨some 80, (Op.fieldAddr 33 (Operand.tmp 2) 2), none⟩,
  ⟨some 81, (Op.load 30 (Operand.tmp 80)), none⟩,
  ⟨some 82, (Op.call { callee := (Callee.builtin Builtin.len), args := #[(Operand.tmp 81)], argTypes := #[30] }), none⟩,
  ⟨some 83, (Op.binOp BinOp.lss 3 (Operand.tmp 79) (Operand.tmp 82) 3), none⟩])
 (.cond (Operand.tmp 83) .skip (.exit 4)))
 (.seq (.block 5 (.seq (.dr [⟨0, .F, ⟨some 86, (Op.fieldAddr 33 (Operand.tmp 2) 2), none⟩, [], false⟩,
  ⟨1, .R, ⟨some 87, (Op.load 30 (Operand.tmp 86)), none⟩, [], false⟩,
  ⟨2, .F, ⟨some 88, (Op.move (Operand.tmp 7)), none⟩, [], false⟩,
  ⟨3, .F, ⟨some 89, (Op.indexAddr 30 (Operand.tmp 87) (Operand.tmp 88)), none⟩, [], false⟩,
  ⟨4, .R, ⟨some 90, (Op.load 80 (Operand.tmp 89)), none⟩, [], false⟩,
  ⟨5, .F, ⟨some 91, (Op.fieldAddr 33 (Operand.tmp 3) 2), none⟩, [], false⟩,
  ⟨6, .F, ⟨some 92, (Op.load 30 (Operand.tmp 91)), none⟩, [], false⟩,
  ⟨7, .F, ⟨some 93, (Op.move (Operand.tmp 7)), none⟩, [], false⟩,
  ⟨8, .F, ⟨some 94, (Op.indexAddr 30 (Operand.tmp 92) (Operand.tmp 93)), none⟩, [], false⟩,
  ⟨9, .F, ⟨some 95, (Op.load 80 (Operand.tmp 94)), none⟩, [], false⟩,
  ⟨10, .A, ⟨some 8, (Op.alloc 80), none⟩, [], false⟩,
  ⟨11, .A, ⟨some 9, (Op.alloc 80), none⟩, [], false⟩,
  ⟨12, .E, ⟨none, (Op.store 80 (Operand.tmp 8) (Operand.tmp 90)), none⟩, [10, 11], false⟩,
  ⟨13, .E, ⟨none, (Op.store 80 (Operand.tmp 9) (Operand.tmp 95)), none⟩, [10, 11], false⟩])
 (.seq (.seq (.reg [⟨some 96, (Op.fieldAddr 80 (Operand.tmp 8) 0), none⟩,
  ⟨some 97, (Op.load 4 (Operand.tmp 96)), none⟩,
  ⟨some 98, (Op.fieldAddr 80 (Operand.tmp 9) 0), none⟩,
  ⟨some 99, (Op.load 4 (Operand.tmp 98)), none⟩,
  ⟨some 100, (Op.binOp BinOp.neq 4 (Operand.tmp 97) (Operand.tmp 99) 4), none⟩,
  ⟨some 101, (Op.move (Operand.tmp 100)), none⟩,
  ⟨some 102, (Op.fieldAddr 80 (Operand.tmp 8) 1), some (101, false)⟩,
  ⟨some 103, (Op.load 78 (Operand.tmp 102)), some (101, false)⟩,
  ⟨some 104, (Op.call { callee := (Callee.builtin Builtin.len), args := #[(Operand.tmp 103)], argTypes := #[78] }), some (101, false)⟩,
  ⟨some 105, (Op.fieldAddr 80 (Operand.tmp 9) 1), some (101, false)⟩,
  ⟨some 106, (Op.load 78 (Operand.tmp 105)), some (101, false)⟩,
  ⟨some 107, (Op.call { callee := (Callee.builtin Builtin.len), args := #[(Operand.tmp 106)], argTypes := #[78] }), some (101, false)⟩,
  ⟨some 108, (Op.binOp BinOp.neq 3 (Operand.tmp 104) (Operand.tmp 107) 3), some (101, false)⟩,
  ⟨some 109, (Op.pick (Operand.tmp 101) (Operand.const (Value.bool true)) (Operand.tmp 108)), none⟩])
 (.cond (Operand.tmp 109) (.seq (.reg [⟨some 4, (Op.assign (Operand.const (Value.bool false))), none⟩])
 .ret) .skip))
 (.seq (.reg [⟨some 10, (Op.assign (Operand.const (Value.int IntKind.i64 0))), none⟩])
 (.block 6 (.loop (.seq (.seq (.reg [⟨some 110, (Op.move (Operand.tmp 10)), none⟩,
  ⟨some 111, (Op.fieldAddr 80 (Operand.tmp 8) 1), none⟩,
  ⟨some 112, (Op.load 78 (Operand.tmp 111)), none⟩,
  ⟨some 113, (Op.call { callee := (Callee.builtin Builtin.len), args := #[(Operand.tmp 112)], argTypes := #[78] }), none⟩,
  ⟨some 114, (Op.binOp BinOp.lss 3 (Operand.tmp 110) (Operand.tmp 113) 3), none⟩])
 (.cond (Operand.tmp 114) .skip (.exit 6)))
 (.seq (.block 7 (.seq (.dr [⟨0, .F, ⟨some 117, (Op.fieldAddr 80 (Operand.tmp 8) 1), none⟩, [], false⟩,
  ⟨1, .R, ⟨some 118, (Op.load 78 (Operand.tmp 117)), none⟩, [], false⟩,
  ⟨2, .F, ⟨some 119, (Op.move (Operand.tmp 10)), none⟩, [], false⟩,
  ⟨3, .F, ⟨some 120, (Op.indexAddr 78 (Operand.tmp 118) (Operand.tmp 119)), none⟩, [], false⟩,
  ⟨4, .R, ⟨some 121, (Op.load 90 (Operand.tmp 120)), none⟩, [], false⟩,
  ⟨5, .F, ⟨some 122, (Op.fieldAddr 80 (Operand.tmp 9) 1), none⟩, [], false⟩,
  ⟨6, .R, ⟨some 123, (Op.load 78 (Operand.tmp 122)), none⟩, [], false⟩,
  ⟨7, .F, ⟨some 124, (Op.move (Operand.tmp 10)), none⟩, [], false⟩,
  ⟨8, .F, ⟨some 125, (Op.indexAddr 78 (Operand.tmp 123) (Operand.tmp 124)), none⟩, [], false⟩,
  ⟨9, .R, ⟨some 126, (Op.load 90 (Operand.tmp 125)), none⟩, [], false⟩,
  ⟨10, .F, ⟨some 127, (Op.binOp BinOp.neq 90 (Operand.tmp 121) (Operand.tmp 126) 90), none⟩, [], false⟩])
 (.cond (Operand.tmp 127) (.seq (.reg [⟨some 4, (Op.assign (Operand.const (Value.bool false))), none⟩])
 .ret) .skip)))
 (.reg [⟨some 115, (Op.move (Operand.tmp 10)), none⟩,
  ⟨some 116, (Op.binOp BinOp.add 3 (Operand.tmp 115) (Operand.const (Value.int IntKind.i64 1)) 3), none⟩,
  ⟨some 10, (Op.assign (Operand.tmp 116)), none⟩])))))))))
 (.reg [⟨some 84, (Op.move (Operand.tmp 7)), none⟩,
  ⟨some 85, (Op.binOp BinOp.add 3 (Operand.tmp 84) (Operand.const (Value.int IntKind.i64 1)) 3), none⟩,
  ⟨some 7, (Op.assign (Operand.tmp 85)), none⟩]))))))
 (.seq (.reg [⟨some 4, (Op.assign (Operand.const (Value.bool true))), none⟩])
 .ret))))))
theorem fn27 : FnFact Try.prog 27 128 [(6, [(0, 0), (1, 3), (2, 0), (3, 0), (4, 3), (5, 0), (6, 3), (7, 0), (8, 0), (9, 3), (10, 0)], [[], [0], [], [0, 1, 2], [0, 1, 2, 3], [], [5], [], [5, 6, 7], [5, 6, 7, 8], [0, 1, 2, 3, 4, 5, 6, 7, 8, 9]]), (11, [(0, 0), (1, 3), (2, 0), (3, 0), (4, 3), (5, 0), (6, 3), (7, 0), (8, 0), (9, 3), (10, 0)], [[], [0], [], [0, 1, 2], [0, 1, 2, 3], [], [5], [], [5, 6, 7], [5, 6, 7, 8], [0, 1, 2, 3, 4, 5, 6, 7, 8, 9]]), (16, [(0, 0), (1, 3), (2, 0), (3, 0), (4, 3), (5, 0), (6, 0), (7, 0), (8, 0), (9, 0), (10, 1), (11, 1), (12, 2), (13, 2)], [[], [0], [], [0, 1, 2], [0, 1, 2, 3], [], [5], [], [5, 6, 7], [5, 6, 7, 8], [], [], [0, 1, 2, 3, 4, 10, 11], [0, 1, 2, 3, 4, 5, 6, 7, 8, 9, 10, 11, 12]]), (22, [(0, 0), (1, 3), (2, 0), (3, 0), (4, 3), (5, 0), (6, 3), (7, 0), (8, 0), (9, 3), (10, 0)], [[], [0], [], [0, 1, 2], [0, 1, 2, 3], [], [5], [], [5, 6, 7], [5, 6, 7, 8], [0, 1, 2, 3, 4, 5, 6, 7, 8, 9]])] [(ResultVar.tmp 4)] cd27 := ⟨by kernel_rfl, ⟨Try.f27, Try.func27, by kernel_rfl, by rfl, Try.ntmps27, congrArg Array.toList Try.results27⟩⟩
/-- examiner/hosts.ScheduleTo -/
def cd28 : CC := (.seq (.reg [⟨some 2, (Op.box 24 (Operand.tmp 0)), none⟩,
  ⟨some 4, (Op.assign (Operand.const (Value.slice none 0 0))), none⟩,
  ⟨some 5, (Op.assign (Operand.const (Value.int IntKind.i64 0))), none⟩])
 (.seq (.seq (.reg [⟨some 13, (Op.load 24 (Operand.tmp 2)), none⟩,
  ⟨some 14, (Op.call { callee := (Callee.value (Operand.func 41)), args := #[(Operand.tmp 13)], argTypes := #[24] }), none⟩,
  ⟨some 6, (Op.assign (Operand.tmp 14)), none⟩])
 (.block 0 (.seq (.reg [⟨some 16, (Op.move (Operand.tmp 6)), none⟩,
  ⟨some 17, (Op.binOp BinOp.neq 34 (Operand.tmp 16) (Operand.const (Value.int IntKind.i64 0)) 34), none⟩,
  ⟨some 15, (Op.assign (Operand.tmp 17)), none⟩])
 (.cond (Operand.tmp 15) (.seq (.reg [⟨some 18, (Op.move (Operand.tmp 6)), none⟩,
  ⟨some 4, (Op.assign (Operand.const (Value.slice none 0 0))), none⟩,
  ⟨some 5, (Op.assign (Operand.tmp 18)), none⟩])
 .ret) (.seq (.reg [⟨some 20, (Op.move (Operand.tmp 1)), none⟩,
  ⟨some 21, (Op.call { callee := (Callee.value (Operand.func 51)), args := #[(Operand.tmp 20)], argTypes := #[3] }), none⟩,
  ⟨some 22, (Op.unOp UnOp.not 4 (Operand.tmp 21)), none⟩,
  ⟨some 19, (Op.assign (Operand.tmp 22)), none⟩])
 (.cond (Operand.tmp 19) (.seq (.reg [⟨some 4, (Op.assign (Operand.const (Value.slice none 0 0))), none⟩,
  ⟨some 5, (Op.assign (Operand.const (Value.int IntKind.i64 3))), none⟩])
 .ret) .skip))))))
 (.seq (.reg [⟨some 7, (Op.alloc 25), none⟩])
 (.seq (.reg [⟨some 23, (Op.fieldAddr 24 (Operand.tmp 2) 2), none⟩,
  ⟨some 24, (Op.load 22 (Operand.tmp 23)), none⟩,
  ⟨some 25, (Op.call { callee := (Callee.value (Operand.func 52)), args := #[(Operand.tmp 24)], argTypes := #[22] }), none⟩,
  ⟨some 8, (Op.assign (Operand.tmp 25)), none⟩])
 (.seq (.seq (.reg [⟨some 26, (Op.move (Operand.tmp 1)), none⟩,
  ⟨some 27, (Op.binOp BinOp.eql 3 (Operand.tmp 26) (Operand.const (Value.int IntKind.i64 4)) 3), none⟩,
  ⟨some 28, (Op.move (Operand.tmp 27)), none⟩,
  ⟨some 29, (Op.move (Operand.tmp 8)), some (28, true)⟩,
  ⟨some 30, (Op.move (Operand.tmp 1)), some (28, true)⟩,
  ⟨some 31, (Op.binOp BinOp.neq 3 (Operand.tmp 29) (Operand.tmp 30) 3), some (28, true)⟩,
  ⟨some 32, (Op.pick (Operand.tmp 28) (Operand.tmp 31) (Operand.const (Value.bool false))), none⟩])
 (.cond (Operand.tmp 32) (.seq (.seq (.reg [⟨some 33, (Op.fieldAddr 24 (Operand.tmp 2) 1), none⟩,
  ⟨some 34, (Op.load 22 (Operand.tmp 33)), none⟩,
  ⟨some 35, (Op.call { callee := (Callee.builtin Builtin.len), args := #[(Operand.tmp 34)], argTypes := #[22] }), none⟩,
  ⟨some 36, (Op.move (Operand.const (Value.int IntKind.i64 0))), none⟩])
 (.block 1 (.loop (.seq (.reg [⟨some 37, (Op.binOp BinOp.lss 3 (Operand.tmp 36) (Operand.tmp 35) 3), none⟩])
 (.seq (.cond (Operand.tmp 37) .skip (.exit 1))
 (.seq (.block 2 (.seq (.reg [⟨some 38, (Op.move (Operand.tmp 36)), none⟩,
  ⟨some 9, (Op.assign (Operand.tmp 38)), none⟩])
 (.reg [⟨some 39, (Op.load 25 (Operand.tmp 7)), none⟩,
  ⟨some 40, (Op.move (Operand.tmp 9)), none⟩,
  ⟨some 41, (Op.build 39 #[(0, (Operand.const (Value.int IntKind.i64 7))), (1, (Operand.tmp 40))]), none⟩,
  ⟨some 42, (Op.buildSlice 25 1 #[(0, (Operand.tmp 41))]), none⟩,
  ⟨some 43, (Op.call { callee := (Callee.builtin Builtin.append), args := #[(Operand.tmp 39), (Operand.tmp 42)], argTypes := #[25, 25] }), none⟩,
  ⟨none, (Op.store 25 (Operand.tmp 7) (Operand.tmp 43)), none⟩])))
 (.reg [⟨some 44, (Op.binOp BinOp.add 3 (Operand.tmp 36) (Operand.const (Value.int IntKind.i64 1)) 3), none⟩,
  ⟨some 36, (Op.move (Operand.tmp 44)), none⟩])))))))
 (.seq (.reg [⟨some 45, (Op.load 25 (Operand.tmp 7)), none⟩,
  ⟨some 4, (Op.assign (Operand.tmp 45)), none⟩,
  ⟨some 5, (Op.assign (Operand.const (Value.int IntKind.i64 0))), none⟩])
 .ret)) .skip))
 (.seq (.seq (.reg [⟨some 46, (Op.move (Operand.tmp 1)), none⟩,
  ⟨some 47, (Op.move (Operand.tmp 8)), none⟩,
  ⟨some 48, (Op.binOp BinOp.neq 3 (Operand.tmp 46) (Operand.tmp 47) 3), none⟩])
 (.cond (Operand.tmp 48) (.seq (.reg [⟨some 4, (Op.assign (Operand.const (Value.slice none 0 0))), none⟩,
  ⟨some 5, (Op.assign (Operand.const (Value.int IntKind.i64 23))), none⟩])
 .ret) .skip))
 (.seq (.dr [⟨0, .F, ⟨some 49, (Op.load 24 (Operand.tmp 2)), none⟩, [], false⟩,
  ⟨1, .R, ⟨some 50, (Op.load 24 (Operand.tmp 2)), none⟩, [], false⟩,
  ⟨5, .A, ⟨some 10, (Op.alloc 83), none⟩, [], false⟩,
  ⟨2, .E, ⟨some 51, (Op.call { callee := (Callee.value (Operand.func 42)), args := #[(Operand.tmp 50)], argTypes := #[24] }), none⟩, [], false⟩,
  ⟨3, .F, ⟨some 52, (Op.build 85 #[(0, (Operand.tmp 49)), (1, (Operand.tmp 51))]), none⟩, [], false⟩,
  ⟨4, .A, ⟨some 53, (Op.box 85 (Operand.tmp 52)), none⟩, [], false⟩,
  ⟨6, .E, ⟨none, (Op.store 83 (Operand.tmp 10) (Operand.tmp 53)), none⟩, [5, 4], false⟩])
 (.seq (.reg [⟨some 54, (Op.makeFunc (Fn.func 53) #[] #[(Operand.tmp 7), (Operand.tmp 10)]), none⟩,
  ⟨some 11, (Op.assign (Operand.tmp 54)), none⟩])
 (.seq (.seq (.reg [⟨some 55, (Op.fieldAddr 24 (Operand.tmp 2) 1), none⟩,
  ⟨some 56, (Op.load 22 (Operand.tmp 55)), none⟩,
  ⟨some 57, (Op.call { callee := (Callee.builtin Builtin.len), args := #[(Operand.tmp 56)], argTypes := #[22] }), none⟩,
  ⟨some 58, (Op.move (Operand.const (Value.int IntKind.i64 0))), none⟩])
 (.block 3 (.loop (.seq (.reg [⟨some 59, (Op.binOp BinOp.lss 3 (Operand.tmp 58) (Operand.tmp 57) 3), none⟩])
 (.seq (.cond (Operand.tmp 59) .skip (.exit 3))
 (.seq (.block 4 (.seq (.reg [⟨some 60, (Op.move (Operand.tmp 58)), none⟩,
  ⟨some 12, (Op.assign (Operand.tmp 60)), none⟩])
 (.seq (.reg [⟨some 61, (Op.move (Operand.tmp 11)), none⟩,
  ⟨some 62, (Op.move (Operand.tmp 12)), none⟩,
  ⟨some 63, (Op.call { callee := (Callee.value (Operand.tmp 61)), args := #[(Operand.const (Value.int IntKind.i64 0)), (Operand.tmp 62)], argTypes := #[3, 3] }), none⟩])
 (.seq (.reg [⟨some 64, (Op.move (Operand.tmp 11)), none⟩,
  ⟨some 65, (Op.load 83 (Operand.tmp 10)), none⟩,
  ⟨some 66, (Op.nilCheck (Operand.tmp 65)), none⟩,
  ⟨some 67, (Op.fieldAddr 85 (Operand.tmp 66) 1), none⟩,
  ⟨some 68, (Op.fieldAddr 33 (Operand.tmp 67) 3), none⟩,
  ⟨some 69, (Op.load 31 (Operand.tmp 68)), none⟩,
  ⟨some 70, (Op.call { callee := (Callee.builtin Builtin.len), args := #[(Operand.tmp 69)], argTypes := #[31] }), none⟩,
  ⟨some 71, (Op.binOp BinOp.sub 3 (Operand.tmp 70) (Operand.const (Value.int IntKind.i64 1)) 3), none⟩,
  ⟨some 72, (Op.call { callee := (Callee.value (Operand.tmp 64)), args := #[(Operand.const (Value.int IntKind.i64 1)), (Operand.tmp 71)], argTypes := #[3, 3] }), none⟩])
 (.seq (.reg [⟨some 73, (Op.move (Operand.tmp 11)), none⟩,
  ⟨some 74, (Op.move (Operand.tmp 12)), none⟩,
  ⟨some 75, (Op.call { callee := (Callee.value (Operand.tmp 73)), args := #[(Operand.const (Value.int IntKind.i64 4)), (Operand.tmp 74)], argTypes := #[3, 3] }), none⟩])
 (.reg [⟨some 76, (Op.move (Operand.tmp 11)), none⟩,
  ⟨some 77, (Op.load 83 (Operand.tmp 10)), none⟩,
  ⟨some 78, (Op.nilCheck (Operand.tmp 77)), none⟩,
  ⟨some 79, (Op.fieldAddr 85 (Operand.tmp 78) 1), none⟩,
  ⟨some 80, (Op.fieldAddr 33 (Operand.tmp 79) 3), none⟩,
  ⟨some 81, (Op.load 31 (Operand.tmp 80)), none⟩,
  ⟨some 82, (Op.call { callee := (Callee.builtin Builtin.len), args := #[(Operand.tmp 81)], argTypes := #[31] }), none⟩,
  ⟨some 83, (Op.binOp BinOp.sub 3 (Operand.tmp 82) (Operand.const (Value.int IntKind.i64 1)) 3), none⟩,
  ⟨some 84, (Op.call { callee := (Callee.value (Operand.tmp 76)), args := #[(Operand.const (Value.int IntKind.i64 1)), (Operand.tmp 83)], argTypes := #[3, 3] }), none⟩]))))))
 (.reg [⟨some 85, (Op.binOp BinOp.add 3 (Operand.tmp 58) (Operand.const (Value.int IntKind.i64 1)) 3), none⟩,
  ⟨some 58, (Op.move (Operand.tmp 85)), none⟩])))))))
 (.seq (.reg [⟨some 86, (Op.load 25 (Operand.tmp 7)), none⟩,
  ⟨some 4, (Op.assign (Operand.tmp 86)), none⟩,
  ⟨some 5, (Op.assign (Operand.const (Value.int IntKind.i64 0))), none⟩])
 .ret))))))))))
theorem fn28 : FnFact Try.prog 28 87 [(17, [(0, 0), (1, 3), (5, 1), (2, 2), (3, 0), (4, 1), (6, 2)], [[], [], [1], [0, 1, 2], [0, 1, 2, 3], [], [0, 1, 2, 3, 4, 5]])] [(ResultVar.tmp 4), (ResultVar.tmp 5)] cd28 := ⟨by kernel_rfl, ⟨Try.f28, Try.func28, by kernel_rfl, by rfl, Try.ntmps28, congrArg Array.toList Try.results28⟩⟩
/-- examiner/examinerbase.Within -/
def cd29 : CC := (.seq (.reg [⟨some 6, (Op.assign (Operand.const (Value.bool false))), none⟩])
 (.seq (.reg [⟨some 7, (Op.move (Operand.tmp 1)), none⟩,
  ⟨some 8, (Op.move (Operand.tmp 0)), none⟩,
  ⟨some 9, (Op.binOp BinOp.leq 3 (Operand.tmp 7) (Operand.tmp 8) 3), none⟩,
  ⟨some 10, (Op.move (Operand.tmp 9)), none⟩,
  ⟨some 11, (Op.move (Operand.tmp 0)), some (10, true)⟩,
  ⟨some 12, (Op.move (Operand.tmp 2)), some (10, true)⟩,
  ⟨some 13, (Op.binOp BinOp.leq 3 (Operand.tmp 11) (Operand.tmp 12) 3), some (10, true)⟩,
  ⟨some 14, (Op.pick (Operand.tmp 10) (Operand.tmp 13) (Operand.const (Value.bool false))), none⟩,
  ⟨some 6, (Op.assign (Operand.tmp 14)), none⟩])
 .ret))
theorem fn29 : FnFact Try.prog 29 15 [] [(ResultVar.tmp 6)] cd29 := ⟨by kernel_rfl, ⟨Try.f29, Try.func29, by kernel_rfl, by rfl, Try.ntmps29, congrArg Array.toList Try.results29⟩⟩
/-- examiner/hosts.CheckCase -/
def cd32 : CC := (.seq (.reg [⟨some 1, (Op.box 24 (Operand.tmp 0)), none⟩,
  ⟨some 2, (Op.assign (Operand.const (Value.int IntKind.i64 0))), none⟩,
  ⟨some 3, (Op.assign (Operand.const (Value.int IntKind.i64 0))), none⟩])
 (.seq (.block 0 (.seq (.reg [⟨some 7, (Op.fieldAddr 24 (Operand.tmp 1) 0), none⟩,
  ⟨some 8, (Op.load 3 (Operand.tmp 7)), none⟩,
  ⟨some 9, (Op.call { callee := (Callee.value (Operand.func 54)), args := #[(Operand.tmp 8), (Operand.const (Value.int IntKind.i64 1)), (Operand.const (Value.int IntKind.i64 4))], argTypes := #[3, 3, 3] }), none⟩,
  ⟨some 10, (Op.unOp UnOp.not 4 (Operand.tmp 9)), none⟩,
  ⟨some 6, (Op.assign (Operand.tmp 10)), none⟩])
 (.cond (Operand.tmp 6) (.seq (.reg [⟨some 2, (Op.assign (Operand.const (Value.int IntKind.i64 0))), none⟩,
  ⟨some 3, (Op.assign (Operand.const (Value.int IntKind.i64 3))), none⟩])
 .ret) (.seq (.reg [⟨some 12, (Op.fieldAddr 24 (Operand.tmp 1) 1), none⟩,
  ⟨some 13, (Op.load 22 (Operand.tmp 12)), none⟩,
  ⟨some 14, (Op.call { callee := (Callee.builtin Builtin.len), args := #[(Operand.tmp 13)], argTypes := #[22] }), none⟩,
  ⟨some 15, (Op.binOp BinOp.eql 3 (Operand.tmp 14) (Operand.const (Value.int IntKind.i64 0)) 3), none⟩,
  ⟨some 11, (Op.assign (Operand.tmp 15)), none⟩])
 (.cond (Operand.tmp 11) (.seq (.reg [⟨some 2, (Op.assign (Operand.const (Value.int IntKind.i64 0))), none⟩,
  ⟨some 3, (Op.assign (Operand.const (Value.int IntKind.i64 1))), none⟩])
 .ret) (.seq (.reg [⟨some 17, (Op.fieldAddr 24 (Operand.tmp 1) 1), none⟩,
  ⟨some 18, (Op.load 22 (Operand.tmp 17)), none⟩,
  ⟨some 19, (Op.call { callee := (Callee.builtin Builtin.len), args := #[(Operand.tmp 18)], argTypes := #[22] }), none⟩,
  ⟨some 20, (Op.binOp BinOp.gtr 3 (Operand.tmp 19) (Operand.const (Value.int IntKind.i64 6)) 3), none⟩,
  ⟨some 16, (Op.assign (Operand.tmp 20)), none⟩])
 (.cond (Operand.tmp 16) (.seq (.reg [⟨some 2, (Op.assign (Operand.const (Value.int IntKind.i64 0))), none⟩,
  ⟨some 3, (Op.assign (Operand.const (Value.int IntKind.i64 2))), none⟩])
 .ret) (.seq (.reg [⟨some 22, (Op.fieldAddr 24 (Operand.tmp 1) 2), none⟩,
  ⟨some 23, (Op.load 22 (Operand.tmp 22)), none⟩,
  ⟨some 24, (Op.call { callee := (Callee.builtin Builtin.len), args := #[(Operand.tmp 23)], argTypes := #[22] }), none⟩,
  ⟨some 25, (Op.fieldAddr 24 (Operand.tmp 1) 1), none⟩,
  ⟨some 26, (Op.load 22 (Operand.tmp 25)), none⟩,
  ⟨some 27, (Op.call { callee := (Callee.builtin Builtin.len), args := #[(Operand.tmp 26)], argTypes := #[22] }), none⟩,
  ⟨some 28, (Op.binOp BinOp.neq 3 (Operand.tmp 24) (Operand.tmp 27) 3), none⟩,
  ⟨some 21, (Op.assign (Operand.tmp 28)), none⟩])
 (.cond (Operand.tmp 21) (.seq (.reg [⟨some 2, (Op.assign (Operand.const (Value.int IntKind.i64 0))), none⟩,
  ⟨some 3, (Op.assign (Operand.const (Value.int IntKind.i64 6))), none⟩])
 .ret) .skip)))))))))
 (.seq (.seq (.reg [⟨some 29, (Op.fieldAddr 24 (Operand.tmp 1) 1), none⟩,
  ⟨some 30, (Op.load 22 (Operand.tmp 29)), none⟩,
  ⟨some 31, (Op.call { callee := (Callee.builtin Builtin.len), args := #[(Operand.tmp 30)], argTypes := #[22] }), none⟩,
  ⟨some 32, (Op.move (Operand.const (Value.int IntKind.i64 0))), none⟩])
 (.block 1 (.loop (.seq (.reg [⟨some 33, (Op.binOp BinOp.lss 3 (Operand.tmp 32) (Operand.tmp 31) 3), none⟩])
 (.seq (.cond (Operand.tmp 33) .skip (.exit 1))
 (.seq (.block 2 (.seq (.reg [⟨some 34, (Op.move (Operand.tmp 32)), none⟩,
  ⟨some 35, (Op.indexAddr 22 (Operand.tmp 30) (Operand.tmp 32)), none⟩,
  ⟨some 36, (Op.load 3 (Operand.tmp 35)), none⟩,
  ⟨some 4, (Op.assign (Operand.tmp 34)), none⟩,
  ⟨some 5, (Op.assign (Operand.tmp 36)), none⟩])
 (.seq (.reg [⟨some 37, (Op.move (Operand.tmp 5)), none⟩,
  ⟨some 38, (Op.fieldAddr 24 (Operand.tmp 1) 0), none⟩,
  ⟨some 39, (Op.load 3 (Operand.tmp 38)), none⟩,
  ⟨some 40, (Op.binOp BinOp.sub 3 (Operand.tmp 39) (Operand.const (Value.int IntKind.i64 1)) 3), none⟩,
  ⟨some 41, (Op.call { callee := (Callee.value (Operand.func 54)), args := #[(Operand.tmp 37), (Operand.const (Value.int IntKind.i64 0)), (Operand.tmp 40)], argTypes := #[3, 3, 3] }), none⟩,
  ⟨some 42, (Op.unOp UnOp.not 4 (Operand.tmp 41)), none⟩,
  ⟨some 43, (Op.move (Operand.tmp 42)), none⟩,
  ⟨some 44, (Op.fieldAddr 24 (Operand.tmp 1) 2), some (43, false)⟩,
  ⟨some 45, (Op.load 22 (Operand.tmp 44)), some (43, false)⟩,
  ⟨some 46, (Op.move (Operand.tmp 4)), some (43, false)⟩,
  ⟨some 47, (Op.indexAddr 22 (Operand.tmp 45) (Operand.tmp 46)), some (43, false)⟩,
  ⟨some 48, (Op.load 3 (Operand.tmp 47)), some (43, false)⟩,
  ⟨some 49, (Op.call { callee := (Callee.value (Operand.func 51)), args := #[(Operand.tmp 48)], argTypes := #[3] }), some (43, false)⟩,
  ⟨some 50, (Op.unOp UnOp.not 4 (Operand.tmp 49)), some (43, false)⟩,
  ⟨some 51, (Op.pick (Operand.tmp 43) (Operand.const (Value.bool true)) (Operand.tmp 50)), none⟩])
 (.cond (Operand.tmp 51) (.seq (.reg [⟨some 52, (Op.move (Operand.tmp 4)), none⟩,
  ⟨some 2, (Op.assign (Operand.tmp 52)), none⟩,
  ⟨some 3, (Op.assign (Operand.const (Value.int IntKind.i64 3))), none⟩])
 .ret) .skip))))
 (.reg [⟨some 53, (Op.binOp BinOp.add 3 (Operand.tmp 32) (Operand.const (Value.int IntKind.i64 1)) 3), none⟩,
  ⟨some 32, (Op.move (Operand.tmp 53)), none⟩])))))))
 (.seq (.reg [⟨some 2, (Op.assign (Operand.const (Value.int IntKind.i64 0))), none⟩,
  ⟨some 3, (Op.assign (Operand.const (Value.int IntKind.i64 0))), none⟩])
 .ret))))
theorem fn32 : FnFact Try.prog 32 54 [] [(ResultVar.tmp 2), (ResultVar.tmp 3)] cd32 := ⟨by kernel_rfl, ⟨Try.f32, Try.func32, by kernel_rfl, by rfl, Try.ntmps32, congrArg Array.toList Try.results32⟩⟩
/-- examiner/hosts.CheckState -/
def cd34 : CC := (.seq (.reg [⟨some 2, (Op.box 24 (Operand.tmp 0)), none⟩,
  ⟨some 3, (Op.box 33 (Operand.tmp 1)), none⟩,
  ⟨some 4, (Op.assign (Operand.const (Value.int IntKind.i64 0))), none⟩,
  ⟨some 5, (Op.assign (Operand.const (Value.int IntKind.i64 0))), none⟩])
 (.seq (.seq (.reg [⟨some 18, (Op.load 24 (Operand.tmp 2)), none⟩,
  ⟨some 19, (Op.call { callee := (Callee.value (Operand.func 41)), args := #[(Operand.tmp 18)], argTypes := #[24] }), none⟩,
  ⟨some 6, (Op.assign (Operand.tmp 19)), none⟩])
 (.block 0 (.seq (.reg [⟨some 21, (Op.move (Operand.tmp 6)), none⟩,
  ⟨some 22, (Op.binOp BinOp.neq 34 (Operand.tmp 21) (Operand.const (Value.int IntKind.i64 0)) 34), none⟩,
  ⟨some 20, (Op.assign (Operand.tmp 22)), none⟩])
 (.cond (Operand.tmp 20) (.seq (.reg [⟨some 23, (Op.move (Operand.tmp 6)), none⟩,
  ⟨some 4, (Op.assign (Operand.const (Value.int IntKind.i64 0))), none⟩,
  ⟨some 5, (Op.assign (Operand.tmp 23)), none⟩])
 .ret) (.seq (.reg [⟨some 25, (Op.fieldAddr 33 (Operand.tmp 3) 0), none⟩,
  ⟨some 26, (Op.load 29 (Operand.tmp 25)), none⟩,
  ⟨some 27, (Op.call { callee := (Callee.builtin Builtin.len), args := #[(Operand.tmp 26)], argTypes := #[29] }), none⟩,
  ⟨some 28, (Op.fieldAddr 24 (Operand.tmp 2) 1), none⟩,
  ⟨some 29, (Op.load 22 (Operand.tmp 28)), none⟩,
  ⟨some 30, (Op.call { callee := (Callee.builtin Builtin.len), args := #[(Operand.tmp 29)], argTypes := #[22] }), none⟩,
  ⟨some 31, (Op.binOp BinOp.neq 3 (Operand.tmp 27) (Operand.tmp 30) 3), none⟩,
  ⟨some 32, (Op.move (Operand.tmp 31)), none⟩,
  ⟨some 33, (Op.fieldAddr 33 (Operand.tmp 3) 2), some (32, false)⟩,
  ⟨some 34, (Op.load 30 (Operand.tmp 33)), some (32, false)⟩,
  ⟨some 35, (Op.call { callee := (Callee.builtin Builtin.len), args := #[(Operand.tmp 34)], argTypes := #[30] }), some (32, false)⟩,
  ⟨some 36, (Op.fieldAddr 24 (Operand.tmp 2) 0), some (32, false)⟩,
  ⟨some 37, (Op.load 3 (Operand.tmp 36)), some (32, false)⟩,
  ⟨some 38, (Op.binOp BinOp.neq 3 (Operand.tmp 35) (Operand.tmp 37) 3), some (32, false)⟩,
  ⟨some 39, (Op.pick (Operand.tmp 32) (Operand.const (Value.bool true)) (Operand.tmp 38)), none⟩,
  ⟨some 24, (Op.assign (Operand.tmp 39)), none⟩])
 (.cond (Operand.tmp 24) (.seq (.reg [⟨some 4, (Op.assign (Operand.const (Value.int IntKind.i64 0))), none⟩,
  ⟨some 5, (Op.assign (Operand.const (Value.int IntKind.i64 6))), none⟩])
 .ret) (.seq (.seq (.reg [⟨some 41, (Op.fieldAddr 33 (Operand.tmp 3) 3), none⟩,
  ⟨some 42, (Op.load 31 (Operand.tmp 41)), none⟩,
  ⟨some 43, (Op.call { callee := (Callee.builtin Builtin.len), args := #[(Operand.tmp 42)], argTypes := #[31] }), none⟩,
  ⟨some 44, (Op.binOp BinOp.gtr 3 (Operand.tmp 43) (Operand.const (Value.int IntKind.i64 12)) 3), none⟩,
  ⟨some 40, (Op.assign (Operand.tmp 44)), none⟩])
 (.cond (Operand.tmp 40) .skip (.reg [⟨some 45, (Op.fieldAddr 33 (Operand.tmp 3) 2), none⟩,
  ⟨some 46, (Op.load 30 (Operand.tmp 45)), none⟩,
  ⟨some 47, (Op.call { callee := (Callee.value (Operand.func 55)), args := #[(Operand.tmp 46), (Operand.func 56)], argTypes := #[30, 95] }), none⟩,
  ⟨some 40, (Op.assign (Operand.tmp 47)), none⟩])))
 (.cond (Operand.tmp 40) (.seq (.reg [⟨some 4, (Op.assign (Operand.const (Value.int IntKind.i64 0))), none⟩,
  ⟨some 5, (Op.assign (Operand.const (Value.int IntKind.i64 2))), none⟩])
 .ret) .skip))))))))
 (.seq (.reg [⟨some 7, (Op.assign (Operand.const (Value.int IntKind.i64 0))), none⟩])
 (.seq (.seq (.reg [⟨some 48, (Op.fieldAddr 33 (Operand.tmp 3) 0), none⟩,
  ⟨some 49, (Op.load 29 (Operand.tmp 48)), none⟩,
  ⟨some 50, (Op.call { callee := (Callee.builtin Builtin.len), args := #[(Operand.tmp 49)], argTypes := #[29] }), none⟩,
  ⟨some 51, (Op.move (Operand.const (Value.int IntKind.i64 0))), none⟩])
 (.block 1 (.loop (.seq (.reg [⟨some 52, (Op.binOp BinOp.lss 3 (Operand.tmp 51) (Operand.tmp 50) 3), none⟩])
 (.seq (.cond (Operand.tmp 52) .skip (.exit 1))
 (.seq (.block 2 (.seq (.reg [⟨some 53, (Op.move (Operand.tmp 51)), none⟩,
  ⟨some 54, (Op.indexAddr 29 (Operand.tmp 49) (Operand.tmp 51)), none⟩,
  ⟨some 55, (Op.load 68 (Operand.tmp 54)), none⟩,
  ⟨some 9, (Op.alloc 68), none⟩,
  ⟨some 8, (Op.assign (Operand.tmp 53)), none⟩,
  ⟨none, (Op.store 68 (Operand.tmp 9) (Operand.tmp 55)), none⟩])
 (.seq (.block 3 (.seq (.seq (.reg [⟨some 57, (Op.fieldAddr 68 (Operand.tmp 9) 0), none⟩,
  ⟨some 58, (Op.load 3 (Operand.tmp 57)), none⟩,
  ⟨some 59, (Op.call { callee := (Callee.value (Operand.func 54)), args := #[(Operand.tmp 58), (Operand.const (Value.int IntKind.i64 0)), (Operand.const (Value.int IntKind.i64 3))], argTypes := #[3, 3, 3] }), none⟩,
  ⟨some 60, (Op.unOp UnOp.not 4 (Operand.tmp 59)), none⟩,
  ⟨some 56, (Op.assign (Operand.tmp 60)), none⟩])
 (.cond (Operand.tmp 56) .skip (.reg [⟨some 61, (Op.fieldAddr 68 (Operand.tmp 9) 3), none⟩,
  ⟨some 62, (Op.load 3 (Operand.tmp 61)), none⟩,
  ⟨some 63, (Op.call { callee := (Callee.value (Operand.func 51)), args := #[(Operand.tmp 62)], argTypes := #[3] }), none⟩,
  ⟨some 64, (Op.unOp UnOp.not 4 (Operand.tmp 63)), none⟩,
  ⟨some 56, (Op.assign (Operand.tmp 64)), none⟩])))
 (.cond (Operand.tmp 56) (.seq (.reg [⟨some 65, (Op.move (Operand.tmp 8)), none⟩,
  ⟨some 4, (Op.assign (Operand.tmp 65)), none⟩,
  ⟨some 5, (Op.assign (Operand.const (Value.int IntKind.i64 3))), none⟩])
 .ret) (.seq (.reg [⟨some 67, (Op.fieldAddr 68 (Operand.tmp 9) 2), none⟩,
  ⟨some 68, (Op.load 4 (Operand.tmp 67)), none⟩,
  ⟨some 69, (Op.unOp UnOp.not 4 (Operand.tmp 68)), none⟩,
  ⟨some 70, (Op.move (Operand.tmp 69)), none⟩,
  ⟨some 71, (Op.fieldAddr 68 (Operand.tmp 9) 3), some (70, true)⟩,
  ⟨some 72, (Op.load 3 (Operand.tmp 71)), some (70, true)⟩,
  ⟨some 73, (Op.binOp BinOp.neq 3 (Operand.tmp 72) (Operand.const (Value.int IntKind.i64 0)) 3), some (70, true)⟩,
  ⟨some 74, (Op.pick (Operand.tmp 70) (Operand.tmp 73) (Operand.const (Value.bool false))), none⟩,
  ⟨some 66, (Op.assign (Operand.tmp 74)), none⟩])
 (.cond (Operand.tmp 66) (.seq (.reg [⟨some 75, (Op.move (Operand.tmp 8)), none⟩,
  ⟨some 4, (Op.assign (Operand.tmp 75)), none⟩,
  ⟨some 5, (Op.assign (Operand.const (Value.int IntKind.i64 28))), none⟩])
 .ret) .skip)))))
 (.reg [⟨some 76, (Op.move (Operand.tmp 7)), none⟩,
  ⟨some 77, (Op.fieldAddr 68 (Operand.tmp 9) 3), none⟩,
  ⟨some 78, (Op.load 3 (Operand.tmp 77)), none⟩,
  ⟨some 79, (Op.call { callee := (Callee.builtin Builtin.max), args := #[(Operand.tmp 76), (Operand.tmp 78)], argTypes := #[3, 3] }), none⟩,
  ⟨some 7, (Op.assign (Operand.tmp 79)), none⟩]))))
 (.reg [⟨some 80, (Op.binOp BinOp.add 3 (Operand.tmp 51) (Operand.const (Value.int IntKind.i64 1)) 3), none⟩,
  ⟨some 51, (Op.move (Operand.tmp 80)), none⟩])))))))
 (.seq (.seq (.reg [⟨some 81, (Op.fieldAddr 33 (Operand.tmp 3) 1), none⟩,
  ⟨some 82, (Op.load 3 (Operand.tmp 81)), none⟩,
  ⟨some 83, (Op.move (Operand.tmp 7)), none⟩,
  ⟨some 84, (Op.binOp BinOp.neq 3 (Operand.tmp 82) (Operand.tmp 83) 3), none⟩])
 (.cond (Operand.tmp 84) (.seq (.reg [⟨some 4, (Op.assign (Operand.const (Value.int IntKind.i64 0))), none⟩,
  ⟨some 5, (Op.assign (Operand.const (Value.int IntKind.i64 3))), none⟩])
 .ret) .skip))
 (.seq (.seq (.reg [⟨some 85, (Op.fieldAddr 33 (Operand.tmp 3) 2), none⟩,
  ⟨some 86, (Op.load 30 (Operand.tmp 85)), none⟩,
  ⟨some 87, (Op.call { callee := (Callee.builtin Builtin.len), args := #[(Operand.tmp 86)], argTypes := #[30] }), none⟩,
  ⟨some 88, (Op.move (Operand.const (Value.int IntKind.i64 0))), none⟩])
 (.block 4 (.loop (.seq (.reg [⟨some 89, (Op.binOp BinOp.lss 3 (Operand.tmp 88) (Operand.tmp 87) 3), none⟩])
 (.seq (.cond (Operand.tmp 89) .skip (.exit 4))
 (.seq (.block 5 (.seq (.reg [⟨some 90, (Op.move (Operand.tmp 88)), none⟩,
  ⟨some 91, (Op.indexAddr 30 (Operand.tmp 86) (Operand.tmp 88)), none⟩,
  ⟨some 92, (Op.load 80 (Operand.tmp 91)), none⟩,
  ⟨some 11, (Op.alloc 80), none⟩,
  ⟨some 10, (Op.assign (Operand.tmp 90)), none⟩,
  ⟨none, (Op.store 80 (Operand.tmp 11) (Operand.tmp 92)), none⟩])
 (.seq (.reg [⟨some 93, (Op.fieldAddr 80 (Operand.tmp 11) 1), none⟩,
  ⟨some 94, (Op.load 78 (Operand.tmp 93)), none⟩,
  ⟨some 95, (Op.call { callee := (Callee.builtin Builtin.len), args := #[(Operand.tmp 94)], argTypes := #[78] }), none⟩,
  ⟨some 96, (Op.move (Operand.const (Value.int IntKind.i64 0))), none⟩])
 (.block 6 (.loop (.seq (.reg [⟨some 97, (Op.binOp BinOp.lss 3 (Operand.tmp 96) (Operand.tmp 95) 3), none⟩])
 (.seq (.cond (Operand.tmp 97) .skip (.exit 6))
 (.seq (.block 7 (.seq (.reg [⟨some 98, (Op.move (Operand.tmp 96)), none⟩,
  ⟨some 99, (Op.indexAddr 78 (Operand.tmp 94) (Operand.tmp 96)), none⟩,
  ⟨some 100, (Op.load 90 (Operand.tmp 99)), none⟩,
  ⟨some 13, (Op.alloc 90), none⟩,
  ⟨some 12, (Op.assign (Operand.tmp 98)), none⟩,
  ⟨none, (Op.store 90 (Operand.tmp 13) (Operand.tmp 100)), none⟩])
 (.seq (.dr [⟨0, .R, ⟨some 101, (Op.load 24 (Operand.tmp 2)), none⟩, [], false⟩,
  ⟨1, .F, ⟨some 102, (Op.move (Operand.tmp 10)), none⟩, [], false⟩,
  ⟨2, .F, ⟨some 103, (Op.fieldAddr 80 (Operand.tmp 11) 1), none⟩, [], false⟩,
  ⟨3, .R, ⟨some 104, (Op.load 78 (Operand.tmp 103)), none⟩, [], false⟩,
  ⟨4, .F, ⟨some 105, (Op.move (Operand.tmp 12)), none⟩, [], false⟩,
  ⟨5, .F, ⟨some 106, (Op.slice 78 (Operand.tmp 104) none (some (Operand.tmp 105)) none), none⟩, [], false⟩,
  ⟨6, .R, ⟨some 107, (Op.load 90 (Operand.tmp 13)), none⟩, [], false⟩,
  ⟨7, .E, ⟨some 108, (Op.call { callee := (Callee.value (Operand.func 57)), args := #[(Operand.tmp 101), (Operand.tmp 102), (Operand.tmp 106), (Operand.tmp 107)], argTypes := #[24, 3, 78, 90] }), none⟩, [], false⟩,
  ⟨8, .F, ⟨some 14, (Op.assign (Operand.tmp 108)), none⟩, [], false⟩])
 (.seq (.reg [⟨some 109, (Op.move (Operand.tmp 14)), none⟩,
  ⟨some 110, (Op.binOp BinOp.neq 34 (Operand.tmp 109) (Operand.const (Value.int IntKind.i64 0)) 34), none⟩])
 (.cond (Operand.tmp 110) (.seq (.reg [⟨some 111, (Op.move (Operand.tmp 10)), none⟩,
  ⟨some 112, (Op.move (Operand.tmp 14)), none⟩,
  ⟨some 4, (Op.assign (Operand.tmp 111)), none⟩,
  ⟨some 5, (Op.assign (Operand.tmp 112)), none⟩])
 .ret) .skip)))))
 (.reg [⟨some 113, (Op.binOp BinOp.add 3 (Operand.tmp 96) (Operand.const (Value.int IntKind.i64 1)) 3), none⟩,
  ⟨some 96, (Op.move (Operand.tmp 113)), none⟩])))))))))
 (.reg [⟨some 114, (Op.binOp BinOp.add 3 (Operand.tmp 88) (Operand.const (Value.int IntKind.i64 1)) 3), none⟩,
  ⟨some 88, (Op.move (Operand.tmp 114)), none⟩])))))))
 (.seq (.seq (.reg [⟨some 115, (Op.fieldAddr 33 (Operand.tmp 3) 3), none⟩,
  ⟨some 116, (Op.load 31 (Operand.tmp 115)), none⟩,
  ⟨some 117, (Op.call { callee := (Callee.builtin Builtin.len), args := #[(Operand.tmp 116)], argTypes := #[31] }), none⟩,
  ⟨some 118, (Op.move (Operand.const (Value.int IntKind.i64 0))), none⟩])
 (.block 8 (.loop (.seq (.reg [⟨some 119, (Op.binOp BinOp.lss 3 (Operand.tmp 118) (Operand.tmp 117) 3), none⟩])
 (.seq (.cond (Operand.tmp 119) .skip (.exit 8))
 (.seq (.block 9 (.seq (.reg [⟨some 120, (Op.move (Operand.tmp 118)), none⟩,
  ⟨some 121, (Op.indexAddr 31 (Operand.tmp 116) (Operand.tmp 118)), none⟩,
  ⟨some 122, (Op.load 92 (Operand.tmp 121)), none⟩,
  ⟨some 16, (Op.alloc 92), none⟩,
  ⟨some 15, (Op.assign (Operand.tmp 120)), none⟩,
  ⟨none, (Op.store 92 (Operand.tmp 16) (Operand.tmp 122)), none⟩])
 (.seq (.reg [⟨some 123, (Op.load 24 (Operand.tmp 2)), none⟩,
  ⟨some 124, (Op.load 92 (Operand.tmp 16)), none⟩,
  ⟨some 125, (Op.call { callee := (Callee.value (Operand.func 58)), args := #[(Operand.tmp 123), (Operand.tmp 124)], argTypes := #[24, 92] }), none⟩,
  ⟨some 17, (Op.assign (Operand.tmp 125)), none⟩])
 (.seq (.reg [⟨some 126, (Op.move (Operand.tmp 17)), none⟩,
  ⟨some 127, (Op.binOp BinOp.neq 34 (Operand.tmp 126) (Operand.const (Value.int IntKind.i64 0)) 34), none⟩])
 (.cond (Operand.tmp 127) (.seq (.reg [⟨some 128, (Op.move (Operand.tmp 15)), none⟩,
  ⟨some 129, (Op.move (Operand.tmp 17)), none⟩,
  ⟨some 4, (Op.assign (Operand.tmp 128)), none⟩,
  ⟨some 5, (Op.assign (Operand.tmp 129)), none⟩])
 .ret) .skip)))))
 (.reg [⟨some 130, (Op.binOp BinOp.add 3 (Operand.tmp 118) (Operand.const (Value.int IntKind.i64 1)) 3), none⟩,
  ⟨some 118, (Op.move (Operand.tmp 130)), none⟩])))))))
 (.seq (.reg [⟨some 4, (Op.assign (Operand.const (Value.int IntKind.i64 0))), none⟩,
  ⟨some 5, (Op.assign (Operand.const (Value.int IntKind.i64 0))), none⟩])
 .ret))))))))
theorem fn34 : FnFact Try.prog 34 131 [(28, [(0, 3), (1, 0), (2, 0), (3, 3), (4, 0), (5, 0), (6, 3), (7, 2), (8, 0)], [[], [], [], [2], [], [2, 3, 4], [], [0, 1, 2, 3, 4, 5, 6], [0, 1, 2, 3, 4, 5, 6, 7]])] [(ResultVar.tmp 4), (ResultVar.tmp 5)] cd34 := ⟨by kernel_rfl, ⟨Try.f34, Try.func34, by kernel_rfl, by rfl, Try.ntmps34, congrArg Array.toList Try.results34⟩⟩
end Cd
end Go.Proofs.Ytgmncggiblaciaa

/- For each function the facts on types that a walk through it needs, by program. -/
namespace Go.Proofs.Ytgmncggiblaciaa
open Go Go.Proofs.Ytgmncggiblaciaa.Ab
namespace Tk
theorem aI {a b : Prop} (x : a) (y : b) : a ∧ b := ⟨x, y⟩
def tkd2 := @Nat.zero_add
theorem t2 : type_of% tkd2 := tkd2
def tkd3 := (aI @Ty.ag1 (aI @Ty.by1 (aI @Ty.if1 (aI @Ty.sz1 (aI @Ty.un1 (aI @Ty.unn1 (aI @Ty.zr1 (aI @Ty.ag2 (aI @Ty.by2 (aI @Ty.if2 (aI @Ty.in2 (aI @Ty.sz2 (aI @Ty.un2 (aI @Ty.unn2 (aI @Ty.zr2 (aI @Ty.ag3 (aI @Ty.by3 (aI @Ty.if3 (aI @Ty.in3 (aI @Ty.sz3 (aI @Ty.un3 (aI @Ty.unn3 (aI @Ty.zr3 (aI @Ty.ag4 (aI @Ty.bo4 (aI @Ty.by4 (aI @Ty.if4 (aI @Ty.sz4 (aI @Ty.un4 (aI @Ty.unn4 (aI @Ty.zr4 (aI @Ty.ag22 (aI @Ty.by22 (aI @Ty.el22 (aI @Ty.if22 (aI @Ty.ni22 (aI @Ty.sz22 (aI @Ty.un22 (aI @Ty.unn22 (aI @Ty.zr22 (aI @Ty.ag24 (aI @Ty.by24 (aI @Ty.fo24_0 (aI @Ty.fo24_1 (aI @Ty.fo24_2 (aI @Ty.ft24_0 (aI @Ty.ft24_1 (aI @Ty.ft24_2 (aI @Ty.if24 (aI @Ty.pl24 (aI @Ty.sz24 (aI @Ty.un24 (aI @Ty.unn24 (aI @Ty.zr24 (aI @Ty.ag25 (aI @Ty.by25 (aI @Ty.el25 (aI @Ty.if25 (aI @Ty.ni25 (aI @Ty.sz25 (aI @Ty.un25 (aI @Ty.unn25 (aI @Ty.zr25 (aI @Ty.ag33 (aI @Ty.by33 (aI @Ty.fo33_0 (aI @Ty.fo33_1 (aI @Ty.fo33_2 (aI @Ty.fo33_3 (aI @Ty.ft33_0 (aI @Ty.ft33_1 (aI @Ty.ft33_2 (aI @Ty.ft33_3 (aI @Ty.if33 (aI @Ty.pl33 (aI @Ty.sz33 (aI @Ty.un33 (aI @Ty.unn33 (aI @Ty.zr33 (aI @Ty.ag34 (aI @Ty.by34 (aI @Ty.if34 (aI @Ty.in34 (aI @Ty.sz34 (aI @Ty.un34 (aI @Ty.unn34 (aI @Ty.zr34 (aI @Ty.ag39 (aI @Ty.by39 (aI @Ty.ef39 (aI @Ty.fo39_0 (aI @Ty.fo39_1 (aI @Ty.ft39_0 (aI @Ty.ft39_1 (aI @Ty.if39 (aI @Ty.pl39 (aI @Ty.sz39 (aI @Ty.un39 (aI @Ty.unn39 (@Ty.zr39))))))))))))))))))))))))))))))))))))))))))))))))))))))))))))))))))))))))))))))))))))))))))))))))))))
theorem t3 : type_of% tkd3 := tkd3
def tkd4 := (aI @Ty.ag1 (aI @Ty.by1 (aI @Ty.if1 (aI @Ty.sz1 (aI @Ty.un1 (aI @Ty.unn1 (aI @Ty.zr1 (aI @Ty.ag2 (aI @Ty.by2 (aI @Ty.if2 (aI @Ty.in2 (aI @Ty.sz2 (aI @Ty.un2 (aI @Ty.unn2 (aI @Ty.zr2 (aI @Ty.ag3 (aI @Ty.by3 (aI @Ty.if3 (aI @Ty.in3 (aI @Ty.sz3 (aI @Ty.un3 (aI @Ty.unn3 (aI @Ty.zr3 (aI @Ty.ag4 (aI @Ty.bo4 (aI @Ty.by4 (aI @Ty.if4 (aI @Ty.sz4 (aI @Ty.un4 (aI @Ty.unn4 (aI @Ty.zr4 (aI @Ty.ag24 (aI @Ty.by24 (aI @Ty.fo24_0 (aI @Ty.fo24_1 (aI @Ty.fo24_2 (aI @Ty.ft24_0 (aI @Ty.ft24_1 (aI @Ty.ft24_2 (aI @Ty.if24 (aI @Ty.pl24 (aI @Ty.sz24 (aI @Ty.un24 (aI @Ty.unn24 (aI @Ty.zr24 (aI @Ty.ag25 (aI @Ty.by25 (aI @Ty.el25 (aI @Ty.if25 (aI @Ty.ni25 (aI @Ty.sz25 (aI @Ty.un25 (aI @Ty.unn25 (aI @Ty.zr25 (aI @Ty.ag33 (aI @Ty.by33 (aI @Ty.fo33_0 (aI @Ty.fo33_1 (aI @Ty.fo33_2 (aI @Ty.fo33_3 (aI @Ty.ft33_0 (aI @Ty.ft33_1 (aI @Ty.ft33_2 (aI @Ty.ft33_3 (aI @Ty.if33 (aI @Ty.pl33 (aI @Ty.sz33 (aI @Ty.un33 (aI @Ty.unn33 (aI @Ty.zr33 (aI @Ty.ag39 (aI @Ty.by39 (aI @Ty.ef39 (aI @Ty.fo39_0 (aI @Ty.fo39_1 (aI @Ty.ft39_0 (aI @Ty.ft39_1 (aI @Ty.if39 (aI @Ty.pl39 (aI @Ty.sz39 (aI @Ty.un39 (aI @Ty.unn39 (aI @Ty.zr39 (aI @Ty.ag56 (aI @Ty.by56 (aI @Ty.fo56_0 (aI @Ty.fo56_1 (aI @Ty.fo56_2 (aI @Ty.ft56_0 (aI @Ty.ft56_1 (aI @Ty.ft56_2 (aI @Ty.if56 (aI @Ty.pl56 (aI @Ty.sz56 (aI @Ty.un56 (aI @Ty.unn56 (@Ty.zr56)))))))))))))))))))))))))))))))))))))))))))))))))))))))))))))))))))))))))))))))))))))))))))))))))
theorem t4 : type_of% tkd4 := tkd4
def tkd5 := (aI @Ty.ag1 (aI @Ty.by1 (aI @Ty.if1 (aI @Ty.sz1 (aI @Ty.un1 (aI @Ty.unn1 (aI @Ty.zr1 (aI @Ty.ag2 (aI @Ty.by2 (aI @Ty.if2 (aI @Ty.in2 (aI @Ty.sz2 (aI @Ty.un2 (aI @Ty.unn2 (aI @Ty.zr2 (aI @Ty.ag3 (aI @Ty.by3 (aI @Ty.if3 (aI @Ty.in3 (aI @Ty.sz3 (aI @Ty.un3 (aI @Ty.unn3 (aI @Ty.zr3 (aI @Ty.ag4 (aI @Ty.bo4 (aI @Ty.by4 (aI @Ty.if4 (aI @Ty.sz4 (aI @Ty.un4 (aI @Ty.unn4 (aI @Ty.zr4 (aI @Ty.ag24 (aI @Ty.by24 (aI @Ty.fo24_0 (aI @Ty.fo24_1 (aI @Ty.fo24_2 (aI @Ty.ft24_0 (aI @Ty.ft24_1 (aI @Ty.ft24_2 (aI @Ty.if24 (aI @Ty.pl24 (aI @Ty.sz24 (aI @Ty.un24 (aI @Ty.unn24 (aI @Ty.zr24 (aI @Ty.ag25 (aI @Ty.by25 (aI @Ty.el25 (aI @Ty.if25 (aI @Ty.ni25 (aI @Ty.sz25 (aI @Ty.un25 (aI @Ty.unn25 (aI @Ty.zr25 (aI @Ty.ag33 (aI @Ty.by33 (aI @Ty.fo33_0 (aI @Ty.fo33_1 (aI @Ty.fo33_2 (aI @Ty.fo33_3 (aI @Ty.ft33_0 (aI @Ty.ft33_1 (aI @Ty.ft33_2 (aI @Ty.ft33_3 (aI @Ty.if33 (aI @Ty.pl33 (aI @Ty.sz33 (aI @Ty.un33 (aI @Ty.unn33 (aI @Ty.zr33 (aI @Ty.ag34 (aI @Ty.by34 (aI @Ty.if34 (aI @Ty.in34 (aI @Ty.sz34 (aI @Ty.un34 (aI @Ty.unn34 (aI @Ty.zr34 (aI @Ty.ag39 (aI @Ty.by39 (aI @Ty.ef39 (aI @Ty.fo39_0 (aI @Ty.fo39_1 (aI @Ty.ft39_0 (aI @Ty.ft39_1 (aI @Ty.if39 (aI @Ty.pl39 (aI @Ty.sz39 (aI @Ty.un39 (aI @Ty.unn39 (aI @Ty.zr39 (aI @Ty.ag56 (aI @Ty.by56 (aI @Ty.fo56_0 (aI @Ty.fo56_1 (aI @Ty.fo56_2 (aI @Ty.ft56_0 (aI @Ty.ft56_1 (aI @Ty.ft56_2 (aI @Ty.if56 (aI @Ty.pl56 (aI @Ty.sz56 (aI @Ty.un56 (aI @Ty.unn56 (@Ty.zr56)))))))))))))))))))))))))))))))))))))))))))))))))))))))))))))))))))))))))))))))))))))))))))))))))))))))))
theorem t5 : type_of% tkd5 := tkd5
def tkd9 := (aI @Ty.ag3 (aI @Ty.by3 (aI @Ty.if3 (aI @Ty.in3 (aI @Ty.sz3 (aI @Ty.un3 (aI @Ty.unn3 (aI @Ty.zr3 (aI @Ty.ag4 (aI @Ty.bo4 (aI @Ty.by4 (aI @Ty.if4 (aI @Ty.sz4 (aI @Ty.un4 (aI @Ty.unn4 (aI @Ty.zr4 (aI @Ty.ag24 (aI @Ty.by24 (aI @Ty.fo24_0 (aI @Ty.fo24_1 (aI @Ty.fo24_2 (aI @Ty.ft24_0 (aI @Ty.ft24_1 (aI @Ty.ft24_2 (aI @Ty.if24 (aI @Ty.pl24 (aI @Ty.sz24 (aI @Ty.un24 (aI @Ty.unn24 (aI @Ty.zr24 (aI @Ty.ag25 (aI @Ty.by25 (aI @Ty.el25 (aI @Ty.if25 (aI @Ty.ni25 (aI @Ty.sz25 (aI @Ty.un25 (aI @Ty.unn25 (aI @Ty.zr25 (aI @Ty.ag33 (aI @Ty.by33 (aI @Ty.fo33_0 (aI @Ty.fo33_1 (aI @Ty.fo33_2 (aI @Ty.fo33_3 (aI @Ty.ft33_0 (aI @Ty.ft33_1 (aI @Ty.ft33_2 (aI @Ty.ft33_3 (aI @Ty.if33 (aI @Ty.pl33 (aI @Ty.sz33 (aI @Ty.un33 (aI @Ty.unn33 (aI @Ty.zr33 (aI @Ty.ag34 (aI @Ty.by34 (aI @Ty.if34 (aI @Ty.in34 (aI @Ty.sz34 (aI @Ty.un34 (aI @Ty.unn34 (aI @Ty.zr34 (aI @Ty.ag39 (aI @Ty.by39 (aI @Ty.ef39 (aI @Ty.fo39_0 (aI @Ty.fo39_1 (aI @Ty.ft39_0 (aI @Ty.ft39_1 (aI @Ty.if39 (aI @Ty.pl39 (aI @Ty.sz39 (aI @Ty.un39 (aI @Ty.unn39 (@Ty.zr39))))))))))))))))))))))))))))))))))))))))))))))))))))))))))))))))))))))))))))
theorem t9 : type_of% tkd9 := tkd9
def tkd11 := (aI @Ty.ag1 (aI @Ty.by1 (aI @Ty.if1 (aI @Ty.sz1 (aI @Ty.un1 (aI @Ty.unn1 (aI @Ty.zr1 (aI @Ty.ag2 (aI @Ty.by2 (aI @Ty.if2 (aI @Ty.in2 (aI @Ty.sz2 (aI @Ty.un2 (aI @Ty.unn2 (aI @Ty.zr2 (aI @Ty.ag3 (aI @Ty.by3 (aI @Ty.if3 (aI @Ty.in3 (aI @Ty.sz3 (aI @Ty.un3 (aI @Ty.unn3 (aI @Ty.zr3 (aI @Ty.ag4 (aI @Ty.bo4 (aI @Ty.by4 (aI @Ty.if4 (aI @Ty.sz4 (aI @Ty.un4 (aI @Ty.unn4 (aI @Ty.zr4 (aI @Ty.ag22 (aI @Ty.by22 (aI @Ty.el22 (aI @Ty.if22 (aI @Ty.ni22 (aI @Ty.sz22 (aI @Ty.un22 (aI @Ty.unn22 (aI @Ty.zr22 (aI @Ty.ag24 (aI @Ty.by24 (aI @Ty.fo24_0 (aI @Ty.fo24_1 (aI @Ty.fo24_2 (aI @Ty.ft24_0 (aI @Ty.ft24_1 (aI @Ty.ft24_2 (aI @Ty.if24 (aI @Ty.pl24 (aI @Ty.sz24 (aI @Ty.un24 (aI @Ty.unn24 (@Ty.zr24))))))))))))))))))))))))))))))))))))))))))))))))))))))
theorem t11 : type_of% tkd11 := tkd11
def tkd13 := (aI @Ty.ag1 (aI @Ty.by1 (aI @Ty.if1 (aI @Ty.sz1 (aI @Ty.un1 (aI @Ty.unn1 (aI @Ty.zr1 (aI @Ty.ag2 (aI @Ty.by2 (aI @Ty.if2 (aI @Ty.in2 (aI @Ty.sz2 (aI @Ty.un2 (aI @Ty.unn2 (aI @Ty.zr2 (aI @Ty.ag3 (aI @Ty.by3 (aI @Ty.if3 (aI @Ty.in3 (aI @Ty.sz3 (aI @Ty.un3 (aI @Ty.unn3 (aI @Ty.zr3 (aI @Ty.ag22 (aI @Ty.by22 (aI @Ty.el22 (aI @Ty.if22 (aI @Ty.ni22 (aI @Ty.sz22 (aI @Ty.un22 (aI @Ty.unn22 (aI @Ty.zr22 (aI @Ty.ag24 (aI @Ty.by24 (aI @Ty.fo24_0 (aI @Ty.fo24_1 (aI @Ty.fo24_2 (aI @Ty.ft24_0 (aI @Ty.ft24_1 (aI @Ty.ft24_2 (aI @Ty.if24 (aI @Ty.pl24 (aI @Ty.sz24 (aI @Ty.un24 (aI @Ty.unn24 (@Ty.zr24))))))))))))))))))))))))))))))))))))))))))))))
theorem t13 : type_of% tkd13 := tkd13
def tkd15 := (aI @Ty.ag24 (aI @Ty.by24 (aI @Ty.fo24_0 (aI @Ty.fo24_1 (aI @Ty.fo24_2 (aI @Ty.ft24_0 (aI @Ty.ft24_1 (aI @Ty.ft24_2 (aI @Ty.if24 (aI @Ty.pl24 (aI @Ty.sz24 (aI @Ty.un24 (aI @Ty.unn24 (aI @Ty.zr24 (aI @Ty.ag33 (aI @Ty.by33 (aI @Ty.fo33_0 (aI @Ty.fo33_1 (aI @Ty.fo33_2 (aI @Ty.fo33_3 (aI @Ty.ft33_0 (aI @Ty.ft33_1 (aI @Ty.ft33_2 (aI @Ty.ft33_3 (aI @Ty.if33 (aI @Ty.pl33 (aI @Ty.sz33 (aI @Ty.un33 (aI @Ty.unn33 (@Ty.zr33))))))))))))))))))))))))))))))
theorem t15 : type_of% tkd15 := tkd15
def tkd16 := (aI @Ty.ag1 (aI @Ty.by1 (aI @Ty.if1 (aI @Ty.sz1 (aI @Ty.un1 (aI @Ty.unn1 (aI @Ty.zr1 (aI @Ty.ag24 (aI @Ty.by24 (aI @Ty.fo24_0 (aI @Ty.fo24_1 (aI @Ty.fo24_2 (aI @Ty.ft24_0 (aI @Ty.ft24_1 (aI @Ty.ft24_2 (aI @Ty.if24 (aI @Ty.pl24 (aI @Ty.sz24 (aI @Ty.un24 (aI @Ty.unn24 (aI @Ty.zr24 (aI @Ty.ag33 (aI @Ty.by33 (aI @Ty.fo33_0 (aI @Ty.fo33_1 (aI @Ty.fo33_2 (aI @Ty.fo33_3 (aI @Ty.ft33_0 (aI @Ty.ft33_1 (aI @Ty.ft33_2 (aI @Ty.ft33_3 (aI @Ty.if33 (aI @Ty.pl33 (aI @Ty.sz33 (aI @Ty.un33 (aI @Ty.unn33 (aI @Ty.zr33 (aI @Ty.ag34 (aI @Ty.by34 (aI @Ty.if34 (aI @Ty.in34 (aI @Ty.sz34 (aI @Ty.un34 (aI @Ty.unn34 (aI @Ty.zr34 (aI @Ty.ag39 (aI @Ty.by39 (aI @Ty.ef39 (aI @Ty.fo39_0 (aI @Ty.fo39_1 (aI @Ty.ft39_0 (aI @Ty.ft39_1 (aI @Ty.if39 (aI @Ty.pl39 (aI @Ty.sz39 (aI @Ty.un39 (aI @Ty.unn39 (aI @Ty.zr39 (aI @Ty.ag83 (aI @Ty.by83 (aI @Ty.if83 (aI @Ty.po83 (aI @Ty.sz83 (aI @Ty.un83 (aI @Ty.unn83 (aI @Ty.zr83 (aI @Ty.ag85 (aI @Ty.by85 (aI @Ty.fo85_0 (aI @Ty.fo85_1 (aI @Ty.ft85_0 (aI @Ty.ft85_1 (aI @Ty.if85 (aI @Ty.pl85 (aI @Ty.sz85 (aI @Ty.un85 (aI @Ty.unn85 (@Ty.zr85))))))))))))))))))))))))))))))))))))))))))))))))))))))))))))))))))))))))))))))
theorem t16 : type_of% tkd16 := tkd16
def tkd17 := (aI @Ty.ag1 (aI @Ty.by1 (aI @Ty.if1 (aI @Ty.sz1 (aI @Ty.un1 (aI @Ty.unn1 (aI @Ty.zr1 (aI @Ty.ag2 (aI @Ty.by2 (aI @Ty.if2 (aI @Ty.in2 (aI @Ty.sz2 (aI @Ty.un2 (aI @Ty.unn2 (aI @Ty.zr2 (aI @Ty.ag3 (aI @Ty.by3 (aI @Ty.if3 (aI @Ty.in3 (aI @Ty.sz3 (aI @Ty.un3 (aI @Ty.unn3 (aI @Ty.zr3 (aI @Ty.ag4 (aI @Ty.bo4 (aI @Ty.by4 (aI @Ty.if4 (aI @Ty.sz4 (aI @Ty.un4 (aI @Ty.unn4 (aI @Ty.zr4 (aI @Ty.ag29 (aI @Ty.by29 (aI @Ty.el29 (aI @Ty.if29 (aI @Ty.ni29 (aI @Ty.sz29 (aI @Ty.un29 (aI @Ty.unn29 (aI @Ty.zr29 (aI @Ty.ag30 (aI @Ty.by30 (aI @Ty.el30 (aI @Ty.if30 (aI @Ty.ni30 (aI @Ty.sz30 (aI @Ty.un30 (aI @Ty.unn30 (aI @Ty.zr30 (aI @Ty.ag31 (aI @Ty.by31 (aI @Ty.el31 (aI @Ty.if31 (aI @Ty.ni31 (aI @Ty.sz31 (aI @Ty.un31 (aI @Ty.unn31 (aI @Ty.zr31 (aI @Ty.ag33 (aI @Ty.by33 (aI @Ty.fo33_0 (aI @Ty.fo33_1 (aI @Ty.fo33_2 (aI @Ty.fo33_3 (aI @Ty.ft33_0 (aI @Ty.ft33_1 (aI @Ty.ft33_2 (aI @Ty.ft33_3 (aI @Ty.if33 (aI @Ty.pl33 (aI @Ty.sz33 (aI @Ty.un33 (aI @Ty.unn33 (aI @Ty.zr33 (aI @Ty.ag68 (aI @Ty.by68 (aI @Ty.ef68 (aI @Ty.fo68_0 (aI @Ty.fo68_1 (aI @Ty.fo68_2 (aI @Ty.fo68_3 (aI @Ty.ft68_0 (aI @Ty.ft68_1 (aI @Ty.ft68_2 (aI @Ty.ft68_3 (aI @Ty.if68 (aI @Ty.pl68 (aI @Ty.sz68 (aI @Ty.un68 (aI @Ty.unn68 (aI @Ty.zr68 (aI @Ty.ag78 (aI @Ty.by78 (aI @Ty.el78 (aI @Ty.if78 (aI @Ty.ni78 (aI @Ty.sz78 (aI @Ty.un78 (aI @Ty.unn78 (aI @Ty.zr78 (aI @Ty.ag80 (aI @Ty.by80 (aI @Ty.fo80_0 (aI @Ty.fo80_1 (aI @Ty.ft80_0 (aI @Ty.ft80_1 (aI @Ty.if80 (aI @Ty.pl80 (aI @Ty.sz80 (aI @Ty.un80 (aI @Ty.unn80 (aI @Ty.zr80 (aI @Ty.ag90 (aI @Ty.by90 (aI @Ty.ef90 (aI @Ty.fo90_0 (aI @Ty.fo90_1 (aI @Ty.fo90_2 (aI @Ty.fo90_3 (aI @Ty.fo90_4 (aI @Ty.ft90_0 (aI @Ty.ft90_1 (aI @Ty.ft90_2 (aI @Ty.ft90_3 (aI @Ty.ft90_4 (aI @Ty.if90 (aI @Ty.pl90 (aI @Ty.sz90 (aI @Ty.un90 (aI @Ty.unn90 (aI @Ty.zr90 (aI @Ty.ag92 (aI @Ty.by92 (aI @Ty.ef92 (aI @Ty.fo92_0 (aI @Ty.fo92_1 (aI @Ty.fo92_2 (aI @Ty.fo92_3 (aI @Ty.ft92_0 (aI @Ty.ft92_1 (aI @Ty.ft92_2 (aI @Ty.ft92_3 (aI @Ty.if92 (aI @Ty.pl92 (aI @Ty.sz92 (aI @Ty.un92 (aI @Ty.unn92 (@Ty.zr92))))))))))))))))))))))))))))))))))))))))))))))))))))))))))))))))))))))))))))))))))))))))))))))))))))))))))))))))))))))))))))))))))))))))))))))))))))
theorem t17 : type_of% tkd17 := tkd17
def tkd18 := (aI @Ty.ag4 (aI @Ty.bo4 (aI @Ty.by4 (aI @Ty.if4 (aI @Ty.sz4 (aI @Ty.un4 (aI @Ty.unn4 (aI @Ty.zr4 (aI @Ty.ag24 (aI @Ty.by24 (aI @Ty.fo24_0 (aI @Ty.fo24_1 (aI @Ty.fo24_2 (aI @Ty.ft24_0 (aI @Ty.ft24_1 (aI @Ty.ft24_2 (aI @Ty.if24 (aI @Ty.pl24 (aI @Ty.sz24 (aI @Ty.un24 (aI @Ty.unn24 (aI @Ty.zr24 (aI @Ty.ag29 (aI @Ty.by29 (aI @Ty.el29 (aI @Ty.if29 (aI @Ty.ni29 (aI @Ty.sz29 (aI @Ty.un29 (aI @Ty.unn29 (aI @Ty.zr29 (aI @Ty.ag33 (aI @Ty.by33 (aI @Ty.fo33_0 (aI @Ty.fo33_1 (aI @Ty.fo33_2 (aI @Ty.fo33_3 (aI @Ty.ft33_0 (aI @Ty.ft33_1 (aI @Ty.ft33_2 (aI @Ty.ft33_3 (aI @Ty.if33 (aI @Ty.pl33 (aI @Ty.sz33 (aI @Ty.un33 (aI @Ty.unn33 (aI @Ty.zr33 (aI @Ty.ag34 (aI @Ty.by34 (aI @Ty.if34 (aI @Ty.in34 (aI @Ty.sz34 (aI @Ty.un34 (aI @Ty.unn34 (aI @Ty.zr34 (aI @Ty.ag68 (aI @Ty.by68 (aI @Ty.ef68 (aI @Ty.fo68_0 (aI @Ty.fo68_1 (aI @Ty.fo68_2 (aI @Ty.fo68_3 (aI @Ty.ft68_0 (aI @Ty.ft68_1 (aI @Ty.ft68_2 (aI @Ty.ft68_3 (aI @Ty.if68 (aI @Ty.pl68 (aI @Ty.sz68 (aI @Ty.un68 (aI @Ty.unn68 (aI @Ty.zr68 (aI @Ty.ag88 (aI @Ty.by88 (aI @Ty.if88 (aI @Ty.sz88 (aI @Ty.un88 (aI @Ty.unn88 (@Ty.zr88)))))))))))))))))))))))))))))))))))))))))))))))))))))))))))))))))))))))))))))))
theorem t18 : type_of% tkd18 := tkd18
def tkd20 := (aI @Ty.ag1 (aI @Ty.by1 (aI @Ty.if1 (aI @Ty.sz1 (aI @Ty.un1 (aI @Ty.unn1 (aI @Ty.zr1 (aI @Ty.ag3 (aI @Ty.by3 (aI @Ty.if3 (aI @Ty.in3 (aI @Ty.sz3 (aI @Ty.un3 (aI @Ty.unn3 (aI @Ty.zr3 (aI @Ty.ag22 (aI @Ty.by22 (aI @Ty.el22 (aI @Ty.if22 (aI @Ty.ni22 (aI @Ty.sz22 (aI @Ty.un22 (aI @Ty.unn22 (aI @Ty.zr22 (aI @Ty.ag24 (aI @Ty.by24 (aI @Ty.fo24_0 (aI @Ty.fo24_1 (aI @Ty.fo24_2 (aI @Ty.ft24_0 (aI @Ty.ft24_1 (aI @Ty.ft24_2 (aI @Ty.if24 (aI @Ty.pl24 (aI @Ty.sz24 (aI @Ty.un24 (aI @Ty.unn24 (aI @Ty.zr24 (aI @Ty.ag25 (aI @Ty.by25 (aI @Ty.el25 (aI @Ty.if25 (aI @Ty.ni25 (aI @Ty.sz25 (aI @Ty.un25 (aI @Ty.unn25 (aI @Ty.zr25 (aI @Ty.ag31 (aI @Ty.by31 (aI @Ty.el31 (aI @Ty.if31 (aI @Ty.ni31 (aI @Ty.sz31 (aI @Ty.un31 (aI @Ty.unn31 (aI @Ty.zr31 (aI @Ty.ag33 (aI @Ty.by33 (aI @Ty.fo33_0 (aI @Ty.fo33_1 (aI @Ty.fo33_2 (aI @Ty.fo33_3 (aI @Ty.ft33_0 (aI @Ty.ft33_1 (aI @Ty.ft33_2 (aI @Ty.ft33_3 (aI @Ty.if33 (aI @Ty.pl33 (aI @Ty.sz33 (aI @Ty.un33 (aI @Ty.unn33 (aI @Ty.zr33 (aI @Ty.ag34 (aI @Ty.by34 (aI @Ty.if34 (aI @Ty.in34 (aI @Ty.sz34 (aI @Ty.un34 (aI @Ty.unn34 (aI @Ty.zr34 (aI @Ty.ag39 (aI @Ty.by39 (aI @Ty.ef39 (aI @Ty.fo39_0 (aI @Ty.fo39_1 (aI @Ty.ft39_0 (aI @Ty.ft39_1 (aI @Ty.if39 (aI @Ty.pl39 (aI @Ty.sz39 (aI @Ty.un39 (aI @Ty.unn39 (aI @Ty.zr39 (aI @Ty.ag92 (aI @Ty.by92 (aI @Ty.ef92 (aI @Ty.fo92_0 (aI @Ty.fo92_1 (aI @Ty.fo92_2 (aI @Ty.fo92_3 (aI @Ty.ft92_0 (aI @Ty.ft92_1 (aI @Ty.ft92_2 (aI @Ty.ft92_3 (aI @Ty.if92 (aI @Ty.pl92 (aI @Ty.sz92 (aI @Ty.un92 (aI @Ty.unn92 (@Ty.zr92))))))))))))))))))))))))))))))))))))))))))))))))))))))))))))))))))))))))))))))))))))))))))))))))))))))))))))))
theorem t20 : type_of% tkd20 := tkd20
def tkd23 := (aI @Ty.ag1 (aI @Ty.by1 (aI @Ty.if1 (aI @Ty.sz1 (aI @Ty.un1 (aI @Ty.unn1 (aI @Ty.zr1 (aI @Ty.ag3 (aI @Ty.by3 (aI @Ty.if3 (aI @Ty.in3 (aI @Ty.sz3 (aI @Ty.un3 (aI @Ty.unn3 (aI @Ty.zr3 (aI @Ty.ag4 (aI @Ty.bo4 (aI @Ty.by4 (aI @Ty.if4 (aI @Ty.sz4 (aI @Ty.un4 (aI @Ty.unn4 (aI @Ty.zr4 (aI @Ty.ag24 (aI @Ty.by24 (aI @Ty.fo24_0 (aI @Ty.fo24_1 (aI @Ty.fo24_2 (aI @Ty.ft24_0 (aI @Ty.ft24_1 (aI @Ty.ft24_2 (aI @Ty.if24 (aI @Ty.pl24 (aI @Ty.sz24 (aI @Ty.un24 (aI @Ty.unn24 (aI @Ty.zr24 (aI @Ty.ag25 (aI @Ty.by25 (aI @Ty.el25 (aI @Ty.if25 (aI @Ty.ni25 (aI @Ty.sz25 (aI @Ty.un25 (aI @Ty.unn25 (aI @Ty.zr25 (aI @Ty.ag31 (aI @Ty.by31 (aI @Ty.el31 (aI @Ty.if31 (aI @Ty.ni31 (aI @Ty.sz31 (aI @Ty.un31 (aI @Ty.unn31 (aI @Ty.zr31 (aI @Ty.ag33 (aI @Ty.by33 (aI @Ty.fo33_0 (aI @Ty.fo33_1 (aI @Ty.fo33_2 (aI @Ty.fo33_3 (aI @Ty.ft33_0 (aI @Ty.ft33_1 (aI @Ty.ft33_2 (aI @Ty.ft33_3 (aI @Ty.if33 (aI @Ty.pl33 (aI @Ty.sz33 (aI @Ty.un33 (aI @Ty.unn33 (aI @Ty.zr33 (aI @Ty.ag34 (aI @Ty.by34 (aI @Ty.if34 (aI @Ty.in34 (aI @Ty.sz34 (aI @Ty.un34 (aI @Ty.unn34 (aI @Ty.zr34 (aI @Ty.ag39 (aI @Ty.by39 (aI @Ty.ef39 (aI @Ty.fo39_0 (aI @Ty.fo39_1 (aI @Ty.ft39_0 (aI @Ty.ft39_1 (aI @Ty.if39 (aI @Ty.pl39 (aI @Ty.sz39 (aI @Ty.un39 (aI @Ty.unn39 (aI @Ty.zr39 (aI @Ty.ag92 (aI @Ty.by92 (aI @Ty.ef92 (aI @Ty.fo92_0 (aI @Ty.fo92_1 (aI @Ty.fo92_2 (aI @Ty.fo92_3 (aI @Ty.ft92_0 (aI @Ty.ft92_1 (aI @Ty.ft92_2 (aI @Ty.ft92_3 (aI @Ty.if92 (aI @Ty.pl92 (aI @Ty.sz92 (aI @Ty.un92 (aI @Ty.unn92 (@Ty.zr92)))))))))))))))))))))))))))))))))))))))))))))))))))))))))))))))))))))))))))))))))))))))))))))))))))))))))))))
theorem t23 : type_of% tkd23 := tkd23
def tkd24 := (aI @Ty.ag1 (aI @Ty.by1 (aI @Ty.if1 (aI @Ty.sz1 (aI @Ty.un1 (aI @Ty.unn1 (aI @Ty.zr1 (aI @Ty.ag2 (aI @Ty.by2 (aI @Ty.if2 (aI @Ty.in2 (aI @Ty.sz2 (aI @Ty.un2 (aI @Ty.unn2 (aI @Ty.zr2 (aI @Ty.ag3 (aI @Ty.by3 (aI @Ty.if3 (aI @Ty.in3 (aI @Ty.sz3 (aI @Ty.un3 (aI @Ty.unn3 (aI @Ty.zr3 (aI @Ty.ag22 (aI @Ty.by22 (aI @Ty.el22 (aI @Ty.if22 (aI @Ty.ni22 (aI @Ty.sz22 (aI @Ty.un22 (aI @Ty.unn22 (aI @Ty.zr22 (aI @Ty.ag24 (aI @Ty.by24 (aI @Ty.fo24_0 (aI @Ty.fo24_1 (aI @Ty.fo24_2 (aI @Ty.ft24_0 (aI @Ty.ft24_1 (aI @Ty.ft24_2 (aI @Ty.if24 (aI @Ty.pl24 (aI @Ty.sz24 (aI @Ty.un24 (aI @Ty.unn24 (aI @Ty.zr24 (aI @Ty.ag29 (aI @Ty.by29 (aI @Ty.el29 (aI @Ty.if29 (aI @Ty.ni29 (aI @Ty.sz29 (aI @Ty.un29 (aI @Ty.unn29 (aI @Ty.zr29 (aI @Ty.ag30 (aI @Ty.by30 (aI @Ty.el30 (aI @Ty.if30 (aI @Ty.ni30 (aI @Ty.sz30 (aI @Ty.un30 (aI @Ty.unn30 (aI @Ty.zr30 (aI @Ty.ag31 (aI @Ty.by31 (aI @Ty.el31 (aI @Ty.if31 (aI @Ty.ni31 (aI @Ty.sz31 (aI @Ty.un31 (aI @Ty.unn31 (aI @Ty.zr31 (aI @Ty.ag33 (aI @Ty.by33 (aI @Ty.fo33_0 (aI @Ty.fo33_1 (aI @Ty.fo33_2 (aI @Ty.fo33_3 (aI @Ty.ft33_0 (aI @Ty.ft33_1 (aI @Ty.ft33_2 (aI @Ty.ft33_3 (aI @Ty.if33 (aI @Ty.pl33 (aI @Ty.sz33 (aI @Ty.un33 (aI @Ty.unn33 (aI @Ty.zr33 (aI @Ty.ag68 (aI @Ty.by68 (aI @Ty.ef68 (aI @Ty.fo68_0 (aI @Ty.fo68_1 (aI @Ty.fo68_2 (aI @Ty.fo68_3 (aI @Ty.ft68_0 (aI @Ty.ft68_1 (aI @Ty.ft68_2 (aI @Ty.ft68_3 (aI @Ty.if68 (aI @Ty.pl68 (aI @Ty.sz68 (aI @Ty.un68 (aI @Ty.unn68 (aI @Ty.zr68 (aI @Ty.ag78 (aI @Ty.by78 (aI @Ty.el78 (aI @Ty.if78 (aI @Ty.ni78 (aI @Ty.sz78 (aI @Ty.un78 (aI @Ty.unn78 (aI @Ty.zr78 (aI @Ty.ag80 (aI @Ty.by80 (aI @Ty.fo80_0 (aI @Ty.fo80_1 (aI @Ty.ft80_0 (aI @Ty.ft80_1 (aI @Ty.if80 (aI @Ty.pl80 (aI @Ty.sz80 (aI @Ty.un80 (aI @Ty.unn80 (aI @Ty.zr80 (aI @Ty.ag90 (aI @Ty.by90 (aI @Ty.ef90 (aI @Ty.fo90_0 (aI @Ty.fo90_1 (aI @Ty.fo90_2 (aI @Ty.fo90_3 (aI @Ty.fo90_4 (aI @Ty.ft90_0 (aI @Ty.ft90_1 (aI @Ty.ft90_2 (aI @Ty.ft90_3 (aI @Ty.ft90_4 (aI @Ty.if90 (aI @Ty.pl90 (aI @Ty.sz90 (aI @Ty.un90 (aI @Ty.unn90 (aI @Ty.zr90 (aI @Ty.ag92 (aI @Ty.by92 (aI @Ty.ef92 (aI @Ty.fo92_0 (aI @Ty.fo92_1 (aI @Ty.fo92_2 (aI @Ty.fo92_3 (aI @Ty.ft92_0 (aI @Ty.ft92_1 (aI @Ty.ft92_2 (aI @Ty.ft92_3 (aI @Ty.if92 (aI @Ty.pl92 (aI @Ty.sz92 (aI @Ty.un92 (aI @Ty.unn92 (@Ty.zr92)))))))))))))))))))))))))))))))))))))))))))))))))))))))))))))))))))))))))))))))))))))))))))))))))))))))))))))))))))))))))))))))))))))))))))))))))))))))))))))))))))
theorem t24 : type_of% tkd24 := tkd24
def tkd25 := (aI @Ty.ag1 (aI @Ty.by1 (aI @Ty.if1 (aI @Ty.sz1 (aI @Ty.un1 (aI @Ty.unn1 (aI @Ty.zr1 (aI @Ty.ag3 (aI @Ty.by3 (aI @Ty.if3 (aI @Ty.in3 (aI @Ty.sz3 (aI @Ty.un3 (aI @Ty.unn3 (aI @Ty.zr3 (aI @Ty.ag24 (aI @Ty.by24 (aI @Ty.fo24_0 (aI @Ty.fo24_1 (aI @Ty.fo24_2 (aI @Ty.ft24_0 (aI @Ty.ft24_1 (aI @Ty.ft24_2 (aI @Ty.if24 (aI @Ty.pl24 (aI @Ty.sz24 (aI @Ty.un24 (aI @Ty.unn24 (aI @Ty.zr24 (aI @Ty.ag25 (aI @Ty.by25 (aI @Ty.el25 (aI @Ty.if25 (aI @Ty.ni25 (aI @Ty.sz25 (aI @Ty.un25 (aI @Ty.unn25 (aI @Ty.zr25 (aI @Ty.ag33 (aI @Ty.by33 (aI @Ty.fo33_0 (aI @Ty.fo33_1 (aI @Ty.fo33_2 (aI @Ty.fo33_3 (aI @Ty.ft33_0 (aI @Ty.ft33_1 (aI @Ty.ft33_2 (aI @Ty.ft33_3 (aI @Ty.if33 (aI @Ty.pl33 (aI @Ty.sz33 (aI @Ty.un33 (aI @Ty.unn33 (aI @Ty.zr33 (aI @Ty.ag34 (aI @Ty.by34 (aI @Ty.if34 (aI @Ty.in34 (aI @Ty.sz34 (aI @Ty.un34 (aI @Ty.unn34 (aI @Ty.zr34 (aI @Ty.ag39 (aI @Ty.by39 (aI @Ty.ef39 (aI @Ty.fo39_0 (aI @Ty.fo39_1 (aI @Ty.ft39_0 (aI @Ty.ft39_1 (aI @Ty.if39 (aI @Ty.pl39 (aI @Ty.sz39 (aI @Ty.un39 (aI @Ty.unn39 (aI @Ty.zr39 (aI @Ty.ag83 (aI @Ty.by83 (aI @Ty.if83 (aI @Ty.po83 (aI @Ty.sz83 (aI @Ty.un83 (aI @Ty.unn83 (aI @Ty.zr83 (aI @Ty.ag85 (aI @Ty.by85 (aI @Ty.fo85_0 (aI @Ty.fo85_1 (aI @Ty.ft85_0 (aI @Ty.ft85_1 (aI @Ty.if85 (aI @Ty.pl85 (aI @Ty.sz85 (aI @Ty.un85 (aI @Ty.unn85 (@Ty.zr85)))))))))))))))))))))))))))))))))))))))))))))))))))))))))))))))))))))))))))))))))))))))))))))))
theorem t25 : type_of% tkd25 := tkd25
def tkd27 := (aI @Ty.ag1 (aI @Ty.by1 (aI @Ty.if1 (aI @Ty.sz1 (aI @Ty.un1 (aI @Ty.unn1 (aI @Ty.zr1 (aI @Ty.ag2 (aI @Ty.by2 (aI @Ty.if2 (aI @Ty.in2 (aI @Ty.sz2 (aI @Ty.un2 (aI @Ty.unn2 (aI @Ty.zr2 (aI @Ty.ag3 (aI @Ty.by3 (aI @Ty.if3 (aI @Ty.in3 (aI @Ty.sz3 (aI @Ty.un3 (aI @Ty.unn3 (aI @Ty.zr3 (aI @Ty.ag4 (aI @Ty.bo4 (aI @Ty.by4 (aI @Ty.if4 (aI @Ty.sz4 (aI @Ty.un4 (aI @Ty.unn4 (aI @Ty.zr4 (aI @Ty.ag29 (aI @Ty.by29 (aI @Ty.el29 (aI @Ty.if29 (aI @Ty.ni29 (aI @Ty.sz29 (aI @Ty.un29 (aI @Ty.unn29 (aI @Ty.zr29 (aI @Ty.ag30 (aI @Ty.by30 (aI @Ty.el30 (aI @Ty.if30 (aI @Ty.ni30 (aI @Ty.sz30 (aI @Ty.un30 (aI @Ty.unn30 (aI @Ty.zr30 (aI @Ty.ag31 (aI @Ty.by31 (aI @Ty.el31 (aI @Ty.if31 (aI @Ty.ni31 (aI @Ty.sz31 (aI @Ty.un31 (aI @Ty.unn31 (aI @Ty.zr31 (aI @Ty.ag33 (aI @Ty.by33 (aI @Ty.fo33_0 (aI @Ty.fo33_1 (aI @Ty.fo33_2 (aI @Ty.fo33_3 (aI @Ty.ft33_0 (aI @Ty.ft33_1 (aI @Ty.ft33_2 (aI @Ty.ft33_3 (aI @Ty.if33 (aI @Ty.pl33 (aI @Ty.sz33 (aI @Ty.un33 (aI @Ty.unn33 (aI @Ty.zr33 (aI @Ty.ag68 (aI @Ty.by68 (aI @Ty.ef68 (aI @Ty.fo68_0 (aI @Ty.fo68_1 (aI @Ty.fo68_2 (aI @Ty.fo68_3 (aI @Ty.ft68_0 (aI @Ty.ft68_1 (aI @Ty.ft68_2 (aI @Ty.ft68_3 (aI @Ty.if68 (aI @Ty.pl68 (aI @Ty.sz68 (aI @Ty.un68 (aI @Ty.unn68 (aI @Ty.zr68 (aI @Ty.ag78 (aI @Ty.by78 (aI @Ty.el78 (aI @Ty.if78 (aI @Ty.ni78 (aI @Ty.sz78 (aI @Ty.un78 (aI @Ty.unn78 (aI @Ty.zr78 (aI @Ty.ag80 (aI @Ty.by80 (aI @Ty.fo80_0 (aI @Ty.fo80_1 (aI @Ty.ft80_0 (aI @Ty.ft80_1 (aI @Ty.if80 (aI @Ty.pl80 (aI @Ty.sz80 (aI @Ty.un80 (aI @Ty.unn80 (aI @Ty.zr80 (aI @Ty.ag90 (aI @Ty.by90 (aI @Ty.ef90 (aI @Ty.fo90_0 (aI @Ty.fo90_1 (aI @Ty.fo90_2 (aI @Ty.fo90_3 (aI @Ty.fo90_4 (aI @Ty.ft90_0 (aI @Ty.ft90_1 (aI @Ty.ft90_2 (aI @Ty.ft90_3 (aI @Ty.ft90_4 (aI @Ty.if90 (aI @Ty.pl90 (aI @Ty.sz90 (aI @Ty.un90 (aI @Ty.unn90 (aI @Ty.zr90 (aI @Ty.ag92 (aI @Ty.by92 (aI @Ty.ef92 (aI @Ty.fo92_0 (aI @Ty.fo92_1 (aI @Ty.fo92_2 (aI @Ty.fo92_3 (aI @Ty.ft92_0 (aI @Ty.ft92_1 (aI @Ty.ft92_2 (aI @Ty.ft92_3 (aI @Ty.if92 (aI @Ty.pl92 (aI @Ty.sz92 (aI @Ty.un92 (aI @Ty.unn92 (@Ty.zr92))))))))))))))))))))))))))))))))))))))))))))))))))))))))))))))))))))))))))))))))))))))))))))))))))))))))))))))))))))))))))))))))))))))))))))))))))))
theorem t27 : type_of% tkd27 := tkd27
def tkd28 := (aI @Ty.ag1 (aI @Ty.by1 (aI @Ty.if1 (aI @Ty.sz1 (aI @Ty.un1 (aI @Ty.unn1 (aI @Ty.zr1 (aI @Ty.ag2 (aI @Ty.by2 (aI @Ty.if2 (aI @Ty.in2 (aI @Ty.sz2 (aI @Ty.un2 (aI @Ty.unn2 (aI @Ty.zr2 (aI @Ty.ag3 (aI @Ty.by3 (aI @Ty.if3 (aI @Ty.in3 (aI @Ty.sz3 (aI @Ty.un3 (aI @Ty.unn3 (aI @Ty.zr3 (aI @Ty.ag4 (aI @Ty.bo4 (aI @Ty.by4 (aI @Ty.if4 (aI @Ty.sz4 (aI @Ty.un4 (aI @Ty.unn4 (aI @Ty.zr4 (aI @Ty.ag22 (aI @Ty.by22 (aI @Ty.el22 (aI @Ty.if22 (aI @Ty.ni22 (aI @Ty.sz22 (aI @Ty.un22 (aI @Ty.unn22 (aI @Ty.zr22 (aI @Ty.ag24 (aI @Ty.by24 (aI @Ty.fo24_0 (aI @Ty.fo24_1 (aI @Ty.fo24_2 (aI @Ty.ft24_0 (aI @Ty.ft24_1 (aI @Ty.ft24_2 (aI @Ty.if24 (aI @Ty.pl24 (aI @Ty.sz24 (aI @Ty.un24 (aI @Ty.unn24 (aI @Ty.zr24 (aI @Ty.ag25 (aI @Ty.by25 (aI @Ty.el25 (aI @Ty.if25 (aI @Ty.ni25 (aI @Ty.sz25 (aI @Ty.un25 (aI @Ty.unn25 (aI @Ty.zr25 (aI @Ty.ag31 (aI @Ty.by31 (aI @Ty.el31 (aI @Ty.if31 (aI @Ty.ni31 (aI @Ty.sz31 (aI @Ty.un31 (aI @Ty.unn31 (aI @Ty.zr31 (aI @Ty.ag33 (aI @Ty.by33 (aI @Ty.fo33_0 (aI @Ty.fo33_1 (aI @Ty.fo33_2 (aI @Ty.fo33_3 (aI @Ty.ft33_0 (aI @Ty.ft33_1 (aI @Ty.ft33_2 (aI @Ty.ft33_3 (aI @Ty.if33 (aI @Ty.pl33 (aI @Ty.sz33 (aI @Ty.un33 (aI @Ty.unn33 (aI @Ty.zr33 (aI @Ty.ag34 (aI @Ty.by34 (aI @Ty.if34 (aI @Ty.in34 (aI @Ty.sz34 (aI @Ty.un34 (aI @Ty.unn34 (aI @Ty.zr34 (aI @Ty.ag39 (aI @Ty.by39 (aI @Ty.ef39 (aI @Ty.fo39_0 (aI @Ty.fo39_1 (aI @Ty.ft39_0 (aI @Ty.ft39_1 (aI @Ty.if39 (aI @Ty.pl39 (aI @Ty.sz39 (aI @Ty.un39 (aI @Ty.unn39 (aI @Ty.zr39 (aI @Ty.ag83 (aI @Ty.by83 (aI @Ty.if83 (aI @Ty.po83 (aI @Ty.sz83 (aI @Ty.un83 (aI @Ty.unn83 (aI @Ty.zr83 (aI @Ty.ag85 (aI @Ty.by85 (aI @Ty.fo85_0 (aI @Ty.fo85_1 (aI @Ty.ft85_0 (aI @Ty.ft85_1 (aI @Ty.if85 (aI @Ty.pl85 (aI @Ty.sz85 (aI @Ty.un85 (aI @Ty.unn85 (aI @Ty.zr85 (aI @Ty.ag92 (aI @Ty.by92 (aI @Ty.ef92 (aI @Ty.fo92_0 (aI @Ty.fo92_1 (aI @Ty.fo92_2 (aI @Ty.fo92_3 (aI @Ty.ft92_0 (aI @Ty.ft92_1 (aI @Ty.ft92_2 (aI @Ty.ft92_3 (aI @Ty.if92 (aI @Ty.pl92 (aI @Ty.sz92 (aI @Ty.un92 (aI @Ty.unn92 (@Ty.zr92))))))))))))))))))))))))))))))))))))))))))))))))))))))))))))))))))))))))))))))))))))))))))))))))))))))))))))))))))))))))))))))))))))))))))))))))))
theorem t28 : type_of% tkd28 := tkd28
def tkd29 := (aI @Ty.ag3 (aI @Ty.by3 (aI @Ty.if3 (aI @Ty.in3 (aI @Ty.sz3 (aI @Ty.un3 (aI @Ty.unn3 (@Ty.zr3))))))))
theorem t29 : type_of% tkd29 := tkd29
def tkd32 := (aI @Ty.ag1 (aI @Ty.by1 (aI @Ty.if1 (aI @Ty.sz1 (aI @Ty.un1 (aI @Ty.unn1 (aI @Ty.zr1 (aI @Ty.ag2 (aI @Ty.by2 (aI @Ty.if2 (aI @Ty.in2 (aI @Ty.sz2 (aI @Ty.un2 (aI @Ty.unn2 (aI @Ty.zr2 (aI @Ty.ag3 (aI @Ty.by3 (aI @Ty.if3 (aI @Ty.in3 (aI @Ty.sz3 (aI @Ty.un3 (aI @Ty.unn3 (aI @Ty.zr3 (aI @Ty.ag4 (aI @Ty.bo4 (aI @Ty.by4 (aI @Ty.if4 (aI @Ty.sz4 (aI @Ty.un4 (aI @Ty.unn4 (aI @Ty.zr4 (aI @Ty.ag22 (aI @Ty.by22 (aI @Ty.el22 (aI @Ty.if22 (aI @Ty.ni22 (aI @Ty.sz22 (aI @Ty.un22 (aI @Ty.unn22 (aI @Ty.zr22 (aI @Ty.ag24 (aI @Ty.by24 (aI @Ty.fo24_0 (aI @Ty.fo24_1 (aI @Ty.fo24_2 (aI @Ty.ft24_0 (aI @Ty.ft24_1 (aI @Ty.ft24_2 (aI @Ty.if24 (aI @Ty.pl24 (aI @Ty.sz24 (aI @Ty.un24 (aI @Ty.unn24 (@Ty.zr24))))))))))))))))))))))))))))))))))))))))))))))))))))))
theorem t32 : type_of% tkd32 := tkd32
def tkd34 := (aI @Ty.ag1 (aI @Ty.by1 (aI @Ty.if1 (aI @Ty.sz1 (aI @Ty.un1 (aI @Ty.unn1 (aI @Ty.zr1 (aI @Ty.ag2 (aI @Ty.by2 (aI @Ty.if2 (aI @Ty.in2 (aI @Ty.sz2 (aI @Ty.un2 (aI @Ty.unn2 (aI @Ty.zr2 (aI @Ty.ag3 (aI @Ty.by3 (aI @Ty.if3 (aI @Ty.in3 (aI @Ty.sz3 (aI @Ty.un3 (aI @Ty.unn3 (aI @Ty.zr3 (aI @Ty.ag4 (aI @Ty.bo4 (aI @Ty.by4 (aI @Ty.if4 (aI @Ty.sz4 (aI @Ty.un4 (aI @Ty.unn4 (aI @Ty.zr4 (aI @Ty.ag22 (aI @Ty.by22 (aI @Ty.el22 (aI @Ty.if22 (aI @Ty.ni22 (aI @Ty.sz22 (aI @Ty.un22 (aI @Ty.unn22 (aI @Ty.zr22 (aI @Ty.ag24 (aI @Ty.by24 (aI @Ty.fo24_0 (aI @Ty.fo24_1 (aI @Ty.fo24_2 (aI @Ty.ft24_0 (aI @Ty.ft24_1 (aI @Ty.ft24_2 (aI @Ty.if24 (aI @Ty.pl24 (aI @Ty.sz24 (aI @Ty.un24 (aI @Ty.unn24 (aI @Ty.zr24 (aI @Ty.ag29 (aI @Ty.by29 (aI @Ty.el29 (aI @Ty.if29 (aI @Ty.ni29 (aI @Ty.sz29 (aI @Ty.un29 (aI @Ty.unn29 (aI @Ty.zr29 (aI @Ty.ag30 (aI @Ty.by30 (aI @Ty.el30 (aI @Ty.if30 (aI @Ty.ni30 (aI @Ty.sz30 (aI @Ty.un30 (aI @Ty.unn30 (aI @Ty.zr30 (aI @Ty.ag31 (aI @Ty.by31 (aI @Ty.el31 (aI @Ty.if31 (aI @Ty.ni31 (aI @Ty.sz31 (aI @Ty.un31 (aI @Ty.unn31 (aI @Ty.zr31 (aI @Ty.ag33 (aI @Ty.by33 (aI @Ty.fo33_0 (aI @Ty.fo33_1 (aI @Ty.fo33_2 (aI @Ty.fo33_3 (aI @Ty.ft33_0 (aI @Ty.ft33_1 (aI @Ty.ft33_2 (aI @Ty.ft33_3 (aI @Ty.if33 (aI @Ty.pl33 (aI @Ty.sz33 (aI @Ty.un33 (aI @Ty.unn33 (aI @Ty.zr33 (aI @Ty.ag34 (aI @Ty.by34 (aI @Ty.if34 (aI @Ty.in34 (aI @Ty.sz34 (aI @Ty.un34 (aI @Ty.unn34 (aI @Ty.zr34 (aI @Ty.ag68 (aI @Ty.by68 (aI @Ty.ef68 (aI @Ty.fo68_0 (aI @Ty.fo68_1 (aI @Ty.fo68_2 (aI @Ty.fo68_3 (aI @Ty.ft68_0 (aI @Ty.ft68_1 (aI @Ty.ft68_2 (aI @Ty.ft68_3 (aI @Ty.if68 (aI @Ty.pl68 (aI @Ty.sz68 (aI @Ty.un68 (aI @Ty.unn68 (aI @Ty.zr68 (aI @Ty.ag78 (aI @Ty.by78 (aI @Ty.el78 (aI @Ty.if78 (aI @Ty.ni78 (aI @Ty.sz78 (aI @Ty.un78 (aI @Ty.unn78 (aI @Ty.zr78 (aI @Ty.ag80 (aI @Ty.by80 (aI @Ty.fo80_0 (aI @Ty.fo80_1 (aI @Ty.ft80_0 (aI @Ty.ft80_1 (aI @Ty.if80 (aI @Ty.pl80 (aI @Ty.sz80 (aI @Ty.un80 (aI @Ty.unn80 (aI @Ty.zr80 (aI @Ty.ag90 (aI @Ty.by90 (aI @Ty.ef90 (aI @Ty.fo90_0 (aI @Ty.fo90_1 (aI @Ty.fo90_2 (aI @Ty.fo90_3 (aI @Ty.fo90_4 (aI @Ty.ft90_0 (aI @Ty.ft90_1 (aI @Ty.ft90_2 (aI @Ty.ft90_3 (aI @Ty.ft90_4 (aI @Ty.if90 (aI @Ty.pl90 (aI @Ty.sz90 (aI @Ty.un90 (aI @Ty.unn90 (aI @Ty.zr90 (aI @Ty.ag92 (aI @Ty.by92 (aI @Ty.ef92 (aI @Ty.fo92_0 (aI @Ty.fo92_1 (aI @Ty.fo92_2 (aI @Ty.fo92_3 (aI @Ty.ft92_0 (aI @Ty.ft92_1 (aI @Ty.ft92_2 (aI @Ty.ft92_3 (aI @Ty.if92 (aI @Ty.pl92 (aI @Ty.sz92 (aI @Ty.un92 (aI @Ty.unn92 (aI @Ty.zr92 (aI @Ty.ag95 (aI @Ty.by95 (aI @Ty.if95 (aI @Ty.sz95 (aI @Ty.un95 (aI @Ty.unn95 (@Ty.zr95))))))))))))))))))))))))))))))))))))))))))))))))))))))))))))))))))))))))))))))))))))))))))))))))))))))))))))))))))))))))))))))))))))))))))))))))))))))))))))))))))))))))))))))))))))))))))
theorem t34 : type_of% tkd34 := tkd34
def tkd35 := (aI @Ty.ag1 (aI @Ty.by1 (aI @Ty.if1 (aI @Ty.sz1 (aI @Ty.un1 (aI @Ty.unn1 (aI @Ty.zr1 (aI @Ty.ag2 (aI @Ty.by2 (aI @Ty.if2 (aI @Ty.in2 (aI @Ty.sz2 (aI @Ty.un2 (aI @Ty.unn2 (aI @Ty.zr2 (aI @Ty.ag3 (aI @Ty.by3 (aI @Ty.if3 (aI @Ty.in3 (aI @Ty.sz3 (aI @Ty.un3 (aI @Ty.unn3 (aI @Ty.zr3 (aI @Ty.ag22 (aI @Ty.by22 (aI @Ty.el22 (aI @Ty.if22 (aI @Ty.ni22 (aI @Ty.sz22 (aI @Ty.un22 (aI @Ty.unn22 (aI @Ty.zr22 (aI @Ty.ag24 (aI @Ty.by24 (aI @Ty.fo24_0 (aI @Ty.fo24_1 (aI @Ty.fo24_2 (aI @Ty.ft24_0 (aI @Ty.ft24_1 (aI @Ty.ft24_2 (aI @Ty.if24 (aI @Ty.pl24 (aI @Ty.sz24 (aI @Ty.un24 (aI @Ty.unn24 (aI @Ty.zr24 (aI @Ty.ag29 (aI @Ty.by29 (aI @Ty.el29 (aI @Ty.if29 (aI @Ty.ni29 (aI @Ty.sz29 (aI @Ty.un29 (aI @Ty.unn29 (aI @Ty.zr29 (aI @Ty.ag30 (aI @Ty.by30 (aI @Ty.el30 (aI @Ty.if30 (aI @Ty.ni30 (aI @Ty.sz30 (aI @Ty.un30 (aI @Ty.unn30 (aI @Ty.zr30 (aI @Ty.ag31 (aI @Ty.by31 (aI @Ty.el31 (aI @Ty.if31 (aI @Ty.ni31 (aI @Ty.sz31 (aI @Ty.un31 (aI @Ty.unn31 (aI @Ty.zr31 (aI @Ty.ag33 (aI @Ty.by33 (aI @Ty.fo33_0 (aI @Ty.fo33_1 (aI @Ty.fo33_2 (aI @Ty.fo33_3 (aI @Ty.ft33_0 (aI @Ty.ft33_1 (aI @Ty.ft33_2 (aI @Ty.ft33_3 (aI @Ty.if33 (aI @Ty.pl33 (aI @Ty.sz33 (aI @Ty.un33 (aI @Ty.unn33 (aI @Ty.zr33 (aI @Ty.ag68 (aI @Ty.by68 (aI @Ty.ef68 (aI @Ty.fo68_0 (aI @Ty.fo68_1 (aI @Ty.fo68_2 (aI @Ty.fo68_3 (aI @Ty.ft68_0 (aI @Ty.ft68_1 (aI @Ty.ft68_2 (aI @Ty.ft68_3 (aI @Ty.if68 (aI @Ty.pl68 (aI @Ty.sz68 (aI @Ty.un68 (aI @Ty.unn68 (aI @Ty.zr68 (aI @Ty.ag78 (aI @Ty.by78 (aI @Ty.el78 (aI @Ty.if78 (aI @Ty.ni78 (aI @Ty.sz78 (aI @Ty.un78 (aI @Ty.unn78 (aI @Ty.zr78 (aI @Ty.ag80 (aI @Ty.by80 (aI @Ty.fo80_0 (aI @Ty.fo80_1 (aI @Ty.ft80_0 (aI @Ty.ft80_1 (aI @Ty.if80 (aI @Ty.pl80 (aI @Ty.sz80 (aI @Ty.un80 (aI @Ty.unn80 (aI @Ty.zr80 (aI @Ty.ag90 (aI @Ty.by90 (aI @Ty.ef90 (aI @Ty.fo90_0 (aI @Ty.fo90_1 (aI @Ty.fo90_2 (aI @Ty.fo90_3 (aI @Ty.fo90_4 (aI @Ty.ft90_0 (aI @Ty.ft90_1 (aI @Ty.ft90_2 (aI @Ty.ft90_3 (aI @Ty.ft90_4 (aI @Ty.if90 (aI @Ty.pl90 (aI @Ty.sz90 (aI @Ty.un90 (aI @Ty.unn90 (aI @Ty.zr90 (aI @Ty.ag92 (aI @Ty.by92 (aI @Ty.ef92 (aI @Ty.fo92_0 (aI @Ty.fo92_1 (aI @Ty.fo92_2 (aI @Ty.fo92_3 (aI @Ty.ft92_0 (aI @Ty.ft92_1 (aI @Ty.ft92_2 (aI @Ty.ft92_3 (aI @Ty.if92 (aI @Ty.pl92 (aI @Ty.sz92 (aI @Ty.un92 (aI @Ty.unn92 (@Ty.zr92)))))))))))))))))))))))))))))))))))))))))))))))))))))))))))))))))))))))))))))))))))))))))))))))))))))))))))))))))))))))))))))))))))))))))))))))))))))))))))))))))))
theorem t35 : type_of% tkd35 := tkd35
def tkd36 := (aI @Ty.ag1 (aI @Ty.by1 (aI @Ty.if1 (aI @Ty.sz1 (aI @Ty.un1 (aI @Ty.unn1 (aI @Ty.zr1 (aI @Ty.ag3 (aI @Ty.by3 (aI @Ty.if3 (aI @Ty.in3 (aI @Ty.sz3 (aI @Ty.un3 (aI @Ty.unn3 (aI @Ty.zr3 (aI @Ty.ag24 (aI @Ty.by24 (aI @Ty.fo24_0 (aI @Ty.fo24_1 (aI @Ty.fo24_2 (aI @Ty.ft24_0 (aI @Ty.ft24_1 (aI @Ty.ft24_2 (aI @Ty.if24 (aI @Ty.pl24 (aI @Ty.sz24 (aI @Ty.un24 (aI @Ty.unn24 (aI @Ty.zr24 (aI @Ty.ag25 (aI @Ty.by25 (aI @Ty.el25 (aI @Ty.if25 (aI @Ty.ni25 (aI @Ty.sz25 (aI @Ty.un25 (aI @Ty.unn25 (aI @Ty.zr25 (aI @Ty.ag33 (aI @Ty.by33 (aI @Ty.fo33_0 (aI @Ty.fo33_1 (aI @Ty.fo33_2 (aI @Ty.fo33_3 (aI @Ty.ft33_0 (aI @Ty.ft33_1 (aI @Ty.ft33_2 (aI @Ty.ft33_3 (aI @Ty.if33 (aI @Ty.pl33 (aI @Ty.sz33 (aI @Ty.un33 (aI @Ty.unn33 (aI @Ty.zr33 (aI @Ty.ag39 (aI @Ty.by39 (aI @Ty.ef39 (aI @Ty.fo39_0 (aI @Ty.fo39_1 (aI @Ty.ft39_0 (aI @Ty.ft39_1 (aI @Ty.if39 (aI @Ty.pl39 (aI @Ty.sz39 (aI @Ty.un39 (aI @Ty.unn39 (@Ty.zr39)))))))))))))))))))))))))))))))))))))))))))))))))))))))))))))))))))
theorem t36 : type_of% tkd36 := tkd36
def tkd37 := (aI @Ty.ag3 (aI @Ty.by3 (aI @Ty.if3 (aI @Ty.in3 (aI @Ty.sz3 (aI @Ty.un3 (aI @Ty.unn3 (aI @Ty.zr3 (aI @Ty.ag4 (aI @Ty.bo4 (aI @Ty.by4 (aI @Ty.if4 (aI @Ty.sz4 (aI @Ty.un4 (aI @Ty.unn4 (aI @Ty.zr4 (aI @Ty.ag24 (aI @Ty.by24 (aI @Ty.fo24_0 (aI @Ty.fo24_1 (aI @Ty.fo24_2 (aI @Ty.ft24_0 (aI @Ty.ft24_1 (aI @Ty.ft24_2 (aI @Ty.if24 (aI @Ty.pl24 (aI @Ty.sz24 (aI @Ty.un24 (aI @Ty.unn24 (aI @Ty.zr24 (aI @Ty.ag33 (aI @Ty.by33 (aI @Ty.fo33_0 (aI @Ty.fo33_1 (aI @Ty.fo33_2 (aI @Ty.fo33_3 (aI @Ty.ft33_0 (aI @Ty.ft33_1 (aI @Ty.ft33_2 (aI @Ty.ft33_3 (aI @Ty.if33 (aI @Ty.pl33 (aI @Ty.sz33 (aI @Ty.un33 (aI @Ty.unn33 (aI @Ty.zr33 (aI @Ty.ag39 (aI @Ty.by39 (aI @Ty.ef39 (aI @Ty.fo39_0 (aI @Ty.fo39_1 (aI @Ty.ft39_0 (aI @Ty.ft39_1 (aI @Ty.if39 (aI @Ty.pl39 (aI @Ty.sz39 (aI @Ty.un39 (aI @Ty.unn39 (@Ty.zr39)))))))))))))))))))))))))))))))))))))))))))))))))))))))))))
theorem t37 : type_of% tkd37 := tkd37
def tkd38 := (aI @Ty.ag1 (aI @Ty.by1 (aI @Ty.if1 (aI @Ty.sz1 (aI @Ty.un1 (aI @Ty.unn1 (aI @Ty.zr1 (aI @Ty.ag2 (aI @Ty.by2 (aI @Ty.if2 (aI @Ty.in2 (aI @Ty.sz2 (aI @Ty.un2 (aI @Ty.unn2 (aI @Ty.zr2 (aI @Ty.ag3 (aI @Ty.by3 (aI @Ty.if3 (aI @Ty.in3 (aI @Ty.sz3 (aI @Ty.un3 (aI @Ty.unn3 (aI @Ty.zr3 (aI @Ty.ag4 (aI @Ty.bo4 (aI @Ty.by4 (aI @Ty.if4 (aI @Ty.sz4 (aI @Ty.un4 (aI @Ty.unn4 (aI @Ty.zr4 (aI @Ty.ag22 (aI @Ty.by22 (aI @Ty.el22 (aI @Ty.if22 (aI @Ty.ni22 (aI @Ty.sz22 (aI @Ty.un22 (aI @Ty.unn22 (aI @Ty.zr22 (aI @Ty.ag24 (aI @Ty.by24 (aI @Ty.fo24_0 (aI @Ty.fo24_1 (aI @Ty.fo24_2 (aI @Ty.ft24_0 (aI @Ty.ft24_1 (aI @Ty.ft24_2 (aI @Ty.if24 (aI @Ty.pl24 (aI @Ty.sz24 (aI @Ty.un24 (aI @Ty.unn24 (aI @Ty.zr24 (aI @Ty.ag29 (aI @Ty.by29 (aI @Ty.el29 (aI @Ty.if29 (aI @Ty.ni29 (aI @Ty.sz29 (aI @Ty.un29 (aI @Ty.unn29 (aI @Ty.zr29 (aI @Ty.ag30 (aI @Ty.by30 (aI @Ty.el30 (aI @Ty.if30 (aI @Ty.ni30 (aI @Ty.sz30 (aI @Ty.un30 (aI @Ty.unn30 (aI @Ty.zr30 (aI @Ty.ag31 (aI @Ty.by31 (aI @Ty.el31 (aI @Ty.if31 (aI @Ty.ni31 (aI @Ty.sz31 (aI @Ty.un31 (aI @Ty.unn31 (aI @Ty.zr31 (aI @Ty.ag33 (aI @Ty.by33 (aI @Ty.fo33_0 (aI @Ty.fo33_1 (aI @Ty.fo33_2 (aI @Ty.fo33_3 (aI @Ty.ft33_0 (aI @Ty.ft33_1 (aI @Ty.ft33_2 (aI @Ty.ft33_3 (aI @Ty.if33 (aI @Ty.pl33 (aI @Ty.sz33 (aI @Ty.un33 (aI @Ty.unn33 (aI @Ty.zr33 (aI @Ty.ag39 (aI @Ty.by39 (aI @Ty.ef39 (aI @Ty.fo39_0 (aI @Ty.fo39_1 (aI @Ty.ft39_0 (aI @Ty.ft39_1 (aI @Ty.if39 (aI @Ty.pl39 (aI @Ty.sz39 (aI @Ty.un39 (aI @Ty.unn39 (aI @Ty.zr39 (aI @Ty.ag68 (aI @Ty.by68 (aI @Ty.ef68 (aI @Ty.fo68_0 (aI @Ty.fo68_1 (aI @Ty.fo68_2 (aI @Ty.fo68_3 (aI @Ty.ft68_0 (aI @Ty.ft68_1 (aI @Ty.ft68_2 (aI @Ty.ft68_3 (aI @Ty.if68 (aI @Ty.pl68 (aI @Ty.sz68 (aI @Ty.un68 (aI @Ty.unn68 (aI @Ty.zr68 (aI @Ty.ag78 (aI @Ty.by78 (aI @Ty.el78 (aI @Ty.if78 (aI @Ty.ni78 (aI @Ty.sz78 (aI @Ty.un78 (aI @Ty.unn78 (aI @Ty.zr78 (aI @Ty.ag80 (aI @Ty.by80 (aI @Ty.fo80_0 (aI @Ty.fo80_1 (aI @Ty.ft80_0 (aI @Ty.ft80_1 (aI @Ty.if80 (aI @Ty.pl80 (aI @Ty.sz80 (aI @Ty.un80 (aI @Ty.unn80 (aI @Ty.zr80 (aI @Ty.ag90 (aI @Ty.by90 (aI @Ty.ef90 (aI @Ty.fo90_0 (aI @Ty.fo90_1 (aI @Ty.fo90_2 (aI @Ty.fo90_3 (aI @Ty.fo90_4 (aI @Ty.ft90_0 (aI @Ty.ft90_1 (aI @Ty.ft90_2 (aI @Ty.ft90_3 (aI @Ty.ft90_4 (aI @Ty.if90 (aI @Ty.pl90 (aI @Ty.sz90 (aI @Ty.un90 (aI @Ty.unn90 (aI @Ty.zr90 (aI @Ty.ag92 (aI @Ty.by92 (aI @Ty.ef92 (aI @Ty.fo92_0 (aI @Ty.fo92_1 (aI @Ty.fo92_2 (aI @Ty.fo92_3 (aI @Ty.ft92_0 (aI @Ty.ft92_1 (aI @Ty.ft92_2 (aI @Ty.ft92_3 (aI @Ty.if92 (aI @Ty.pl92 (aI @Ty.sz92 (aI @Ty.un92 (aI @Ty.unn92 (@Ty.zr92))))))))))))))))))))))))))))))))))))))))))))))))))))))))))))))))))))))))))))))))))))))))))))))))))))))))))))))))))))))))))))))))))))))))))))))))))))))))))))))))))))))))))))))))))))))))
theorem t38 : type_of% tkd38 := tkd38
def tkd39 := (aI @Ty.ag1 (aI @Ty.by1 (aI @Ty.if1 (aI @Ty.sz1 (aI @Ty.un1 (aI @Ty.unn1 (aI @Ty.zr1 (aI @Ty.ag3 (aI @Ty.by3 (aI @Ty.if3 (aI @Ty.in3 (aI @Ty.sz3 (aI @Ty.un3 (aI @Ty.unn3 (aI @Ty.zr3 (aI @Ty.ag22 (aI @Ty.by22 (aI @Ty.el22 (aI @Ty.if22 (aI @Ty.ni22 (aI @Ty.sz22 (aI @Ty.un22 (aI @Ty.unn22 (aI @Ty.zr22 (aI @Ty.ag24 (aI @Ty.by24 (aI @Ty.fo24_0 (aI @Ty.fo24_1 (aI @Ty.fo24_2 (aI @Ty.ft24_0 (aI @Ty.ft24_1 (aI @Ty.ft24_2 (aI @Ty.if24 (aI @Ty.pl24 (aI @Ty.sz24 (aI @Ty.un24 (aI @Ty.unn24 (@Ty.zr24))))))))))))))))))))))))))))))))))))))
theorem t39 : type_of% tkd39 := tkd39
def tkd40 := (aI @Ty.ag3 (aI @Ty.by3 (aI @Ty.if3 (aI @Ty.in3 (aI @Ty.sz3 (aI @Ty.un3 (aI @Ty.unn3 (@Ty.zr3))))))))
theorem t40 : type_of% tkd40 := tkd40
def tkd41 := (aI @Ty.ag24 (aI @Ty.by24 (aI @Ty.fo24_0 (aI @Ty.fo24_1 (aI @Ty.fo24_2 (aI @Ty.ft24_0 (aI @Ty.ft24_1 (aI @Ty.ft24_2 (aI @Ty.if24 (aI @Ty.pl24 (aI @Ty.sz24 (aI @Ty.un24 (aI @Ty.unn24 (@Ty.zr24))))))))))))))
theorem t41 : type_of% tkd41 := tkd41
def tkd42 := (aI @Ty.ag1 (aI @Ty.by1 (aI @Ty.if1 (aI @Ty.sz1 (aI @Ty.un1 (aI @Ty.unn1 (aI @Ty.zr1 (aI @Ty.ag3 (aI @Ty.by3 (aI @Ty.if3 (aI @Ty.in3 (aI @Ty.sz3 (aI @Ty.un3 (aI @Ty.unn3 (aI @Ty.zr3 (aI @Ty.ag22 (aI @Ty.by22 (aI @Ty.el22 (aI @Ty.if22 (aI @Ty.ni22 (aI @Ty.sz22 (aI @Ty.un22 (aI @Ty.unn22 (aI @Ty.zr22 (aI @Ty.ag24 (aI @Ty.by24 (aI @Ty.fo24_0 (aI @Ty.fo24_1 (aI @Ty.fo24_2 (aI @Ty.ft24_0 (aI @Ty.ft24_1 (aI @Ty.ft24_2 (aI @Ty.if24 (aI @Ty.pl24 (aI @Ty.sz24 (aI @Ty.un24 (aI @Ty.unn24 (aI @Ty.zr24 (aI @Ty.ag29 (aI @Ty.by29 (aI @Ty.el29 (aI @Ty.if29 (aI @Ty.ni29 (aI @Ty.sz29 (aI @Ty.un29 (aI @Ty.unn29 (aI @Ty.zr29 (aI @Ty.ag30 (aI @Ty.by30 (aI @Ty.el30 (aI @Ty.if30 (aI @Ty.ni30 (aI @Ty.sz30 (aI @Ty.un30 (aI @Ty.unn30 (aI @Ty.zr30 (aI @Ty.ag33 (aI @Ty.by33 (aI @Ty.fo33_0 (aI @Ty.fo33_1 (aI @Ty.fo33_2 (aI @Ty.fo33_3 (aI @Ty.ft33_0 (aI @Ty.ft33_1 (aI @Ty.ft33_2 (aI @Ty.ft33_3 (aI @Ty.if33 (aI @Ty.pl33 (aI @Ty.sz33 (aI @Ty.un33 (aI @Ty.unn33 (aI @Ty.zr33 (aI @Ty.ag68 (aI @Ty.by68 (aI @Ty.ef68 (aI @Ty.fo68_0 (aI @Ty.fo68_1 (aI @Ty.fo68_2 (aI @Ty.fo68_3 (aI @Ty.ft68_0 (aI @Ty.ft68_1 (aI @Ty.ft68_2 (aI @Ty.ft68_3 (aI @Ty.if68 (aI @Ty.pl68 (aI @Ty.sz68 (aI @Ty.un68 (aI @Ty.unn68 (aI @Ty.zr68 (aI @Ty.ag80 (aI @Ty.by80 (aI @Ty.fo80_0 (aI @Ty.fo80_1 (aI @Ty.ft80_0 (aI @Ty.ft80_1 (aI @Ty.if80 (aI @Ty.pl80 (aI @Ty.sz80 (aI @Ty.un80 (aI @Ty.unn80 (@Ty.zr80)))))))))))))))))))))))))))))))))))))))))))))))))))))))))))))))))))))))))))))))))))))))))))))))))))))
theorem t42 : type_of% tkd42 := tkd42
def tkd43 := (aI @Ty.ag3 (aI @Ty.by3 (aI @Ty.if3 (aI @Ty.in3 (aI @Ty.sz3 (aI @Ty.un3 (aI @Ty.unn3 (aI @Ty.zr3 (aI @Ty.ag22 (aI @Ty.by22 (aI @Ty.el22 (aI @Ty.if22 (aI @Ty.ni22 (aI @Ty.sz22 (aI @Ty.un22 (aI @Ty.unn22 (@Ty.zr22)))))))))))))))))
theorem t43 : type_of% tkd43 := tkd43
def tkd44 := (aI @Ty.ag24 (aI @Ty.by24 (aI @Ty.fo24_0 (aI @Ty.fo24_1 (aI @Ty.fo24_2 (aI @Ty.ft24_0 (aI @Ty.ft24_1 (aI @Ty.ft24_2 (aI @Ty.if24 (aI @Ty.pl24 (aI @Ty.sz24 (aI @Ty.un24 (aI @Ty.unn24 (aI @Ty.zr24 (aI @Ty.ag33 (aI @Ty.by33 (aI @Ty.fo33_0 (aI @Ty.fo33_1 (aI @Ty.fo33_2 (aI @Ty.fo33_3 (aI @Ty.ft33_0 (aI @Ty.ft33_1 (aI @Ty.ft33_2 (aI @Ty.ft33_3 (aI @Ty.if33 (aI @Ty.pl33 (aI @Ty.sz33 (aI @Ty.un33 (aI @Ty.unn33 (@Ty.zr33))))))))))))))))))))))))))))))
theorem t44 : type_of% tkd44 := tkd44
def tkd45 := (aI @Ty.ag3 (aI @Ty.by3 (aI @Ty.if3 (aI @Ty.in3 (aI @Ty.sz3 (aI @Ty.un3 (aI @Ty.unn3 (aI @Ty.zr3 (aI @Ty.ag4 (aI @Ty.bo4 (aI @Ty.by4 (aI @Ty.if4 (aI @Ty.sz4 (aI @Ty.un4 (aI @Ty.unn4 (aI @Ty.zr4 (aI @Ty.ag24 (aI @Ty.by24 (aI @Ty.fo24_0 (aI @Ty.fo24_1 (aI @Ty.fo24_2 (aI @Ty.ft24_0 (aI @Ty.ft24_1 (aI @Ty.ft24_2 (aI @Ty.if24 (aI @Ty.pl24 (aI @Ty.sz24 (aI @Ty.un24 (aI @Ty.unn24 (aI @Ty.zr24 (aI @Ty.ag33 (aI @Ty.by33 (aI @Ty.fo33_0 (aI @Ty.fo33_1 (aI @Ty.fo33_2 (aI @Ty.fo33_3 (aI @Ty.ft33_0 (aI @Ty.ft33_1 (aI @Ty.ft33_2 (aI @Ty.ft33_3 (aI @Ty.if33 (aI @Ty.pl33 (aI @Ty.sz33 (aI @Ty.un33 (aI @Ty.unn33 (aI @Ty.zr33 (aI @Ty.ag39 (aI @Ty.by39 (aI @Ty.ef39 (aI @Ty.fo39_0 (aI @Ty.fo39_1 (aI @Ty.ft39_0 (aI @Ty.ft39_1 (aI @Ty.if39 (aI @Ty.pl39 (aI @Ty.sz39 (aI @Ty.un39 (aI @Ty.unn39 (@Ty.zr39)))))))))))))))))))))))))))))))))))))))))))))))))))))))))))
theorem t45 : type_of% tkd45 := tkd45
def tkd46 := (aI @Ty.ag1 (aI @Ty.by1 (aI @Ty.if1 (aI @Ty.sz1 (aI @Ty.un1 (aI @Ty.unn1 (aI @Ty.zr1 (aI @Ty.ag2 (aI @Ty.by2 (aI @Ty.if2 (aI @Ty.in2 (aI @Ty.sz2 (aI @Ty.un2 (aI @Ty.unn2 (aI @Ty.zr2 (aI @Ty.ag3 (aI @Ty.by3 (aI @Ty.if3 (aI @Ty.in3 (aI @Ty.sz3 (aI @Ty.un3 (aI @Ty.unn3 (aI @Ty.zr3 (aI @Ty.ag29 (aI @Ty.by29 (aI @Ty.el29 (aI @Ty.if29 (aI @Ty.ni29 (aI @Ty.sz29 (aI @Ty.un29 (aI @Ty.unn29 (aI @Ty.zr29 (aI @Ty.ag30 (aI @Ty.by30 (aI @Ty.el30 (aI @Ty.if30 (aI @Ty.ni30 (aI @Ty.sz30 (aI @Ty.un30 (aI @Ty.unn30 (aI @Ty.zr30 (aI @Ty.ag31 (aI @Ty.by31 (aI @Ty.el31 (aI @Ty.if31 (aI @Ty.ni31 (aI @Ty.sz31 (aI @Ty.un31 (aI @Ty.unn31 (aI @Ty.zr31 (aI @Ty.ag33 (aI @Ty.by33 (aI @Ty.fo33_0 (aI @Ty.fo33_1 (aI @Ty.fo33_2 (aI @Ty.fo33_3 (aI @Ty.ft33_0 (aI @Ty.ft33_1 (aI @Ty.ft33_2 (aI @Ty.ft33_3 (aI @Ty.if33 (aI @Ty.pl33 (aI @Ty.sz33 (aI @Ty.un33 (aI @Ty.unn33 (aI @Ty.zr33 (aI @Ty.ag68 (aI @Ty.by68 (aI @Ty.ef68 (aI @Ty.fo68_0 (aI @Ty.fo68_1 (aI @Ty.fo68_2 (aI @Ty.fo68_3 (aI @Ty.ft68_0 (aI @Ty.ft68_1 (aI @Ty.ft68_2 (aI @Ty.ft68_3 (aI @Ty.if68 (aI @Ty.pl68 (aI @Ty.sz68 (aI @Ty.un68 (aI @Ty.unn68 (aI @Ty.zr68 (aI @Ty.ag78 (aI @Ty.by78 (aI @Ty.el78 (aI @Ty.if78 (aI @Ty.ni78 (aI @Ty.sz78 (aI @Ty.un78 (aI @Ty.unn78 (aI @Ty.zr78 (aI @Ty.ag80 (aI @Ty.by80 (aI @Ty.fo80_0 (aI @Ty.fo80_1 (aI @Ty.ft80_0 (aI @Ty.ft80_1 (aI @Ty.if80 (aI @Ty.pl80 (aI @Ty.sz80 (aI @Ty.un80 (aI @Ty.unn80 (aI @Ty.zr80 (aI @Ty.ag90 (aI @Ty.by90 (aI @Ty.ef90 (aI @Ty.fo90_0 (aI @Ty.fo90_1 (aI @Ty.fo90_2 (aI @Ty.fo90_3 (aI @Ty.fo90_4 (aI @Ty.ft90_0 (aI @Ty.ft90_1 (aI @Ty.ft90_2 (aI @Ty.ft90_3 (aI @Ty.ft90_4 (aI @Ty.if90 (aI @Ty.pl90 (aI @Ty.sz90 (aI @Ty.un90 (aI @Ty.unn90 (aI @Ty.zr90 (aI @Ty.ag92 (aI @Ty.by92 (aI @Ty.ef92 (aI @Ty.fo92_0 (aI @Ty.fo92_1 (aI @Ty.fo92_2 (aI @Ty.fo92_3 (aI @Ty.ft92_0 (aI @Ty.ft92_1 (aI @Ty.ft92_2 (aI @Ty.ft92_3 (aI @Ty.if92 (aI @Ty.pl92 (aI @Ty.sz92 (aI @Ty.un92 (aI @Ty.unn92 (@Ty.zr92))))))))))))))))))))))))))))))))))))))))))))))))))))))))))))))))))))))))))))))))))))))))))))))))))))))))))))))))))))))))))))))))))))))))))))
theorem t46 : type_of% tkd46 := tkd46
def tkd47 := (aI @Ty.ag1 (aI @Ty.by1 (aI @Ty.if1 (aI @Ty.sz1 (aI @Ty.un1 (aI @Ty.unn1 (aI @Ty.zr1 (aI @Ty.ag2 (aI @Ty.by2 (aI @Ty.if2 (aI @Ty.in2 (aI @Ty.sz2 (aI @Ty.un2 (aI @Ty.unn2 (aI @Ty.zr2 (aI @Ty.ag3 (aI @Ty.by3 (aI @Ty.if3 (aI @Ty.in3 (aI @Ty.sz3 (aI @Ty.un3 (aI @Ty.unn3 (aI @Ty.zr3 (aI @Ty.ag4 (aI @Ty.bo4 (aI @Ty.by4 (aI @Ty.if4 (aI @Ty.sz4 (aI @Ty.un4 (aI @Ty.unn4 (aI @Ty.zr4 (aI @Ty.ag22 (aI @Ty.by22 (aI @Ty.el22 (aI @Ty.if22 (aI @Ty.ni22 (aI @Ty.sz22 (aI @Ty.un22 (aI @Ty.unn22 (aI @Ty.zr22 (aI @Ty.ag24 (aI @Ty.by24 (aI @Ty.fo24_0 (aI @Ty.fo24_1 (aI @Ty.fo24_2 (aI @Ty.ft24_0 (aI @Ty.ft24_1 (aI @Ty.ft24_2 (aI @Ty.if24 (aI @Ty.pl24 (aI @Ty.sz24 (aI @Ty.un24 (aI @Ty.unn24 (aI @Ty.zr24 (aI @Ty.ag29 (aI @Ty.by29 (aI @Ty.el29 (aI @Ty.if29 (aI @Ty.ni29 (aI @Ty.sz29 (aI @Ty.un29 (aI @Ty.unn29 (aI @Ty.zr29 (aI @Ty.ag30 (aI @Ty.by30 (aI @Ty.el30 (aI @Ty.if30 (aI @Ty.ni30 (aI @Ty.sz30 (aI @Ty.un30 (aI @Ty.unn30 (aI @Ty.zr30 (aI @Ty.ag31 (aI @Ty.by31 (aI @Ty.el31 (aI @Ty.if31 (aI @Ty.ni31 (aI @Ty.sz31 (aI @Ty.un31 (aI @Ty.unn31 (aI @Ty.zr31 (aI @Ty.ag33 (aI @Ty.by33 (aI @Ty.fo33_0 (aI @Ty.fo33_1 (aI @Ty.fo33_2 (aI @Ty.fo33_3 (aI @Ty.ft33_0 (aI @Ty.ft33_1 (aI @Ty.ft33_2 (aI @Ty.ft33_3 (aI @Ty.if33 (aI @Ty.pl33 (aI @Ty.sz33 (aI @Ty.un33 (aI @Ty.unn33 (aI @Ty.zr33 (aI @Ty.ag39 (aI @Ty.by39 (aI @Ty.ef39 (aI @Ty.fo39_0 (aI @Ty.fo39_1 (aI @Ty.ft39_0 (aI @Ty.ft39_1 (aI @Ty.if39 (aI @Ty.pl39 (aI @Ty.sz39 (aI @Ty.un39 (aI @Ty.unn39 (aI @Ty.zr39 (aI @Ty.ag68 (aI @Ty.by68 (aI @Ty.ef68 (aI @Ty.fo68_0 (aI @Ty.fo68_1 (aI @Ty.fo68_2 (aI @Ty.fo68_3 (aI @Ty.ft68_0 (aI @Ty.ft68_1 (aI @Ty.ft68_2 (aI @Ty.ft68_3 (aI @Ty.if68 (aI @Ty.pl68 (aI @Ty.sz68 (aI @Ty.un68 (aI @Ty.unn68 (aI @Ty.zr68 (aI @Ty.ag78 (aI @Ty.by78 (aI @Ty.el78 (aI @Ty.if78 (aI @Ty.ni78 (aI @Ty.sz78 (aI @Ty.un78 (aI @Ty.unn78 (aI @Ty.zr78 (aI @Ty.ag80 (aI @Ty.by80 (aI @Ty.fo80_0 (aI @Ty.fo80_1 (aI @Ty.ft80_0 (aI @Ty.ft80_1 (aI @Ty.if80 (aI @Ty.pl80 (aI @Ty.sz80 (aI @Ty.un80 (aI @Ty.unn80 (aI @Ty.zr80 (aI @Ty.ag83 (aI @Ty.by83 (aI @Ty.if83 (aI @Ty.po83 (aI @Ty.sz83 (aI @Ty.un83 (aI @Ty.unn83 (aI @Ty.zr83 (aI @Ty.ag85 (aI @Ty.by85 (aI @Ty.fo85_0 (aI @Ty.fo85_1 (aI @Ty.ft85_0 (aI @Ty.ft85_1 (aI @Ty.if85 (aI @Ty.pl85 (aI @Ty.sz85 (aI @Ty.un85 (aI @Ty.unn85 (aI @Ty.zr85 (aI @Ty.ag90 (aI @Ty.by90 (aI @Ty.ef90 (aI @Ty.fo90_0 (aI @Ty.fo90_1 (aI @Ty.fo90_2 (aI @Ty.fo90_3 (aI @Ty.fo90_4 (aI @Ty.ft90_0 (aI @Ty.ft90_1 (aI @Ty.ft90_2 (aI @Ty.ft90_3 (aI @Ty.ft90_4 (aI @Ty.if90 (aI @Ty.pl90 (aI @Ty.sz90 (aI @Ty.un90 (aI @Ty.unn90 (aI @Ty.zr90 (aI @Ty.ag92 (aI @Ty.by92 (aI @Ty.ef92 (aI @Ty.fo92_0 (aI @Ty.fo92_1 (aI @Ty.fo92_2 (aI @Ty.fo92_3 (aI @Ty.ft92_0 (aI @Ty.ft92_1 (aI @Ty.ft92_2 (aI @Ty.ft92_3 (aI @Ty.if92 (aI @Ty.pl92 (aI @Ty.sz92 (aI @Ty.un92 (aI @Ty.unn92 (@Ty.zr92))))))))))))))))))))))))))))))))))))))))))))))))))))))))))))))))))))))))))))))))))))))))))))))))))))))))))))))))))))))))))))))))))))))))))))))))))))))))))))))))))))))))))))))))))))))))))))))))))))))))))))
theorem t47 : type_of% tkd47 := tkd47
def tkd48 := (aI @Ty.ag3 (aI @Ty.by3 (aI @Ty.if3 (aI @Ty.in3 (aI @Ty.sz3 (aI @Ty.un3 (aI @Ty.unn3 (aI @Ty.zr3 (aI @Ty.ag29 (aI @Ty.by29 (aI @Ty.el29 (aI @Ty.if29 (aI @Ty.ni29 (aI @Ty.sz29 (aI @Ty.un29 (aI @Ty.unn29 (aI @Ty.zr29 (aI @Ty.ag68 (aI @Ty.by68 (aI @Ty.ef68 (aI @Ty.fo68_0 (aI @Ty.fo68_1 (aI @Ty.fo68_2 (aI @Ty.fo68_3 (aI @Ty.ft68_0 (aI @Ty.ft68_1 (aI @Ty.ft68_2 (aI @Ty.ft68_3 (aI @Ty.if68 (aI @Ty.pl68 (aI @Ty.sz68 (aI @Ty.un68 (aI @Ty.unn68 (aI @Ty.zr68 (aI @Ty.ag88 (aI @Ty.by88 (aI @Ty.if88 (aI @Ty.sz88 (aI @Ty.un88 (aI @Ty.unn88 (@Ty.zr88)))))))))))))))))))))))))))))))))))))))))
theorem t48 : type_of% tkd48 := tkd48
def tkd49 := (aI @Ty.ag2 (aI @Ty.by2 (aI @Ty.if2 (aI @Ty.in2 (aI @Ty.sz2 (aI @Ty.un2 (aI @Ty.unn2 (aI @Ty.zr2 (aI @Ty.ag4 (aI @Ty.bo4 (aI @Ty.by4 (aI @Ty.if4 (aI @Ty.sz4 (aI @Ty.un4 (aI @Ty.unn4 (aI @Ty.zr4 (aI @Ty.ag68 (aI @Ty.by68 (aI @Ty.ef68 (aI @Ty.fo68_0 (aI @Ty.fo68_1 (aI @Ty.fo68_2 (aI @Ty.fo68_3 (aI @Ty.ft68_0 (aI @Ty.ft68_1 (aI @Ty.ft68_2 (aI @Ty.ft68_3 (aI @Ty.if68 (aI @Ty.pl68 (aI @Ty.sz68 (aI @Ty.un68 (aI @Ty.unn68 (@Ty.zr68)))))))))))))))))))))))))))))))))
theorem t49 : type_of% tkd49 := tkd49
def tkd50 := (aI @Ty.ag1 (aI @Ty.by1 (aI @Ty.if1 (aI @Ty.sz1 (aI @Ty.un1 (aI @Ty.unn1 (aI @Ty.zr1 (aI @Ty.ag2 (aI @Ty.by2 (aI @Ty.if2 (aI @Ty.in2 (aI @Ty.sz2 (aI @Ty.un2 (aI @Ty.unn2 (aI @Ty.zr2 (aI @Ty.ag3 (aI @Ty.by3 (aI @Ty.if3 (aI @Ty.in3 (aI @Ty.sz3 (aI @Ty.un3 (aI @Ty.unn3 (aI @Ty.zr3 (aI @Ty.ag4 (aI @Ty.bo4 (aI @Ty.by4 (aI @Ty.if4 (aI @Ty.sz4 (aI @Ty.un4 (aI @Ty.unn4 (aI @Ty.zr4 (aI @Ty.ag22 (aI @Ty.by22 (aI @Ty.el22 (aI @Ty.if22 (aI @Ty.ni22 (aI @Ty.sz22 (aI @Ty.un22 (aI @Ty.unn22 (aI @Ty.zr22 (aI @Ty.ag24 (aI @Ty.by24 (aI @Ty.fo24_0 (aI @Ty.fo24_1 (aI @Ty.fo24_2 (aI @Ty.ft24_0 (aI @Ty.ft24_1 (aI @Ty.ft24_2 (aI @Ty.if24 (aI @Ty.pl24 (aI @Ty.sz24 (aI @Ty.un24 (aI @Ty.unn24 (aI @Ty.zr24 (aI @Ty.ag29 (aI @Ty.by29 (aI @Ty.el29 (aI @Ty.if29 (aI @Ty.ni29 (aI @Ty.sz29 (aI @Ty.un29 (aI @Ty.unn29 (aI @Ty.zr29 (aI @Ty.ag30 (aI @Ty.by30 (aI @Ty.el30 (aI @Ty.if30 (aI @Ty.ni30 (aI @Ty.sz30 (aI @Ty.un30 (aI @Ty.unn30 (aI @Ty.zr30 (aI @Ty.ag31 (aI @Ty.by31 (aI @Ty.el31 (aI @Ty.if31 (aI @Ty.ni31 (aI @Ty.sz31 (aI @Ty.un31 (aI @Ty.unn31 (aI @Ty.zr31 (aI @Ty.ag33 (aI @Ty.by33 (aI @Ty.fo33_0 (aI @Ty.fo33_1 (aI @Ty.fo33_2 (aI @Ty.fo33_3 (aI @Ty.ft33_0 (aI @Ty.ft33_1 (aI @Ty.ft33_2 (aI @Ty.ft33_3 (aI @Ty.if33 (aI @Ty.pl33 (aI @Ty.sz33 (aI @Ty.un33 (aI @Ty.unn33 (aI @Ty.zr33 (aI @Ty.ag39 (aI @Ty.by39 (aI @Ty.ef39 (aI @Ty.fo39_0 (aI @Ty.fo39_1 (aI @Ty.ft39_0 (aI @Ty.ft39_1 (aI @Ty.if39 (aI @Ty.pl39 (aI @Ty.sz39 (aI @Ty.un39 (aI @Ty.unn39 (aI @Ty.zr39 (aI @Ty.ag68 (aI @Ty.by68 (aI @Ty.ef68 (aI @Ty.fo68_0 (aI @Ty.fo68_1 (aI @Ty.fo68_2 (aI @Ty.fo68_3 (aI @Ty.ft68_0 (aI @Ty.ft68_1 (aI @Ty.ft68_2 (aI @Ty.ft68_3 (aI @Ty.if68 (aI @Ty.pl68 (aI @Ty.sz68 (aI @Ty.un68 (aI @Ty.unn68 (aI @Ty.zr68 (aI @Ty.ag78 (aI @Ty.by78 (aI @Ty.el78 (aI @Ty.if78 (aI @Ty.ni78 (aI @Ty.sz78 (aI @Ty.un78 (aI @Ty.unn78 (aI @Ty.zr78 (aI @Ty.ag80 (aI @Ty.by80 (aI @Ty.fo80_0 (aI @Ty.fo80_1 (aI @Ty.ft80_0 (aI @Ty.ft80_1 (aI @Ty.if80 (aI @Ty.pl80 (aI @Ty.sz80 (aI @Ty.un80 (aI @Ty.unn80 (aI @Ty.zr80 (aI @Ty.ag90 (aI @Ty.by90 (aI @Ty.ef90 (aI @Ty.fo90_0 (aI @Ty.fo90_1 (aI @Ty.fo90_2 (aI @Ty.fo90_3 (aI @Ty.fo90_4 (aI @Ty.ft90_0 (aI @Ty.ft90_1 (aI @Ty.ft90_2 (aI @Ty.ft90_3 (aI @Ty.ft90_4 (aI @Ty.if90 (aI @Ty.pl90 (aI @Ty.sz90 (aI @Ty.un90 (aI @Ty.unn90 (aI @Ty.zr90 (aI @Ty.ag92 (aI @Ty.by92 (aI @Ty.ef92 (aI @Ty.fo92_0 (aI @Ty.fo92_1 (aI @Ty.fo92_2 (aI @Ty.fo92_3 (aI @Ty.ft92_0 (aI @Ty.ft92_1 (aI @Ty.ft92_2 (aI @Ty.ft92_3 (aI @Ty.if92 (aI @Ty.pl92 (aI @Ty.sz92 (aI @Ty.un92 (aI @Ty.unn92 (@Ty.zr92))))))))))))))))))))))))))))))))))))))))))))))))))))))))))))))))))))))))))))))))))))))))))))))))))))))))))))))))))))))))))))))))))))))))))))))))))))))))))))))))))))))))))))))))))))))))
theorem t50 : type_of% tkd50 := tkd50
def tkd51 := (aI @Ty.ag3 (aI @Ty.by3 (aI @Ty.if3 (aI @Ty.in3 (aI @Ty.sz3 (aI @Ty.un3 (aI @Ty.unn3 (@Ty.zr3))))))))
theorem t51 : type_of% tkd51 := tkd51
def tkd52 := (aI @Ty.ag3 (aI @Ty.by3 (aI @Ty.if3 (aI @Ty.in3 (aI @Ty.sz3 (aI @Ty.un3 (aI @Ty.unn3 (aI @Ty.zr3 (aI @Ty.ag9 (aI @Ty.by9 (aI @Ty.if9 (aI @Ty.ins9 (aI @Ty.ni9 (aI @Ty.st9 (aI @Ty.sz9 (aI @Ty.un9 (aI @Ty.unn9 (aI @Ty.zr9 (aI @Ty.ag22 (aI @Ty.by22 (aI @Ty.el22 (aI @Ty.if22 (aI @Ty.ni22 (aI @Ty.sz22 (aI @Ty.un22 (aI @Ty.unn22 (@Ty.zr22)))))))))))))))))))))))))))
theorem t52 : type_of% tkd52 := tkd52
def tkd53 := (aI @Ty.ag1 (aI @Ty.by1 (aI @Ty.if1 (aI @Ty.sz1 (aI @Ty.un1 (aI @Ty.unn1 (aI @Ty.zr1 (aI @Ty.ag25 (aI @Ty.by25 (aI @Ty.el25 (aI @Ty.if25 (aI @Ty.ni25 (aI @Ty.sz25 (aI @Ty.un25 (aI @Ty.unn25 (aI @Ty.zr25 (aI @Ty.ag39 (aI @Ty.by39 (aI @Ty.ef39 (aI @Ty.fo39_0 (aI @Ty.fo39_1 (aI @Ty.ft39_0 (aI @Ty.ft39_1 (aI @Ty.if39 (aI @Ty.pl39 (aI @Ty.sz39 (aI @Ty.un39 (aI @Ty.unn39 (aI @Ty.zr39 (aI @Ty.ag83 (aI @Ty.by83 (aI @Ty.if83 (aI @Ty.po83 (aI @Ty.sz83 (aI @Ty.un83 (aI @Ty.unn83 (@Ty.zr83)))))))))))))))))))))))))))))))))))))
theorem t53 : type_of% tkd53 := tkd53
def tkd54 := (aI @Ty.ag3 (aI @Ty.by3 (aI @Ty.if3 (aI @Ty.in3 (aI @Ty.sz3 (aI @Ty.un3 (aI @Ty.unn3 (@Ty.zr3))))))))
theorem t54 : type_of% tkd54 := tkd54
def tkd55 := (aI @Ty.ag3 (aI @Ty.by3 (aI @Ty.if3 (aI @Ty.in3 (aI @Ty.sz3 (aI @Ty.un3 (aI @Ty.unn3 (aI @Ty.zr3 (aI @Ty.ag30 (aI @Ty.by30 (aI @Ty.el30 (aI @Ty.if30 (aI @Ty.ni30 (aI @Ty.sz30 (aI @Ty.un30 (aI @Ty.unn30 (aI @Ty.zr30 (aI @Ty.ag80 (aI @Ty.by80 (aI @Ty.fo80_0 (aI @Ty.fo80_1 (aI @Ty.ft80_0 (aI @Ty.ft80_1 (aI @Ty.if80 (aI @Ty.pl80 (aI @Ty.sz80 (aI @Ty.un80 (aI @Ty.unn80 (aI @Ty.zr80 (aI @Ty.ag95 (aI @Ty.by95 (aI @Ty.if95 (aI @Ty.sz95 (aI @Ty.un95 (aI @Ty.unn95 (@Ty.zr95))))))))))))))))))))))))))))))))))))
theorem t55 : type_of% tkd55 := tkd55
def tkd56 := (aI @Ty.ag1 (aI @Ty.by1 (aI @Ty.if1 (aI @Ty.sz1 (aI @Ty.un1 (aI @Ty.unn1 (aI @Ty.zr1 (aI @Ty.ag3 (aI @Ty.by3 (aI @Ty.if3 (aI @Ty.in3 (aI @Ty.sz3 (aI @Ty.un3 (aI @Ty.unn3 (aI @Ty.zr3 (aI @Ty.ag78 (aI @Ty.by78 (aI @Ty.el78 (aI @Ty.if78 (aI @Ty.ni78 (aI @Ty.sz78 (aI @Ty.un78 (aI @Ty.unn78 (aI @Ty.zr78 (aI @Ty.ag80 (aI @Ty.by80 (aI @Ty.fo80_0 (aI @Ty.fo80_1 (aI @Ty.ft80_0 (aI @Ty.ft80_1 (aI @Ty.if80 (aI @Ty.pl80 (aI @Ty.sz80 (aI @Ty.un80 (aI @Ty.unn80 (aI @Ty.zr80 (aI @Ty.ag90 (aI @Ty.by90 (aI @Ty.ef90 (aI @Ty.fo90_0 (aI @Ty.fo90_1 (aI @Ty.fo90_2 (aI @Ty.fo90_3 (aI @Ty.fo90_4 (aI @Ty.ft90_0 (aI @Ty.ft90_1 (aI @Ty.ft90_2 (aI @Ty.ft90_3 (aI @Ty.ft90_4 (aI @Ty.if90 (aI @Ty.pl90 (aI @Ty.sz90 (aI @Ty.un90 (aI @Ty.unn90 (@Ty.zr90)))))))))))))))))))))))))))))))))))))))))))))))))))))))
theorem t56 : type_of% tkd56 := tkd56
def tkd57 := (aI @Ty.ag1 (aI @Ty.by1 (aI @Ty.if1 (aI @Ty.sz1 (aI @Ty.un1 (aI @Ty.unn1 (aI @Ty.zr1 (aI @Ty.ag2 (aI @Ty.by2 (aI @Ty.if2 (aI @Ty.in2 (aI @Ty.sz2 (aI @Ty.un2 (aI @Ty.unn2 (aI @Ty.zr2 (aI @Ty.ag3 (aI @Ty.by3 (aI @Ty.if3 (aI @Ty.in3 (aI @Ty.sz3 (aI @Ty.un3 (aI @Ty.unn3 (aI @Ty.zr3 (aI @Ty.ag4 (aI @Ty.bo4 (aI @Ty.by4 (aI @Ty.if4 (aI @Ty.sz4 (aI @Ty.un4 (aI @Ty.unn4 (aI @Ty.zr4 (aI @Ty.ag22 (aI @Ty.by22 (aI @Ty.el22 (aI @Ty.if22 (aI @Ty.ni22 (aI @Ty.sz22 (aI @Ty.un22 (aI @Ty.unn22 (aI @Ty.zr22 (aI @Ty.ag24 (aI @Ty.by24 (aI @Ty.fo24_0 (aI @Ty.fo24_1 (aI @Ty.fo24_2 (aI @Ty.ft24_0 (aI @Ty.ft24_1 (aI @Ty.ft24_2 (aI @Ty.if24 (aI @Ty.pl24 (aI @Ty.sz24 (aI @Ty.un24 (aI @Ty.unn24 (aI @Ty.zr24 (aI @Ty.ag78 (aI @Ty.by78 (aI @Ty.el78 (aI @Ty.if78 (aI @Ty.ni78 (aI @Ty.sz78 (aI @Ty.un78 (aI @Ty.unn78 (aI @Ty.zr78 (aI @Ty.ag90 (aI @Ty.by90 (aI @Ty.ef90 (aI @Ty.fo90_0 (aI @Ty.fo90_1 (aI @Ty.fo90_2 (aI @Ty.fo90_3 (aI @Ty.fo90_4 (aI @Ty.ft90_0 (aI @Ty.ft90_1 (aI @Ty.ft90_2 (aI @Ty.ft90_3 (aI @Ty.ft90_4 (aI @Ty.if90 (aI @Ty.pl90 (aI @Ty.sz90 (aI @Ty.un90 (aI @Ty.unn90 (aI @Ty.zr90 (aI @Ty.ag118 (aI @Ty.by118 (aI @Ty.if118 (aI @Ty.sz118 (aI @Ty.un118 (aI @Ty.unn118 (@Ty.zr118)))))))))))))))))))))))))))))))))))))))))))))))))))))))))))))))))))))))))))))))))))))))))
theorem t57 : type_of% tkd57 := tkd57
def tkd58 := (aI @Ty.ag1 (aI @Ty.by1 (aI @Ty.if1 (aI @Ty.sz1 (aI @Ty.un1 (aI @Ty.unn1 (aI @Ty.zr1 (aI @Ty.ag2 (aI @Ty.by2 (aI @Ty.if2 (aI @Ty.in2 (aI @Ty.sz2 (aI @Ty.un2 (aI @Ty.unn2 (aI @Ty.zr2 (aI @Ty.ag3 (aI @Ty.by3 (aI @Ty.if3 (aI @Ty.in3 (aI @Ty.sz3 (aI @Ty.un3 (aI @Ty.unn3 (aI @Ty.zr3 (aI @Ty.ag4 (aI @Ty.bo4 (aI @Ty.by4 (aI @Ty.if4 (aI @Ty.sz4 (aI @Ty.un4 (aI @Ty.unn4 (aI @Ty.zr4 (aI @Ty.ag22 (aI @Ty.by22 (aI @Ty.el22 (aI @Ty.if22 (aI @Ty.ni22 (aI @Ty.sz22 (aI @Ty.un22 (aI @Ty.unn22 (aI @Ty.zr22 (aI @Ty.ag24 (aI @Ty.by24 (aI @Ty.fo24_0 (aI @Ty.fo24_1 (aI @Ty.fo24_2 (aI @Ty.ft24_0 (aI @Ty.ft24_1 (aI @Ty.ft24_2 (aI @Ty.if24 (aI @Ty.pl24 (aI @Ty.sz24 (aI @Ty.un24 (aI @Ty.unn24 (aI @Ty.zr24 (aI @Ty.ag92 (aI @Ty.by92 (aI @Ty.ef92 (aI @Ty.fo92_0 (aI @Ty.fo92_1 (aI @Ty.fo92_2 (aI @Ty.fo92_3 (aI @Ty.ft92_0 (aI @Ty.ft92_1 (aI @Ty.ft92_2 (aI @Ty.ft92_3 (aI @Ty.if92 (aI @Ty.pl92 (aI @Ty.sz92 (aI @Ty.un92 (aI @Ty.unn92 (@Ty.zr92)))))))))))))))))))))))))))))))))))))))))))))))))))))))))))))))))))))))
theorem t58 : type_of% tkd58 := tkd58
def tkd59 := (aI @Ty.ag1 (aI @Ty.by1 (aI @Ty.if1 (aI @Ty.sz1 (aI @Ty.un1 (aI @Ty.unn1 (aI @Ty.zr1 (aI @Ty.ag2 (aI @Ty.by2 (aI @Ty.if2 (aI @Ty.in2 (aI @Ty.sz2 (aI @Ty.un2 (aI @Ty.unn2 (aI @Ty.zr2 (aI @Ty.ag3 (aI @Ty.by3 (aI @Ty.if3 (aI @Ty.in3 (aI @Ty.sz3 (aI @Ty.un3 (aI @Ty.unn3 (aI @Ty.zr3 (aI @Ty.ag4 (aI @Ty.bo4 (aI @Ty.by4 (aI @Ty.if4 (aI @Ty.sz4 (aI @Ty.un4 (aI @Ty.unn4 (aI @Ty.zr4 (aI @Ty.ag29 (aI @Ty.by29 (aI @Ty.el29 (aI @Ty.if29 (aI @Ty.ni29 (aI @Ty.sz29 (aI @Ty.un29 (aI @Ty.unn29 (aI @Ty.zr29 (aI @Ty.ag33 (aI @Ty.by33 (aI @Ty.fo33_0 (aI @Ty.fo33_1 (aI @Ty.fo33_2 (aI @Ty.fo33_3 (aI @Ty.ft33_0 (aI @Ty.ft33_1 (aI @Ty.ft33_2 (aI @Ty.ft33_3 (aI @Ty.if33 (aI @Ty.pl33 (aI @Ty.sz33 (aI @Ty.un33 (aI @Ty.unn33 (aI @Ty.zr33 (aI @Ty.ag68 (aI @Ty.by68 (aI @Ty.ef68 (aI @Ty.fo68_0 (aI @Ty.fo68_1 (aI @Ty.fo68_2 (aI @Ty.fo68_3 (aI @Ty.ft68_0 (aI @Ty.ft68_1 (aI @Ty.ft68_2 (aI @Ty.ft68_3 (aI @Ty.if68 (aI @Ty.pl68 (aI @Ty.sz68 (aI @Ty.un68 (aI @Ty.unn68 (@Ty.zr68)))))))))))))))))))))))))))))))))))))))))))))))))))))))))))))))))))))))))
theorem t59 : type_of% tkd59 := tkd59
def tkd60 := (aI @Ty.ag1 (aI @Ty.by1 (aI @Ty.if1 (aI @Ty.sz1 (aI @Ty.un1 (aI @Ty.unn1 (aI @Ty.zr1 (aI @Ty.ag2 (aI @Ty.by2 (aI @Ty.if2 (aI @Ty.in2 (aI @Ty.sz2 (aI @Ty.un2 (aI @Ty.unn2 (aI @Ty.zr2 (aI @Ty.ag3 (aI @Ty.by3 (aI @Ty.if3 (aI @Ty.in3 (aI @Ty.sz3 (aI @Ty.un3 (aI @Ty.unn3 (aI @Ty.zr3 (aI @Ty.ag4 (aI @Ty.bo4 (aI @Ty.by4 (aI @Ty.if4 (aI @Ty.sz4 (aI @Ty.un4 (aI @Ty.unn4 (aI @Ty.zr4 (aI @Ty.ag22 (aI @Ty.by22 (aI @Ty.el22 (aI @Ty.if22 (aI @Ty.ni22 (aI @Ty.sz22 (aI @Ty.un22 (aI @Ty.unn22 (aI @Ty.zr22 (aI @Ty.ag24 (aI @Ty.by24 (aI @Ty.fo24_0 (aI @Ty.fo24_1 (aI @Ty.fo24_2 (aI @Ty.ft24_0 (aI @Ty.ft24_1 (aI @Ty.ft24_2 (aI @Ty.if24 (aI @Ty.pl24 (aI @Ty.sz24 (aI @Ty.un24 (aI @Ty.unn24 (aI @Ty.zr24 (aI @Ty.ag30 (aI @Ty.by30 (aI @Ty.el30 (aI @Ty.if30 (aI @Ty.ni30 (aI @Ty.sz30 (aI @Ty.un30 (aI @Ty.unn30 (aI @Ty.zr30 (aI @Ty.ag33 (aI @Ty.by33 (aI @Ty.fo33_0 (aI @Ty.fo33_1 (aI @Ty.fo33_2 (aI @Ty.fo33_3 (aI @Ty.ft33_0 (aI @Ty.ft33_1 (aI @Ty.ft33_2 (aI @Ty.ft33_3 (aI @Ty.if33 (aI @Ty.pl33 (aI @Ty.sz33 (aI @Ty.un33 (aI @Ty.unn33 (aI @Ty.zr33 (aI @Ty.ag78 (aI @Ty.by78 (aI @Ty.el78 (aI @Ty.if78 (aI @Ty.ni78 (aI @Ty.sz78 (aI @Ty.un78 (aI @Ty.unn78 (aI @Ty.zr78 (aI @Ty.ag80 (aI @Ty.by80 (aI @Ty.fo80_0 (aI @Ty.fo80_1 (aI @Ty.ft80_0 (aI @Ty.ft80_1 (aI @Ty.if80 (aI @Ty.pl80 (aI @Ty.sz80 (aI @Ty.un80 (aI @Ty.unn80 (aI @Ty.zr80 (aI @Ty.ag90 (aI @Ty.by90 (aI @Ty.ef90 (aI @Ty.fo90_0 (aI @Ty.fo90_1 (aI @Ty.fo90_2 (aI @Ty.fo90_3 (aI @Ty.fo90_4 (aI @Ty.ft90_0 (aI @Ty.ft90_1 (aI @Ty.ft90_2 (aI @Ty.ft90_3 (aI @Ty.ft90_4 (aI @Ty.if90 (aI @Ty.pl90 (aI @Ty.sz90 (aI @Ty.un90 (aI @Ty.unn90 (@Ty.zr90)))))))))))))))))))))))))))))))))))))))))))))))))))))))))))))))))))))))))))))))))))))))))))))))))))))))))))))))))))))))
theorem t60 : type_of% tkd60 := tkd60
def tkd61 := (aI @Ty.ag1 (aI @Ty.by1 (aI @Ty.if1 (aI @Ty.sz1 (aI @Ty.un1 (aI @Ty.unn1 (aI @Ty.zr1 (aI @Ty.ag2 (aI @Ty.by2 (aI @Ty.if2 (aI @Ty.in2 (aI @Ty.sz2 (aI @Ty.un2 (aI @Ty.unn2 (aI @Ty.zr2 (aI @Ty.ag3 (aI @Ty.by3 (aI @Ty.if3 (aI @Ty.in3 (aI @Ty.sz3 (aI @Ty.un3 (aI @Ty.unn3 (aI @Ty.zr3 (aI @Ty.ag4 (aI @Ty.bo4 (aI @Ty.by4 (aI @Ty.if4 (aI @Ty.sz4 (aI @Ty.un4 (aI @Ty.unn4 (aI @Ty.zr4 (aI @Ty.ag22 (aI @Ty.by22 (aI @Ty.el22 (aI @Ty.if22 (aI @Ty.ni22 (aI @Ty.sz22 (aI @Ty.un22 (aI @Ty.unn22 (aI @Ty.zr22 (aI @Ty.ag24 (aI @Ty.by24 (aI @Ty.fo24_0 (aI @Ty.fo24_1 (aI @Ty.fo24_2 (aI @Ty.ft24_0 (aI @Ty.ft24_1 (aI @Ty.ft24_2 (aI @Ty.if24 (aI @Ty.pl24 (aI @Ty.sz24 (aI @Ty.un24 (aI @Ty.unn24 (aI @Ty.zr24 (aI @Ty.ag92 (aI @Ty.by92 (aI @Ty.ef92 (aI @Ty.fo92_0 (aI @Ty.fo92_1 (aI @Ty.fo92_2 (aI @Ty.fo92_3 (aI @Ty.ft92_0 (aI @Ty.ft92_1 (aI @Ty.ft92_2 (aI @Ty.ft92_3 (aI @Ty.if92 (aI @Ty.pl92 (aI @Ty.sz92 (aI @Ty.un92 (aI @Ty.unn92 (@Ty.zr92)))))))))))))))))))))))))))))))))))))))))))))))))))))))))))))))))))))))
theorem t61 : type_of% tkd61 := tkd61
def tkd62 := (aI @Ty.ag1 (aI @Ty.by1 (aI @Ty.if1 (aI @Ty.sz1 (aI @Ty.un1 (aI @Ty.unn1 (aI @Ty.zr1 (aI @Ty.ag2 (aI @Ty.by2 (aI @Ty.if2 (aI @Ty.in2 (aI @Ty.sz2 (aI @Ty.un2 (aI @Ty.unn2 (aI @Ty.zr2 (aI @Ty.ag3 (aI @Ty.by3 (aI @Ty.if3 (aI @Ty.in3 (aI @Ty.sz3 (aI @Ty.un3 (aI @Ty.unn3 (aI @Ty.zr3 (aI @Ty.ag4 (aI @Ty.bo4 (aI @Ty.by4 (aI @Ty.if4 (aI @Ty.sz4 (aI @Ty.un4 (aI @Ty.unn4 (aI @Ty.zr4 (aI @Ty.ag22 (aI @Ty.by22 (aI @Ty.el22 (aI @Ty.if22 (aI @Ty.ni22 (aI @Ty.sz22 (aI @Ty.un22 (aI @Ty.unn22 (aI @Ty.zr22 (aI @Ty.ag24 (aI @Ty.by24 (aI @Ty.fo24_0 (aI @Ty.fo24_1 (aI @Ty.fo24_2 (aI @Ty.ft24_0 (aI @Ty.ft24_1 (aI @Ty.ft24_2 (aI @Ty.if24 (aI @Ty.pl24 (aI @Ty.sz24 (aI @Ty.un24 (aI @Ty.unn24 (aI @Ty.zr24 (aI @Ty.ag29 (aI @Ty.by29 (aI @Ty.el29 (aI @Ty.if29 (aI @Ty.ni29 (aI @Ty.sz29 (aI @Ty.un29 (aI @Ty.unn29 (aI @Ty.zr29 (aI @Ty.ag30 (aI @Ty.by30 (aI @Ty.el30 (aI @Ty.if30 (aI @Ty.ni30 (aI @Ty.sz30 (aI @Ty.un30 (aI @Ty.unn30 (aI @Ty.zr30 (aI @Ty.ag31 (aI @Ty.by31 (aI @Ty.el31 (aI @Ty.if31 (aI @Ty.ni31 (aI @Ty.sz31 (aI @Ty.un31 (aI @Ty.unn31 (aI @Ty.zr31 (aI @Ty.ag33 (aI @Ty.by33 (aI @Ty.fo33_0 (aI @Ty.fo33_1 (aI @Ty.fo33_2 (aI @Ty.fo33_3 (aI @Ty.ft33_0 (aI @Ty.ft33_1 (aI @Ty.ft33_2 (aI @Ty.ft33_3 (aI @Ty.if33 (aI @Ty.pl33 (aI @Ty.sz33 (aI @Ty.un33 (aI @Ty.unn33 (aI @Ty.zr33 (aI @Ty.ag39 (aI @Ty.by39 (aI @Ty.ef39 (aI @Ty.fo39_0 (aI @Ty.fo39_1 (aI @Ty.ft39_0 (aI @Ty.ft39_1 (aI @Ty.if39 (aI @Ty.pl39 (aI @Ty.sz39 (aI @Ty.un39 (aI @Ty.unn39 (aI @Ty.zr39 (aI @Ty.ag68 (aI @Ty.by68 (aI @Ty.ef68 (aI @Ty.fo68_0 (aI @Ty.fo68_1 (aI @Ty.fo68_2 (aI @Ty.fo68_3 (aI @Ty.ft68_0 (aI @Ty.ft68_1 (aI @Ty.ft68_2 (aI @Ty.ft68_3 (aI @Ty.if68 (aI @Ty.pl68 (aI @Ty.sz68 (aI @Ty.un68 (aI @Ty.unn68 (aI @Ty.zr68 (aI @Ty.ag78 (aI @Ty.by78 (aI @Ty.el78 (aI @Ty.if78 (aI @Ty.ni78 (aI @Ty.sz78 (aI @Ty.un78 (aI @Ty.unn78 (aI @Ty.zr78 (aI @Ty.ag80 (aI @Ty.by80 (aI @Ty.fo80_0 (aI @Ty.fo80_1 (aI @Ty.ft80_0 (aI @Ty.ft80_1 (aI @Ty.if80 (aI @Ty.pl80 (aI @Ty.sz80 (aI @Ty.un80 (aI @Ty.unn80 (aI @Ty.zr80 (aI @Ty.ag90 (aI @Ty.by90 (aI @Ty.ef90 (aI @Ty.fo90_0 (aI @Ty.fo90_1 (aI @Ty.fo90_2 (aI @Ty.fo90_3 (aI @Ty.fo90_4 (aI @Ty.ft90_0 (aI @Ty.ft90_1 (aI @Ty.ft90_2 (aI @Ty.ft90_3 (aI @Ty.ft90_4 (aI @Ty.if90 (aI @Ty.pl90 (aI @Ty.sz90 (aI @Ty.un90 (aI @Ty.unn90 (aI @Ty.zr90 (aI @Ty.ag92 (aI @Ty.by92 (aI @Ty.ef92 (aI @Ty.fo92_0 (aI @Ty.fo92_1 (aI @Ty.fo92_2 (aI @Ty.fo92_3 (aI @Ty.ft92_0 (aI @Ty.ft92_1 (aI @Ty.ft92_2 (aI @Ty.ft92_3 (aI @Ty.if92 (aI @Ty.pl92 (aI @Ty.sz92 (aI @Ty.un92 (aI @Ty.unn92 (@Ty.zr92))))))))))))))))))))))))))))))))))))))))))))))))))))))))))))))))))))))))))))))))))))))))))))))))))))))))))))))))))))))))))))))))))))))))))))))))))))))))))))))))))))))))))))))))))))))))
theorem t62 : type_of% tkd62 := tkd62
def tkd63 := @Nat.zero_add
theorem t63 : type_of% tkd63 := tkd63
def tkd64 := (aI @Ty.ag1 (aI @Ty.by1 (aI @Ty.if1 (aI @Ty.sz1 (aI @Ty.un1 (aI @Ty.unn1 (aI @Ty.zr1 (aI @Ty.ag3 (aI @Ty.by3 (aI @Ty.if3 (aI @Ty.in3 (aI @Ty.sz3 (aI @Ty.un3 (aI @Ty.unn3 (aI @Ty.zr3 (aI @Ty.ag31 (aI @Ty.by31 (aI @Ty.el31 (aI @Ty.if31 (aI @Ty.ni31 (aI @Ty.sz31 (aI @Ty.un31 (aI @Ty.unn31 (aI @Ty.zr31 (aI @Ty.ag92 (aI @Ty.by92 (aI @Ty.ef92 (aI @Ty.fo92_0 (aI @Ty.fo92_1 (aI @Ty.fo92_2 (aI @Ty.fo92_3 (aI @Ty.ft92_0 (aI @Ty.ft92_1 (aI @Ty.ft92_2 (aI @Ty.ft92_3 (aI @Ty.if92 (aI @Ty.pl92 (aI @Ty.sz92 (aI @Ty.un92 (aI @Ty.unn92 (@Ty.zr92)))))))))))))))))))))))))))))))))))))))))
theorem t64 : type_of% tkd64 := tkd64
def tkd65 := (aI @Ty.ag1 (aI @Ty.by1 (aI @Ty.if1 (aI @Ty.sz1 (aI @Ty.un1 (aI @Ty.unn1 (aI @Ty.zr1 (aI @Ty.ag2 (aI @Ty.by2 (aI @Ty.if2 (aI @Ty.in2 (aI @Ty.sz2 (aI @Ty.un2 (aI @Ty.unn2 (aI @Ty.zr2 (aI @Ty.ag3 (aI @Ty.by3 (aI @Ty.if3 (aI @Ty.in3 (aI @Ty.sz3 (aI @Ty.un3 (aI @Ty.unn3 (aI @Ty.zr3 (aI @Ty.ag4 (aI @Ty.bo4 (aI @Ty.by4 (aI @Ty.if4 (aI @Ty.sz4 (aI @Ty.un4 (aI @Ty.unn4 (aI @Ty.zr4 (aI @Ty.ag24 (aI @Ty.by24 (aI @Ty.fo24_0 (aI @Ty.fo24_1 (aI @Ty.fo24_2 (aI @Ty.ft24_0 (aI @Ty.ft24_1 (aI @Ty.ft24_2 (aI @Ty.if24 (aI @Ty.pl24 (aI @Ty.sz24 (aI @Ty.un24 (aI @Ty.unn24 (aI @Ty.zr24 (aI @Ty.ag29 (aI @Ty.by29 (aI @Ty.el29 (aI @Ty.if29 (aI @Ty.ni29 (aI @Ty.sz29 (aI @Ty.un29 (aI @Ty.unn29 (aI @Ty.zr29 (aI @Ty.ag30 (aI @Ty.by30 (aI @Ty.el30 (aI @Ty.if30 (aI @Ty.ni30 (aI @Ty.sz30 (aI @Ty.un30 (aI @Ty.unn30 (aI @Ty.zr30 (aI @Ty.ag31 (aI @Ty.by31 (aI @Ty.el31 (aI @Ty.if31 (aI @Ty.ni31 (aI @Ty.sz31 (aI @Ty.un31 (aI @Ty.unn31 (aI @Ty.zr31 (aI @Ty.ag33 (aI @Ty.by33 (aI @Ty.fo33_0 (aI @Ty.fo33_1 (aI @Ty.fo33_2 (aI @Ty.fo33_3 (aI @Ty.ft33_0 (aI @Ty.ft33_1 (aI @Ty.ft33_2 (aI @Ty.ft33_3 (aI @Ty.if33 (aI @Ty.pl33 (aI @Ty.sz33 (aI @Ty.un33 (aI @Ty.unn33 (aI @Ty.zr33 (aI @Ty.ag68 (aI @Ty.by68 (aI @Ty.ef68 (aI @Ty.fo68_0 (aI @Ty.fo68_1 (aI @Ty.fo68_2 (aI @Ty.fo68_3 (aI @Ty.ft68_0 (aI @Ty.ft68_1 (aI @Ty.ft68_2 (aI @Ty.ft68_3 (aI @Ty.if68 (aI @Ty.pl68 (aI @Ty.sz68 (aI @Ty.un68 (aI @Ty.unn68 (aI @Ty.zr68 (aI @Ty.ag78 (aI @Ty.by78 (aI @Ty.el78 (aI @Ty.if78 (aI @Ty.ni78 (aI @Ty.sz78 (aI @Ty.un78 (aI @Ty.unn78 (aI @Ty.zr78 (aI @Ty.ag80 (aI @Ty.by80 (aI @Ty.fo80_0 (aI @Ty.fo80_1 (aI @Ty.ft80_0 (aI @Ty.ft80_1 (aI @Ty.if80 (aI @Ty.pl80 (aI @Ty.sz80 (aI @Ty.un80 (aI @Ty.unn80 (aI @Ty.zr80 (aI @Ty.ag90 (aI @Ty.by90 (aI @Ty.ef90 (aI @Ty.fo90_0 (aI @Ty.fo90_1 (aI @Ty.fo90_2 (aI @Ty.fo90_3 (aI @Ty.fo90_4 (aI @Ty.ft90_0 (aI @Ty.ft90_1 (aI @Ty.ft90_2 (aI @Ty.ft90_3 (aI @Ty.ft90_4 (aI @Ty.if90 (aI @Ty.pl90 (aI @Ty.sz90 (aI @Ty.un90 (aI @Ty.unn90 (aI @Ty.zr90 (aI @Ty.ag92 (aI @Ty.by92 (aI @Ty.ef92 (aI @Ty.fo92_0 (aI @Ty.fo92_1 (aI @Ty.fo92_2 (aI @Ty.fo92_3 (aI @Ty.ft92_0 (aI @Ty.ft92_1 (aI @Ty.ft92_2 (aI @Ty.ft92_3 (aI @Ty.if92 (aI @Ty.pl92 (aI @Ty.sz92 (aI @Ty.un92 (aI @Ty.unn92 (@Ty.zr92))))))))))))))))))))))))))))))))))))))))))))))))))))))))))))))))))))))))))))))))))))))))))))))))))))))))))))))))))))))))))))))))))))))))))))))))))))))))))))))))))
theorem t65 : type_of% tkd65 := tkd65
def tkd66 := (aI @Ty.ag3 (aI @Ty.by3 (aI @Ty.if3 (aI @Ty.in3 (aI @Ty.sz3 (aI @Ty.un3 (aI @Ty.unn3 (aI @Ty.zr3 (aI @Ty.ag31 (aI @Ty.by31 (aI @Ty.el31 (aI @Ty.if31 (aI @Ty.ni31 (aI @Ty.sz31 (aI @Ty.un31 (aI @Ty.unn31 (aI @Ty.zr31 (aI @Ty.ag92 (aI @Ty.by92 (aI @Ty.ef92 (aI @Ty.fo92_0 (aI @Ty.fo92_1 (aI @Ty.fo92_2 (aI @Ty.fo92_3 (aI @Ty.ft92_0 (aI @Ty.ft92_1 (aI @Ty.ft92_2 (aI @Ty.ft92_3 (aI @Ty.if92 (aI @Ty.pl92 (aI @Ty.sz92 (aI @Ty.un92 (aI @Ty.unn92 (@Ty.zr92))))))))))))))))))))))))))))))))))
theorem t66 : type_of% tkd66 := tkd66
def tkd67 := (aI @Ty.ag1 (aI @Ty.by1 (aI @Ty.if1 (aI @Ty.sz1 (aI @Ty.un1 (aI @Ty.unn1 (aI @Ty.zr1 (aI @Ty.ag2 (aI @Ty.by2 (aI @Ty.if2 (aI @Ty.in2 (aI @Ty.sz2 (aI @Ty.un2 (aI @Ty.unn2 (aI @Ty.zr2 (aI @Ty.ag3 (aI @Ty.by3 (aI @Ty.if3 (aI @Ty.in3 (aI @Ty.sz3 (aI @Ty.un3 (aI @Ty.unn3 (aI @Ty.zr3 (aI @Ty.ag22 (aI @Ty.by22 (aI @Ty.el22 (aI @Ty.if22 (aI @Ty.ni22 (aI @Ty.sz22 (aI @Ty.un22 (aI @Ty.unn22 (aI @Ty.zr22 (aI @Ty.ag24 (aI @Ty.by24 (aI @Ty.fo24_0 (aI @Ty.fo24_1 (aI @Ty.fo24_2 (aI @Ty.ft24_0 (aI @Ty.ft24_1 (aI @Ty.ft24_2 (aI @Ty.if24 (aI @Ty.pl24 (aI @Ty.sz24 (aI @Ty.un24 (aI @Ty.unn24 (aI @Ty.zr24 (aI @Ty.ag30 (aI @Ty.by30 (aI @Ty.el30 (aI @Ty.if30 (aI @Ty.ni30 (aI @Ty.sz30 (aI @Ty.un30 (aI @Ty.unn30 (aI @Ty.zr30 (aI @Ty.ag33 (aI @Ty.by33 (aI @Ty.fo33_0 (aI @Ty.fo33_1 (aI @Ty.fo33_2 (aI @Ty.fo33_3 (aI @Ty.ft33_0 (aI @Ty.ft33_1 (aI @Ty.ft33_2 (aI @Ty.ft33_3 (aI @Ty.if33 (aI @Ty.pl33 (aI @Ty.sz33 (aI @Ty.un33 (aI @Ty.unn33 (aI @Ty.zr33 (aI @Ty.ag78 (aI @Ty.by78 (aI @Ty.el78 (aI @Ty.if78 (aI @Ty.ni78 (aI @Ty.sz78 (aI @Ty.un78 (aI @Ty.unn78 (aI @Ty.zr78 (aI @Ty.ag80 (aI @Ty.by80 (aI @Ty.fo80_0 (aI @Ty.fo80_1 (aI @Ty.ft80_0 (aI @Ty.ft80_1 (aI @Ty.if80 (aI @Ty.pl80 (aI @Ty.sz80 (aI @Ty.un80 (aI @Ty.unn80 (aI @Ty.zr80 (aI @Ty.ag90 (aI @Ty.by90 (aI @Ty.ef90 (aI @Ty.fo90_0 (aI @Ty.fo90_1 (aI @Ty.fo90_2 (aI @Ty.fo90_3 (aI @Ty.fo90_4 (aI @Ty.ft90_0 (aI @Ty.ft90_1 (aI @Ty.ft90_2 (aI @Ty.ft90_3 (aI @Ty.ft90_4 (aI @Ty.if90 (aI @Ty.pl90 (aI @Ty.sz90 (aI @Ty.un90 (aI @Ty.unn90 (@Ty.zr90)))))))))))))))))))))))))))))))))))))))))))))))))))))))))))))))))))))))))))))))))))))))))))))))))))))))))))))))
theorem t67 : type_of% tkd67 := tkd67
def tkd68 := (aI @Ty.ag1 (aI @Ty.by1 (aI @Ty.if1 (aI @Ty.sz1 (aI @Ty.un1 (aI @Ty.unn1 (aI @Ty.zr1 (aI @Ty.ag2 (aI @Ty.by2 (aI @Ty.if2 (aI @Ty.in2 (aI @Ty.sz2 (aI @Ty.un2 (aI @Ty.unn2 (aI @Ty.zr2 (aI @Ty.ag3 (aI @Ty.by3 (aI @Ty.if3 (aI @Ty.in3 (aI @Ty.sz3 (aI @Ty.un3 (aI @Ty.unn3 (aI @Ty.zr3 (aI @Ty.ag4 (aI @Ty.bo4 (aI @Ty.by4 (aI @Ty.if4 (aI @Ty.sz4 (aI @Ty.un4 (aI @Ty.unn4 (aI @Ty.zr4 (aI @Ty.ag29 (aI @Ty.by29 (aI @Ty.el29 (aI @Ty.if29 (aI @Ty.ni29 (aI @Ty.sz29 (aI @Ty.un29 (aI @Ty.unn29 (aI @Ty.zr29 (aI @Ty.ag33 (aI @Ty.by33 (aI @Ty.fo33_0 (aI @Ty.fo33_1 (aI @Ty.fo33_2 (aI @Ty.fo33_3 (aI @Ty.ft33_0 (aI @Ty.ft33_1 (aI @Ty.ft33_2 (aI @Ty.ft33_3 (aI @Ty.if33 (aI @Ty.pl33 (aI @Ty.sz33 (aI @Ty.un33 (aI @Ty.unn33 (aI @Ty.zr33 (aI @Ty.ag68 (aI @Ty.by68 (aI @Ty.ef68 (aI @Ty.fo68_0 (aI @Ty.fo68_1 (aI @Ty.fo68_2 (aI @Ty.fo68_3 (aI @Ty.ft68_0 (aI @Ty.ft68_1 (aI @Ty.ft68_2 (aI @Ty.ft68_3 (aI @Ty.if68 (aI @Ty.pl68 (aI @Ty.sz68 (aI @Ty.un68 (aI @Ty.unn68 (@Ty.zr68)))))))))))))))))))))))))))))))))))))))))))))))))))))))))))))))))))))))))
theorem t68 : type_of% tkd68 := tkd68
def tkd69 := (aI @Ty.ag29 (aI @Ty.by29 (aI @Ty.el29 (aI @Ty.if29 (aI @Ty.ni29 (aI @Ty.sz29 (aI @Ty.un29 (aI @Ty.unn29 (aI @Ty.zr29 (aI @Ty.ag68 (aI @Ty.by68 (aI @Ty.ef68 (aI @Ty.fo68_0 (aI @Ty.fo68_1 (aI @Ty.fo68_2 (aI @Ty.fo68_3 (aI @Ty.ft68_0 (aI @Ty.ft68_1 (aI @Ty.ft68_2 (aI @Ty.ft68_3 (aI @Ty.if68 (aI @Ty.pl68 (aI @Ty.sz68 (aI @Ty.un68 (aI @Ty.unn68 (@Ty.zr68))))))))))))))))))))))))))
theorem t69 : type_of% tkd69 := tkd69
def tkd70 := (aI @Ty.ag30 (aI @Ty.by30 (aI @Ty.el30 (aI @Ty.if30 (aI @Ty.ni30 (aI @Ty.sz30 (aI @Ty.un30 (aI @Ty.unn30 (aI @Ty.zr30 (aI @Ty.ag80 (aI @Ty.by80 (aI @Ty.fo80_0 (aI @Ty.fo80_1 (aI @Ty.ft80_0 (aI @Ty.ft80_1 (aI @Ty.if80 (aI @Ty.pl80 (aI @Ty.sz80 (aI @Ty.un80 (aI @Ty.unn80 (@Ty.zr80)))))))))))))))))))))
theorem t70 : type_of% tkd70 := tkd70
def tkd71 := (aI @Ty.ag31 (aI @Ty.by31 (aI @Ty.el31 (aI @Ty.if31 (aI @Ty.ni31 (aI @Ty.sz31 (aI @Ty.un31 (aI @Ty.unn31 (aI @Ty.zr31 (aI @Ty.ag92 (aI @Ty.by92 (aI @Ty.ef92 (aI @Ty.fo92_0 (aI @Ty.fo92_1 (aI @Ty.fo92_2 (aI @Ty.fo92_3 (aI @Ty.ft92_0 (aI @Ty.ft92_1 (aI @Ty.ft92_2 (aI @Ty.ft92_3 (aI @Ty.if92 (aI @Ty.pl92 (aI @Ty.sz92 (aI @Ty.un92 (aI @Ty.unn92 (@Ty.zr92))))))))))))))))))))))))))
theorem t71 : type_of% tkd71 := tkd71
def tkd72 := (aI @Ty.ag78 (aI @Ty.by78 (aI @Ty.el78 (aI @Ty.if78 (aI @Ty.ni78 (aI @Ty.sz78 (aI @Ty.un78 (aI @Ty.unn78 (aI @Ty.zr78 (aI @Ty.ag90 (aI @Ty.by90 (aI @Ty.ef90 (aI @Ty.fo90_0 (aI @Ty.fo90_1 (aI @Ty.fo90_2 (aI @Ty.fo90_3 (aI @Ty.fo90_4 (aI @Ty.ft90_0 (aI @Ty.ft90_1 (aI @Ty.ft90_2 (aI @Ty.ft90_3 (aI @Ty.ft90_4 (aI @Ty.if90 (aI @Ty.pl90 (aI @Ty.sz90 (aI @Ty.un90 (aI @Ty.unn90 (@Ty.zr90))))))))))))))))))))))))))))
theorem t72 : type_of% tkd72 := tkd72
def tkd73 := (aI @Ty.ag1 (aI @Ty.by1 (aI @Ty.if1 (aI @Ty.sz1 (aI @Ty.un1 (aI @Ty.unn1 (aI @Ty.zr1 (aI @Ty.ag3 (aI @Ty.by3 (aI @Ty.if3 (aI @Ty.in3 (aI @Ty.sz3 (aI @Ty.un3 (aI @Ty.unn3 (aI @Ty.zr3 (aI @Ty.ag22 (aI @Ty.by22 (aI @Ty.el22 (aI @Ty.if22 (aI @Ty.ni22 (aI @Ty.sz22 (aI @Ty.un22 (aI @Ty.unn22 (aI @Ty.zr22 (aI @Ty.ag24 (aI @Ty.by24 (aI @Ty.fo24_0 (aI @Ty.fo24_1 (aI @Ty.fo24_2 (aI @Ty.ft24_0 (aI @Ty.ft24_1 (aI @Ty.ft24_2 (aI @Ty.if24 (aI @Ty.pl24 (aI @Ty.sz24 (aI @Ty.un24 (aI @Ty.unn24 (aI @Ty.zr24 (aI @Ty.ag31 (aI @Ty.by31 (aI @Ty.el31 (aI @Ty.if31 (aI @Ty.ni31 (aI @Ty.sz31 (aI @Ty.un31 (aI @Ty.unn31 (aI @Ty.zr31 (aI @Ty.ag33 (aI @Ty.by33 (aI @Ty.fo33_0 (aI @Ty.fo33_1 (aI @Ty.fo33_2 (aI @Ty.fo33_3 (aI @Ty.ft33_0 (aI @Ty.ft33_1 (aI @Ty.ft33_2 (aI @Ty.ft33_3 (aI @Ty.if33 (aI @Ty.pl33 (aI @Ty.sz33 (aI @Ty.un33 (aI @Ty.unn33 (aI @Ty.zr33 (aI @Ty.ag85 (aI @Ty.by85 (aI @Ty.fo85_0 (aI @Ty.fo85_1 (aI @Ty.ft85_0 (aI @Ty.ft85_1 (aI @Ty.if85 (aI @Ty.pl85 (aI @Ty.sz85 (aI @Ty.un85 (aI @Ty.unn85 (aI @Ty.zr85 (aI @Ty.ag92 (aI @Ty.by92 (aI @Ty.ef92 (aI @Ty.fo92_0 (aI @Ty.fo92_1 (aI @Ty.fo92_2 (aI @Ty.fo92_3 (aI @Ty.ft92_0 (aI @Ty.ft92_1 (aI @Ty.ft92_2 (aI @Ty.ft92_3 (aI @Ty.if92 (aI @Ty.pl92 (aI @Ty.sz92 (aI @Ty.un92 (aI @Ty.unn92 (@Ty.zr92))))))))))))))))))))))))))))))))))))))))))))))))))))))))))))))))))))))))))))))))))))))))))))
theorem t73 : type_of% tkd73 := tkd73
def tkd74 := (aI @Ty.ag3 (aI @Ty.by3 (aI @Ty.if3 (aI @Ty.in3 (aI @Ty.sz3 (aI @Ty.un3 (aI @Ty.unn3 (aI @Ty.zr3 (aI @Ty.ag31 (aI @Ty.by31 (aI @Ty.el31 (aI @Ty.if31 (aI @Ty.ni31 (aI @Ty.sz31 (aI @Ty.un31 (aI @Ty.unn31 (aI @Ty.zr31 (aI @Ty.ag92 (aI @Ty.by92 (aI @Ty.ef92 (aI @Ty.fo92_0 (aI @Ty.fo92_1 (aI @Ty.fo92_2 (aI @Ty.fo92_3 (aI @Ty.ft92_0 (aI @Ty.ft92_1 (aI @Ty.ft92_2 (aI @Ty.ft92_3 (aI @Ty.if92 (aI @Ty.pl92 (aI @Ty.sz92 (aI @Ty.un92 (aI @Ty.unn92 (@Ty.zr92))))))))))))))))))))))))))))))))))
theorem t74 : type_of% tkd74 := tkd74
def tkd75 := (aI @Ty.ag1 (aI @Ty.by1 (aI @Ty.if1 (aI @Ty.sz1 (aI @Ty.un1 (aI @Ty.unn1 (aI @Ty.zr1 (aI @Ty.ag2 (aI @Ty.by2 (aI @Ty.if2 (aI @Ty.in2 (aI @Ty.sz2 (aI @Ty.un2 (aI @Ty.unn2 (aI @Ty.zr2 (aI @Ty.ag3 (aI @Ty.by3 (aI @Ty.if3 (aI @Ty.in3 (aI @Ty.sz3 (aI @Ty.un3 (aI @Ty.unn3 (aI @Ty.zr3 (aI @Ty.ag4 (aI @Ty.bo4 (aI @Ty.by4 (aI @Ty.if4 (aI @Ty.sz4 (aI @Ty.un4 (aI @Ty.unn4 (aI @Ty.zr4 (aI @Ty.ag24 (aI @Ty.by24 (aI @Ty.fo24_0 (aI @Ty.fo24_1 (aI @Ty.fo24_2 (aI @Ty.ft24_0 (aI @Ty.ft24_1 (aI @Ty.ft24_2 (aI @Ty.if24 (aI @Ty.pl24 (aI @Ty.sz24 (aI @Ty.un24 (aI @Ty.unn24 (aI @Ty.zr24 (aI @Ty.ag29 (aI @Ty.by29 (aI @Ty.el29 (aI @Ty.if29 (aI @Ty.ni29 (aI @Ty.sz29 (aI @Ty.un29 (aI @Ty.unn29 (aI @Ty.zr29 (aI @Ty.ag30 (aI @Ty.by30 (aI @Ty.el30 (aI @Ty.if30 (aI @Ty.ni30 (aI @Ty.sz30 (aI @Ty.un30 (aI @Ty.unn30 (aI @Ty.zr30 (aI @Ty.ag33 (aI @Ty.by33 (aI @Ty.fo33_0 (aI @Ty.fo33_1 (aI @Ty.fo33_2 (aI @Ty.fo33_3 (aI @Ty.ft33_0 (aI @Ty.ft33_1 (aI @Ty.ft33_2 (aI @Ty.ft33_3 (aI @Ty.if33 (aI @Ty.pl33 (aI @Ty.sz33 (aI @Ty.un33 (aI @Ty.unn33 (aI @Ty.zr33 (aI @Ty.ag68 (aI @Ty.by68 (aI @Ty.ef68 (aI @Ty.fo68_0 (aI @Ty.fo68_1 (aI @Ty.fo68_2 (aI @Ty.fo68_3 (aI @Ty.ft68_0 (aI @Ty.ft68_1 (aI @Ty.ft68_2 (aI @Ty.ft68_3 (aI @Ty.if68 (aI @Ty.pl68 (aI @Ty.sz68 (aI @Ty.un68 (aI @Ty.unn68 (aI @Ty.zr68 (aI @Ty.ag78 (aI @Ty.by78 (aI @Ty.el78 (aI @Ty.if78 (aI @Ty.ni78 (aI @Ty.sz78 (aI @Ty.un78 (aI @Ty.unn78 (aI @Ty.zr78 (aI @Ty.ag80 (aI @Ty.by80 (aI @Ty.fo80_0 (aI @Ty.fo80_1 (aI @Ty.ft80_0 (aI @Ty.ft80_1 (aI @Ty.if80 (aI @Ty.pl80 (aI @Ty.sz80 (aI @Ty.un80 (aI @Ty.unn80 (aI @Ty.zr80 (aI @Ty.ag83 (aI @Ty.by83 (aI @Ty.if83 (aI @Ty.po83 (aI @Ty.sz83 (aI @Ty.un83 (aI @Ty.unn83 (aI @Ty.zr83 (aI @Ty.ag85 (aI @Ty.by85 (aI @Ty.fo85_0 (aI @Ty.fo85_1 (aI @Ty.ft85_0 (aI @Ty.ft85_1 (aI @Ty.if85 (aI @Ty.pl85 (aI @Ty.sz85 (aI @Ty.un85 (aI @Ty.unn85 (aI @Ty.zr85 (aI @Ty.ag90 (aI @Ty.by90 (aI @Ty.ef90 (aI @Ty.fo90_0 (aI @Ty.fo90_1 (aI @Ty.fo90_2 (aI @Ty.fo90_3 (aI @Ty.fo90_4 (aI @Ty.ft90_0 (aI @Ty.ft90_1 (aI @Ty.ft90_2 (aI @Ty.ft90_3 (aI @Ty.ft90_4 (aI @Ty.if90 (aI @Ty.pl90 (aI @Ty.sz90 (aI @Ty.un90 (aI @Ty.unn90 (aI @Ty.zr90 (aI @Ty.ag92 (aI @Ty.by92 (aI @Ty.ef92 (aI @Ty.fo92_0 (aI @Ty.fo92_1 (aI @Ty.fo92_2 (aI @Ty.fo92_3 (aI @Ty.ft92_0 (aI @Ty.ft92_1 (aI @Ty.ft92_2 (aI @Ty.ft92_3 (aI @Ty.if92 (aI @Ty.pl92 (aI @Ty.sz92 (aI @Ty.un92 (aI @Ty.unn92 (@Ty.zr92)))))))))))))))))))))))))))))))))))))))))))))))))))))))))))))))))))))))))))))))))))))))))))))))))))))))))))))))))))))))))))))))))))))))))))))))))))))))))))))))))))))))))))))
theorem t75 : type_of% tkd75 := tkd75
def tkd76 := (aI @Ty.ag1 (aI @Ty.by1 (aI @Ty.if1 (aI @Ty.sz1 (aI @Ty.un1 (aI @Ty.unn1 (aI @Ty.zr1 (aI @Ty.ag2 (aI @Ty.by2 (aI @Ty.if2 (aI @Ty.in2 (aI @Ty.sz2 (aI @Ty.un2 (aI @Ty.unn2 (aI @Ty.zr2 (aI @Ty.ag3 (aI @Ty.by3 (aI @Ty.if3 (aI @Ty.in3 (aI @Ty.sz3 (aI @Ty.un3 (aI @Ty.unn3 (aI @Ty.zr3 (aI @Ty.ag22 (aI @Ty.by22 (aI @Ty.el22 (aI @Ty.if22 (aI @Ty.ni22 (aI @Ty.sz22 (aI @Ty.un22 (aI @Ty.unn22 (aI @Ty.zr22 (aI @Ty.ag24 (aI @Ty.by24 (aI @Ty.fo24_0 (aI @Ty.fo24_1 (aI @Ty.fo24_2 (aI @Ty.ft24_0 (aI @Ty.ft24_1 (aI @Ty.ft24_2 (aI @Ty.if24 (aI @Ty.pl24 (aI @Ty.sz24 (aI @Ty.un24 (aI @Ty.unn24 (aI @Ty.zr24 (aI @Ty.ag30 (aI @Ty.by30 (aI @Ty.el30 (aI @Ty.if30 (aI @Ty.ni30 (aI @Ty.sz30 (aI @Ty.un30 (aI @Ty.unn30 (aI @Ty.zr30 (aI @Ty.ag33 (aI @Ty.by33 (aI @Ty.fo33_0 (aI @Ty.fo33_1 (aI @Ty.fo33_2 (aI @Ty.fo33_3 (aI @Ty.ft33_0 (aI @Ty.ft33_1 (aI @Ty.ft33_2 (aI @Ty.ft33_3 (aI @Ty.if33 (aI @Ty.pl33 (aI @Ty.sz33 (aI @Ty.un33 (aI @Ty.unn33 (aI @Ty.zr33 (aI @Ty.ag78 (aI @Ty.by78 (aI @Ty.el78 (aI @Ty.if78 (aI @Ty.ni78 (aI @Ty.sz78 (aI @Ty.un78 (aI @Ty.unn78 (aI @Ty.zr78 (aI @Ty.ag80 (aI @Ty.by80 (aI @Ty.fo80_0 (aI @Ty.fo80_1 (aI @Ty.ft80_0 (aI @Ty.ft80_1 (aI @Ty.if80 (aI @Ty.pl80 (aI @Ty.sz80 (aI @Ty.un80 (aI @Ty.unn80 (aI @Ty.zr80 (aI @Ty.ag90 (aI @Ty.by90 (aI @Ty.ef90 (aI @Ty.fo90_0 (aI @Ty.fo90_1 (aI @Ty.fo90_2 (aI @Ty.fo90_3 (aI @Ty.fo90_4 (aI @Ty.ft90_0 (aI @Ty.ft90_1 (aI @Ty.ft90_2 (aI @Ty.ft90_3 (aI @Ty.ft90_4 (aI @Ty.if90 (aI @Ty.pl90 (aI @Ty.sz90 (aI @Ty.un90 (aI @Ty.unn90 (aI @Ty.zr90 (aI @Ty.ag118 (aI @Ty.by118 (aI @Ty.if118 (aI @Ty.sz118 (aI @Ty.un118 (aI @Ty.unn118 (@Ty.zr118))))))))))))))))))))))))))))))))))))))))))))))))))))))))))))))))))))))))))))))))))))))))))))))))))))))))))))))))))))))
theorem t76 : type_of% tkd76 := tkd76
def tkd77 := (aI @Ty.ag1 (aI @Ty.by1 (aI @Ty.if1 (aI @Ty.sz1 (aI @Ty.un1 (aI @Ty.unn1 (aI @Ty.zr1 (aI @Ty.ag2 (aI @Ty.by2 (aI @Ty.if2 (aI @Ty.in2 (aI @Ty.sz2 (aI @Ty.un2 (aI @Ty.unn2 (aI @Ty.zr2 (aI @Ty.ag3 (aI @Ty.by3 (aI @Ty.if3 (aI @Ty.in3 (aI @Ty.sz3 (aI @Ty.un3 (aI @Ty.unn3 (aI @Ty.zr3 (aI @Ty.ag4 (aI @Ty.bo4 (aI @Ty.by4 (aI @Ty.if4 (aI @Ty.sz4 (aI @Ty.un4 (aI @Ty.unn4 (aI @Ty.zr4 (aI @Ty.ag29 (aI @Ty.by29 (aI @Ty.el29 (aI @Ty.if29 (aI @Ty.ni29 (aI @Ty.sz29 (aI @Ty.un29 (aI @Ty.unn29 (aI @Ty.zr29 (aI @Ty.ag33 (aI @Ty.by33 (aI @Ty.fo33_0 (aI @Ty.fo33_1 (aI @Ty.fo33_2 (aI @Ty.fo33_3 (aI @Ty.ft33_0 (aI @Ty.ft33_1 (aI @Ty.ft33_2 (aI @Ty.ft33_3 (aI @Ty.if33 (aI @Ty.pl33 (aI @Ty.sz33 (aI @Ty.un33 (aI @Ty.unn33 (aI @Ty.zr33 (aI @Ty.ag68 (aI @Ty.by68 (aI @Ty.ef68 (aI @Ty.fo68_0 (aI @Ty.fo68_1 (aI @Ty.fo68_2 (aI @Ty.fo68_3 (aI @Ty.ft68_0 (aI @Ty.ft68_1 (aI @Ty.ft68_2 (aI @Ty.ft68_3 (aI @Ty.if68 (aI @Ty.pl68 (aI @Ty.sz68 (aI @Ty.un68 (aI @Ty.unn68 (aI @Ty.zr68 (aI @Ty.ag85 (aI @Ty.by85 (aI @Ty.fo85_0 (aI @Ty.fo85_1 (aI @Ty.ft85_0 (aI @Ty.ft85_1 (aI @Ty.if85 (aI @Ty.pl85 (aI @Ty.sz85 (aI @Ty.un85 (aI @Ty.unn85 (@Ty.zr85)))))))))))))))))))))))))))))))))))))))))))))))))))))))))))))))))))))))))))))))))))))
theorem t77 : type_of% tkd77 := tkd77
def tkd78 := (aI @Ty.ag3 (aI @Ty.by3 (aI @Ty.if3 (aI @Ty.in3 (aI @Ty.sz3 (aI @Ty.un3 (aI @Ty.unn3 (aI @Ty.zr3 (aI @Ty.ag29 (aI @Ty.by29 (aI @Ty.el29 (aI @Ty.if29 (aI @Ty.ni29 (aI @Ty.sz29 (aI @Ty.un29 (aI @Ty.unn29 (aI @Ty.zr29 (aI @Ty.ag68 (aI @Ty.by68 (aI @Ty.ef68 (aI @Ty.fo68_0 (aI @Ty.fo68_1 (aI @Ty.fo68_2 (aI @Ty.fo68_3 (aI @Ty.ft68_0 (aI @Ty.ft68_1 (aI @Ty.ft68_2 (aI @Ty.ft68_3 (aI @Ty.if68 (aI @Ty.pl68 (aI @Ty.sz68 (aI @Ty.un68 (aI @Ty.unn68 (@Ty.zr68))))))))))))))))))))))))))))))))))
theorem t78 : type_of% tkd78 := tkd78
def tkd79 := (aI @Ty.ag3 (aI @Ty.by3 (aI @Ty.if3 (aI @Ty.in3 (aI @Ty.sz3 (aI @Ty.un3 (aI @Ty.unn3 (aI @Ty.zr3 (aI @Ty.ag30 (aI @Ty.by30 (aI @Ty.el30 (aI @Ty.if30 (aI @Ty.ni30 (aI @Ty.sz30 (aI @Ty.un30 (aI @Ty.unn30 (aI @Ty.zr30 (aI @Ty.ag80 (aI @Ty.by80 (aI @Ty.fo80_0 (aI @Ty.fo80_1 (aI @Ty.ft80_0 (aI @Ty.ft80_1 (aI @Ty.if80 (aI @Ty.pl80 (aI @Ty.sz80 (aI @Ty.un80 (aI @Ty.unn80 (@Ty.zr80)))))))))))))))))))))))))))))
theorem t79 : type_of% tkd79 := tkd79
def tkd80 := (aI @Ty.ag1 (aI @Ty.by1 (aI @Ty.if1 (aI @Ty.sz1 (aI @Ty.un1 (aI @Ty.unn1 (aI @Ty.zr1 (aI @Ty.ag3 (aI @Ty.by3 (aI @Ty.if3 (aI @Ty.in3 (aI @Ty.sz3 (aI @Ty.un3 (aI @Ty.unn3 (aI @Ty.zr3 (aI @Ty.ag22 (aI @Ty.by22 (aI @Ty.el22 (aI @Ty.if22 (aI @Ty.ni22 (aI @Ty.sz22 (aI @Ty.un22 (aI @Ty.unn22 (aI @Ty.zr22 (aI @Ty.ag24 (aI @Ty.by24 (aI @Ty.fo24_0 (aI @Ty.fo24_1 (aI @Ty.fo24_2 (aI @Ty.ft24_0 (aI @Ty.ft24_1 (aI @Ty.ft24_2 (aI @Ty.if24 (aI @Ty.pl24 (aI @Ty.sz24 (aI @Ty.un24 (aI @Ty.unn24 (@Ty.zr24))))))))))))))))))))))))))))))))))))))
theorem t80 : type_of% tkd80 := tkd80
def tkd81 := (aI @Ty.ag3 (aI @Ty.by3 (aI @Ty.if3 (aI @Ty.in3 (aI @Ty.sz3 (aI @Ty.un3 (aI @Ty.unn3 (aI @Ty.zr3 (aI @Ty.ag78 (aI @Ty.by78 (aI @Ty.el78 (aI @Ty.if78 (aI @Ty.ni78 (aI @Ty.sz78 (aI @Ty.un78 (aI @Ty.unn78 (aI @Ty.zr78 (aI @Ty.ag90 (aI @Ty.by90 (aI @Ty.ef90 (aI @Ty.fo90_0 (aI @Ty.fo90_1 (aI @Ty.fo90_2 (aI @Ty.fo90_3 (aI @Ty.fo90_4 (aI @Ty.ft90_0 (aI @Ty.ft90_1 (aI @Ty.ft90_2 (aI @Ty.ft90_3 (aI @Ty.ft90_4 (aI @Ty.if90 (aI @Ty.pl90 (aI @Ty.sz90 (aI @Ty.un90 (aI @Ty.unn90 (aI @Ty.zr90 (aI @Ty.ag118 (aI @Ty.by118 (aI @Ty.if118 (aI @Ty.sz118 (aI @Ty.un118 (aI @Ty.unn118 (@Ty.zr118)))))))))))))))))))))))))))))))))))))))))))
theorem t81 : type_of% tkd81 := tkd81
def tkd82 := (aI @Ty.ag3 (aI @Ty.by3 (aI @Ty.if3 (aI @Ty.in3 (aI @Ty.sz3 (aI @Ty.un3 (aI @Ty.unn3 (aI @Ty.zr3 (aI @Ty.ag90 (aI @Ty.by90 (aI @Ty.ef90 (aI @Ty.fo90_0 (aI @Ty.fo90_1 (aI @Ty.fo90_2 (aI @Ty.fo90_3 (aI @Ty.fo90_4 (aI @Ty.ft90_0 (aI @Ty.ft90_1 (aI @Ty.ft90_2 (aI @Ty.ft90_3 (aI @Ty.ft90_4 (aI @Ty.if90 (aI @Ty.pl90 (aI @Ty.sz90 (aI @Ty.un90 (aI @Ty.unn90 (@Ty.zr90)))))))))))))))))))))))))))
theorem t82 : type_of% tkd82 := tkd82
def tkd83 := (aI @Ty.ag3 (aI @Ty.by3 (aI @Ty.if3 (aI @Ty.in3 (aI @Ty.sz3 (aI @Ty.un3 (aI @Ty.unn3 (aI @Ty.zr3 (aI @Ty.ag78 (aI @Ty.by78 (aI @Ty.el78 (aI @Ty.if78 (aI @Ty.ni78 (aI @Ty.sz78 (aI @Ty.un78 (aI @Ty.unn78 (aI @Ty.zr78 (aI @Ty.ag90 (aI @Ty.by90 (aI @Ty.ef90 (aI @Ty.fo90_0 (aI @Ty.fo90_1 (aI @Ty.fo90_2 (aI @Ty.fo90_3 (aI @Ty.fo90_4 (aI @Ty.ft90_0 (aI @Ty.ft90_1 (aI @Ty.ft90_2 (aI @Ty.ft90_3 (aI @Ty.ft90_4 (aI @Ty.if90 (aI @Ty.pl90 (aI @Ty.sz90 (aI @Ty.un90 (aI @Ty.unn90 (@Ty.zr90))))))))))))))))))))))))))))))))))))
theorem t83 : type_of% tkd83 := tkd83
def tkd84 := (aI @Ty.ag3 (aI @Ty.by3 (aI @Ty.if3 (aI @Ty.in3 (aI @Ty.sz3 (aI @Ty.un3 (aI @Ty.unn3 (aI @Ty.zr3 (aI @Ty.ag90 (aI @Ty.by90 (aI @Ty.ef90 (aI @Ty.fo90_0 (aI @Ty.fo90_1 (aI @Ty.fo90_2 (aI @Ty.fo90_3 (aI @Ty.fo90_4 (aI @Ty.ft90_0 (aI @Ty.ft90_1 (aI @Ty.ft90_2 (aI @Ty.ft90_3 (aI @Ty.ft90_4 (aI @Ty.if90 (aI @Ty.pl90 (aI @Ty.sz90 (aI @Ty.un90 (aI @Ty.unn90 (@Ty.zr90)))))))))))))))))))))))))))
theorem t84 : type_of% tkd84 := tkd84
end Tk
end Go.Proofs.Ytgmncggiblaciaa

/- The chapter's values as plain data; what its functions compute, plainly. -/
namespace Go.Proofs.Ytgmncggiblaciaa
open Go Go.Proofs.Ytgmncggiblaciaa.Ab

/-! the first index at which something is so -/
def firstIx (n : Nat) (p : Nat → Bool) : Option Nat := (List.range n).find? p

theorem firstIx_some {n i : Nat} {p : Nat → Bool} (hi : i < n) (hp : p i = true) (h : ∀ j, j < i → p j = false) : firstIx n p = some i := by
  unfold firstIx
  rw [List.find?_range_eq_some]
  exact ⟨hp, by simpa using hi, fun j hj => by simp [h j hj]⟩

theorem firstIx_none {n : Nat} {p : Nat → Bool} (h : ∀ j, j < n → p j = false) : firstIx n p = none := by
  unfold firstIx
  rw [List.find?_range_eq_none]
  intro j hj; simp [h j hj]

/-! values -/
def iv (n : Int) : AV := .v (.int .i64 n)
def bv (b : Bool) : AV := .v (.bool b)
def ints (l : List Int) : AV := .lst 1 (l.map fun x => [.v (.int .i64 x)]) .unk

structure Case where
  hosts : Int
  place : List Int
  verd : List Int
def caseV (c : Case) : AV := .agg [.v (.int .i64 c.hosts), ints c.place, ints c.verd]

def within (n lo hi : Int) : Bool := decide (lo ≤ n) && decide (n ≤ hi)
def isVerdict (n : Int) : Bool := within n 0 4

def badPlace (c : Case) (i : Nat) : Bool := !within (c.place.getD i 0) 0 (IntKind.i64.wrap (c.hosts - 1)) || !isVerdict (c.verd.getD i 0)
def checkCase (c : Case) : Int × Int :=
  if !within c.hosts 1 4 then (0, 3) else
  if c.place.length = 0 then (0, 1) else
  if 6 < c.place.length then (0, 2) else
  if c.verd.length ≠ c.place.length then (0, 6) else
  match firstIx c.place.length (badPlace c) with
  | some i => (i, 3)
  | none => (0, 0)

theorem FZs.ints (l : List Int) : FZs [ints l] := FZs.cons (FZ.lst rfl fun r hr => by
  obtain ⟨x, _, rfl⟩ := List.mem_map.mp hr
  exact FZs.cons (FZ.v _) FZs.nil) FZs.nil
theorem FZ.ints (l : List Int) : FZ (ints l) := FZs.ints l _ (by simp)
theorem FZ.caseV (c : Case) : FZ (caseV c) := FZ.agg (FZs.cons (FZ.v _) (FZs.cons (FZ.ints _) (FZs.cons (FZ.ints _) FZs.nil)))

theorem fin_v {x y : Value} {H' : AH} (h : x = y) : ∃ v v', AOut.ret (.v x) = .ret v ∧ View H' v v' ∧ FZ v' ∧ v' = .v y := by
  subst h; exact ⟨_, _, rfl, (FZ.v x).view, FZ.v x, rfl⟩
theorem fin_t2 {x y x' y' : Value} {H' : AH} (h : x = x') (h' : y = y') : ∃ v v', AOut.ret (.tup [.v x, .v y]) = .ret v ∧ View H' v v' ∧ FZ v' ∧ v' = .tup [.v x', .v y'] := by
  subst h; subst h'
  have : FZ (.tup [.v x, .v y]) := FZ.tup (FZs.cons (FZ.v _) (FZs.cons (FZ.v _) FZs.nil))
  exact ⟨_, _, rfl, this.view, this, rfl⟩
theorem fin_p {x y : Int} {p : Int × Int} {H' : AH} (h : p = (x, y)) : ∃ v v', AOut.ret (.tup [.v (.int .i64 x), .v (.int .i64 y)]) = .ret v ∧ View H' v v' ∧ FZ v' ∧ v' = .tup [.v (.int .i64 p.1), .v (.int .i64 p.2)] := by
  subst h; exact fin_t2 rfl rfl
theorem getD_ints (l : List Int) (i : Nat) (h : i < l.length) : (l.map fun x => [AV.v (.int .i64 x)]).getD i [] = [.v (.int .i64 (l.getD i 0))] := by
  rw [List.getD_eq_getElem?_getD, List.getElem?_map, List.getElem?_eq_getElem h, List.getD_eq_getElem?_getD, List.getElem?_eq_getElem h]; rfl
theorem wrapS {i : Nat} (h : i < 2 ^ 62) : IntKind.i64.wrap ((i : Int) + 1) = ((i + 1 : Nat) : Int) := by
  simp [IntKind.wrap, IntKind.bits, IntKind.signed]
  omega
theorem wrapI {x : Int} (h : -(2 ^ 63) ≤ x) (h' : x < 2 ^ 63) : IntKind.i64.wrap x = x := by
  simp [IntKind.wrap, IntKind.bits, IntKind.signed]
  omega

structure Pl where
  tr : Int
  cr : Bool
  tk : Bool
  v : Int
deriving Inhabited, DecidableEq
structure Pt where
  part : Int
  ended : Bool
  seen : Bool
  v : Int
  tr : Int
deriving Inhabited, DecidableEq
structure Hs where
  lost : Bool
  parts : List Pt
deriving Inhabited, DecidableEq
structure Pk where
  kind : Int
  host : Int
  part : Int
  v : Int
deriving Inhabited, DecidableEq
structure Stt where
  placed : List Pl
  v : Int
  hosts : List Hs
  net : List Pk
deriving Inhabited, DecidableEq
structure Ac where
  kind : Int
  n : Int
deriving Inhabited, DecidableEq

def plR (p : Pl) : List AV := [.v (.int .i64 p.tr), .v (.bool p.cr), .v (.bool p.tk), .v (.int .i64 p.v)]
def ptR (p : Pt) : List AV := [.v (.int .i64 p.part), .v (.bool p.ended), .v (.bool p.seen), .v (.int .i64 p.v), .v (.int .i64 p.tr)]
def ptsV (l : List Pt) : AV := .lst 5 (l.map ptR) .unk
def hsR (h : Hs) : List AV := [.v (.bool h.lost), ptsV h.parts]
def pkR (p : Pk) : List AV := [.v (.int .i64 p.kind), .v (.int .i64 p.host), .v (.int .i64 p.part), .v (.int .i64 p.v)]
def plsV (l : List Pl) : AV := .lst 4 (l.map plR) .unk
def hssV (l : List Hs) : AV := .lst 2 (l.map hsR) .unk
def pksV (l : List Pk) : AV := .lst 4 (l.map pkR) .unk
def stL (s : Stt) : List AV := [plsV s.placed, .v (.int .i64 s.v), hssV s.hosts, pksV s.net]
def stV (s : Stt) : AV := .agg (stL s)
def acR (a : Ac) : List AV := [.v (.int .i64 a.kind), .v (.int .i64 a.n)]
def acV (a : Ac) : AV := .agg (acR a)
def acsV (l : List Ac) : AV := .lst 2 (l.map acR) .unk

theorem getD_map {α : Type} [Inhabited α] (f : α → List AV) (l : List α) (i : Nat) (h : i < l.length) : (l.map f).getD i [] = f (l.getD i default) := by
  rw [List.getD_eq_getElem?_getD, List.getElem?_map, List.getElem?_eq_getElem h, List.getD_eq_getElem?_getD, List.getElem?_eq_getElem h]; rfl

/-! frozen, all of them -/
theorem FZs.vs (l : List Value) : FZs (l.map .v) := fun a ha => by
  obtain ⟨x, _, rfl⟩ := List.mem_map.mp ha
  exact FZ.v x
theorem FZs.plR (p : Pl) : FZs (plR p) := FZs.vs [_, _, _, _]
theorem FZs.ptR (p : Pt) : FZs (ptR p) := FZs.vs [_, _, _, _, _]
theorem FZs.pkR (p : Pk) : FZs (pkR p) := FZs.vs [_, _, _, _]
theorem FZs.acR (p : Ac) : FZs (acR p) := FZs.vs [_, _]
theorem FZ.rows {α : Type} {k : Nat} {f : α → List AV} {tip : Tip} (ht : tip.stays = true) (h : ∀ a, FZs (f a)) (l : List α) : FZ (.lst k (l.map f) tip) := FZ.lst ht fun r hr => by
  obtain ⟨x, _, rfl⟩ := List.mem_map.mp hr
  exact h x
theorem FZ.ptsV (l : List Pt) : FZ (ptsV l) := FZ.rows rfl FZs.ptR l
theorem FZ.plsV (l : List Pl) : FZ (plsV l) := FZ.rows rfl FZs.plR l
theorem FZ.pksV (l : List Pk) : FZ (pksV l) := FZ.rows rfl FZs.pkR l
theorem FZ.acsV (l : List Ac) : FZ (acsV l) := FZ.rows rfl FZs.acR l
theorem FZs.hsR (h : Hs) : FZs (hsR h) := FZs.cons (FZ.v _) (FZs.cons (FZ.ptsV _) FZs.nil)
theorem FZ.hssV (l : List Hs) : FZ (hssV l) := FZ.rows rfl FZs.hsR l
theorem FZs.stL (s : Stt) : FZs (stL s) := FZs.cons (FZ.plsV _) (FZs.cons (FZ.v _) (FZs.cons (FZ.hssV _) (FZs.cons (FZ.pksV _) FZs.nil)))
theorem FZ.stV (s : Stt) : FZ (stV s) := FZ.agg (FZs.stL s)
theorem FZ.acV (a : Ac) : FZ (acV a) := FZ.agg (FZs.acR a)
theorem FZs.one {a : AV} (h : FZ a) : FZs [a] := FZs.cons h FZs.nil
theorem FZs.two {a b : AV} (h : FZ a) (h' : FZ b) : FZs [a, b] := FZs.cons h (FZs.one h')
theorem FZs.three {a b c : AV} (h : FZ a) (h' : FZ b) (h'' : FZ c) : FZs [a, b, c] := FZs.cons h (FZs.two h' h'')
theorem FZs.four {a b c d : AV} (h : FZ a) (h' : FZ b) (h'' : FZ c) (h3 : FZ d) : FZs [a, b, c, d] := FZs.cons h (FZs.three h' h'' h3)

/-! what is checked -/
def placedE (p : Pl) : Int := if !within p.tr 0 3 || !isVerdict p.v then 3 else if !p.tk && !(p.v == 0) then 28 else 0
def isPlaced (c : Case) (part host : Int) : Bool := within part 0 (c.place.length - 1) && c.place.getD part.toNat 0 == host
def partE (c : Case) (host : Int) (before : List Pt) (p : Pt) : Int :=
  if !isPlaced c p.part host then 11 else
  if before.any (fun q => q.part == p.part) then 13 else
  if !p.ended && (p.seen || !(p.v == 0) || !(p.tr == 0)) then 28 else
  if p.ended && (!(p.v == c.verd.getD p.part.toNat 0) || !within p.tr 1 3) then 3 else 0
def packetE (c : Case) (p : Pk) : Int :=
  if !within p.kind 0 3 then 4 else
  if !within p.host 0 (IntKind.i64.wrap (c.hosts - 1)) then 3 else
  if !isPlaced c p.part p.host then 11 else
  if (p.kind == 2 && !(p.v == c.verd.getD p.part.toNat 0)) || (!(p.kind == 2) && !(p.v == 0)) then 3 else 0

def ixOf (o : Option Nat) : Int := match o with | some i => i | none => -1
def ixFn {α : Type} [Inhabited α] (l : List α) (p : α → Bool) : Option Nat := firstIx l.length fun i => p (l.getD i default)

theorem ixFn_any {α : Type} [Inhabited α] (l : List α) (p : α → Bool) : decide (ixOf (ixFn l p) ≥ 0) = l.any p := by
  cases h : ixFn l p with
  | none =>
    unfold ixFn firstIx at h
    rw [List.find?_range_eq_none] at h
    have : l.any p = false := by
      rw [List.any_eq_false]
      intro x hx
      obtain ⟨j, hj, rfl⟩ := List.getElem_of_mem hx
      have := h j hj
      rw [List.getD_eq_getElem?_getD, List.getElem?_eq_getElem hj] at this
      simpa using this
    rw [this]; rfl
  | some i =>
    unfold ixFn firstIx at h
    rw [List.find?_range_eq_some] at h
    obtain ⟨h1, h2, _⟩ := h
    have hi : i < l.length := by simpa using h2
    have : l.any p = true := by
      rw [List.any_eq_true]
      refine ⟨l.getD i default, ?_, h1⟩
      rw [List.getD_eq_getElem?_getD, List.getElem?_eq_getElem hi]; exact List.getElem_mem hi
    rw [this]
    have : (0 : Int) ≤ (i : Int) := by omega
    simp [ixOf]

theorem fin_lst {k : Nat} {rows rows' : List (List AV)} {tip : Tip} {H' : AH} (hr : rows = rows') (h : ∀ r ∈ rows, FZs r) : ∃ v v', AOut.ret (.lst k rows tip) = .ret v ∧ View H' v v' ∧ FZ v' ∧ v' = .lst k rows' .unk := by
  subst hr
  exact ⟨_, _, rfl, View.tip h, FZ.lst rfl h, rfl⟩
theorem FZs.rowsOf {α : Type} {f : α → List AV} (h : ∀ a, FZs (f a)) (l : List α) : ∀ r ∈ l.map f, FZs r := fun r hr => by
  obtain ⟨x, _, rfl⟩ := List.mem_map.mp hr
  exact h x
theorem fin_agg {cs : List AV} {H' : AH} (h : FZs cs) : ∃ v v', AOut.ret (.agg cs) = .ret v ∧ View H' v v' ∧ FZ v' ∧ v' = .agg cs := ⟨_, _, rfl, (FZ.agg h).view, FZ.agg h, rfl⟩
theorem room_of {by_ n : Nat} (h : n * by_ ≤ 140737488355328) (h' : n ≤ 140737488355328) : roomA by_ n = true := by simp [roomA, h, h']
end Go.Proofs.Ytgmncggiblaciaa

/- Plain: states, checked. -/
namespace Go.Proofs.Ytgmncggiblaciaa
open Go Go.Proofs.Ytgmncggiblaciaa.Ab

/-- the first one that is not 0 -/
def firstE (n : Nat) (e : Nat → Int) : Option Nat := firstIx n fun i => !(e i == 0)
def hostEs (c : Case) (host : Int) (parts : List Pt) (k : Nat) : Int := partE c host (parts.take k) (parts.getD k default)
def hostE (c : Case) (host : Int) (parts : List Pt) : Int := match firstE parts.length (hostEs c host parts) with | some k => hostEs c host parts k | none => 0
def worstP (l : List Pl) : Int := l.foldl (fun w p => if p.v > w then p.v else w) 0
def placedEs (s : Stt) (i : Nat) : Int := placedE (s.placed.getD i default)
def placedChk (s : Stt) : Int × Int := match firstE s.placed.length (placedEs s) with
  | some i => (i, placedEs s i)
  | none => if worstP s.placed == s.v then (0, 0) else (0, 3)
def hostsE (c : Case) (s : Stt) (i : Nat) : Int := hostE c i (s.hosts.getD i default).parts
def netE (c : Case) (s : Stt) (i : Nat) : Int := packetE c (s.net.getD i default)
def manyParts (h : Hs) : Bool := decide ((h.parts.length : Int) > 6)
def checkState (c : Case) (s : Stt) : Int × Int :=
  if !((checkCase c).2 == 0) then (0, (checkCase c).2) else
  if !((s.placed.length : Int) == (c.place.length : Int)) || !((s.hosts.length : Int) == c.hosts) then (0, 6) else
  if decide ((s.net.length : Int) > 12) || s.hosts.any manyParts then (0, 2) else
  if !((placedChk s).2 == 0) then placedChk s else
  match firstE s.hosts.length (hostsE c s) with
  | some i => (i, hostsE c s i)
  | none => match firstE s.net.length (netE c s) with
    | some i => (i, netE c s i)
    | none => (0, 0)

theorem firstE_some {n i : Nat} {e : Nat → Int} (hi : i < n) (hp : (e i == 0) = false) (h : ∀ j, j < i → (e j == 0) = true) : firstE n e = some i :=
  firstIx_some hi (by rw [hp]; rfl) fun j hj => by rw [h j hj]; rfl
theorem firstE_none {n : Nat} {e : Nat → Int} (h : ∀ j, j < n → (e j == 0) = true) : firstE n e = none :=
  firstIx_none fun j hj => by rw [h j hj]; rfl
theorem until_succ {i : Nat} {p : Nat → Prop} (h : ∀ j, j < i → p j) (hi : p i) : ∀ j, j < i + 1 → p j := fun j hj => by
  rcases Nat.lt_succ_iff_lt_or_eq.mp hj with h' | h'
  · exact h j h'
  · subst h'; exact hi
theorem any_take {α : Type} [Inhabited α] {l : List α} {p : α → Bool} {i : Nat} (hi : i ≤ l.length) (h : ∀ j, j < i → p (l.getD j default) = false) : (l.take i).any p = false := by
  rw [List.any_eq_false]
  intro x hx
  obtain ⟨j, hj, rfl⟩ := List.getElem_of_mem hx
  simp only [List.length_take] at hj
  have := h j (by omega)
  rw [List.getD_eq_getElem?_getD, List.getElem?_eq_getElem (by omega)] at this
  rw [List.getElem_take]; simpa using this
theorem any_take_of {α : Type} [Inhabited α] {l : List α} {p : α → Bool} {i j : Nat} (hi : i ≤ l.length) (hj : j < i) (h : p (l.getD j default) = true) : (l.take i).any p = true := by
  rw [List.any_eq_true]
  refine ⟨l.getD j default, ?_, h⟩
  rw [List.getD_eq_getElem?_getD, List.getElem?_eq_getElem (by omega)]
  exact List.mem_take_iff_getElem.mpr ⟨j, by omega, rfl⟩
end Go.Proofs.Ytgmncggiblaciaa

/- Plain: acts of hosts, what they keep, that they end. -/
namespace Go.Proofs.Ytgmncggiblaciaa
open Go Go.Proofs.Ytgmncggiblaciaa.Ab
/-! acts -/
def hostOf (c : Case) (s : Stt) (part : Int) : Hs := s.hosts.getD (c.place.getD part.toNat 0).toNat default
def partIx (l : List Pt) (part : Int) : Option Nat := ixFn l fun p => p.part == part
def partAt (c : Case) (s : Stt) (part : Int) : Option Nat := partIx (hostOf c s part).parts part
def tellable (c : Case) (s : Stt) (a : Ac) : Bool :=
  match partAt c s a.n with
  | none => false
  | some k => if (hostOf c s a.n).lost then false else
    if a.kind == 4 then !((hostOf c s a.n).parts.getD k default).ended
    else ((hostOf c s a.n).parts.getD k default).ended && !((hostOf c s a.n).parts.getD k default).seen && decide (((hostOf c s a.n).parts.getD k default).tr < 3)
def isPossible (c : Case) (s : Stt) (a : Ac) : Bool :=
  if a.kind == 1 || a.kind == 2 then within a.n 0 ((s.net.length : Int) - 1) else
  if a.kind == 3 then within a.n 0 ((s.net.length : Int) - 1) && decide ((s.net.length : Int) < 12) else
  if a.kind == 6 then within a.n 0 (c.hosts - 1) && !(s.hosts.getD a.n.toNat default).lost else
  if !within a.n 0 ((c.place.length : Int) - 1) then false else
  if a.kind == 0 then !(s.placed.getD a.n.toNat default).tk && decide ((s.placed.getD a.n.toNat default).tr < 3) else
  if a.kind == 7 then !(s.placed.getD a.n.toNat default).tk else tellable c s a
def actE (c : Case) (s : Stt) (a : Ac) : Int :=
  if !within a.kind 0 7 then 4 else if !isPossible c s a then 28 else 0

def sendP (l : List Pk) (p : Pk) : List Pk := if l.length < 12 then l ++ [p] else l
def takeS (s : Stt) (part v : Int) : Stt :=
  { s with placed := s.placed.set part.toNat { s.placed.getD part.toNat default with tk := true, v := v }, v := if v > s.v then v else s.v }
def setHost (s : Stt) (h : Nat) (x : Hs) : Stt := { s with hosts := s.hosts.set h x }
/-- a packet arrives, that is no longer on the way -/
def deliverS (c : Case) (s : Stt) (p : Pk) : Stt :=
  let h := s.hosts.getD p.host.toNat default
  if p.kind == 0 then
    if h.lost then s else
    let s1 := match partAt c s p.part with
      | none => setHost s p.host.toNat { h with parts := h.parts ++ ([⟨p.part, false, false, 0, 0⟩] : List Pt) }
      | some _ => s
    { s1 with net := sendP s1.net ⟨1, p.host, p.part, 0⟩ }
  else if p.kind == 1 then { s with placed := s.placed.set p.part.toNat { s.placed.getD p.part.toNat default with cr := true } }
  else if p.kind == 2 then
    let s1 := if (s.placed.getD p.part.toNat default).tk then s else takeS s p.part p.v
    { s1 with net := sendP s1.net ⟨3, p.host, p.part, 0⟩ }
  else if p.kind == 3 then
    match partAt c s p.part with
    | none => s
    | some k => if h.lost then s else if (h.parts.getD k default).ended then setHost s p.host.toNat { h with parts := h.parts.set k { h.parts.getD k default with seen := true } } else s
  else s
def actS (c : Case) (s : Stt) (a : Ac) : Stt :=
  if a.kind == 0 then
    { s with placed := s.placed.set a.n.toNat { s.placed.getD a.n.toNat default with tr := (s.placed.getD a.n.toNat default).tr + 1 }, net := sendP s.net ⟨0, c.place.getD a.n.toNat 0, a.n, 0⟩ }
  else if a.kind == 1 then deliverS c { s with net := s.net.eraseIdx a.n.toNat } (s.net.getD a.n.toNat default)
  else if a.kind == 2 then { s with net := s.net.eraseIdx a.n.toNat }
  else if a.kind == 3 then { s with net := sendP s.net (s.net.getD a.n.toNat default) }
  else if a.kind == 4 || a.kind == 5 then
    match partAt c s a.n with
    | none => s
    | some k =>
      let h := hostOf c s a.n; let x := h.parts.getD k default
      { setHost s (c.place.getD a.n.toNat 0).toNat { h with parts := h.parts.set k { x with ended := true, v := c.verd.getD a.n.toNat 0, tr := x.tr + 1 } } with
        net := sendP s.net ⟨2, c.place.getD a.n.toNat 0, a.n, c.verd.getD a.n.toNat 0⟩ }
  else if a.kind == 6 then setHost s a.n.toNat { s.hosts.getD a.n.toNat default with lost := true }
  else if a.kind == 7 then takeS s a.n 4
  else s

def startS (c : Case) : Stt := ⟨List.replicate c.place.length ⟨0, false, false, 0⟩, 0, List.replicate c.hosts.toNat ⟨false, []⟩, []⟩
def overS (s : Stt) : Bool := s.placed.all (·.tk)
def worstI (l : List Int) : Int := l.foldl (fun w x => if x > w then x else w) 0

/-! validity -/
structure CaseOk (c : Case) : Prop where
  h1 : 1 ≤ c.hosts
  h4 : c.hosts ≤ 4
  p1 : 1 ≤ c.place.length
  p6 : c.place.length ≤ 6
  vl : c.verd.length = c.place.length
  pl : ∀ i, i < c.place.length → 0 ≤ c.place.getD i 0 ∧ c.place.getD i 0 < c.hosts ∧ 0 ≤ c.verd.getD i 0 ∧ c.verd.getD i 0 ≤ 4

theorem firstIx_eq_none {n : Nat} {p : Nat → Bool} : firstIx n p = none ↔ ∀ j, j < n → p j = false := by
  unfold firstIx; rw [List.find?_range_eq_none]; simp
theorem firstIx_eq_some {n i : Nat} {p : Nat → Bool} : firstIx n p = some i ↔ p i = true ∧ i < n ∧ ∀ j, j < i → p j = false := by
  unfold firstIx; rw [List.find?_range_eq_some]; simp

theorem checkCase_ok {c : Case} : (checkCase c).2 = 0 ↔ CaseOk c := by
  unfold checkCase
  constructor
  · intro h
    split at h; · cases h
    split at h; · cases h
    split at h; · cases h
    split at h; · cases h
    rename_i h1 h2 h3 h4
    have h1 : within c.hosts 1 4 = true := by simpa [within] using h1
    simp only [within, Bool.and_eq_true, decide_eq_true_eq] at h1
    cases hf : firstIx c.place.length (badPlace c) with
    | some i => rw [hf] at h; cases h
    | none =>
      rw [firstIx_eq_none] at hf
      refine ⟨h1.1, h1.2, by omega, by omega, by simpa using h4, fun i hi => ?_⟩
      have := hf i hi
      have hw : IntKind.i64.wrap (c.hosts - 1) = c.hosts - 1 := wrapI (by omega) (by omega)
      simp only [badPlace, hw, isVerdict, within, Bool.or_eq_false_iff, Bool.not_eq_false', Bool.and_eq_true, decide_eq_true_eq] at this
      omega
  · intro h
    have hw : IntKind.i64.wrap (c.hosts - 1) = c.hosts - 1 := wrapI (by have := h.h1; omega) (by have := h.h4; omega)
    rw [if_neg (by simp [within, h.h1, h.h4]), if_neg (by have := h.p1; omega), if_neg (by have := h.p6; omega), if_neg (by simp [h.vl])]
    have : firstIx c.place.length (badPlace c) = none := by
      rw [firstIx_eq_none]; intro j hj
      obtain ⟨a, b, d, e⟩ := h.pl j hj
      simp only [badPlace, hw, isVerdict, within, Bool.or_eq_false_iff, Bool.not_eq_false', Bool.and_eq_true, decide_eq_true_eq]
      omega
    rw [this]

structure PtOk (c : Case) (host : Int) (p : Pt) : Prop where
  lo : 0 ≤ p.part
  hi : p.part < c.place.length
  pl : c.place.getD p.part.toNat 0 = host
  ne : p.ended = false → p.seen = false ∧ p.v = 0 ∧ p.tr = 0
  en : p.ended = true → p.v = c.verd.getD p.part.toNat 0 ∧ 1 ≤ p.tr ∧ p.tr ≤ 3
structure PkOk (c : Case) (p : Pk) : Prop where
  k0 : 0 ≤ p.kind
  k3 : p.kind ≤ 3
  lo : 0 ≤ p.part
  hi : p.part < c.place.length
  pl : c.place.getD p.part.toNat 0 = p.host
  v2 : p.kind = 2 → p.v = c.verd.getD p.part.toNat 0
  vn : p.kind ≠ 2 → p.v = 0
structure PlOk (p : Pl) : Prop where
  t0 : 0 ≤ p.tr
  t3 : p.tr ≤ 3
  v0 : 0 ≤ p.v
  v4 : p.v ≤ 4
  nt : p.tk = false → p.v = 0
def PartsOk (c : Case) (host : Int) (l : List Pt) : Prop := (∀ p ∈ l, PtOk c host p) ∧ (l.map (·.part)).Nodup

theorem isPlaced_iff {c : Case} {part host : Int} : isPlaced c part host = true ↔ 0 ≤ part ∧ part < c.place.length ∧ c.place.getD part.toNat 0 = host := by
  simp only [isPlaced, within, Bool.and_eq_true, decide_eq_true_eq, beq_iff_eq]
  constructor
  · rintro ⟨⟨a, b⟩, d⟩; exact ⟨a, by omega, d⟩
  · rintro ⟨a, b, d⟩; exact ⟨⟨a, by omega⟩, d⟩

theorem partE_ok {c : Case} {host : Int} {before : List Pt} {p : Pt} : partE c host before p = 0 ↔ PtOk c host p ∧ ∀ q ∈ before, q.part ≠ p.part := by
  unfold partE
  constructor
  · intro h
    split at h; · cases h
    split at h; · cases h
    split at h; · cases h
    split at h; · cases h
    rename_i h1 h2 h3 h4
    have h1 : isPlaced c p.part host = true := by simpa using h1
    obtain ⟨a, b, d⟩ := isPlaced_iff.mp h1
    refine ⟨⟨a, b, d, fun he => ?_, fun he => ?_⟩, fun q hq hp => h2 ?_⟩
    · simpa [he, and_assoc] using h3
    · simp only [he, within, Bool.true_and, Bool.or_eq_true, Bool.not_eq_true', Bool.and_eq_false_imp, decide_eq_true_eq, decide_eq_false_iff_not, beq_eq_false_iff_ne, ne_eq] at h4
      omega
    · rw [List.any_eq_true]; exact ⟨q, hq, by simpa using hp⟩
  · rintro ⟨h, hb⟩
    have h1 := isPlaced_iff.mpr ⟨h.lo, h.hi, h.pl⟩
    rw [if_neg (by simp [h1]), if_neg (by
      rw [List.any_eq_true]; rintro ⟨q, hq, hp⟩; exact hb q hq (by simpa using hp))]
    cases he : p.ended
    · obtain ⟨e1, e2, e3⟩ := h.ne he
      simp [e1, e2, e3]
    · obtain ⟨e1, e2, e3⟩ := h.en he
      simp only [List.getD_eq_getElem?_getD] at e1
      simp [within, e1, e2, e3]
theorem getD_mem {α : Type} [Inhabited α] {l : List α} {i : Nat} (h : i < l.length) : l.getD i default ∈ l := by
  rw [List.getD_eq_getElem?_getD, List.getElem?_eq_getElem h]; exact List.getElem_mem h
theorem mem_getD {α : Type} [Inhabited α] {l : List α} {x : α} (h : x ∈ l) : ∃ i, i < l.length ∧ l.getD i default = x := by
  obtain ⟨i, hi, rfl⟩ := List.getElem_of_mem h
  exact ⟨i, hi, by rw [List.getD_eq_getElem?_getD, List.getElem?_eq_getElem hi]; rfl⟩
theorem getD_set {α : Type} [Inhabited α] {l : List α} {i j : Nat} {x : α} (h : i < l.length) : (l.set i x).getD j default = if i = j then x else l.getD j default := by
  simp only [List.getD_eq_getElem?_getD, List.getElem?_set]
  split
  · rename_i e; subst e; first | rfl | (rw [if_pos h]; rfl)
  · rfl
theorem firstE_eq_none {n : Nat} {e : Nat → Int} : firstE n e = none ↔ ∀ j, j < n → e j = 0 := by
  unfold firstE; rw [firstIx_eq_none]
  exact ⟨fun h j hj => by simpa using h j hj, fun h j hj => by simp [h j hj]⟩
theorem firstE_eq_some {n i : Nat} {e : Nat → Int} (h : firstE n e = some i) : e i ≠ 0 ∧ i < n := by
  unfold firstE at h; rw [firstIx_eq_some] at h
  exact ⟨by simpa using h.1, h.2.1⟩

theorem nodup_le : ∀ (n : Nat) (l : List Int), l.Nodup → (∀ x ∈ l, 0 ≤ x ∧ x < (n : Int)) → l.length ≤ n
  | 0, l, _, h => by
    cases l with
    | nil => exact Nat.le_refl _
    | cons x l => have := h x (by simp); omega
  | n + 1, l, hn, h => by
    by_cases hm : (n : Int) ∈ l
    · have h1 := List.length_erase_of_mem hm
      have h2 := nodup_le n (l.erase n) (hn.erase _) fun x hx => by
        have h3 := (hn.mem_erase_iff).mp hx
        have := h x h3.2
        have := h3.1
        omega
      have : 0 < l.length := List.length_pos_of_mem hm
      omega
    · have := nodup_le n l hn fun x hx => by
        have h1 := h x hx
        have : x ≠ n := fun e => hm (e ▸ hx)
        omega
      omega
theorem PartsOk.len {c : Case} {host : Int} {l : List Pt} (h : PartsOk c host l) : l.length ≤ c.place.length := by
  have := nodup_le c.place.length (l.map (·.part)) h.2 fun x hx => by
    obtain ⟨p, hp, rfl⟩ := List.mem_map.mp hx
    exact ⟨(h.1 p hp).lo, (h.1 p hp).hi⟩
  simpa using this

theorem partsOk_iff {c : Case} {host : Int} {l : List Pt} : PartsOk c host l ↔ ∀ k, k < l.length → hostEs c host l k = 0 := by
  simp only [hostEs, partE_ok]
  constructor
  · rintro ⟨h1, h2⟩ k hk
    refine ⟨h1 _ (getD_mem hk), fun q hq he => ?_⟩
    obtain ⟨j, hj, rfl⟩ := List.mem_take_iff_getElem.mp hq
    have hj' : j < k := by omega
    have hjl : j < l.length := by omega
    rw [List.Nodup, List.pairwise_map, List.pairwise_iff_getElem] at h2
    have := h2 j k hjl hk hj'
    rw [List.getD_eq_getElem?_getD, List.getElem?_eq_getElem hk] at he
    exact this he
  · intro h
    refine ⟨fun p hp => ?_, ?_⟩
    · obtain ⟨k, hk, rfl⟩ := mem_getD hp
      exact (h k hk).1
    · rw [List.Nodup, List.pairwise_map, List.pairwise_iff_getElem]
      intro i j hi hj hij
      have := (h j hj).2 l[i] (List.mem_take_iff_getElem.mpr ⟨i, by omega, rfl⟩)
      rwa [List.getD_eq_getElem?_getD, List.getElem?_eq_getElem hj] at this

theorem hostE_ok {c : Case} {host : Int} {l : List Pt} : hostE c host l = 0 ↔ PartsOk c host l := by
  rw [partsOk_iff]; unfold hostE
  cases h : firstE l.length (hostEs c host l) with
  | none => simpa using firstE_eq_none.mp h
  | some k =>
    have := firstE_eq_some h
    simp only
    exact ⟨fun e => absurd e this.1, fun e => e k this.2⟩

theorem placedE_ok {p : Pl} : placedE p = 0 ↔ PlOk p := by
  unfold placedE
  constructor
  · intro h
    split at h; · cases h
    split at h; · cases h
    rename_i h1 h2
    simp only [isVerdict, within, Bool.or_eq_true, Bool.not_eq_true', Bool.and_eq_false_imp, decide_eq_true_eq, decide_eq_false_iff_not] at h1
    exact ⟨by omega, by omega, by omega, by omega, fun ht => by simpa [ht] using h2⟩
  · intro h
    rw [if_neg (by simp [isVerdict, within, h.t0, h.t3, h.v0, h.v4]), if_neg]
    cases ht : p.tk
    · simp [h.nt ht]
    · simp
theorem packetE_ok {c : Case} {p : Pk} (hc : CaseOk c) : packetE c p = 0 ↔ PkOk c p := by
  have hw : IntKind.i64.wrap (c.hosts - 1) = c.hosts - 1 := wrapI (by have := hc.h1; omega) (by have := hc.h4; omega)
  unfold packetE; rw [hw]
  constructor
  · intro h
    split at h; · cases h
    split at h; · cases h
    split at h; · cases h
    split at h; · cases h
    rename_i h1 h2 h3 h4
    obtain ⟨a, b, d⟩ := isPlaced_iff.mp (by simpa using h3 : isPlaced c p.part p.host = true)
    simp only [within, Bool.not_eq_true', Bool.and_eq_false_imp, decide_eq_true_eq, decide_eq_false_iff_not] at h1
    simp only [Bool.or_eq_true, Bool.and_eq_true, Bool.not_eq_true', beq_eq_false_iff_ne, beq_iff_eq, ne_eq, not_or, not_and] at h4
    refine ⟨by omega, by omega, a, b, d, fun e => ?_, fun e => ?_⟩
    · have := h4.1 e; omega
    · have := h4.2 e; omega
  · intro h
    have hp := isPlaced_iff.mpr ⟨h.lo, h.hi, h.pl⟩
    have hh := hc.pl p.part.toNat (by have := h.hi; have := h.lo; omega)
    rw [h.pl] at hh
    have hlt : p.host ≤ c.hosts - 1 := by omega
    rw [if_neg (by simp [within, h.k0, h.k3]), if_neg (by simp [within, hh.1, hlt]), if_neg (by simp [hp]), if_neg]
    by_cases hk : p.kind = 2
    · have := h.v2 hk
      simp only [List.getD_eq_getElem?_getD] at this
      simp [hk, this]
    · have := h.vn hk
      simp [hk, this]

structure Valid (c : Case) (s : Stt) : Prop where
  ok : CaseOk c
  lp : s.placed.length = c.place.length
  lh : (s.hosts.length : Int) = c.hosts
  ln : s.net.length ≤ 12
  pl : ∀ p ∈ s.placed, PlOk p
  w : worstP s.placed = s.v
  hs : ∀ i, i < s.hosts.length → PartsOk c i (s.hosts.getD i default).parts
  nt : ∀ p ∈ s.net, PkOk c p

theorem placedChk_ok {s : Stt} : (placedChk s).2 = 0 ↔ (∀ p ∈ s.placed, PlOk p) ∧ worstP s.placed = s.v := by
  unfold placedChk
  cases h : firstE s.placed.length (placedEs s) with
  | some i =>
    have := firstE_eq_some h
    simp only
    refine ⟨fun e => absurd e this.1, fun e => ?_⟩
    exact placedE_ok.mpr (e.1 _ (getD_mem this.2))
  | none =>
    have h' := firstE_eq_none.mp h
    have hp : ∀ p ∈ s.placed, PlOk p := fun p hp => by
      obtain ⟨i, hi, rfl⟩ := mem_getD hp
      exact placedE_ok.mp (h' i hi)
    by_cases hw : worstP s.placed = s.v
    · simpa [hw] using hp
    · simp [hw]

theorem checkState_ok {c : Case} {s : Stt} : (checkState c s).2 = 0 ↔ Valid c s := by
  unfold checkState
  constructor
  · intro h
    split at h
    · rename_i h1; simp only at h; simp [h] at h1
    rename_i h1
    have hc : CaseOk c := checkCase_ok.mp (by simpa using h1)
    split at h; · cases h
    split at h; · cases h
    split at h
    · rename_i h2; simp [h] at h2
    rename_i h2 h3 h4
    have h4 := placedChk_ok.mp (by simpa using h4 : (placedChk s).2 = 0)
    cases hf : firstE s.hosts.length (hostsE c s) with
    | some i => rw [hf] at h; exact absurd h (firstE_eq_some hf).1
    | none =>
      rw [hf] at h; simp only at h
      cases hg : firstE s.net.length (netE c s) with
      | some i => rw [hg] at h; exact absurd h (firstE_eq_some hg).1
      | none =>
        have hf := firstE_eq_none.mp hf; have hg := firstE_eq_none.mp hg
        simp only [Bool.or_eq_true, Bool.not_eq_true', beq_eq_false_iff_ne, ne_eq, not_or, Decidable.not_not] at h2
        simp only [Bool.or_eq_true, decide_eq_true_eq, not_or] at h3
        exact ⟨hc, by omega, h2.2, by omega, h4.1, h4.2, fun i hi => hostE_ok.mp (hf i hi), fun p hp => by
          obtain ⟨i, hi, rfl⟩ := mem_getD hp
          exact (packetE_ok hc).mp (hg i hi)⟩
  · intro h
    have h1 : (placedChk s).2 = 0 := placedChk_ok.mpr ⟨h.pl, h.w⟩
    rw [if_neg (by simp [checkCase_ok.mpr h.ok]), if_neg (by simp [h.lp, h.lh]), if_neg, if_neg (by simp [h1])]
    · have e1 : firstE s.hosts.length (hostsE c s) = none := firstE_eq_none.mpr fun i hi => hostE_ok.mpr (h.hs i hi)
      have e2 : firstE s.net.length (netE c s) = none := firstE_eq_none.mpr fun i hi => (packetE_ok h.ok).mpr (h.nt _ (getD_mem hi))
      simp only [e1, e2]
    · have hl := h.ln
      simp only [Bool.or_eq_true, decide_eq_true_eq, List.any_eq_true, not_or, not_exists, not_and]
      refine ⟨by omega, fun x hx => ?_⟩
      obtain ⟨i, hi, rfl⟩ := mem_getD hx
      have := (h.hs i hi).len
      have := h.ok.p6
      simp only [manyParts, decide_eq_true_eq]; omega
/-! the worst one -/
def IsWorst (l : List Int) (m : Int) : Prop := 0 ≤ m ∧ (∀ x ∈ l, x ≤ m) ∧ (m = 0 ∨ m ∈ l)
theorem IsWorst.eq {l : List Int} {m n : Int} (h : IsWorst l m) (h' : IsWorst l n) : m = n := by
  obtain ⟨a, b, d⟩ := h; obtain ⟨a', b', d'⟩ := h'
  rcases d with rfl | d <;> rcases d' with rfl | d'
  · rfl
  · have := b _ d'; omega
  · have := b' _ d; omega
  · have := b _ d'; have := b' _ d; omega
theorem worst_aux : ∀ (l : List Int) (w : Int), 0 ≤ w → w ≤ l.foldl (fun w x => if x > w then x else w) w ∧ (∀ x ∈ l, x ≤ l.foldl (fun w x => if x > w then x else w) w) ∧ (l.foldl (fun w x => if x > w then x else w) w = w ∨ l.foldl (fun w x => if x > w then x else w) w ∈ l)
  | [], w, _ => ⟨Int.le_refl _, fun x hx => by simp at hx, .inl rfl⟩
  | y :: l, w, hw => by
    simp only [List.foldl_cons]
    by_cases hy : y > w
    · simp only [hy, if_true]
      obtain ⟨a, b, d⟩ := worst_aux l y (by omega)
      refine ⟨by omega, fun x hx => ?_, ?_⟩
      · rcases List.mem_cons.mp hx with rfl | hx
        · exact a
        · exact b x hx
      · rcases d with d | d
        · right; rw [d]; exact List.mem_cons_self
        · right; exact List.mem_cons_of_mem _ d
    · simp only [hy, if_false]
      obtain ⟨a, b, d⟩ := worst_aux l w hw
      refine ⟨a, fun x hx => ?_, ?_⟩
      · rcases List.mem_cons.mp hx with rfl | hx
        · omega
        · exact b x hx
      · rcases d with d | d
        · exact .inl d
        · right; exact List.mem_cons_of_mem _ d
theorem worstI_is (l : List Int) : IsWorst l (worstI l) := by
  obtain ⟨a, b, d⟩ := worst_aux l 0 (Int.le_refl _)
  exact ⟨a, b, d⟩
theorem worstP_eq (l : List Pl) : worstP l = worstI (l.map (·.v)) := by
  unfold worstP worstI; rw [List.foldl_map]
theorem worstP_is (l : List Pl) : IsWorst (l.map (·.v)) (worstP l) := by rw [worstP_eq]; exact worstI_is _
theorem worstP_iff {l : List Pl} {m : Int} : worstP l = m ↔ IsWorst (l.map (·.v)) m :=
  ⟨fun h => h ▸ worstP_is l, fun h => (worstP_is l).eq h⟩

theorem map_set_v {l : List Pl} {i : Nat} {x : Pl} (hi : i < l.length) (h : x.v = (l.getD i default).v) : (l.set i x).map (·.v) = l.map (·.v) := by
  rw [List.map_set, h]
  apply List.ext_getElem?; intro j
  rw [List.getElem?_set]
  split
  · rename_i e; subst e
    simp [hi]
  · rfl
theorem mem_set_or {α : Type} {l : List α} {i : Nat} {x y : α} (h : y ∈ l.set i x) : y = x ∨ y ∈ l := by
  rcases List.mem_or_eq_of_mem_set h with h | h
  · exact .inr h
  · exact .inl h

theorem Valid.net {c : Case} {s : Stt} (h : Valid c s) {l : List Pk} (hl : l.length ≤ 12) (hp : ∀ p ∈ l, PkOk c p) : Valid c { s with net := l } :=
  ⟨h.ok, h.lp, h.lh, hl, h.pl, h.w, h.hs, hp⟩
theorem Valid.send {c : Case} {s : Stt} (h : Valid c s) {p : Pk} (hp : PkOk c p) : Valid c { s with net := sendP s.net p } := by
  refine h.net ?_ fun q hq => ?_
  · unfold sendP; have := h.ln; split
    · simp; omega
    · exact this
  · unfold sendP at hq; split at hq
    · rcases List.mem_append.mp hq with hq | hq
      · exact h.nt q hq
      · simp only [List.mem_singleton] at hq; subst hq; exact hp
    · exact h.nt q hq
theorem Valid.host {c : Case} {s : Stt} (h : Valid c s) {i : Nat} (hi : i < s.hosts.length) {x : Hs} (hx : PartsOk c i x.parts) : Valid c (setHost s i x) := by
  refine ⟨h.ok, h.lp, by simp [setHost, h.lh], h.ln, h.pl, h.w, fun j hj => ?_, h.nt⟩
  simp only [setHost, List.length_set] at hj
  simp only [setHost, getD_set hi]
  split
  · rename_i e; subst e; exact hx
  · exact h.hs j hj
theorem Valid.placed {c : Case} {s : Stt} (h : Valid c s) {i : Nat} {x : Pl} (hi : i < s.placed.length) (hx : PlOk x) (hv : x.v = (s.placed.getD i default).v) : Valid c { s with placed := s.placed.set i x } := by
  refine ⟨h.ok, by simp [h.lp], h.lh, h.ln, fun p hp => ?_, ?_, h.hs, h.nt⟩
  · rcases mem_set_or hp with rfl | hp
    · exact hx
    · exact h.pl p hp
  · rw [worstP_iff, map_set_v hi hv]; exact worstP_iff.mp h.w
theorem Valid.pget {c : Case} {s : Stt} (h : Valid c s) {i : Nat} (hi : i < s.placed.length) : PlOk (s.placed.getD i default) := h.pl _ (getD_mem hi)

theorem takeS_worst {l : List Pl} {i : Nat} {x : Pl} {w v : Int} (hi : i < l.length) (h0 : (l.getD i default).v = 0) (hw : IsWorst (l.map (·.v)) w) (hx : x.v = v) (hv : 0 ≤ v) :
    IsWorst ((l.set i x).map (·.v)) (if v > w then v else w) := by
  obtain ⟨a, b, d⟩ := hw
  have hin : v ∈ (l.set i x).map (·.v) := by
    rw [List.map_set, hx]
    exact List.mem_of_getElem? (i := i) (by rw [List.getElem?_set]; simp [hi])
  refine ⟨by split <;> omega, fun y hy => ?_, ?_⟩
  · rw [List.map_set, hx] at hy
    rcases mem_set_or hy with rfl | hy
    · split <;> omega
    · have := b y hy; split <;> omega
  · split
    · exact .inr hin
    · rcases d with rfl | d
      · exact .inl rfl
      · by_cases hw0 : w = 0
        · exact .inl hw0
        · right
          obtain ⟨j, hj, rfl⟩ := List.getElem_of_mem d
          rw [List.map_set]
          refine List.mem_of_getElem? (i := j) ?_
          rw [List.getElem?_set]
          split
          · rename_i e; subst e
            exfalso; apply hw0
            simp only [List.getElem_map]
            rw [List.getD_eq_getElem?_getD, List.getElem?_eq_getElem hi] at h0
            exact h0
          · exact List.getElem?_eq_getElem hj
theorem Valid.take {c : Case} {s : Stt} (h : Valid c s) {i v : Int} (h0 : 0 ≤ i) (hi : i < s.placed.length) (ht : (s.placed.getD i.toNat default).tk = false) (hv0 : 0 ≤ v) (hv4 : v ≤ 4) : Valid c (takeS s i v) := by
  have hi' : i.toNat < s.placed.length := by omega
  have hp := h.pget hi'
  refine ⟨h.ok, by simp [takeS, h.lp], h.lh, h.ln, fun p hp' => ?_, ?_, h.hs, h.nt⟩
  · rcases mem_set_or hp' with rfl | hp'
    · exact ⟨hp.t0, hp.t3, hv0, hv4, fun e => by cases e⟩
    · exact h.pl p hp'
  · rw [worstP_iff]
    exact takeS_worst hi' (hp.nt ht) (worstP_iff.mp h.w) rfl hv0

/-! a component on its host -/
theorem partIx_some {l : List Pt} {part : Int} {k : Nat} (h : partIx l part = some k) : k < l.length ∧ (l.getD k default).part = part := by
  unfold partIx ixFn at h
  rw [firstIx_eq_some] at h
  exact ⟨h.2.1, by simpa using h.1⟩
theorem partIx_none {l : List Pt} {part : Int} (h : partIx l part = none) : ∀ p ∈ l, p.part ≠ part := by
  unfold partIx ixFn at h
  rw [firstIx_eq_none] at h
  intro p hp
  obtain ⟨i, hi, rfl⟩ := mem_getD hp
  simpa using h i hi

theorem PartsOk.set {c : Case} {host : Int} {l : List Pt} (h : PartsOk c host l) {k : Nat} {x : Pt} (hk : k < l.length) (hx : PtOk c host x) (hp : x.part = (l.getD k default).part) : PartsOk c host (l.set k x) := by
  refine ⟨fun p hp' => ?_, ?_⟩
  · rcases mem_set_or hp' with rfl | hp'
    · exact hx
    · exact h.1 p hp'
  · have : (l.set k x).map (·.part) = l.map (·.part) := by
      rw [List.map_set, hp]
      apply List.ext_getElem?; intro j
      rw [List.getElem?_set]
      split
      · rename_i e; subst e; simp [hk]
      · rfl
    rw [this]; exact h.2
theorem PartsOk.snoc {c : Case} {host : Int} {l : List Pt} (h : PartsOk c host l) {x : Pt} (hx : PtOk c host x) (hn : ∀ p ∈ l, p.part ≠ x.part) : PartsOk c host (l ++ [x]) := by
  refine ⟨fun p hp => ?_, ?_⟩
  · rcases List.mem_append.mp hp with hp | hp
    · exact h.1 p hp
    · simp only [List.mem_singleton] at hp; subst hp; exact hx
  · rw [List.map_append, List.nodup_append]
    refine ⟨h.2, by simp, fun a ha b hb => ?_⟩
    obtain ⟨p, hp, rfl⟩ := List.mem_map.mp ha
    simp only [List.map_cons, List.map_nil, List.mem_singleton] at hb
    subst hb
    exact hn p hp

theorem Valid.hostIx {c : Case} {s : Stt} (h : Valid c s) {part : Int} (h0 : 0 ≤ part) (hi : part < c.place.length) :
    0 ≤ c.place.getD part.toNat 0 ∧ (c.place.getD part.toNat 0).toNat < s.hosts.length ∧ ((c.place.getD part.toNat 0).toNat : Int) = c.place.getD part.toNat 0 := by
  obtain ⟨a, b, _, _⟩ := h.ok.pl part.toNat (by omega)
  have := h.lh
  omega

theorem pk_mk {c : Case} {k host part : Int} (hk : 0 ≤ k ∧ k ≤ 3 ∧ k ≠ 2) (h0 : 0 ≤ part) (h1 : part < c.place.length) (h2 : c.place.getD part.toNat 0 = host) : PkOk c ⟨k, host, part, 0⟩ :=
  ⟨hk.1, hk.2.1, h0, h1, h2, fun e => absurd e hk.2.2, fun _ => rfl⟩
theorem Valid.deliver {c : Case} {s : Stt} (h : Valid c s) {p : Pk} (hp : PkOk c p) : Valid c (deliverS c s p) := by
  obtain ⟨q1, q2, q3⟩ := h.hostIx hp.lo hp.hi
  rw [hp.pl] at q1 q2 q3
  have hho : hostOf c s p.part = s.hosts.getD p.host.toNat default := by unfold hostOf; rw [hp.pl]
  have hpo := h.hs p.host.toNat q2
  rw [q3] at hpo
  have hpi : p.part.toNat < s.placed.length := by have := h.lp; have := hp.hi; have := hp.lo; omega
  unfold deliverS
  dsimp only
  split
  · split
    · exact h
    · simp only [partAt, hho]
      cases hx : partIx (s.hosts.getD p.host.toNat default).parts p.part with
      | none =>
        refine Valid.send (s := setHost s _ _) (h.host q2 ?_) (pk_mk (by decide) hp.lo hp.hi hp.pl)
        rw [q3]
        exact hpo.snoc ⟨hp.lo, hp.hi, hp.pl, fun _ => ⟨rfl, rfl, rfl⟩, fun e => by cases e⟩ (partIx_none hx)
      | some k => exact h.send (pk_mk (by decide) hp.lo hp.hi hp.pl)
  split
  · have := h.pget hpi
    exact h.placed hpi ⟨this.t0, this.t3, this.v0, this.v4, this.nt⟩ rfl
  split
  · rename_i hk
    have hk : p.kind = 2 := by simpa using hk
    have hv := hp.v2 hk
    have hb := (h.ok.pl p.part.toNat (by have := h.lp; omega)).2.2
    refine Valid.send (s := if (s.placed.getD p.part.toNat default).tk = true then s else takeS s p.part p.v) ?_ (pk_mk (by decide) hp.lo hp.hi hp.pl)
    split
    · exact h
    · rename_i ht
      exact h.take hp.lo (by have := h.lp; have := hp.hi; omega) (by simpa using ht) (by omega) (by omega)
  split
  · simp only [partAt, hho]
    cases hx : partIx (s.hosts.getD p.host.toNat default).parts p.part with
    | none => exact h
    | some k =>
      obtain ⟨k1, k2⟩ := partIx_some hx
      simp only
      split
      · exact h
      split
      · rename_i he
        refine h.host q2 ?_
        rw [q3]
        have hpt := hpo.1 _ (getD_mem k1)
        exact hpo.set k1 ⟨hpt.lo, hpt.hi, hpt.pl, fun e => absurd (he.symm.trans e) (by decide), hpt.en⟩ rfl
      · exact h
  · exact h

theorem within_iff {n lo hi : Int} : within n lo hi = true ↔ lo ≤ n ∧ n ≤ hi := by simp [within]

theorem Valid.act {c : Case} {s : Stt} (h : Valid c s) {a : Ac} (ha : actE c s a = 0) : Valid c (actS c s a) := by
  unfold actE at ha
  split at ha; · cases ha
  split at ha; · cases ha
  rename_i hk hp
  have hp : isPossible c s a = true := by simpa using hp
  clear ha
  unfold isPossible at hp
  unfold actS
  have hln := h.ln; have hlp := h.lp
  by_cases k0 : a.kind = 0
  · simp [k0] at hp
    obtain ⟨w, t, r⟩ := hp
    have w := within_iff.mp w
    have hi : a.n.toNat < s.placed.length := by omega
    have hq := h.pget hi
    simp only [k0, beq_self_eq_true, if_true]
    have hv : Valid c { s with placed := s.placed.set a.n.toNat { s.placed.getD a.n.toNat default with tr := (s.placed.getD a.n.toNat default).tr + 1 } } := by
      refine h.placed hi ⟨?_, ?_, hq.v0, hq.v4, hq.nt⟩ rfl
      · have := hq.t0; simp only; omega
      · simp only [List.getD_eq_getElem?_getD] at *; omega
    exact hv.send (pk_mk (k := 0) (by decide) w.1 (by omega) rfl)
  by_cases k1 : a.kind = 1
  · simp [k1] at hp
    have w := within_iff.mp hp
    simp only [k1]
    refine Valid.deliver (s := { s with net := _ }) (h.net (by rw [List.length_eraseIdx]; split <;> omega) fun p hp => h.nt p (List.mem_of_mem_eraseIdx hp)) (h.nt _ (getD_mem (by omega)))
  by_cases k2 : a.kind = 2
  · simp only [k2]
    exact h.net (by rw [List.length_eraseIdx]; split <;> omega) fun p hp => h.nt p (List.mem_of_mem_eraseIdx hp)
  by_cases k3 : a.kind = 3
  · simp [k3] at hp
    have w := within_iff.mp hp.1
    simp only [k3]
    exact h.send (h.nt _ (getD_mem (by omega)))
  by_cases k6 : a.kind = 6
  · simp [k6] at hp
    have w := within_iff.mp hp.1
    simp only [k6]
    have hi : a.n.toNat < s.hosts.length := by have := h.lh; omega
    exact h.host hi (h.hs _ hi)
  have w : within a.n 0 ((c.place.length : Int) - 1) = true := by
    by_cases hw : within a.n 0 ((c.place.length : Int) - 1) = true
    · exact hw
    · simp [k1, k2, k3, k6, hw] at hp
  have w' := within_iff.mp w
  by_cases k7 : a.kind = 7
  · simp [k7, w] at hp
    simp only [k7]
    exact h.take w'.1 (by omega) (by simpa using hp) (by decide) (by decide)
  have k45 : a.kind = 4 ∨ a.kind = 5 := by
    have hk := within_iff.mp (by simpa using hk : within a.kind 0 7 = true)
    omega
  have hp : tellable c s a = true := by simpa [k0, k1, k2, k3, k6, k7, w] using hp
  obtain ⟨q1, q2, q3⟩ := h.hostIx w'.1 (by omega)
  have hpo : PartsOk c (c.place.getD a.n.toNat 0) (hostOf c s a.n).parts := by have := h.hs _ q2; rw [q3] at this; exact this
  have e0 : (a.kind == 0) = false := by simpa using k0
  have e1 : (a.kind == 1) = false := by simpa using k1
  have e2 : (a.kind == 2) = false := by simpa using k2
  have e3 : (a.kind == 3) = false := by simpa using k3
  have e4 : (a.kind == 4 || a.kind == 5) = true := by simpa using k45
  simp only [e0, e1, e2, e3, e4, Bool.false_eq_true, if_false, if_true]
  unfold tellable at hp
  cases hx : partAt c s a.n with
  | none => rw [hx] at hp; cases hp
  | some k =>
    rw [hx] at hp
    obtain ⟨x1, x2⟩ := partIx_some hx
    simp only at hp ⊢
    have hpt := hpo.1 _ (getD_mem x1)
    refine Valid.send (s := setHost s _ _) (h.host q2 ?_) ⟨(by decide : (0 : Int) ≤ 2), (by decide : (2 : Int) ≤ 3), w'.1, by simp only; omega, rfl, fun _ => rfl, fun e => absurd rfl e⟩
    rw [q3]
    refine hpo.set x1 ⟨hpt.lo, hpt.hi, hpt.pl, (fun e => by simp at e), fun _ => ⟨by rw [x2], ?_⟩⟩ rfl
    rcases k45 with k4 | k5
    · have hl : (hostOf c s a.n).lost = false ∧ ((hostOf c s a.n).parts.getD k default).ended = false := by
        simpa [k4] using hp
      have := hpt.ne hl.2
      simp only; omega
    · have hl : ((hostOf c s a.n).parts.getD k default).ended = true ∧ ((hostOf c s a.n).parts.getD k default).tr < 3 := by
        simp only [k5] at hp
        split at hp
        · cases hp
        · simp only [show ((5 : Int) == 4) = false from rfl, Bool.false_eq_true, if_false, Bool.and_eq_true, decide_eq_true_eq] at hp
          exact ⟨hp.1.1, hp.2⟩
      have := hpt.en hl.1
      simp only; omega
/-! what an act does to what the controller knows -/
inductive PStep (c : Case) (gave : Bool) (s s' : Stt) : Prop
  | same (hp : s'.placed = s.placed) (hv : s'.v = s.v)
  | upd (i : Nat) (x : Pl) (hi : i < s.placed.length) (hp : s'.placed = s.placed.set i x) (ht : x.tk = (s.placed.getD i default).tk) (hx : x.v = (s.placed.getD i default).v) (hv : s'.v = s.v)
  | take (i : Nat) (x : Pl) (hi : i < s.placed.length) (hp : s'.placed = s.placed.set i x) (h0 : (s.placed.getD i default).tk = false) (ht : x.tk = true) (hx : if gave then x.v = 4 else x.v = c.verd.getD i 0) (hv : s'.v = if x.v > s.v then x.v else s.v)

theorem PStep.deliver {c : Case} {s : Stt} (h : Valid c s) {p : Pk} (hp : PkOk c p) : PStep c false s (deliverS c s p) := by
  have hpi : p.part.toNat < s.placed.length := by have := h.lp; have := hp.hi; have := hp.lo; omega
  unfold deliverS
  dsimp only
  split
  · split
    · exact .same rfl rfl
    · cases partAt c s p.part <;> exact .same rfl rfl
  split
  · exact .upd p.part.toNat _ hpi rfl rfl rfl rfl
  split
  · rename_i hk
    have hk : p.kind = 2 := by simpa using hk
    have hv := hp.v2 hk
    split
    · exact .same rfl rfl
    · rename_i ht
      exact .take p.part.toNat _ hpi rfl (by simpa using ht) rfl (by simpa using hv) rfl
  split
  · cases partAt c s p.part with
    | none => exact .same rfl rfl
    | some k =>
      simp only
      split
      · exact .same rfl rfl
      split <;> exact .same rfl rfl
  · exact .same rfl rfl

theorem possible_in {c : Case} {s : Stt} {a : Ac} (hp : isPossible c s a = true) (h : a.kind = 0 ∨ a.kind = 7 ∨ a.kind = 4 ∨ a.kind = 5) : 0 ≤ a.n ∧ a.n ≤ (c.place.length : Int) - 1 := by
  unfold isPossible at hp
  by_cases hw : within a.n 0 ((c.place.length : Int) - 1) = true
  · exact within_iff.mp hw
  · rcases h with e | e | e | e <;> simp [e, hw] at hp
theorem possible_net {c : Case} {s : Stt} {a : Ac} (hp : isPossible c s a = true) (h : a.kind = 1 ∨ a.kind = 2 ∨ a.kind = 3) : 0 ≤ a.n ∧ a.n ≤ (s.net.length : Int) - 1 := by
  unfold isPossible at hp
  rcases h with e | e | e <;> simp [e] at hp
  · exact within_iff.mp hp
  · exact within_iff.mp hp
  · exact within_iff.mp hp.1
theorem actE_ok {c : Case} {s : Stt} {a : Ac} : actE c s a = 0 ↔ (0 ≤ a.kind ∧ a.kind ≤ 7) ∧ isPossible c s a = true := by
  unfold actE
  constructor
  · intro h
    split at h; · cases h
    split at h; · cases h
    rename_i h1 h2
    exact ⟨within_iff.mp (by simpa using h1), by simpa using h2⟩
  · rintro ⟨h1, h2⟩
    rw [if_neg (by simp [within_iff.mpr h1]), if_neg (by simp [h2])]

theorem PStep.act {c : Case} {s : Stt} (h : Valid c s) {a : Ac} (ha : actE c s a = 0) : PStep c (a.kind == 7) s (actS c s a) := by
  obtain ⟨hk, hp⟩ := actE_ok.mp ha
  have hlp := h.lp
  unfold actS
  by_cases k0 : a.kind = 0
  · have := possible_in hp (.inl k0)
    simp only [k0]
    exact .upd a.n.toNat _ (by omega) rfl rfl rfl rfl
  by_cases k1 : a.kind = 1
  · have := possible_net hp (.inl k1)
    simp only [k1]
    have h' : Valid c { s with net := s.net.eraseIdx a.n.toNat } := h.net (by have := h.ln; rw [List.length_eraseIdx]; split <;> omega) fun p hp => h.nt p (List.mem_of_mem_eraseIdx hp)
    cases PStep.deliver h' (h.nt _ (getD_mem (i := a.n.toNat) (by omega))) with
    | same hp hv => exact .same hp hv
    | upd i x hi hp ht hx hv => exact .upd i x hi hp ht hx hv
    | take i x hi hp h0 ht hx hv => exact .take i x hi hp h0 ht hx hv
  by_cases k2 : a.kind = 2
  · simp only [k2]; exact .same rfl rfl
  by_cases k3 : a.kind = 3
  · simp only [k3]; exact .same rfl rfl
  by_cases k6 : a.kind = 6
  · simp only [k6]; exact .same rfl rfl
  by_cases k7 : a.kind = 7
  · have := possible_in hp (.inr (.inl k7))
    simp only [k7]
    refine .take a.n.toNat _ (by omega) rfl ?_ rfl rfl rfl
    unfold isPossible at hp
    have w := within_iff.mpr this
    simp [k7, w] at hp
    simpa using hp
  have e0 : (a.kind == 0) = false := by simpa using k0
  have e1 : (a.kind == 1) = false := by simpa using k1
  have e2 : (a.kind == 2) = false := by simpa using k2
  have e3 : (a.kind == 3) = false := by simpa using k3
  have e4 : (a.kind == 4 || a.kind == 5) = true := by simp; omega
  simp only [e0, e1, e2, e3, e4, Bool.false_eq_true, if_false, if_true]
  cases partAt c s a.n <;> exact .same rfl rfl

theorem PStep.len {c : Case} {g : Bool} {s s' : Stt} (h : PStep c g s s') : s'.placed.length = s.placed.length := by
  cases h <;> simp_all
def Honest (c : Case) (s : Stt) : Prop := ∀ k, k < s.placed.length → (s.placed.getD k default).tk = true → (s.placed.getD k default).v = c.verd.getD k 0
def Given (s : Stt) : Prop := ∃ k, k < s.placed.length ∧ (s.placed.getD k default).tk = true ∧ (s.placed.getD k default).v = 4
theorem honest_v {c : Case} {s : Stt} (h : Valid c s) (ho : Honest c s) (hover : overS s = true) : s.v = worstI c.verd := by
  have : s.placed.map (·.v) = c.verd := by
    apply List.ext_getElem
    · simp [h.lp, h.ok.vl]
    · intro i h1 h2
      simp only [List.length_map] at h1
      have h3 := ho i h1 (by
        unfold overS at hover; rw [List.all_eq_true] at hover
        exact hover _ (getD_mem h1))
      rw [List.getElem_map]
      rw [List.getD_eq_getElem?_getD, List.getElem?_eq_getElem h1, List.getD_eq_getElem?_getD, List.getElem?_eq_getElem h2] at h3
      exact h3
  have h1 := worstP_iff.mp h.w
  rw [this] at h1
  exact h1.eq (worstI_is _)

theorem valid_start {c : Case} (h : CaseOk c) : Valid c (startS c) := by
  have h1 := h.h1
  refine ⟨h, by simp [startS], by simp [startS]; omega, by simp [startS], fun p hp => ?_, ?_, fun i hi => ?_, fun p hp => by simp [startS] at hp⟩
  · simp only [startS, List.mem_replicate] at hp
    rw [hp.2]; exact ⟨by decide, by decide, by decide, by decide, fun _ => rfl⟩
  · rw [worstP_iff]
    refine ⟨by simp [startS], fun x hx => ?_, .inl rfl⟩
    simp only [startS, List.map_replicate, List.mem_replicate] at hx
    rw [hx.2]; exact Int.le_refl 0
  · simp only [startS, List.length_replicate] at hi
    simp only [startS, List.getD_eq_getElem?_getD, List.getElem?_replicate, hi, if_true, Option.getD_some]
    exact ⟨fun p hp => by simp at hp, by simp⟩
theorem honest_start {c : Case} : Honest c (startS c) := by
  intro k hk ht
  simp only [startS, List.length_replicate] at hk
  simp [startS, List.getD_eq_getElem?_getD, List.getElem?_replicate, hk] at ht
def bare (s : Stt) : Stt := { s with net := [] }
theorem actE_mk {c : Case} {s : Stt} {k n : Int} (h : 0 ≤ k ∧ k ≤ 7) (hp : isPossible c s ⟨k, n⟩ = true) : actE c s ⟨k, n⟩ = 0 := actE_ok.mpr ⟨h, hp⟩
theorem possible1 {c : Case} {s : Stt} {n : Int} : isPossible c s ⟨1, n⟩ = within n 0 ((s.net.length : Int) - 1) := by unfold isPossible; rw [if_pos (by rfl)]
theorem act4 {c : Case} {s : Stt} {n : Int} {k : Nat} (h : partAt c s n = some k) : actS c s ⟨4, n⟩ = { setHost s (c.place.getD n.toNat 0).toNat { hostOf c s n with parts := (hostOf c s n).parts.set k { (hostOf c s n).parts.getD k default with ended := true, v := c.verd.getD n.toNat 0, tr := ((hostOf c s n).parts.getD k default).tr + 1 } } with
        net := sendP s.net ⟨2, c.place.getD n.toNat 0, n, c.verd.getD n.toNat 0⟩ } := by
  unfold actS
  simp only [show ((4 : Int) == 0) = false from rfl, show ((4 : Int) == 1) = false from rfl, show ((4 : Int) == 2) = false from rfl, show ((4 : Int) == 3) = false from rfl, show ((4 : Int) == 4) = true from rfl, Bool.true_or, Bool.false_eq_true, if_false, if_true, h]
/-- acts that are possible one after the other, from the start to a state -/
inductive Reach (c : Case) : List Ac → Stt → Prop
  | nil : Reach c [] (startS c)
  | snoc {l : List Ac} {s : Stt} {a : Ac} (h : Reach c l s) (ha : actE c s a = 0) : Reach c (l ++ [a]) (actS c s a)
theorem Reach.valid {c : Case} {l : List Ac} {s : Stt} (hc : CaseOk c) (h : Reach c l s) : Valid c s := by
  induction h with
  | nil => exact valid_start hc
  | snoc _ ha ih => exact ih.act ha

/-! all are given up -/
def GivenTo (c : Case) (s : Stt) (i : Nat) : Prop := (∀ j, j < i → (s.placed.getD j default).tk = true) ∧ (∀ j, i ≤ j → j < c.place.length → (s.placed.getD j default).tk = false)
theorem givenTo_start {c : Case} : GivenTo c (startS c) 0 := by
  refine ⟨fun j hj => by omega, fun j _ hj => ?_⟩
  simp [startS, hj]
theorem giveUp_step {c : Case} {s : Stt} {i : Nat} (h : Valid c s) (hi : i < c.place.length) (hg : GivenTo c s i) : actE c s ⟨7, i⟩ = 0 ∧ GivenTo c (actS c s ⟨7, i⟩) (i + 1) := by
  have hp : (s.placed.getD i default).tk = false := hg.2 i (Nat.le_refl _) hi
  have hlp := h.lp
  have w : within (i : Int) 0 ((c.place.length : Int) - 1) = true := within_iff.mpr (by omega)
  refine ⟨?_, ?_⟩
  · refine actE_mk (by decide) ?_
    unfold isPossible
    simp only [w]
    simpa using hp
  · have e : (actS c s ⟨7, i⟩).placed = s.placed.set i { s.placed.getD i default with tk := true, v := 4 } := rfl
    refine ⟨fun j hj => ?_, fun j h1 h2 => ?_⟩
    · rw [e, getD_set (by omega)]
      by_cases hij : i = j
      · rw [if_pos hij]
      · rw [if_neg hij]; exact hg.1 j (by omega)
    · rw [e, getD_set (by omega), if_neg (by omega)]; exact hg.2 j (by omega) h2
theorem given_over {c : Case} {s : Stt} (h : Valid c s) (hg : GivenTo c s c.place.length) : overS s = true := by
  unfold overS; rw [List.all_eq_true]
  intro p hp
  obtain ⟨j, hj, rfl⟩ := mem_getD hp
  exact hg.1 j (by rw [← h.lp]; exact hj)

/-! one after the other runs, ends and is taken -/
structure Seq1 (c : Case) (s : Stt) (i : Nat) : Prop where
  ho : Honest c s
  tk : ∀ j, j < i → (s.placed.getD j default).tk = true
  nt : ∀ j, i ≤ j → j < c.place.length → s.placed.getD j default = ⟨0, false, false, 0⟩
  ls : ∀ h, h < s.hosts.length → (s.hosts.getD h default).lost = false ∧ ∀ p ∈ (s.hosts.getD h default).parts, p.part < i
  nl : s.net.length = 2 * i
theorem seq1_start {c : Case} : Seq1 c (startS c) 0 := by
  refine ⟨honest_start, fun j hj => by omega, fun j _ hj => ?_, fun h hh => ?_, rfl⟩
  · simp [startS, hj]
  · simp only [startS, List.length_replicate] at hh
    simp [startS, hh]
theorem ixFn_snoc {α : Type} [Inhabited α] {l : List α} {x : α} {p : α → Bool} (h : ∀ y ∈ l, p y = false) (hx : p x = true) : ixFn (l ++ [x]) p = some l.length := by
  unfold ixFn
  refine firstIx_some (by simp) ?_ fun j hj => ?_
  · simpa [List.getD_eq_getElem?_getD] using hx
  · rw [List.getD_eq_getElem?_getD, List.getElem?_append_left hj, ← List.getD_eq_getElem?_getD]
    exact h _ (getD_mem hj)
theorem getD_last {α : Type} [Inhabited α] {l : List α} {x : α} : (l ++ [x]).getD l.length default = x := by simp [List.getD_eq_getElem?_getD]
theorem erase_last {α : Type} {l : List α} {x : α} : (l ++ [x]).eraseIdx l.length = l := by
  rw [List.eraseIdx_append_of_length_le (Nat.le_refl _)]; simp

def s1 (c : Case) (s : Stt) (i : Nat) : Stt := { s with placed := s.placed.set i ⟨1, false, false, 0⟩, net := s.net ++ [⟨0, c.place.getD i 0, i, 0⟩] }
def s2 (c : Case) (s : Stt) (i : Nat) : Stt := { s with placed := s.placed.set i ⟨1, false, false, 0⟩, hosts := s.hosts.set (c.place.getD i 0).toNat ⟨false, (s.hosts.getD (c.place.getD i 0).toNat default).parts ++ [⟨i, false, false, 0, 0⟩]⟩, net := s.net ++ [⟨1, c.place.getD i 0, i, 0⟩] }
def s3 (c : Case) (s : Stt) (i : Nat) : Stt := { s with placed := s.placed.set i ⟨1, false, false, 0⟩, hosts := s.hosts.set (c.place.getD i 0).toNat ⟨false, (s.hosts.getD (c.place.getD i 0).toNat default).parts ++ [⟨i, true, false, c.verd.getD i 0, 1⟩]⟩, net := s.net ++ [⟨1, c.place.getD i 0, i, 0⟩] ++ [⟨2, c.place.getD i 0, i, c.verd.getD i 0⟩] }
def s4 (c : Case) (s : Stt) (i : Nat) : Stt := { s with v := (if c.verd.getD i 0 > s.v then c.verd.getD i 0 else s.v), placed := s.placed.set i ⟨1, false, true, c.verd.getD i 0⟩, hosts := s.hosts.set (c.place.getD i 0).toNat ⟨false, (s.hosts.getD (c.place.getD i 0).toNat default).parts ++ [⟨i, true, false, c.verd.getD i 0, 1⟩]⟩, net := s.net ++ [⟨1, c.place.getD i 0, i, 0⟩] ++ [⟨3, c.place.getD i 0, i, 0⟩] }

section
variable {c : Case} {s : Stt} {i : Nat} (h : Valid c s) (hi : i < c.place.length) (hq : Seq1 c s i)
include h hi hq
theorem step_ask : actE c s ⟨0, i⟩ = 0 ∧ actS c s ⟨0, i⟩ = s1 c s i := by
  have hp := hq.nt i (Nat.le_refl _) hi
  have w : within (i : Int) 0 ((c.place.length : Int) - 1) = true := within_iff.mpr (by omega)
  have hn := hq.nl; have h6 := h.ok.p6
  refine ⟨?_, ?_⟩
  · refine actE_mk (by decide) ?_
    unfold isPossible
    simp only [w, Int.toNat_natCast, hp]
    rfl
  · have e : actS c s ⟨0, i⟩ = { s with placed := s.placed.set (i : Int).toNat { s.placed.getD (i : Int).toNat default with tr := (s.placed.getD (i : Int).toNat default).tr + 1 }, net := sendP s.net ⟨0, c.place.getD (i : Int).toNat 0, i, 0⟩ } := rfl
    rw [e, Int.toNat_natCast, hp]
    unfold sendP; rw [if_pos (by omega)]; rfl
theorem step_create : actE c (s1 c s i) ⟨1, (s.net.length : Int)⟩ = 0 ∧ actS c (s1 c s i) ⟨1, (s.net.length : Int)⟩ = s2 c s i := by
  have hn := hq.nl; have h6 := h.ok.p6
  obtain ⟨q1, q2, q3⟩ := h.hostIx (part := (i : Int)) (by omega) (by omega)
  rw [Int.toNat_natCast] at q1 q2 q3
  obtain ⟨l1, l2⟩ := hq.ls _ q2
  refine ⟨?_, ?_⟩
  · refine actE_mk (by decide) ?_
    rw [possible1, within_iff]; simp [s1]
  · have e : actS c (s1 c s i) ⟨1, (s.net.length : Int)⟩ = deliverS c { s1 c s i with net := (s1 c s i).net.eraseIdx s.net.length } ((s1 c s i).net.getD s.net.length default) := rfl
    rw [e]
    have e1 : (s1 c s i).net.getD s.net.length default = ⟨0, c.place.getD i 0, i, 0⟩ := getD_last
    have e2 : (s1 c s i).net.eraseIdx s.net.length = s.net := erase_last
    rw [e1, e2]
    have e3 : partAt c { s1 c s i with net := s.net } (i : Int) = none := by
      unfold partAt hostOf partIx ixFn
      rw [firstIx_eq_none]
      intro j hj
      simp only [s1, Int.toNat_natCast] at hj ⊢
      have := l2 _ (getD_mem hj)
      have : ((s.hosts.getD (c.place.getD i 0).toNat default).parts.getD j default).part ≠ i := by omega
      simpa using this
    unfold deliverS
    dsimp only
    rw [if_pos (by rfl), e3]
    simp only [s1, l1, Bool.false_eq_true, if_false, setHost, s2]
    unfold sendP; rw [if_pos (by omega)]
theorem step_end : actE c (s2 c s i) ⟨4, i⟩ = 0 ∧ actS c (s2 c s i) ⟨4, i⟩ = s3 c s i := by
  have hn := hq.nl; have h6 := h.ok.p6
  obtain ⟨q1, q2, q3⟩ := h.hostIx (part := (i : Int)) (by omega) (by omega)
  rw [Int.toNat_natCast] at q1 q2 q3
  obtain ⟨l1, l2⟩ := hq.ls _ q2
  have w : within (i : Int) 0 ((c.place.length : Int) - 1) = true := within_iff.mpr (by omega)
  have eh : hostOf c (s2 c s i) i = ⟨false, (s.hosts.getD (c.place.getD i 0).toNat default).parts ++ [⟨i, false, false, 0, 0⟩]⟩ := by
    unfold hostOf; simp only [s2, Int.toNat_natCast, getD_set q2, if_true]
  have ep : partAt c (s2 c s i) i = some (s.hosts.getD (c.place.getD i 0).toNat default).parts.length := by
    unfold partAt; rw [eh]
    exact ixFn_snoc (fun y hy => by have := l2 y hy; simp; omega) (by simp)
  refine ⟨?_, ?_⟩
  · refine actE_mk (by decide) ?_
    have : tellable c (s2 c s i) ⟨4, i⟩ = true := by
      unfold tellable; simp only [ep, eh, getD_last]; rfl
    unfold isPossible
    simp only [w, this]
    rfl
  · rw [act4 ep]
    simp only [eh, getD_last, Int.toNat_natCast]
    unfold sendP; rw [if_pos (by simp [s2]; omega)]
    simp only [setHost, s2, s3, List.set_set]
    congr 2
    simp
theorem step_taken : actE c (s3 c s i) ⟨1, (s.net.length : Int) + 1⟩ = 0 ∧ actS c (s3 c s i) ⟨1, (s.net.length : Int) + 1⟩ = s4 c s i := by
  have hn := hq.nl; have h6 := h.ok.p6; have hlp := h.lp
  refine ⟨?_, ?_⟩
  · refine actE_mk (by decide) ?_
    rw [possible1, within_iff]; simp [s3]; omega
  · have ee : ((s.net.length : Int) + 1).toNat = (s.net ++ [(⟨1, c.place.getD i 0, i, 0⟩ : Pk)]).length := by simp
    have e : actS c (s3 c s i) ⟨1, (s.net.length : Int) + 1⟩ = deliverS c { s3 c s i with net := (s3 c s i).net.eraseIdx ((s.net.length : Int) + 1).toNat } ((s3 c s i).net.getD ((s.net.length : Int) + 1).toNat default) := rfl
    rw [e, ee]
    have e1 : (s3 c s i).net.getD (s.net ++ [(⟨1, c.place.getD i 0, i, 0⟩ : Pk)]).length default = ⟨2, c.place.getD i 0, i, c.verd.getD i 0⟩ := getD_last
    have e2 : (s3 c s i).net.eraseIdx (s.net ++ [(⟨1, c.place.getD i 0, i, 0⟩ : Pk)]).length = s.net ++ [(⟨1, c.place.getD i 0, i, 0⟩ : Pk)] := erase_last
    rw [e1, e2]
    unfold deliverS
    dsimp only
    rw [if_neg (by decide), if_neg (by decide), if_pos (by rfl)]
    have e4 : (s3 c s i).placed.getD i default = ⟨1, false, false, 0⟩ := by simp only [s3]; rw [getD_set (by omega), if_pos rfl]
    simp only [Int.toNat_natCast, e4, Bool.false_eq_true, if_false, takeS]
    simp only [s3, s4, List.set_set]
    unfold sendP; rw [if_pos (by simp; omega)]
    rfl
theorem seq1_step : Seq1 c (s4 c s i) (i + 1) := by
  have hn := hq.nl; have hlp := h.lp
  obtain ⟨q1, q2, q3⟩ := h.hostIx (part := (i : Int)) (by omega) (by omega)
  rw [Int.toNat_natCast] at q1 q2 q3
  refine ⟨fun k hk ht => ?_, fun j hj => ?_, fun j h1 h2 => ?_, fun k hk => ?_, by simp [s4]; omega⟩
  · simp only [s4, List.length_set] at hk
    simp only [s4] at ht ⊢
    rw [getD_set (by omega)] at ht ⊢
    by_cases e : i = k
    · subst e; rw [if_pos rfl]
    · rw [if_neg e] at ht ⊢; exact hq.ho k hk ht
  · simp only [s4]; rw [getD_set (by omega)]
    by_cases e : i = j
    · rw [if_pos e]
    · rw [if_neg e]; exact hq.tk j (by omega)
  · simp only [s4]; rw [getD_set (by omega), if_neg (by omega)]; exact hq.nt j (by omega) h2
  · simp only [s4, List.length_set] at hk
    simp only [s4]; rw [getD_set q2]
    by_cases e : (c.place.getD i 0).toNat = k
    · rw [if_pos e]
      refine ⟨rfl, fun p hp => ?_⟩
      simp only at hp
      rcases List.mem_append.mp hp with hp | hp
      · have := (hq.ls _ q2).2 p hp; omega
      · simp only [List.mem_singleton] at hp; subst hp; simp only; omega
    · rw [if_neg e]
      exact ⟨(hq.ls k hk).1, fun p hp => by have := (hq.ls k hk).2 p hp; omega⟩
end
/-- the four acts of a component -/
def four (n i : Nat) : List Ac := [⟨0, i⟩, ⟨1, (n : Int)⟩, ⟨4, i⟩, ⟨1, (n : Int) + 1⟩]
theorem seq1_over {c : Case} {s : Stt} (h : Valid c s) (hq : Seq1 c s c.place.length) : overS s = true ∧ s.v = worstI c.verd := by
  have ho : overS s = true := by
    unfold overS; rw [List.all_eq_true]
    intro p hp
    obtain ⟨j, hj, rfl⟩ := mem_getD hp
    exact hq.tk j (by rw [← h.lp]; exact hj)
  exact ⟨ho, honest_v h hq.ho ho⟩
/-! it comes to an end -/
def sumI (l : List Int) : Int := l.foldr (· + ·) 0
def wPk (p : Pk) : Int := if p.kind == 0 || p.kind == 2 then 2 else 1
def tHs (h : Hs) : Int := sumI (h.parts.map (·.tr))
def pot (s : Stt) : Int := sumI (s.net.map wPk) + 3 * sumI (s.placed.map fun p => 3 - p.tr) + 3 * (72 - sumI (s.hosts.map tHs))

end Go.Proofs.Ytgmncggiblaciaa

/- Walks: cases. -/
namespace Go.Proofs.Ytgmncggiblaciaa
open Go Go.Proofs.Ytgmncggiblaciaa.Ab

theorem within54 (n lo hi : Int) : FCall Try.prog 54 [.v (.int .i64 n), .v (.int .i64 lo), .v (.int .i64 hi)] (· = .v (.bool (within n lo hi))) := by
  refine ACall.enter [] Cd.fn54 (by simp) ?_
  by_cases h : lo ≤ n <;> simp only [h, decide_true, decide_false, Cd.cd54, Tk.t54, base0, base1, base2, base3, Option.isNone_none, Option.isNone_some, Nat.reduceBEq, true_or, or_true, false_or, or_false, Nat.reduceLT, Nat.reduceMod, Nat.reducePow, rmaps, nsucc, List.flatten_cons, List.flatten_nil, Nat.reduceEqDiff, Nat.reduceLeDiff, Nat.reduceAdd, Nat.reduceMul, Nat.reduceSub, ↓reduceIte, reduceCtorEq, decide_true, decide_false] <;> exact fin_v (by simp [within, h])
theorem within29 (n lo hi : Int) : FCall Try.prog 29 [.v (.int .i64 n), .v (.int .i64 lo), .v (.int .i64 hi)] (· = .v (.bool (within n lo hi))) := by
  refine ACall.enter [] Cd.fn29 (by simp) ?_
  by_cases h : lo ≤ n <;> simp only [h, decide_true, decide_false, Cd.cd29, Tk.t29, base0, base1, base2, base3, Option.isNone_none, Option.isNone_some, Nat.reduceBEq, true_or, or_true, false_or, or_false, Nat.reduceLT, Nat.reduceMod, Nat.reducePow, rmaps, nsucc, List.flatten_cons, List.flatten_nil, Nat.reduceEqDiff, Nat.reduceLeDiff, Nat.reduceAdd, Nat.reduceMul, Nat.reduceSub, ↓reduceIte, reduceCtorEq, decide_true, decide_false] <;> exact fin_v (by simp [within, h])
theorem count63 (b : Bool) : FCall Try.prog 63 [.v (.bool b)] (· = .v (.int .i64 (if b then 1 else 0))) := by
  refine ACall.enter [] Cd.fn63 (by simp) ?_
  cases b <;> simp only [Cd.cd63, Tk.t63, base0, base1, base2, base3, Option.isNone_none, Option.isNone_some, Nat.reduceBEq, true_or, or_true, false_or, or_false, Nat.reduceLT, Nat.reduceMod, Nat.reducePow, rmaps, nsucc, List.flatten_cons, List.flatten_nil, Nat.reduceEqDiff, Nat.reduceLeDiff, Nat.reduceAdd, Nat.reduceMul, Nat.reduceSub, ↓reduceIte, reduceCtorEq, decide_true, decide_false] <;> exact fin_v (by simp)
theorem FZs.v3 (a b c : Value) : FZs [.v a, .v b, .v c] := FZs.cons (FZ.v _) (FZs.cons (FZ.v _) (FZs.cons (FZ.v _) FZs.nil))
theorem FZs.v1 (a : Value) : FZs [.v a] := FZs.cons (FZ.v _) FZs.nil
theorem isVerdict51 (n : Int) : FCall Try.prog 51 [.v (.int .i64 n)] (· = .v (.bool (isVerdict n))) := by
  refine ACall.enter [] Cd.fn51 (by simp) ?_
  simp only [Cd.cd51, Tk.t51, base0, base1, base2, base3, Option.isNone_none, Option.isNone_some, Nat.reduceBEq, true_or, or_true, false_or, or_false, Nat.reduceLT, Nat.reduceMod, Nat.reducePow, rmaps, nsucc, List.flatten_cons, List.flatten_nil, Nat.reduceEqDiff, Nat.reduceLeDiff, Nat.reduceAdd, Nat.reduceMul, Nat.reduceSub, ↓reduceIte, reduceCtorEq, decide_true, decide_false]
  refine (within54 _ _ _).go (FZs.v3 _ _ _) ?_
  simp only [Cd.cd51, Tk.t51, base0, base1, base2, base3, Option.isNone_none, Option.isNone_some, Nat.reduceBEq, true_or, or_true, false_or, or_false, Nat.reduceLT, Nat.reduceMod, Nat.reducePow, rmaps, nsucc, List.flatten_cons, List.flatten_nil, Nat.reduceEqDiff, Nat.reduceLeDiff, Nat.reduceAdd, Nat.reduceMul, Nat.reduceSub, ↓reduceIte, reduceCtorEq, decide_true, decide_false]
  exact fin_v rfl
theorem isVerdict40 (n : Int) : FCall Try.prog 40 [.v (.int .i64 n)] (· = .v (.bool (isVerdict n))) := by
  refine ACall.enter [] Cd.fn40 (by simp) ?_
  simp only [Cd.cd40, Tk.t40, base0, base1, base2, base3, Option.isNone_none, Option.isNone_some, Nat.reduceBEq, true_or, or_true, false_or, or_false, Nat.reduceLT, Nat.reduceMod, Nat.reducePow, rmaps, nsucc, List.flatten_cons, List.flatten_nil, Nat.reduceEqDiff, Nat.reduceLeDiff, Nat.reduceAdd, Nat.reduceMul, Nat.reduceSub, ↓reduceIte, reduceCtorEq, decide_true, decide_false]
  refine (within29 _ _ _).go (FZs.v3 _ _ _) ?_
  simp only [Cd.cd40, Tk.t40, base0, base1, base2, base3, Option.isNone_none, Option.isNone_some, Nat.reduceBEq, true_or, or_true, false_or, or_false, Nat.reduceLT, Nat.reduceMod, Nat.reducePow, rmaps, nsucc, List.flatten_cons, List.flatten_nil, Nat.reduceEqDiff, Nat.reduceLeDiff, Nat.reduceAdd, Nat.reduceMul, Nat.reduceSub, ↓reduceIte, reduceCtorEq, decide_true, decide_false]
  exact fin_v rfl

theorem checkCase32 (c : Case) : FCall Try.prog 32 [caseV c] (· = .tup [.v (.int .i64 (checkCase c).1), .v (.int .i64 (checkCase c).2)]) := by
  refine ACall.enter [] Cd.fn32 (by simp) ?_
  simp only [caseV, ints, List.length_map, Cd.cd32, Tk.t32, base0, base1, base2, base3, Option.isNone_none, Option.isNone_some, Nat.reduceBEq, true_or, or_true, false_or, or_false, Nat.reduceLT, Nat.reduceMod, Nat.reducePow, rmaps, nsucc, List.flatten_cons, List.flatten_nil, Nat.reduceEqDiff, Nat.reduceLeDiff, Nat.reduceAdd, Nat.reduceMul, Nat.reduceSub, ↓reduceIte, reduceCtorEq, decide_true, decide_false]
  refine (within54 _ _ _).go (FZs.v3 _ _ _) ?_
  simp only [List.length_map, Cd.cd32, Tk.t32, base0, base1, base2, base3, Option.isNone_none, Option.isNone_some, Nat.reduceBEq, true_or, or_true, false_or, or_false, Nat.reduceLT, Nat.reduceMod, Nat.reducePow, rmaps, nsucc, List.flatten_cons, List.flatten_nil, Nat.reduceEqDiff, Nat.reduceLeDiff, Nat.reduceAdd, Nat.reduceMul, Nat.reduceSub, ↓reduceIte, reduceCtorEq, decide_true, decide_false]
  split
  · rename_i h1; exact fin_p (by unfold checkCase; rw [if_pos h1])
  rename_i h1
  split
  · rename_i h2; exact fin_p (by unfold checkCase; rw [if_neg h1, if_pos (by simpa using h2)])
  rename_i h2
  have h2 : ¬ c.place.length = 0 := by simpa using h2
  split
  · rename_i h3; exact fin_p (by unfold checkCase; rw [if_neg h1, if_neg h2, if_pos (by have := of_decide_eq_true h3; omega)])
  rename_i h3
  have h3 : ¬ 6 < c.place.length := by simp at h3; omega
  split
  · rename_i h4; exact fin_p (by unfold checkCase; rw [if_neg h1, if_neg h2, if_neg h3, if_pos (by simp at h4; omega)])
  rename_i h4
  have h4 : c.verd.length = c.place.length := by simp at h4; omega
  have hc : checkCase c = match firstIx c.place.length (badPlace c) with | some i => ((i : Int), 3) | none => (0, 0) := by
    unfold checkCase; rw [if_neg h1, if_neg h2, if_neg h3, if_neg (by simpa using h4)] <;> rfl
  refine LWP.loop [] (fun m f H' => ∃ i, m = c.place.length - i ∧ i ≤ c.place.length ∧ (∀ j, j < i → badPlace c j = false) ∧ f.t 1 = .box [.v (.int .i64 c.hosts), ints c.place, ints c.verd] ∧
    f.t 30 = ints c.place ∧ f.t 31 = .v (.int .i64 c.place.length) ∧ f.t 32 = .v (.int .i64 (i : Nat)) ∧ f.ds = [] ∧ H' = AH.none) ?_ ?_ (m := c.place.length)
  · exact ⟨0, rfl, Nat.zero_le _, fun j hj => by omega, rfl, rfl, rfl, rfl, rfl, rfl⟩
  · rintro m f H' ⟨i, rfl, hi, hbad, f1, f30, f31, f32, hds, rfl⟩
    by_cases hlt : i < c.place.length
    · have e1 : decide ((i : Int) < (c.place.length : Int)) = true := by simpa using hlt
      have e2 : 0 ≤ (i : Int) ∧ (i : Int) < (c.place.length : Int) := by omega
      have e3 : 0 ≤ (i : Int) ∧ (i : Int) < (c.verd.length : Int) := by omega
      simp only [f1, f30, f31, f32, hds, ints, List.length_map, e1, e2, Int.toNat_natCast, getD_ints _ _ hlt, Cd.cd32, Tk.t32, base0, base1, base2, base3, Option.isNone_none, Option.isNone_some, Nat.reduceBEq, true_or, or_true, false_or, or_false, Nat.reduceLT, Nat.reduceMod, Nat.reducePow, rmaps, nsucc, List.flatten_cons, List.flatten_nil, Nat.reduceEqDiff, Nat.reduceLeDiff, Nat.reduceAdd, Nat.reduceMul, Nat.reduceSub, ↓reduceIte, reduceCtorEq, decide_true, decide_false]
      refine (within54 _ _ _).go (FZs.v3 _ _ _) ?_
      simp only [f1, f30, f31, f32, hds, ints, List.length_map, e1, e3, Int.toNat_natCast, getD_ints c.verd i (by omega), Cd.cd32, Tk.t32, base0, base1, base2, base3, Option.isNone_none, Option.isNone_some, Nat.reduceBEq, true_or, or_true, false_or, or_false, Nat.reduceLT, Nat.reduceMod, Nat.reducePow, rmaps, nsucc, List.flatten_cons, List.flatten_nil, Nat.reduceEqDiff, Nat.reduceLeDiff, Nat.reduceAdd, Nat.reduceMul, Nat.reduceSub, ↓reduceIte, reduceCtorEq, decide_true, decide_false]
      cases hw : within (c.place.getD i 0) 0 (IntKind.i64.wrap (c.hosts - 1))
      · simp only [hds, Cd.cd32, Tk.t32, base0, base1, base2, base3, Option.isNone_none, Option.isNone_some, Nat.reduceBEq, true_or, or_true, false_or, or_false, Nat.reduceLT, Nat.reduceMod, Nat.reducePow, rmaps, nsucc, List.flatten_cons, List.flatten_nil, Nat.reduceEqDiff, Nat.reduceLeDiff, Nat.reduceAdd, Nat.reduceMul, Nat.reduceSub, ↓reduceIte, reduceCtorEq, decide_true, decide_false]
        exact fin_p (by rw [hc, firstIx_some hlt (by unfold badPlace; rw [hw]; rfl) hbad])
      · simp only [f1, f30, f31, f32, hds, ints, List.length_map, e1, e3, Int.toNat_natCast, getD_ints c.verd i (by omega), Cd.cd32, Tk.t32, base0, base1, base2, base3, Option.isNone_none, Option.isNone_some, Nat.reduceBEq, true_or, or_true, false_or, or_false, Nat.reduceLT, Nat.reduceMod, Nat.reducePow, rmaps, nsucc, List.flatten_cons, List.flatten_nil, Nat.reduceEqDiff, Nat.reduceLeDiff, Nat.reduceAdd, Nat.reduceMul, Nat.reduceSub, ↓reduceIte, reduceCtorEq, decide_true, decide_false]
        refine (isVerdict51 _).go (FZs.v1 _) ?_
        simp only [hds, f32, Cd.cd32, Tk.t32, base0, base1, base2, base3, Option.isNone_none, Option.isNone_some, Nat.reduceBEq, true_or, or_true, false_or, or_false, Nat.reduceLT, Nat.reduceMod, Nat.reducePow, rmaps, nsucc, List.flatten_cons, List.flatten_nil, Nat.reduceEqDiff, Nat.reduceLeDiff, Nat.reduceAdd, Nat.reduceMul, Nat.reduceSub, ↓reduceIte, reduceCtorEq, decide_true, decide_false]
        cases hv : isVerdict (c.verd.getD i 0)
        · simp only [hds, f32, Cd.cd32, Tk.t32, base0, base1, base2, base3, Option.isNone_none, Option.isNone_some, Nat.reduceBEq, true_or, or_true, false_or, or_false, Nat.reduceLT, Nat.reduceMod, Nat.reducePow, rmaps, nsucc, List.flatten_cons, List.flatten_nil, Nat.reduceEqDiff, Nat.reduceLeDiff, Nat.reduceAdd, Nat.reduceMul, Nat.reduceSub, ↓reduceIte, reduceCtorEq, decide_true, decide_false]
          exact fin_p (by rw [hc, firstIx_some hlt (by unfold badPlace; rw [hw, hv]; rfl) hbad])
        · simp only [hds, f32, Cd.cd32, Tk.t32, base0, base1, base2, base3, Option.isNone_none, Option.isNone_some, Nat.reduceBEq, true_or, or_true, false_or, or_false, Nat.reduceLT, Nat.reduceMod, Nat.reducePow, rmaps, nsucc, List.flatten_cons, List.flatten_nil, Nat.reduceEqDiff, Nat.reduceLeDiff, Nat.reduceAdd, Nat.reduceMul, Nat.reduceSub, ↓reduceIte, reduceCtorEq, decide_true, decide_false]
          refine ⟨_, by omega, i + 1, rfl, by omega, fun j hj => ?_, f1, f30, f31, by rw [wrapS (by omega)]⟩
          rcases Nat.lt_succ_iff_lt_or_eq.mp hj with h | h
          · exact hbad j h
          · subst h; unfold badPlace; rw [hw, hv]; rfl
    · have hk' : i = c.place.length := by omega
      have e1 : decide ((i : Int) < (c.place.length : Int)) = false := by simpa using hlt
      simp only [f1, f30, f31, f32, hds, ints, List.length_map, e1, Cd.cd32, Tk.t32, base0, base1, base2, base3, Option.isNone_none, Option.isNone_some, Nat.reduceBEq, true_or, or_true, false_or, or_false, Nat.reduceLT, Nat.reduceMod, Nat.reducePow, rmaps, nsucc, List.flatten_cons, List.flatten_nil, Nat.reduceEqDiff, Nat.reduceLeDiff, Nat.reduceAdd, Nat.reduceMul, Nat.reduceSub, ↓reduceIte, reduceCtorEq, decide_true, decide_false]
      exact fin_p (by rw [hc, firstIx_none (by rw [← hk']; exact hbad)])
end Go.Proofs.Ytgmncggiblaciaa

/- Walks: cases, copies, components. -/
namespace Go.Proofs.Ytgmncggiblaciaa
open Go Go.Proofs.Ytgmncggiblaciaa.Ab
set_option maxRecDepth 100000

theorem checkCase11 (c : Case) : FCall Try.prog 11 [caseV c] (· = .tup [.v (.int .i64 (checkCase c).1), .v (.int .i64 (checkCase c).2)]) := by
  refine ACall.enter [] Cd.fn11 (by simp) ?_
  simp only [caseV, ints, List.length_map, Cd.cd11, Tk.t11, base0, base1, base2, base3, Option.isNone_none, Option.isNone_some, Nat.reduceBEq, true_or, or_true, false_or, or_false, Nat.reduceLT, Nat.reduceMod, Nat.reducePow, rmaps, nsucc, List.flatten_cons, List.flatten_nil, Nat.reduceEqDiff, Nat.reduceLeDiff, Nat.reduceAdd, Nat.reduceMul, Nat.reduceSub, ↓reduceIte, reduceCtorEq, decide_true, decide_false]
  refine (within29 _ _ _).go (FZs.v3 _ _ _) ?_
  simp only [List.length_map, Cd.cd11, Tk.t11, base0, base1, base2, base3, Option.isNone_none, Option.isNone_some, Nat.reduceBEq, true_or, or_true, false_or, or_false, Nat.reduceLT, Nat.reduceMod, Nat.reducePow, rmaps, nsucc, List.flatten_cons, List.flatten_nil, Nat.reduceEqDiff, Nat.reduceLeDiff, Nat.reduceAdd, Nat.reduceMul, Nat.reduceSub, ↓reduceIte, reduceCtorEq, decide_true, decide_false]
  split
  · rename_i h1; exact fin_p (by unfold checkCase; rw [if_pos h1])
  rename_i h1
  split
  · rename_i h2; exact fin_p (by unfold checkCase; rw [if_neg h1, if_pos (by simpa using h2)])
  rename_i h2
  have h2 : ¬ c.place.length = 0 := by simpa using h2
  split
  · rename_i h3; exact fin_p (by unfold checkCase; rw [if_neg h1, if_neg h2, if_pos (by have := of_decide_eq_true h3; omega)])
  rename_i h3
  have h3 : ¬ 6 < c.place.length := by simp at h3; omega
  split
  · rename_i h4; exact fin_p (by unfold checkCase; rw [if_neg h1, if_neg h2, if_neg h3, if_pos (by simp at h4; omega)])
  rename_i h4
  have h4 : c.verd.length = c.place.length := by simp at h4; omega
  have hc : checkCase c = match firstIx c.place.length (badPlace c) with | some i => ((i : Int), 3) | none => (0, 0) := by
    unfold checkCase; rw [if_neg h1, if_neg h2, if_neg h3, if_neg (by simpa using h4)] <;> rfl
  refine LWP.loop [] (fun m f H' => ∃ i, m = c.place.length - i ∧ i ≤ c.place.length ∧ (∀ j, j < i → badPlace c j = false) ∧ f.t 1 = .box [.v (.int .i64 c.hosts), ints c.place, ints c.verd] ∧
    f.t 4 = .v (.int .i64 (i : Nat)) ∧ f.ds = [] ∧ H' = AH.none) ?_ ?_ (m := c.place.length)
  · exact ⟨0, rfl, Nat.zero_le _, fun j hj => by omega, rfl, rfl, rfl, rfl⟩
  · rintro m f H' ⟨i, rfl, hi, hbad, f1, f4, hds, rfl⟩
    by_cases hlt : i < c.place.length
    · have e1 : decide ((i : Int) < (c.place.length : Int)) = true := by simpa using hlt
      have e2 : 0 ≤ (i : Int) ∧ (i : Int) < (c.place.length : Int) := by omega
      have e3 : 0 ≤ (i : Int) ∧ (i : Int) < (c.verd.length : Int) := by omega
      simp only [f1, f4, hds, ints, List.length_map, e1, e2, Int.toNat_natCast, getD_ints _ _ hlt, Cd.cd11, Tk.t11, base0, base1, base2, base3, Option.isNone_none, Option.isNone_some, Nat.reduceBEq, true_or, or_true, false_or, or_false, Nat.reduceLT, Nat.reduceMod, Nat.reducePow, rmaps, nsucc, List.flatten_cons, List.flatten_nil, Nat.reduceEqDiff, Nat.reduceLeDiff, Nat.reduceAdd, Nat.reduceMul, Nat.reduceSub, ↓reduceIte, reduceCtorEq, decide_true, decide_false]
      refine (within29 _ _ _).go' (FZs.v3 _ _ _) ?_
      simp only [f1, f4, hds, ints, List.length_map, e1, e3, Int.toNat_natCast, getD_ints c.verd i (by omega), Cd.cd11, Tk.t11, base0, base1, base2, base3, Option.isNone_none, Option.isNone_some, Nat.reduceBEq, true_or, or_true, false_or, or_false, Nat.reduceLT, Nat.reduceMod, Nat.reducePow, rmaps, nsucc, List.flatten_cons, List.flatten_nil, Nat.reduceEqDiff, Nat.reduceLeDiff, Nat.reduceAdd, Nat.reduceMul, Nat.reduceSub, ↓reduceIte, reduceCtorEq, decide_true, decide_false]
      cases hw : within (c.place.getD i 0) 0 (IntKind.i64.wrap (c.hosts - 1))
      · simp only [f4, hds, Cd.cd11, Tk.t11, base0, base1, base2, base3, Option.isNone_none, Option.isNone_some, Nat.reduceBEq, true_or, or_true, false_or, or_false, Nat.reduceLT, Nat.reduceMod, Nat.reducePow, rmaps, nsucc, List.flatten_cons, List.flatten_nil, Nat.reduceEqDiff, Nat.reduceLeDiff, Nat.reduceAdd, Nat.reduceMul, Nat.reduceSub, ↓reduceIte, reduceCtorEq, decide_true, decide_false]
        exact fin_p (by rw [hc, firstIx_some hlt (by unfold badPlace; rw [hw]; rfl) hbad])
      · simp only [f1, f4, hds, ints, List.length_map, e1, e3, Int.toNat_natCast, getD_ints c.verd i (by omega), Cd.cd11, Tk.t11, base0, base1, base2, base3, Option.isNone_none, Option.isNone_some, Nat.reduceBEq, true_or, or_true, false_or, or_false, Nat.reduceLT, Nat.reduceMod, Nat.reducePow, rmaps, nsucc, List.flatten_cons, List.flatten_nil, Nat.reduceEqDiff, Nat.reduceLeDiff, Nat.reduceAdd, Nat.reduceMul, Nat.reduceSub, ↓reduceIte, reduceCtorEq, decide_true, decide_false]
        refine (isVerdict40 _).go' (FZs.v1 _) ?_
        simp only [hds, f4, Cd.cd11, Tk.t11, base0, base1, base2, base3, Option.isNone_none, Option.isNone_some, Nat.reduceBEq, true_or, or_true, false_or, or_false, Nat.reduceLT, Nat.reduceMod, Nat.reducePow, rmaps, nsucc, List.flatten_cons, List.flatten_nil, Nat.reduceEqDiff, Nat.reduceLeDiff, Nat.reduceAdd, Nat.reduceMul, Nat.reduceSub, ↓reduceIte, reduceCtorEq, decide_true, decide_false]
        cases hv : isVerdict (c.verd.getD i 0)
        · simp only [hds, f4, Cd.cd11, Tk.t11, base0, base1, base2, base3, Option.isNone_none, Option.isNone_some, Nat.reduceBEq, true_or, or_true, false_or, or_false, Nat.reduceLT, Nat.reduceMod, Nat.reducePow, rmaps, nsucc, List.flatten_cons, List.flatten_nil, Nat.reduceEqDiff, Nat.reduceLeDiff, Nat.reduceAdd, Nat.reduceMul, Nat.reduceSub, ↓reduceIte, reduceCtorEq, decide_true, decide_false]
          exact fin_p (by rw [hc, firstIx_some hlt (by unfold badPlace; rw [hw, hv]; rfl) hbad])
        · simp only [hds, f4, Cd.cd11, Tk.t11, base0, base1, base2, base3, Option.isNone_none, Option.isNone_some, Nat.reduceBEq, true_or, or_true, false_or, or_false, Nat.reduceLT, Nat.reduceMod, Nat.reducePow, rmaps, nsucc, List.flatten_cons, List.flatten_nil, Nat.reduceEqDiff, Nat.reduceLeDiff, Nat.reduceAdd, Nat.reduceMul, Nat.reduceSub, ↓reduceIte, reduceCtorEq, decide_true, decide_false]
          refine ⟨_, by omega, i + 1, rfl, by omega, fun j hj => ?_, f1, by rw [wrapS (by omega)]⟩
          rcases Nat.lt_succ_iff_lt_or_eq.mp hj with h | h
          · exact hbad j h
          · subst h; unfold badPlace; rw [hw, hv]; rfl
    · have hk' : i = c.place.length := by omega
      have e1 : decide ((i : Int) < (c.place.length : Int)) = false := by simpa using hlt
      simp only [f1, f4, hds, ints, List.length_map, e1, Cd.cd11, Tk.t11, base0, base1, base2, base3, Option.isNone_none, Option.isNone_some, Nat.reduceBEq, true_or, or_true, false_or, or_false, Nat.reduceLT, Nat.reduceMod, Nat.reducePow, rmaps, nsucc, List.flatten_cons, List.flatten_nil, Nat.reduceEqDiff, Nat.reduceLeDiff, Nat.reduceAdd, Nat.reduceMul, Nat.reduceSub, ↓reduceIte, reduceCtorEq, decide_true, decide_false]
      exact fin_p (by rw [hc, firstIx_none (by rw [← hk']; exact hbad)])

theorem caseErr41 (c : Case) : FCall Try.prog 41 [caseV c] (· = .v (.int .i64 (checkCase c).2)) := by
  refine ACall.enter [] Cd.fn41 (by simp) ?_
  simp only [caseV, Cd.cd41, Tk.t41, base0, base1, base2, base3, Option.isNone_none, Option.isNone_some, Nat.reduceBEq, true_or, or_true, false_or, or_false, Nat.reduceLT, Nat.reduceMod, Nat.reducePow, rmaps, nsucc, List.flatten_cons, List.flatten_nil, Nat.reduceEqDiff, Nat.reduceLeDiff, Nat.reduceAdd, Nat.reduceMul, Nat.reduceSub, ↓reduceIte, reduceCtorEq, decide_true, decide_false]
  refine (checkCase32 c).go (FZs.one (FZ.caseV c)) ?_
  simp only [Cd.cd41, Tk.t41, base0, base1, base2, base3, Option.isNone_none, Option.isNone_some, Nat.reduceBEq, true_or, or_true, false_or, or_false, Nat.reduceLT, Nat.reduceMod, Nat.reducePow, rmaps, nsucc, List.flatten_cons, List.flatten_nil, Nat.reduceEqDiff, Nat.reduceLeDiff, Nat.reduceAdd, Nat.reduceMul, Nat.reduceSub, ↓reduceIte, reduceCtorEq, decide_true, decide_false]
  exact fin_v rfl

end Go.Proofs.Ytgmncggiblaciaa
