/- Part 1 of a proof: conformRelations holds for every input; no condition. -/
import Derived.Test.YtchpcjmgifnmdaaDoorProg
import Derived.KernelRfl
import Derived.DeepKeys3
import Derived.Test.YtchpcjmgifnmdaaDoorCards
import Derived.Test.YtchpcjmgifnmdaaDoorTie
import Derived.ProofKit
import Derived.OpenShut
import Derived.SizedLaws
import Derived.Deep.DeepHandedRow
import Derived.Lib.LaidTab
import Derived.Test.YtchpcjmgifnmdaaDoorGl
import Derived.Test.YtchpcjmgifnmdaaDoorAb0
import Derived.Test.YtchpcjmgifnmdaaDoorAb1
import Derived.Test.YtchpcjmgifnmdaaDoorAb2
import Derived.Test.YtchpcjmgifnmdaaDoorAb3
import Derived.Test.YtchpcjmgifnmdaaDoorAb4
import Derived.Test.YtchpcjmgifnmdaaDoorAb5
import Derived.Test.YtchpcjmgifnmdaaDoorAb6
import Derived.Test.YtchpcjmgifnmdaaDoorAb7
import Derived.Test.YtchpcjmgifnmdaaDoorAb8
import Derived.Test.YtchpcjmgifnmdaaDoorAb8a
import Derived.Test.YtchpcjmgifnmdaaDoorAb8b
import Derived.Test.YtchpcjmgifnmdaaDoorAb8c
import Derived.Test.YtchpcjmgifnmdaaDoorAb8m
import Derived.Test.YtchpcjmgifnmdaaDoorAb8d
import Derived.Test.YtchpcjmgifnmdaaDoorAb9
import Derived.Test.YtchpcjmgifnmdaaDoorAb10
import Derived.Test.YtchpcjmgifnmdaaDoorAb11
import Derived.Test.YtchpcjmgifnmdaaDoorAb12
import Derived.Test.YtchpcjmgifnmdaaDoorAb13
import Derived.Test.YtchpcjmgifnmdaaDoorAb14
import Derived.Test.YtchpcjmgifnmdaaDoorAb15
import Derived.Test.YtchpcjmgifnmdaaDoorAb16
import Derived.Test.YtchpcjmgifnmdaaDoorAb17
import Derived.Test.YtchpcjmgifnmdaaDoorAb18
import Derived.Test.YtchpcjmgifnmdaaDoorAb19
import Derived.Test.YtchpcjmgifnmdaaDoorAb20
import Derived.Test.YtchpcjmgifnmdaaDoorAb23
set_option linter.unusedSimpArgs false
set_option linter.unusedVariables false
set_option linter.defProp false
/- Closed facts on the types of the translation, by program. -/
namespace Go.Proofs.YtchpcjmgifnmdaaDoor
open Go Go.Proofs.YtchpcjmgifnmdaaDoor.Ab
namespace Ty
theorem sz1 : szOf Tryd.prog 1 = some 1 := by kernel_rfl
theorem ag1 : isAggT Tryd.prog 1 = some false := by kernel_rfl
theorem un1 : (Tryd.prog.underlying 1).isSome = true := by kernel_rfl
theorem unn1 : (Tryd.prog.underlying 1).isNone = false := by kernel_rfl
theorem zr1 : zeroA Tryd.prog 1 = some [.v (.nilFunc)] := by kernel_rfl
theorem by1 : byOf Tryd.prog 1 = some 8 := by kernel_rfl
theorem if1 : isIfc Tryd.prog 1 = false := by kernel_rfl
theorem sz2 : szOf Tryd.prog 2 = some 1 := by kernel_rfl
theorem ag2 : isAggT Tryd.prog 2 = some false := by kernel_rfl
theorem un2 : (Tryd.prog.underlying 2).isSome = true := by kernel_rfl
theorem unn2 : (Tryd.prog.underlying 2).isNone = false := by kernel_rfl
theorem zr2 : zeroA Tryd.prog 2 = some [.v (.int .i64 0)] := by kernel_rfl
theorem by2 : byOf Tryd.prog 2 = some 8 := by kernel_rfl
theorem in2 : intT Tryd.prog 2 = some .i64 := by kernel_rfl
theorem if2 : isIfc Tryd.prog 2 = false := by kernel_rfl
theorem sz3 : szOf Tryd.prog 3 = some 1 := by kernel_rfl
theorem ag3 : isAggT Tryd.prog 3 = some false := by kernel_rfl
theorem un3 : (Tryd.prog.underlying 3).isSome = true := by kernel_rfl
theorem unn3 : (Tryd.prog.underlying 3).isNone = false := by kernel_rfl
theorem zr3 : zeroA Tryd.prog 3 = some [.v (.int .i64 0)] := by kernel_rfl
theorem by3 : byOf Tryd.prog 3 = some 8 := by kernel_rfl
theorem in3 : intT Tryd.prog 3 = some .i64 := by kernel_rfl
theorem if3 : isIfc Tryd.prog 3 = false := by kernel_rfl
theorem sz4 : szOf Tryd.prog 4 = some 1 := by kernel_rfl
theorem ag4 : isAggT Tryd.prog 4 = some false := by kernel_rfl
theorem un4 : (Tryd.prog.underlying 4).isSome = true := by kernel_rfl
theorem unn4 : (Tryd.prog.underlying 4).isNone = false := by kernel_rfl
theorem zr4 : zeroA Tryd.prog 4 = some [.v (.bool false)] := by kernel_rfl
theorem by4 : byOf Tryd.prog 4 = some 1 := by kernel_rfl
theorem bo4 : isBoolT Tryd.prog 4 = true := by kernel_rfl
theorem if4 : isIfc Tryd.prog 4 = false := by kernel_rfl
theorem sz5 : szOf Tryd.prog 5 = some 1 := by kernel_rfl
theorem ag5 : isAggT Tryd.prog 5 = some false := by kernel_rfl
theorem un5 : (Tryd.prog.underlying 5).isSome = true := by kernel_rfl
theorem unn5 : (Tryd.prog.underlying 5).isNone = false := by kernel_rfl
theorem zr5 : zeroA Tryd.prog 5 = some [.v (.int .u8 0)] := by kernel_rfl
theorem by5 : byOf Tryd.prog 5 = some 1 := by kernel_rfl
theorem in5 : intT Tryd.prog 5 = some .u8 := by kernel_rfl
theorem if5 : isIfc Tryd.prog 5 = false := by kernel_rfl
theorem sz22 : szOf Tryd.prog 22 = some 1 := by kernel_rfl
theorem ag22 : isAggT Tryd.prog 22 = some false := by kernel_rfl
theorem un22 : (Tryd.prog.underlying 22).isSome = true := by kernel_rfl
theorem unn22 : (Tryd.prog.underlying 22).isNone = false := by kernel_rfl
theorem zr22 : zeroA Tryd.prog 22 = some [.v (.slice none 0 0)] := by kernel_rfl
theorem el22 : elOf Tryd.prog 22 = some 113 := by kernel_rfl
theorem by22 : byOf Tryd.prog 22 = some 24 := by kernel_rfl
theorem ni22 : notInt Tryd.prog 22 = true := by kernel_rfl
theorem if22 : isIfc Tryd.prog 22 = false := by kernel_rfl
theorem sz24 : szOf Tryd.prog 24 = some 5 := by kernel_rfl
theorem ag24 : isAggT Tryd.prog 24 = some true := by kernel_rfl
theorem un24 : (Tryd.prog.underlying 24).isSome = true := by kernel_rfl
theorem unn24 : (Tryd.prog.underlying 24).isNone = false := by kernel_rfl
theorem zr24 : zeroA Tryd.prog 24 = some [.v (.int .i64 0), .v (.int .i64 0), .v (.int .i64 0), .v (.int .i64 0), .v (.slice none 0 0)] := by kernel_rfl
theorem by24 : byOf Tryd.prog 24 = some 56 := by kernel_rfl
theorem if24 : isIfc Tryd.prog 24 = false := by kernel_rfl
theorem pl24 : placesOf Tryd.prog 24 = some [(0, 1), (1, 1), (2, 1), (3, 1), (4, 1)] := by kernel_rfl
theorem fo24_0 : fldOff Tryd.prog 24 0 = some 0 := by kernel_rfl
theorem ft24_0 : fldTy Tryd.prog 24 0 = some 3 := by kernel_rfl
theorem fo24_1 : fldOff Tryd.prog 24 1 = some 1 := by kernel_rfl
theorem ft24_1 : fldTy Tryd.prog 24 1 = some 3 := by kernel_rfl
theorem fo24_2 : fldOff Tryd.prog 24 2 = some 2 := by kernel_rfl
theorem ft24_2 : fldTy Tryd.prog 24 2 = some 3 := by kernel_rfl
theorem fo24_3 : fldOff Tryd.prog 24 3 = some 3 := by kernel_rfl
theorem ft24_3 : fldTy Tryd.prog 24 3 = some 3 := by kernel_rfl
theorem fo24_4 : fldOff Tryd.prog 24 4 = some 4 := by kernel_rfl
theorem ft24_4 : fldTy Tryd.prog 24 4 = some 22 := by kernel_rfl
theorem sz27 : szOf Tryd.prog 27 = some 1 := by kernel_rfl
theorem ag27 : isAggT Tryd.prog 27 = some false := by kernel_rfl
theorem un27 : (Tryd.prog.underlying 27).isSome = true := by kernel_rfl
theorem unn27 : (Tryd.prog.underlying 27).isNone = false := by kernel_rfl
theorem zr27 : zeroA Tryd.prog 27 = some [.v (.slice none 0 0)] := by kernel_rfl
theorem el27 : elOf Tryd.prog 27 = some 3 := by kernel_rfl
theorem by27 : byOf Tryd.prog 27 = some 24 := by kernel_rfl
theorem ni27 : notInt Tryd.prog 27 = true := by kernel_rfl
theorem if27 : isIfc Tryd.prog 27 = false := by kernel_rfl
theorem sz28 : szOf Tryd.prog 28 = some 1 := by kernel_rfl
theorem ag28 : isAggT Tryd.prog 28 = some false := by kernel_rfl
theorem un28 : (Tryd.prog.underlying 28).isSome = true := by kernel_rfl
theorem unn28 : (Tryd.prog.underlying 28).isNone = false := by kernel_rfl
theorem zr28 : zeroA Tryd.prog 28 = some [.v (.int .i64 0)] := by kernel_rfl
theorem by28 : byOf Tryd.prog 28 = some 8 := by kernel_rfl
theorem in28 : intT Tryd.prog 28 = some .i64 := by kernel_rfl
theorem if28 : isIfc Tryd.prog 28 = false := by kernel_rfl
theorem sz32 : szOf Tryd.prog 32 = some 1 := by kernel_rfl
theorem ag32 : isAggT Tryd.prog 32 = some false := by kernel_rfl
theorem un32 : (Tryd.prog.underlying 32).isSome = true := by kernel_rfl
theorem unn32 : (Tryd.prog.underlying 32).isNone = false := by kernel_rfl
theorem zr32 : zeroA Tryd.prog 32 = some [.v (.slice none 0 0)] := by kernel_rfl
theorem el32 : elOf Tryd.prog 32 = some 41 := by kernel_rfl
theorem by32 : byOf Tryd.prog 32 = some 24 := by kernel_rfl
theorem ni32 : notInt Tryd.prog 32 = true := by kernel_rfl
theorem if32 : isIfc Tryd.prog 32 = false := by kernel_rfl
theorem sz36 : szOf Tryd.prog 36 = some 1 := by kernel_rfl
theorem ag36 : isAggT Tryd.prog 36 = some false := by kernel_rfl
theorem un36 : (Tryd.prog.underlying 36).isSome = true := by kernel_rfl
theorem unn36 : (Tryd.prog.underlying 36).isNone = false := by kernel_rfl
theorem zr36 : zeroA Tryd.prog 36 = some [.v (.slice none 0 0)] := by kernel_rfl
theorem el36 : elOf Tryd.prog 36 = some 43 := by kernel_rfl
theorem by36 : byOf Tryd.prog 36 = some 24 := by kernel_rfl
theorem ni36 : notInt Tryd.prog 36 = true := by kernel_rfl
theorem if36 : isIfc Tryd.prog 36 = false := by kernel_rfl
theorem sz41 : szOf Tryd.prog 41 = some 2 := by kernel_rfl
theorem ag41 : isAggT Tryd.prog 41 = some true := by kernel_rfl
theorem un41 : (Tryd.prog.underlying 41).isSome = true := by kernel_rfl
theorem unn41 : (Tryd.prog.underlying 41).isNone = false := by kernel_rfl
theorem zr41 : zeroA Tryd.prog 41 = some [.v (.slice none 0 0), .v (.slice none 0 0)] := by kernel_rfl
theorem by41 : byOf Tryd.prog 41 = some 48 := by kernel_rfl
theorem if41 : isIfc Tryd.prog 41 = false := by kernel_rfl
theorem pl41 : placesOf Tryd.prog 41 = some [(0, 1), (1, 1)] := by kernel_rfl
theorem fo41_0 : fldOff Tryd.prog 41 0 = some 0 := by kernel_rfl
theorem ft41_0 : fldTy Tryd.prog 41 0 = some 27 := by kernel_rfl
theorem fo41_1 : fldOff Tryd.prog 41 1 = some 1 := by kernel_rfl
theorem ft41_1 : fldTy Tryd.prog 41 1 = some 27 := by kernel_rfl
theorem sz43 : szOf Tryd.prog 43 = some 3 := by kernel_rfl
theorem ag43 : isAggT Tryd.prog 43 = some true := by kernel_rfl
theorem un43 : (Tryd.prog.underlying 43).isSome = true := by kernel_rfl
theorem unn43 : (Tryd.prog.underlying 43).isNone = false := by kernel_rfl
theorem zr43 : zeroA Tryd.prog 43 = some [.v (.slice none 0 0), .v (.slice none 0 0), .v (.slice none 0 0)] := by kernel_rfl
theorem by43 : byOf Tryd.prog 43 = some 72 := by kernel_rfl
theorem if43 : isIfc Tryd.prog 43 = false := by kernel_rfl
theorem pl43 : placesOf Tryd.prog 43 = some [(0, 1), (1, 1), (2, 1)] := by kernel_rfl
theorem fo43_0 : fldOff Tryd.prog 43 0 = some 0 := by kernel_rfl
theorem ft43_0 : fldTy Tryd.prog 43 0 = some 27 := by kernel_rfl
theorem fo43_1 : fldOff Tryd.prog 43 1 = some 1 := by kernel_rfl
theorem ft43_1 : fldTy Tryd.prog 43 1 = some 27 := by kernel_rfl
theorem fo43_2 : fldOff Tryd.prog 43 2 = some 2 := by kernel_rfl
theorem ft43_2 : fldTy Tryd.prog 43 2 = some 27 := by kernel_rfl
theorem sz95 : szOf Tryd.prog 95 = some 1 := by kernel_rfl
theorem ag95 : isAggT Tryd.prog 95 = some false := by kernel_rfl
theorem un95 : (Tryd.prog.underlying 95).isSome = true := by kernel_rfl
theorem unn95 : (Tryd.prog.underlying 95).isNone = false := by kernel_rfl
theorem zr95 : zeroA Tryd.prog 95 = some [.v (.pointer none)] := by kernel_rfl
theorem by95 : byOf Tryd.prog 95 = some 8 := by kernel_rfl
theorem po95 : isPtrT Tryd.prog 95 = true := by kernel_rfl
theorem if95 : isIfc Tryd.prog 95 = false := by kernel_rfl
theorem sz99 : szOf Tryd.prog 99 = some 1 := by kernel_rfl
theorem ag99 : isAggT Tryd.prog 99 = some false := by kernel_rfl
theorem un99 : (Tryd.prog.underlying 99).isSome = true := by kernel_rfl
theorem unn99 : (Tryd.prog.underlying 99).isNone = false := by kernel_rfl
theorem zr99 : zeroA Tryd.prog 99 = some [.v (.pointer none)] := by kernel_rfl
theorem by99 : byOf Tryd.prog 99 = some 8 := by kernel_rfl
theorem po99 : isPtrT Tryd.prog 99 = true := by kernel_rfl
theorem if99 : isIfc Tryd.prog 99 = false := by kernel_rfl
theorem sz100 : szOf Tryd.prog 100 = some 1 := by kernel_rfl
theorem ag100 : isAggT Tryd.prog 100 = some false := by kernel_rfl
theorem un100 : (Tryd.prog.underlying 100).isSome = true := by kernel_rfl
theorem unn100 : (Tryd.prog.underlying 100).isNone = false := by kernel_rfl
theorem zr100 : zeroA Tryd.prog 100 = some [.v (.slice none 0 0)] := by kernel_rfl
theorem el100 : elOf Tryd.prog 100 = some 107 := by kernel_rfl
theorem by100 : byOf Tryd.prog 100 = some 24 := by kernel_rfl
theorem ni100 : notInt Tryd.prog 100 = true := by kernel_rfl
theorem if100 : isIfc Tryd.prog 100 = false := by kernel_rfl
theorem sz101 : szOf Tryd.prog 101 = some 1 := by kernel_rfl
theorem ag101 : isAggT Tryd.prog 101 = some false := by kernel_rfl
theorem un101 : (Tryd.prog.underlying 101).isSome = true := by kernel_rfl
theorem unn101 : (Tryd.prog.underlying 101).isNone = false := by kernel_rfl
theorem zr101 : zeroA Tryd.prog 101 = some [.v (.map none)] := by kernel_rfl
theorem by101 : byOf Tryd.prog 101 = some 8 := by kernel_rfl
theorem if101 : isIfc Tryd.prog 101 = false := by kernel_rfl
theorem sz103 : szOf Tryd.prog 103 = some 6 := by kernel_rfl
theorem ag103 : isAggT Tryd.prog 103 = some true := by kernel_rfl
theorem un103 : (Tryd.prog.underlying 103).isSome = true := by kernel_rfl
theorem unn103 : (Tryd.prog.underlying 103).isNone = false := by kernel_rfl
theorem zr103 : zeroA Tryd.prog 103 = some [.v (.pointer none), .v (.pointer none), .v (.slice none 0 0), .v (.slice none 0 0), .v (.slice none 0 0), .v (.map none)] := by kernel_rfl
theorem by103 : byOf Tryd.prog 103 = some 96 := by kernel_rfl
theorem if103 : isIfc Tryd.prog 103 = false := by kernel_rfl
theorem pl103 : placesOf Tryd.prog 103 = some [(0, 1), (1, 1), (2, 1), (3, 1), (4, 1), (5, 1)] := by kernel_rfl
theorem fo103_0 : fldOff Tryd.prog 103 0 = some 0 := by kernel_rfl
theorem ft103_0 : fldTy Tryd.prog 103 0 = some 99 := by kernel_rfl
theorem fo103_1 : fldOff Tryd.prog 103 1 = some 1 := by kernel_rfl
theorem ft103_1 : fldTy Tryd.prog 103 1 = some 99 := by kernel_rfl
theorem fo103_2 : fldOff Tryd.prog 103 2 = some 2 := by kernel_rfl
theorem ft103_2 : fldTy Tryd.prog 103 2 = some 100 := by kernel_rfl
theorem fo103_3 : fldOff Tryd.prog 103 3 = some 3 := by kernel_rfl
theorem ft103_3 : fldTy Tryd.prog 103 3 = some 27 := by kernel_rfl
theorem fo103_4 : fldOff Tryd.prog 103 4 = some 4 := by kernel_rfl
theorem ft103_4 : fldTy Tryd.prog 103 4 = some 27 := by kernel_rfl
theorem fo103_5 : fldOff Tryd.prog 103 5 = some 5 := by kernel_rfl
theorem ft103_5 : fldTy Tryd.prog 103 5 = some 101 := by kernel_rfl
theorem sz104 : szOf Tryd.prog 104 = some 1 := by kernel_rfl
theorem ag104 : isAggT Tryd.prog 104 = some false := by kernel_rfl
theorem un104 : (Tryd.prog.underlying 104).isSome = true := by kernel_rfl
theorem unn104 : (Tryd.prog.underlying 104).isNone = false := by kernel_rfl
theorem zr104 : zeroA Tryd.prog 104 = some [.v (.int .u64 0)] := by kernel_rfl
theorem by104 : byOf Tryd.prog 104 = some 8 := by kernel_rfl
theorem in104 : intT Tryd.prog 104 = some .u64 := by kernel_rfl
theorem if104 : isIfc Tryd.prog 104 = false := by kernel_rfl
theorem sz105 : szOf Tryd.prog 105 = some 1 := by kernel_rfl
theorem ag105 : isAggT Tryd.prog 105 = some false := by kernel_rfl
theorem un105 : (Tryd.prog.underlying 105).isSome = true := by kernel_rfl
theorem unn105 : (Tryd.prog.underlying 105).isNone = false := by kernel_rfl
theorem zr105 : zeroA Tryd.prog 105 = some [.v (.int .u64 0)] := by kernel_rfl
theorem by105 : byOf Tryd.prog 105 = some 8 := by kernel_rfl
theorem in105 : intT Tryd.prog 105 = some .u64 := by kernel_rfl
theorem if105 : isIfc Tryd.prog 105 = false := by kernel_rfl
theorem sz107 : szOf Tryd.prog 107 = some 2 := by kernel_rfl
theorem ag107 : isAggT Tryd.prog 107 = some true := by kernel_rfl
theorem un107 : (Tryd.prog.underlying 107).isSome = true := by kernel_rfl
theorem unn107 : (Tryd.prog.underlying 107).isNone = false := by kernel_rfl
theorem zr107 : zeroA Tryd.prog 107 = some [.v (.int .u64 0), .v (.int .u64 0)] := by kernel_rfl
theorem by107 : byOf Tryd.prog 107 = some 16 := by kernel_rfl
theorem if107 : isIfc Tryd.prog 107 = false := by kernel_rfl
theorem ef107 : eqFs Tryd.prog 107 = some [(105, 0), (105, 1)] := by kernel_rfl
theorem pl107 : placesOf Tryd.prog 107 = some [(0, 1), (1, 1)] := by kernel_rfl
theorem fo107_0 : fldOff Tryd.prog 107 0 = some 0 := by kernel_rfl
theorem ft107_0 : fldTy Tryd.prog 107 0 = some 105 := by kernel_rfl
theorem fo107_1 : fldOff Tryd.prog 107 1 = some 1 := by kernel_rfl
theorem ft107_1 : fldTy Tryd.prog 107 1 = some 105 := by kernel_rfl
theorem sz113 : szOf Tryd.prog 113 = some 4 := by kernel_rfl
theorem ag113 : isAggT Tryd.prog 113 = some true := by kernel_rfl
theorem un113 : (Tryd.prog.underlying 113).isSome = true := by kernel_rfl
theorem unn113 : (Tryd.prog.underlying 113).isNone = false := by kernel_rfl
theorem zr113 : zeroA Tryd.prog 113 = some [.v (.int .i64 0), .v (.int .i64 0), .v (.int .i64 0), .v (.int .i64 0)] := by kernel_rfl
theorem by113 : byOf Tryd.prog 113 = some 32 := by kernel_rfl
theorem if113 : isIfc Tryd.prog 113 = false := by kernel_rfl
theorem ef113 : eqFs Tryd.prog 113 = some [(3, 0), (3, 1), (3, 2), (3, 3)] := by kernel_rfl
theorem pl113 : placesOf Tryd.prog 113 = some [(0, 1), (1, 1), (2, 1), (3, 1)] := by kernel_rfl
theorem fo113_0 : fldOff Tryd.prog 113 0 = some 0 := by kernel_rfl
theorem ft113_0 : fldTy Tryd.prog 113 0 = some 3 := by kernel_rfl
theorem fo113_1 : fldOff Tryd.prog 113 1 = some 1 := by kernel_rfl
theorem ft113_1 : fldTy Tryd.prog 113 1 = some 3 := by kernel_rfl
theorem fo113_2 : fldOff Tryd.prog 113 2 = some 2 := by kernel_rfl
theorem ft113_2 : fldTy Tryd.prog 113 2 = some 3 := by kernel_rfl
theorem fo113_3 : fldOff Tryd.prog 113 3 = some 3 := by kernel_rfl
theorem ft113_3 : fldTy Tryd.prog 113 3 = some 3 := by kernel_rfl
theorem sz122 : szOf Tryd.prog 122 = some 1 := by kernel_rfl
theorem ag122 : isAggT Tryd.prog 122 = some false := by kernel_rfl
theorem un122 : (Tryd.prog.underlying 122).isSome = true := by kernel_rfl
theorem unn122 : (Tryd.prog.underlying 122).isNone = false := by kernel_rfl
theorem zr122 : zeroA Tryd.prog 122 = some [.v (.slice none 0 0)] := by kernel_rfl
theorem el122 : elOf Tryd.prog 122 = some 123 := by kernel_rfl
theorem by122 : byOf Tryd.prog 122 = some 24 := by kernel_rfl
theorem ni122 : notInt Tryd.prog 122 = true := by kernel_rfl
theorem if122 : isIfc Tryd.prog 122 = false := by kernel_rfl
theorem sz123 : szOf Tryd.prog 123 = some 1 := by kernel_rfl
theorem ag123 : isAggT Tryd.prog 123 = some false := by kernel_rfl
theorem un123 : (Tryd.prog.underlying 123).isSome = true := by kernel_rfl
theorem unn123 : (Tryd.prog.underlying 123).isNone = false := by kernel_rfl
theorem zr123 : zeroA Tryd.prog 123 = some [.v (.slice none 0 0)] := by kernel_rfl
theorem el123 : elOf Tryd.prog 123 = some 105 := by kernel_rfl
theorem by123 : byOf Tryd.prog 123 = some 24 := by kernel_rfl
theorem ni123 : notInt Tryd.prog 123 = true := by kernel_rfl
theorem if123 : isIfc Tryd.prog 123 = false := by kernel_rfl
theorem sz125 : szOf Tryd.prog 125 = some 7 := by kernel_rfl
theorem ag125 : isAggT Tryd.prog 125 = some true := by kernel_rfl
theorem un125 : (Tryd.prog.underlying 125).isSome = true := by kernel_rfl
theorem unn125 : (Tryd.prog.underlying 125).isNone = false := by kernel_rfl
theorem zr125 : zeroA Tryd.prog 125 = some [.v (.int .i64 0), .v (.int .i64 0), .v (.int .i64 0), .v (.int .i64 0), .v (.slice none 0 0), .v (.slice none 0 0), .v (.slice none 0 0)] := by kernel_rfl
theorem by125 : byOf Tryd.prog 125 = some 104 := by kernel_rfl
theorem if125 : isIfc Tryd.prog 125 = false := by kernel_rfl
theorem pl125 : placesOf Tryd.prog 125 = some [(0, 5), (5, 1), (6, 1)] := by kernel_rfl
theorem fo125_0 : fldOff Tryd.prog 125 0 = some 0 := by kernel_rfl
theorem ft125_0 : fldTy Tryd.prog 125 0 = some 24 := by kernel_rfl
theorem fo125_1 : fldOff Tryd.prog 125 1 = some 5 := by kernel_rfl
theorem ft125_1 : fldTy Tryd.prog 125 1 = some 122 := by kernel_rfl
theorem fo125_2 : fldOff Tryd.prog 125 2 = some 6 := by kernel_rfl
theorem ft125_2 : fldTy Tryd.prog 125 2 = some 123 := by kernel_rfl
theorem sz133 : szOf Tryd.prog 133 = some 1 := by kernel_rfl
theorem ag133 : isAggT Tryd.prog 133 = some false := by kernel_rfl
theorem un133 : (Tryd.prog.underlying 133).isSome = true := by kernel_rfl
theorem unn133 : (Tryd.prog.underlying 133).isNone = false := by kernel_rfl
theorem zr133 : zeroA Tryd.prog 133 = some [.v (.slice none 0 0)] := by kernel_rfl
theorem el133 : elOf Tryd.prog 133 = some 4 := by kernel_rfl
theorem by133 : byOf Tryd.prog 133 = some 24 := by kernel_rfl
theorem ni133 : notInt Tryd.prog 133 = true := by kernel_rfl
theorem if133 : isIfc Tryd.prog 133 = false := by kernel_rfl
theorem sz156 : szOf Tryd.prog 156 = some 1 := by kernel_rfl
theorem ag156 : isAggT Tryd.prog 156 = some false := by kernel_rfl
theorem un156 : (Tryd.prog.underlying 156).isSome = true := by kernel_rfl
theorem unn156 : (Tryd.prog.underlying 156).isNone = false := by kernel_rfl
theorem zr156 : zeroA Tryd.prog 156 = some [.v (.nilFunc)] := by kernel_rfl
theorem by156 : byOf Tryd.prog 156 = some 8 := by kernel_rfl
theorem if156 : isIfc Tryd.prog 156 = false := by kernel_rfl
theorem sz165 : szOf Tryd.prog 165 = some 1 := by kernel_rfl
theorem ag165 : isAggT Tryd.prog 165 = some false := by kernel_rfl
theorem un165 : (Tryd.prog.underlying 165).isSome = true := by kernel_rfl
theorem unn165 : (Tryd.prog.underlying 165).isNone = false := by kernel_rfl
theorem zr165 : zeroA Tryd.prog 165 = some [.v (.slice none 0 0)] := by kernel_rfl
theorem el165 : elOf Tryd.prog 165 = some 28 := by kernel_rfl
theorem by165 : byOf Tryd.prog 165 = some 24 := by kernel_rfl
theorem ni165 : notInt Tryd.prog 165 = true := by kernel_rfl
theorem if165 : isIfc Tryd.prog 165 = false := by kernel_rfl
theorem sz174 : szOf Tryd.prog 174 = some 1 := by kernel_rfl
theorem ag174 : isAggT Tryd.prog 174 = some false := by kernel_rfl
theorem un174 : (Tryd.prog.underlying 174).isSome = true := by kernel_rfl
theorem unn174 : (Tryd.prog.underlying 174).isNone = false := by kernel_rfl
theorem zr174 : zeroA Tryd.prog 174 = some [.v (.int .u32 0)] := by kernel_rfl
theorem by174 : byOf Tryd.prog 174 = some 4 := by kernel_rfl
theorem in174 : intT Tryd.prog 174 = some .u32 := by kernel_rfl
theorem if174 : isIfc Tryd.prog 174 = false := by kernel_rfl
theorem sz176 : szOf Tryd.prog 176 = some 1 := by kernel_rfl
theorem ag176 : isAggT Tryd.prog 176 = some false := by kernel_rfl
theorem un176 : (Tryd.prog.underlying 176).isSome = true := by kernel_rfl
theorem unn176 : (Tryd.prog.underlying 176).isNone = false := by kernel_rfl
theorem zr176 : zeroA Tryd.prog 176 = some [.v (.int .u64 0)] := by kernel_rfl
theorem by176 : byOf Tryd.prog 176 = some 8 := by kernel_rfl
theorem in176 : intT Tryd.prog 176 = some .u64 := by kernel_rfl
theorem if176 : isIfc Tryd.prog 176 = false := by kernel_rfl
theorem sz180 : szOf Tryd.prog 180 = some 64 := by kernel_rfl
theorem ag180 : isAggT Tryd.prog 180 = some true := by kernel_rfl
theorem un180 : (Tryd.prog.underlying 180).isSome = true := by kernel_rfl
theorem unn180 : (Tryd.prog.underlying 180).isNone = false := by kernel_rfl
theorem by180 : byOf Tryd.prog 180 = some 64 := by kernel_rfl
theorem if180 : isIfc Tryd.prog 180 = false := by kernel_rfl
end Ty
end Go.Proofs.YtchpcjmgifnmdaaDoor

/- The code of functions without what an evaluation has no need of, by program. -/
namespace Go.Proofs.YtchpcjmgifnmdaaDoor
open Go Go.Proofs.YtchpcjmgifnmdaaDoor.Ab
namespace Cd
/-- examiner/examinerlaw42.Other -/
def cd56 : CC := (.seq (.reg [⟨some 0, (Op.alloc 24), none⟩])
 (.seq (.reg [⟨some 2, (Op.call { callee := (Callee.value (Operand.func 57)), args := #[], argTypes := #[] }), none⟩,
  ⟨some 1, (Op.alloc 24), none⟩,
  ⟨none, (Op.store 24 (Operand.tmp 1) (Operand.tmp 2)), none⟩])
 (.seq (.reg [⟨some 3, (Op.fieldAddr 24 (Operand.tmp 1) 4), none⟩,
  ⟨some 4, (Op.load 22 (Operand.tmp 3)), none⟩,
  ⟨some 5, (Op.indexAddr 22 (Operand.tmp 4) (Operand.const (Value.int IntKind.i64 1))), none⟩,
  ⟨some 6, (Op.fieldAddr 113 (Operand.tmp 5) 2), none⟩,
  ⟨none, (Op.store 3 (Operand.tmp 6) (Operand.const (Value.int IntKind.i64 1))), none⟩])
 (.seq (.reg [⟨some 7, (Op.load 24 (Operand.tmp 1)), none⟩,
  ⟨none, (Op.store 24 (Operand.tmp 0) (Operand.tmp 7)), none⟩])
 .ret))))
theorem fn56 : FnFact Tryd.prog 56 8 [] [(ResultVar.cell 0 24)] cd56 := ⟨by kernel_rfl, ⟨Tryd.f56, Tryd.func56, by kernel_rfl, by rfl, Tryd.ntmps56, congrArg Array.toList Tryd.results56⟩⟩
/-- examiner/examinerlaw42.Example -/
def cd57 : CC := (.seq (.reg [⟨some 0, (Op.alloc 24), none⟩])
 (.seq (.reg [⟨some 1, (Op.build 113 #[(3, (Operand.const (Value.int IntKind.i64 1)))]), none⟩,
  ⟨some 2, (Op.build 113 #[(0, (Operand.const (Value.int IntKind.i64 1))), (1, (Operand.const (Value.int IntKind.i64 1))), (3, (Operand.const (Value.int IntKind.i64 2)))]), none⟩,
  ⟨some 3, (Op.build 113 #[(0, (Operand.const (Value.int IntKind.i64 2))), (3, (Operand.const (Value.int IntKind.i64 2)))]), none⟩,
  ⟨some 4, (Op.buildSlice 22 3 #[(0, (Operand.tmp 1)), (1, (Operand.tmp 2)), (2, (Operand.tmp 3))]), none⟩,
  ⟨some 5, (Op.build 24 #[(0, (Operand.const (Value.int IntKind.i64 3))), (2, (Operand.const (Value.int IntKind.i64 1))), (3, (Operand.const (Value.int IntKind.i64 2))), (4, (Operand.tmp 4))]), none⟩,
  ⟨none, (Op.store 24 (Operand.tmp 0) (Operand.tmp 5)), none⟩])
 .ret))
theorem fn57 : FnFact Tryd.prog 57 6 [] [(ResultVar.cell 0 24)] cd57 := ⟨by kernel_rfl, ⟨Tryd.f57, Tryd.func57, by kernel_rfl, by rfl, Tryd.ntmps57, congrArg Array.toList Tryd.results57⟩⟩
/-- examiner/conform.bothErr -/
def cd58 : CC := (.seq (.reg [⟨some 2, (Op.box 24 (Operand.tmp 0)), none⟩,
  ⟨some 3, (Op.box 24 (Operand.tmp 1)), none⟩,
  ⟨some 4, (Op.assign (Operand.const (Value.int IntKind.i64 0))), none⟩])
 (.seq (.dr [⟨0, .R, ⟨some 5, (Op.load 24 (Operand.tmp 2)), none⟩, [], false⟩,
  ⟨2, .F, ⟨some 7, (Op.load 24 (Operand.tmp 3)), none⟩, [], false⟩,
  ⟨4, .F, ⟨some 9, (Op.fieldAddr 24 (Operand.tmp 2) 2), none⟩, [], false⟩,
  ⟨5, .F, ⟨some 10, (Op.load 3 (Operand.tmp 9)), none⟩, [], false⟩,
  ⟨6, .F, ⟨some 11, (Op.fieldAddr 24 (Operand.tmp 3) 2), none⟩, [], false⟩,
  ⟨7, .F, ⟨some 12, (Op.load 3 (Operand.tmp 11)), none⟩, [], false⟩,
  ⟨8, .F, ⟨some 13, (Op.binOp BinOp.eql 3 (Operand.tmp 10) (Operand.tmp 12) 3), none⟩, [], false⟩,
  ⟨1, .E, ⟨some 6, (Op.call { callee := (Callee.value (Operand.func 70)), args := #[(Operand.tmp 5)], argTypes := #[24] }), none⟩, [], false⟩,
  ⟨3, .E, ⟨some 8, (Op.call { callee := (Callee.value (Operand.func 70)), args := #[(Operand.tmp 7)], argTypes := #[24] }), none⟩, [], false⟩,
  ⟨9, .F, ⟨some 14, (Op.move (Operand.tmp 13)), none⟩, [], false⟩,
  ⟨10, .F, ⟨some 15, (Op.fieldAddr 24 (Operand.tmp 2) 3), some (14, true)⟩, [], false⟩,
  ⟨11, .R, ⟨some 16, (Op.load 3 (Operand.tmp 15)), some (14, true)⟩, [], false⟩,
  ⟨12, .F, ⟨some 17, (Op.fieldAddr 24 (Operand.tmp 3) 3), some (14, true)⟩, [], false⟩,
  ⟨13, .R, ⟨some 18, (Op.load 3 (Operand.tmp 17)), some (14, true)⟩, [], false⟩,
  ⟨14, .F, ⟨some 19, (Op.binOp BinOp.eql 3 (Operand.tmp 16) (Operand.tmp 18) 3), some (14, true)⟩, [], false⟩,
  ⟨15, .F, ⟨some 20, (Op.pick (Operand.tmp 14) (Operand.tmp 19) (Operand.const (Value.bool false))), none⟩, [], false⟩,
  ⟨16, .E, ⟨some 21, (Op.call { callee := (Callee.value (Operand.func 61)), args := #[(Operand.tmp 20), (Operand.const (Value.int IntKind.i64 6))], argTypes := #[4, 28] }), none⟩, [], false⟩,
  ⟨17, .F, ⟨some 22, (Op.buildSlice 165 3 #[(0, (Operand.tmp 6)), (1, (Operand.tmp 8)), (2, (Operand.tmp 21))]), none⟩, [], false⟩,
  ⟨18, .E, ⟨some 23, (Op.call { callee := (Callee.value (Operand.func 82)), args := #[(Operand.tmp 22)], argTypes := #[165] }), none⟩, [], false⟩,
  ⟨19, .F, ⟨some 4, (Op.assign (Operand.tmp 23)), none⟩, [], false⟩])
 .ret))
theorem fn58 : FnFact Tryd.prog 58 24 [(1, [(0, 3), (2, 0), (4, 0), (5, 0), (6, 0), (7, 0), (8, 0), (1, 2), (3, 2), (9, 0), (10, 0), (11, 3), (12, 0), (13, 3), (14, 0), (15, 0), (16, 2), (17, 0), (18, 2), (19, 0)], [[], [0], [], [0, 1, 2], [], [4], [], [6], [4, 5, 6, 7], [0, 1, 2, 3, 4, 5, 6, 7, 8], [0, 1, 2, 3, 4, 5, 6, 7, 8, 9], [0, 1, 2, 3, 4, 5, 6, 7, 8, 9, 10], [0, 1, 2, 3, 4, 5, 6, 7, 8, 9], [0, 1, 2, 3, 4, 5, 6, 7, 8, 9, 12], [0, 1, 2, 3, 4, 5, 6, 7, 8, 9, 10, 11, 12, 13], [0, 1, 2, 3, 4, 5, 6, 7, 8, 9, 10, 11, 12, 13, 14], [0, 1, 2, 3, 4, 5, 6, 7, 8, 9, 10, 11, 12, 13, 14, 15], [0, 1, 2, 3, 4, 5, 6, 7, 8, 9, 10, 11, 12, 13, 14, 15, 16], [0, 1, 2, 3, 4, 5, 6, 7, 8, 9, 10, 11, 12, 13, 14, 15, 16, 17], [0, 1, 2, 3, 4, 5, 6, 7, 8, 9, 10, 11, 12, 13, 14, 15, 16, 17, 18]])] [(ResultVar.tmp 4)] cd58 := ⟨by kernel_rfl, ⟨Tryd.f58, Tryd.func58, by kernel_rfl, by rfl, Tryd.ntmps58, congrArg Array.toList Tryd.results58⟩⟩
/-- examiner/conform.compare -/
def cd59 : CC := (.seq (.reg [⟨some 2, (Op.box 24 (Operand.tmp 0)), none⟩,
  ⟨some 3, (Op.box 24 (Operand.tmp 1)), none⟩,
  ⟨some 4, (Op.assign (Operand.const (Value.pointer none))), none⟩])
 (.seq (.dr [⟨0, .R, ⟨some 6, (Op.load 24 (Operand.tmp 2)), none⟩, [], false⟩,
  ⟨2, .F, ⟨some 8, (Op.load 24 (Operand.tmp 3)), none⟩, [], false⟩,
  ⟨4, .A, ⟨some 10, (Op.makeMap 101 none), none⟩, [], false⟩,
  ⟨1, .E, ⟨some 7, (Op.call { callee := (Callee.value (Operand.func 71)), args := #[(Operand.tmp 6)], argTypes := #[24] }), none⟩, [], false⟩,
  ⟨3, .E, ⟨some 9, (Op.call { callee := (Callee.value (Operand.func 71)), args := #[(Operand.tmp 8)], argTypes := #[24] }), none⟩, [], false⟩,
  ⟨5, .F, ⟨some 11, (Op.build 103 #[(0, (Operand.tmp 7)), (1, (Operand.tmp 9)), (5, (Operand.tmp 10))]), none⟩, [], false⟩,
  ⟨6, .A, ⟨some 12, (Op.box 103 (Operand.tmp 11)), none⟩, [], false⟩,
  ⟨7, .F, ⟨some 5, (Op.assign (Operand.tmp 12)), none⟩, [], false⟩])
 (.seq (.dr [⟨0, .F, ⟨some 13, (Op.move (Operand.tmp 5)), none⟩, [], false⟩,
  ⟨1, .F, ⟨some 14, (Op.move (Operand.tmp 5)), none⟩, [], false⟩,
  ⟨2, .F, ⟨some 15, (Op.nilCheck (Operand.tmp 14)), none⟩, [], false⟩,
  ⟨3, .F, ⟨some 16, (Op.fieldAddr 103 (Operand.tmp 15) 0), none⟩, [], false⟩,
  ⟨4, .R, ⟨some 17, (Op.load 99 (Operand.tmp 16)), none⟩, [], false⟩,
  ⟨6, .F, ⟨some 19, (Op.move (Operand.tmp 5)), none⟩, [], false⟩,
  ⟨7, .F, ⟨some 20, (Op.nilCheck (Operand.tmp 19)), none⟩, [], false⟩,
  ⟨8, .F, ⟨some 21, (Op.fieldAddr 103 (Operand.tmp 20) 1), none⟩, [], false⟩,
  ⟨9, .R, ⟨some 22, (Op.load 99 (Operand.tmp 21)), none⟩, [], false⟩,
  ⟨5, .E, ⟨some 18, (Op.call { callee := (Callee.value (Operand.func 72)), args := #[(Operand.tmp 17)], argTypes := #[99] }), none⟩, [], true⟩,
  ⟨10, .E, ⟨some 23, (Op.call { callee := (Callee.value (Operand.func 72)), args := #[(Operand.tmp 22)], argTypes := #[99] }), none⟩, [], false⟩,
  ⟨11, .F, ⟨some 24, (Op.build 107 #[(0, (Operand.tmp 18)), (1, (Operand.tmp 23))]), none⟩, [], false⟩,
  ⟨12, .E, ⟨some 25, (Op.call { callee := (Callee.value (Operand.func 101)), args := #[(Operand.tmp 13), (Operand.tmp 24), (Operand.const (Value.int IntKind.i64 (-1))), (Operand.const (Value.int IntKind.i64 (-1)))], argTypes := #[95, 107, 3, 3] }), none⟩, [], false⟩])
 (.seq (.reg [⟨some 26, (Op.move (Operand.tmp 5)), none⟩,
  ⟨some 4, (Op.assign (Operand.tmp 26)), none⟩])
 .ret))))
theorem fn59 : FnFact Tryd.prog 59 27 [(1, [(0, 3), (2, 0), (4, 1), (1, 2), (3, 2), (5, 0), (6, 1), (7, 0)], [[], [0], [], [0, 1, 2], [], [0, 1, 2, 3, 4], [0, 1, 2, 3, 4, 5], [0, 1, 2, 3, 4, 5, 6]]), (2, [(0, 0), (1, 0), (2, 0), (3, 0), (4, 3), (6, 0), (7, 0), (8, 0), (9, 3), (5, 4), (10, 2), (11, 0), (12, 2)], [[], [], [1], [1, 2], [1, 2, 3], [1, 2, 3, 4], [], [6], [6, 7], [6, 7, 8], [1, 2, 3, 4, 5, 6, 7, 8, 9], [1, 2, 3, 4, 5, 6, 7, 8, 9, 10], [0, 1, 2, 3, 4, 5, 6, 7, 8, 9, 10, 11]])] [(ResultVar.tmp 4)] cd59 := ⟨by kernel_rfl, ⟨Tryd.f59, Tryd.func59, by kernel_rfl, by rfl, Tryd.ntmps59, congrArg Array.toList Tryd.results59⟩⟩
/-- (*examiner/conform.compared).run -/
def cd60 : CC := (.seq (.reg [⟨some 2, (Op.assign (Operand.const (Value.slice none 0 0))), none⟩,
  ⟨some 3, (Op.assign (Operand.const (Value.bool false))), none⟩])
 (.seq (.seq (.reg [⟨some 4, (Op.assign (Operand.const (Value.int IntKind.i64 0))), none⟩])
 (.block 0 (.loop (.seq (.seq (.reg [⟨some 12, (Op.move (Operand.tmp 4)), none⟩,
  ⟨some 13, (Op.move (Operand.tmp 0)), none⟩,
  ⟨some 14, (Op.nilCheck (Operand.tmp 13)), none⟩,
  ⟨some 15, (Op.fieldAddr 103 (Operand.tmp 14) 2), none⟩,
  ⟨some 16, (Op.load 100 (Operand.tmp 15)), none⟩,
  ⟨some 17, (Op.call { callee := (Callee.builtin Builtin.len), args := #[(Operand.tmp 16)], argTypes := #[100] }), none⟩,
  ⟨some 18, (Op.binOp BinOp.lss 3 (Operand.tmp 12) (Operand.tmp 17) 3), none⟩])
 (.cond (Operand.tmp 18) .skip (.exit 0)))
 (.seq (.block 1 (.seq (.reg [⟨some 21, (Op.move (Operand.tmp 0)), none⟩,
  ⟨some 22, (Op.nilCheck (Operand.tmp 21)), none⟩,
  ⟨some 23, (Op.fieldAddr 103 (Operand.tmp 22) 2), none⟩,
  ⟨some 24, (Op.load 100 (Operand.tmp 23)), none⟩,
  ⟨some 25, (Op.move (Operand.tmp 4)), none⟩,
  ⟨some 26, (Op.indexAddr 100 (Operand.tmp 24) (Operand.tmp 25)), none⟩,
  ⟨some 27, (Op.load 107 (Operand.tmp 26)), none⟩,
  ⟨some 5, (Op.alloc 107), none⟩,
  ⟨none, (Op.store 107 (Operand.tmp 5) (Operand.tmp 27)), none⟩])
 (.seq (.seq (.reg [⟨some 29, (Op.move (Operand.tmp 0)), none⟩,
  ⟨some 30, (Op.load 107 (Operand.tmp 5)), none⟩,
  ⟨some 31, (Op.call { callee := (Callee.value (Operand.func 87)), args := #[(Operand.tmp 29), (Operand.tmp 30)], argTypes := #[95, 107] }), none⟩,
  ⟨some 28, (Op.move (Operand.tmp 31)), none⟩,
  ⟨some 32, (Op.extract (Operand.tmp 28) 0), none⟩,
  ⟨some 33, (Op.extract (Operand.tmp 28) 1), none⟩,
  ⟨some 6, (Op.assign (Operand.tmp 32)), none⟩,
  ⟨some 7, (Op.assign (Operand.tmp 33)), none⟩])
 (.seq (.reg [⟨some 34, (Op.move (Operand.tmp 7)), none⟩])
 (.cond (Operand.tmp 34) (.seq (.reg [⟨some 35, (Op.move (Operand.tmp 6)), none⟩,
  ⟨some 36, (Op.buildSlice 27 1 #[(0, (Operand.tmp 35))]), none⟩,
  ⟨some 8, (Op.assign (Operand.tmp 36)), none⟩])
 (.seq (.seq (.reg [⟨some 37, (Op.move (Operand.tmp 4)), none⟩,
  ⟨some 9, (Op.assign (Operand.tmp 37)), none⟩])
 (.block 2 (.loop (.seq (.seq (.reg [⟨some 38, (Op.move (Operand.tmp 0)), none⟩,
  ⟨some 39, (Op.nilCheck (Operand.tmp 38)), none⟩,
  ⟨some 40, (Op.fieldAddr 103 (Operand.tmp 39) 3), none⟩,
  ⟨some 41, (Op.load 27 (Operand.tmp 40)), none⟩,
  ⟨some 42, (Op.move (Operand.tmp 9)), none⟩,
  ⟨some 43, (Op.indexAddr 27 (Operand.tmp 41) (Operand.tmp 42)), none⟩,
  ⟨some 44, (Op.load 3 (Operand.tmp 43)), none⟩,
  ⟨some 45, (Op.binOp BinOp.neq 3 (Operand.tmp 44) (Operand.const (Value.int IntKind.i64 (-1))) 3), none⟩])
 (.cond (Operand.tmp 45) .skip (.exit 2)))
 (.seq (.block 3 (.reg [⟨some 53, (Op.move (Operand.tmp 8)), none⟩,
  ⟨some 54, (Op.move (Operand.tmp 0)), none⟩,
  ⟨some 55, (Op.nilCheck (Operand.tmp 54)), none⟩,
  ⟨some 56, (Op.fieldAddr 103 (Operand.tmp 55) 4), none⟩,
  ⟨some 57, (Op.load 27 (Operand.tmp 56)), none⟩,
  ⟨some 58, (Op.move (Operand.tmp 9)), none⟩,
  ⟨some 59, (Op.indexAddr 27 (Operand.tmp 57) (Operand.tmp 58)), none⟩,
  ⟨some 60, (Op.load 3 (Operand.tmp 59)), none⟩,
  ⟨some 61, (Op.buildSlice 27 1 #[(0, (Operand.tmp 60))]), none⟩,
  ⟨some 62, (Op.call { callee := (Callee.builtin Builtin.append), args := #[(Operand.tmp 53), (Operand.tmp 61)], argTypes := #[27, 27] }), none⟩,
  ⟨some 8, (Op.assign (Operand.tmp 62)), none⟩]))
 (.reg [⟨some 46, (Op.move (Operand.tmp 0)), none⟩,
  ⟨some 47, (Op.nilCheck (Operand.tmp 46)), none⟩,
  ⟨some 48, (Op.fieldAddr 103 (Operand.tmp 47) 3), none⟩,
  ⟨some 49, (Op.load 27 (Operand.tmp 48)), none⟩,
  ⟨some 50, (Op.move (Operand.tmp 9)), none⟩,
  ⟨some 51, (Op.indexAddr 27 (Operand.tmp 49) (Operand.tmp 50)), none⟩,
  ⟨some 52, (Op.load 3 (Operand.tmp 51)), none⟩,
  ⟨some 9, (Op.assign (Operand.tmp 52)), none⟩]))))))
 (.seq (.reg [⟨some 63, (Op.move (Operand.tmp 8)), none⟩,
  ⟨some 64, (Op.call { callee := (Callee.value (Operand.func 102)), args := #[(Operand.tmp 63)], argTypes := #[27] }), none⟩])
 (.seq (.reg [⟨some 65, (Op.move (Operand.tmp 8)), none⟩,
  ⟨some 2, (Op.assign (Operand.tmp 65)), none⟩,
  ⟨some 3, (Op.assign (Operand.const (Value.bool true))), none⟩])
 .ret)))) .skip)))
 (.seq (.reg [⟨some 66, (Op.move (Operand.tmp 0)), none⟩,
  ⟨some 67, (Op.nilCheck (Operand.tmp 66)), none⟩,
  ⟨some 68, (Op.fieldAddr 103 (Operand.tmp 67) 0), none⟩,
  ⟨some 69, (Op.load 99 (Operand.tmp 68)), none⟩,
  ⟨some 70, (Op.call { callee := (Callee.value (Operand.func 73)), args := #[(Operand.tmp 69)], argTypes := #[99] }), none⟩,
  ⟨some 71, (Op.binOp BinOp.add 3 (Operand.tmp 70) (Operand.const (Value.int IntKind.i64 1)) 3), none⟩,
  ⟨some 72, (Op.move (Operand.const (Value.int IntKind.i64 0))), none⟩])
 (.block 4 (.loop (.seq (.reg [⟨some 73, (Op.binOp BinOp.lss 3 (Operand.tmp 72) (Operand.tmp 71) 3), none⟩])
 (.seq (.cond (Operand.tmp 73) .skip (.exit 4))
 (.seq (.block 5 (.seq (.reg [⟨some 74, (Op.move (Operand.tmp 72)), none⟩,
  ⟨some 10, (Op.assign (Operand.tmp 74)), none⟩])
 (.seq (.dr [⟨0, .F, ⟨some 75, (Op.move (Operand.tmp 0)), none⟩, [], false⟩,
  ⟨1, .F, ⟨some 76, (Op.nilCheck (Operand.tmp 75)), none⟩, [], false⟩,
  ⟨2, .F, ⟨some 77, (Op.fieldAddr 103 (Operand.tmp 76) 1), none⟩, [], false⟩,
  ⟨3, .R, ⟨some 78, (Op.load 99 (Operand.tmp 77)), none⟩, [], false⟩,
  ⟨4, .F, ⟨some 79, (Op.fieldAddr 107 (Operand.tmp 5) 1), none⟩, [], false⟩,
  ⟨5, .R, ⟨some 80, (Op.load 105 (Operand.tmp 79)), none⟩, [], false⟩,
  ⟨6, .F, ⟨some 81, (Op.move (Operand.tmp 10)), none⟩, [], false⟩,
  ⟨7, .E, ⟨some 82, (Op.call { callee := (Callee.value (Operand.func 74)), args := #[(Operand.tmp 78), (Operand.tmp 80), (Operand.tmp 81)], argTypes := #[99, 105, 3] }), none⟩, [], false⟩,
  ⟨8, .F, ⟨some 11, (Op.assign (Operand.tmp 82)), none⟩, [], false⟩])
 (.seq (.reg [⟨some 83, (Op.move (Operand.tmp 11)), none⟩,
  ⟨some 84, (Op.binOp BinOp.neq 105 (Operand.tmp 83) (Operand.const (Value.int IntKind.u64 0)) 105), none⟩])
 (.cond (Operand.tmp 84) (.dr [⟨0, .F, ⟨some 85, (Op.move (Operand.tmp 0)), none⟩, [], false⟩,
  ⟨1, .F, ⟨some 86, (Op.move (Operand.tmp 0)), none⟩, [], false⟩,
  ⟨2, .F, ⟨some 87, (Op.nilCheck (Operand.tmp 86)), none⟩, [], false⟩,
  ⟨3, .F, ⟨some 88, (Op.fieldAddr 103 (Operand.tmp 87) 0), none⟩, [], false⟩,
  ⟨4, .R, ⟨some 89, (Op.load 99 (Operand.tmp 88)), none⟩, [], false⟩,
  ⟨5, .F, ⟨some 90, (Op.fieldAddr 107 (Operand.tmp 5) 0), none⟩, [], false⟩,
  ⟨6, .R, ⟨some 91, (Op.load 105 (Operand.tmp 90)), none⟩, [], false⟩,
  ⟨7, .F, ⟨some 92, (Op.move (Operand.tmp 10)), none⟩, [], false⟩,
  ⟨9, .F, ⟨some 94, (Op.move (Operand.tmp 11)), none⟩, [], false⟩,
  ⟨11, .F, ⟨some 96, (Op.move (Operand.tmp 4)), none⟩, [], false⟩,
  ⟨12, .F, ⟨some 97, (Op.move (Operand.tmp 10)), none⟩, [], false⟩,
  ⟨8, .E, ⟨some 93, (Op.call { callee := (Callee.value (Operand.func 74)), args := #[(Operand.tmp 89), (Operand.tmp 91), (Operand.tmp 92)], argTypes := #[99, 105, 3] }), none⟩, [], false⟩,
  ⟨10, .F, ⟨some 95, (Op.build 107 #[(0, (Operand.tmp 93)), (1, (Operand.tmp 94))]), none⟩, [], false⟩,
  ⟨13, .E, ⟨some 98, (Op.call { callee := (Callee.value (Operand.func 101)), args := #[(Operand.tmp 85), (Operand.tmp 95), (Operand.tmp 96), (Operand.tmp 97)], argTypes := #[95, 107, 3, 3] }), none⟩, [], false⟩]) .skip)))))
 (.reg [⟨some 99, (Op.binOp BinOp.add 3 (Operand.tmp 72) (Operand.const (Value.int IntKind.i64 1)) 3), none⟩,
  ⟨some 72, (Op.move (Operand.tmp 99)), none⟩]))))))))))
 (.reg [⟨some 19, (Op.move (Operand.tmp 4)), none⟩,
  ⟨some 20, (Op.binOp BinOp.add 3 (Operand.tmp 19) (Operand.const (Value.int IntKind.i64 1)) 3), none⟩,
  ⟨some 4, (Op.assign (Operand.tmp 20)), none⟩]))))))
 (.seq (.reg [⟨some 2, (Op.assign (Operand.const (Value.slice none 0 0))), none⟩,
  ⟨some 3, (Op.assign (Operand.const (Value.bool false))), none⟩])
 .ret)))
theorem fn60 : FnFact Tryd.prog 60 100 [(17, [(0, 0), (1, 0), (2, 0), (3, 3), (4, 0), (5, 3), (6, 0), (7, 2), (8, 0)], [[], [0], [0, 1], [0, 1, 2], [], [4], [], [0, 1, 2, 3, 4, 5, 6], [0, 1, 2, 3, 4, 5, 6, 7]]), (19, [(0, 0), (1, 0), (2, 0), (3, 0), (4, 3), (5, 0), (6, 3), (7, 0), (9, 0), (11, 0), (12, 0), (8, 2), (10, 0), (13, 2)], [[], [], [1], [1, 2], [1, 2, 3], [], [5], [], [1, 2, 3, 4, 5, 6, 7], [], [1, 2, 3, 4, 5, 6, 7, 8, 9], [], [], [0, 1, 2, 3, 4, 5, 6, 7, 8, 9, 10, 11, 12]])] [(ResultVar.tmp 2), (ResultVar.tmp 3)] cd60 := ⟨by kernel_rfl, ⟨Tryd.f60, Tryd.func60, by kernel_rfl, by rfl, Tryd.ntmps60, congrArg Array.toList Tryd.results60⟩⟩
/-- examiner/conform.unless -/
def cd61 : CC := (.seq (.reg [⟨some 4, (Op.assign (Operand.const (Value.int IntKind.i64 0))), none⟩])
 (.seq (.seq (.reg [⟨some 5, (Op.move (Operand.tmp 0)), none⟩])
 (.cond (Operand.tmp 5) (.seq (.reg [⟨some 4, (Op.assign (Operand.const (Value.int IntKind.i64 0))), none⟩])
 .ret) .skip))
 (.seq (.reg [⟨some 6, (Op.move (Operand.tmp 1)), none⟩,
  ⟨some 4, (Op.assign (Operand.tmp 6)), none⟩])
 .ret)))
theorem fn61 : FnFact Tryd.prog 61 7 [] [(ResultVar.tmp 4)] cd61 := ⟨by kernel_rfl, ⟨Tryd.f61, Tryd.func61, by kernel_rfl, by rfl, Tryd.ntmps61, congrArg Array.toList Tryd.results61⟩⟩
/-- (examiner/conform.set).states -/
def cd62 : CC := (.seq (.reg [⟨some 2, (Op.assign (Operand.const (Value.slice none 0 0))), none⟩])
 (.seq (.reg [⟨some 3, (Op.assign (Operand.const (Value.slice none 0 0))), none⟩])
 (.seq (.block 0 (.loop (.seq (.seq (.reg [⟨some 4, (Op.move (Operand.tmp 0)), none⟩,
  ⟨some 5, (Op.binOp BinOp.neq 105 (Operand.tmp 4) (Operand.const (Value.int IntKind.u64 0)) 105), none⟩])
 (.cond (Operand.tmp 5) .skip (.exit 0)))
 (.seq (.block 1 (.reg [⟨some 10, (Op.move (Operand.tmp 3)), none⟩,
  ⟨some 11, (Op.move (Operand.tmp 0)), none⟩,
  ⟨some 12, (Op.call { callee := (Callee.value (Operand.func 103)), args := #[(Operand.tmp 11)], argTypes := #[104] }), none⟩,
  ⟨some 13, (Op.buildSlice 27 1 #[(0, (Operand.tmp 12))]), none⟩,
  ⟨some 14, (Op.call { callee := (Callee.builtin Builtin.append), args := #[(Operand.tmp 10), (Operand.tmp 13)], argTypes := #[27, 27] }), none⟩,
  ⟨some 3, (Op.assign (Operand.tmp 14)), none⟩]))
 (.reg [⟨some 6, (Op.move (Operand.tmp 0)), none⟩,
  ⟨some 7, (Op.move (Operand.tmp 0)), none⟩,
  ⟨some 8, (Op.binOp BinOp.sub 105 (Operand.tmp 7) (Operand.const (Value.int IntKind.u64 1)) 105), none⟩,
  ⟨some 9, (Op.binOp BinOp.and 105 (Operand.tmp 6) (Operand.tmp 8) 105), none⟩,
  ⟨some 0, (Op.assign (Operand.tmp 9)), none⟩])))))
 (.seq (.reg [⟨some 15, (Op.move (Operand.tmp 3)), none⟩,
  ⟨some 2, (Op.assign (Operand.tmp 15)), none⟩])
 .ret))))
theorem fn62 : FnFact Tryd.prog 62 16 [] [(ResultVar.tmp 2)] cd62 := ⟨by kernel_rfl, ⟨Tryd.f62, Tryd.func62, by kernel_rfl, by rfl, Tryd.ntmps62, congrArg Array.toList Tryd.results62⟩⟩
/-- examiner/examinerref42.Initial -/
def cd63 : CC := (.seq (.reg [⟨some 1, (Op.box 24 (Operand.tmp 0)), none⟩,
  ⟨some 2, (Op.assign (Operand.const (Value.slice none 0 0))), none⟩])
 (.seq (.reg [⟨some 3, (Op.load 24 (Operand.tmp 1)), none⟩,
  ⟨some 4, (Op.fieldAddr 24 (Operand.tmp 1) 1), none⟩,
  ⟨some 5, (Op.load 3 (Operand.tmp 4)), none⟩,
  ⟨some 6, (Op.buildSlice 27 1 #[(0, (Operand.tmp 5))]), none⟩,
  ⟨some 7, (Op.call { callee := (Callee.value (Operand.func 35)), args := #[(Operand.tmp 3), (Operand.tmp 6)], argTypes := #[24, 27] }), none⟩,
  ⟨some 2, (Op.assign (Operand.tmp 7)), none⟩])
 .ret))
theorem fn63 : FnFact Tryd.prog 63 8 [] [(ResultVar.tmp 2)] cd63 := ⟨by kernel_rfl, ⟨Tryd.f63, Tryd.func63, by kernel_rfl, by rfl, Tryd.ntmps63, congrArg Array.toList Tryd.results63⟩⟩
/-- examiner/examinerref42.After -/
def cd64 : CC := (.seq (.reg [⟨some 3, (Op.box 24 (Operand.tmp 0)), none⟩,
  ⟨some 6, (Op.assign (Operand.const (Value.slice none 0 0))), none⟩])
 (.seq (.reg [⟨some 11, (Op.fieldAddr 24 (Operand.tmp 3) 0), none⟩,
  ⟨some 12, (Op.load 3 (Operand.tmp 11)), none⟩,
  ⟨some 13, (Op.makeSlice 133 (Operand.tmp 12) (Operand.tmp 12)), none⟩,
  ⟨some 7, (Op.assign (Operand.tmp 13)), none⟩])
 (.seq (.seq (.reg [⟨some 8, (Op.assign (Operand.const (Value.int IntKind.i64 0))), none⟩])
 (.block 0 (.loop (.seq (.seq (.reg [⟨some 14, (Op.move (Operand.tmp 8)), none⟩,
  ⟨some 15, (Op.move (Operand.tmp 1)), none⟩,
  ⟨some 16, (Op.call { callee := (Callee.builtin Builtin.len), args := #[(Operand.tmp 15)], argTypes := #[27] }), none⟩,
  ⟨some 17, (Op.binOp BinOp.lss 3 (Operand.tmp 14) (Operand.tmp 16) 3), none⟩])
 (.cond (Operand.tmp 17) .skip (.exit 0)))
 (.seq (.block 1 (.seq (.dr [⟨0, .F, ⟨some 20, (Op.move (Operand.tmp 2)), none⟩, [], false⟩,
  ⟨1, .R, ⟨some 21, (Op.load 24 (Operand.tmp 3)), none⟩, [], false⟩,
  ⟨2, .E, ⟨some 22, (Op.call { callee := (Callee.value (Operand.func 41)), args := #[(Operand.tmp 21)], argTypes := #[24] }), none⟩, [], false⟩,
  ⟨3, .F, ⟨some 23, (Op.binOp BinOp.eql 3 (Operand.tmp 20) (Operand.tmp 22) 3), none⟩, [], false⟩,
  ⟨4, .F, ⟨some 24, (Op.move (Operand.tmp 23)), none⟩, [], false⟩,
  ⟨5, .R, ⟨some 25, (Op.load 24 (Operand.tmp 3)), some (24, true)⟩, [], false⟩,
  ⟨6, .F, ⟨some 26, (Op.move (Operand.tmp 1)), some (24, true)⟩, [], false⟩,
  ⟨7, .F, ⟨some 27, (Op.move (Operand.tmp 8)), some (24, true)⟩, [], false⟩,
  ⟨8, .F, ⟨some 28, (Op.indexAddr 27 (Operand.tmp 26) (Operand.tmp 27)), some (24, true)⟩, [], false⟩,
  ⟨9, .R, ⟨some 29, (Op.load 3 (Operand.tmp 28)), some (24, true)⟩, [], false⟩,
  ⟨10, .E, ⟨some 30, (Op.call { callee := (Callee.value (Operand.func 104)), args := #[(Operand.tmp 25), (Operand.tmp 29)], argTypes := #[24, 3] }), some (24, true)⟩, [], false⟩,
  ⟨11, .F, ⟨some 31, (Op.pick (Operand.tmp 24) (Operand.tmp 30) (Operand.const (Value.bool false))), none⟩, [], false⟩])
 (.cond (Operand.tmp 31) (.reg [⟨some 32, (Op.move (Operand.tmp 7)), none⟩,
  ⟨some 33, (Op.move (Operand.tmp 1)), none⟩,
  ⟨some 34, (Op.move (Operand.tmp 8)), none⟩,
  ⟨some 35, (Op.indexAddr 27 (Operand.tmp 33) (Operand.tmp 34)), none⟩,
  ⟨some 36, (Op.load 3 (Operand.tmp 35)), none⟩,
  ⟨some 37, (Op.indexAddr 133 (Operand.tmp 32) (Operand.tmp 36)), none⟩,
  ⟨none, (Op.store 4 (Operand.tmp 37) (Operand.const (Value.bool true))), none⟩]) .skip)))
 (.reg [⟨some 18, (Op.move (Operand.tmp 8)), none⟩,
  ⟨some 19, (Op.binOp BinOp.add 3 (Operand.tmp 18) (Operand.const (Value.int IntKind.i64 1)) 3), none⟩,
  ⟨some 8, (Op.assign (Operand.tmp 19)), none⟩]))))))
 (.seq (.seq (.reg [⟨some 9, (Op.assign (Operand.const (Value.int IntKind.i64 0))), none⟩])
 (.block 2 (.loop (.seq (.seq (.reg [⟨some 38, (Op.move (Operand.tmp 9)), none⟩,
  ⟨some 39, (Op.fieldAddr 24 (Operand.tmp 3) 4), none⟩,
  ⟨some 40, (Op.load 22 (Operand.tmp 39)), none⟩,
  ⟨some 41, (Op.call { callee := (Callee.builtin Builtin.len), args := #[(Operand.tmp 40)], argTypes := #[22] }), none⟩,
  ⟨some 42, (Op.binOp BinOp.lss 3 (Operand.tmp 38) (Operand.tmp 41) 3), none⟩])
 (.cond (Operand.tmp 42) .skip (.exit 2)))
 (.seq (.block 3 (.seq (.reg [⟨some 45, (Op.fieldAddr 24 (Operand.tmp 3) 4), none⟩,
  ⟨some 46, (Op.load 22 (Operand.tmp 45)), none⟩,
  ⟨some 47, (Op.move (Operand.tmp 9)), none⟩,
  ⟨some 48, (Op.indexAddr 22 (Operand.tmp 46) (Operand.tmp 47)), none⟩,
  ⟨some 49, (Op.load 113 (Operand.tmp 48)), none⟩,
  ⟨some 10, (Op.alloc 113), none⟩,
  ⟨none, (Op.store 113 (Operand.tmp 10) (Operand.tmp 49)), none⟩])
 (.seq (.reg [⟨some 50, (Op.move (Operand.tmp 1)), none⟩,
  ⟨some 51, (Op.fieldAddr 113 (Operand.tmp 10) 0), none⟩,
  ⟨some 52, (Op.load 3 (Operand.tmp 51)), none⟩,
  ⟨some 53, (Op.call { callee := (Callee.value (Operand.func 76)), args := #[(Operand.tmp 50), (Operand.tmp 52)], argTypes := #[27, 3] }), none⟩,
  ⟨some 54, (Op.move (Operand.tmp 53)), none⟩,
  ⟨some 55, (Op.fieldAddr 113 (Operand.tmp 10) 1), some (54, true)⟩,
  ⟨some 56, (Op.load 3 (Operand.tmp 55)), some (54, true)⟩,
  ⟨some 57, (Op.binOp BinOp.eql 3 (Operand.tmp 56) (Operand.const (Value.int IntKind.i64 0)) 3), some (54, true)⟩,
  ⟨some 58, (Op.move (Operand.tmp 57)), some (54, true)⟩,
  ⟨some 59, (Op.fieldAddr 113 (Operand.tmp 10) 2), some (58, true)⟩,
  ⟨some 60, (Op.load 3 (Operand.tmp 59)), some (58, true)⟩,
  ⟨some 61, (Op.move (Operand.tmp 2)), some (58, true)⟩,
  ⟨some 62, (Op.binOp BinOp.eql 3 (Operand.tmp 60) (Operand.tmp 61) 3), some (58, true)⟩,
  ⟨some 63, (Op.pick (Operand.tmp 58) (Operand.tmp 62) (Operand.const (Value.bool false))), some (54, true)⟩,
  ⟨some 64, (Op.move (Operand.tmp 63)), some (54, true)⟩,
  ⟨some 65, (Op.fieldAddr 113 (Operand.tmp 10) 1), some (64, false)⟩,
  ⟨some 66, (Op.load 3 (Operand.tmp 65)), some (64, false)⟩,
  ⟨some 67, (Op.binOp BinOp.eql 3 (Operand.tmp 66) (Operand.const (Value.int IntKind.i64 1)) 3), some (64, false)⟩,
  ⟨some 68, (Op.move (Operand.tmp 67)), some (64, false)⟩,
  ⟨some 69, (Op.fieldAddr 24 (Operand.tmp 3) 2), some (68, true)⟩,
  ⟨some 70, (Op.load 3 (Operand.tmp 69)), some (68, true)⟩,
  ⟨some 71, (Op.fieldAddr 113 (Operand.tmp 10) 2), some (68, true)⟩,
  ⟨some 72, (Op.load 3 (Operand.tmp 71)), some (68, true)⟩,
  ⟨some 73, (Op.binOp BinOp.add 3 (Operand.tmp 70) (Operand.tmp 72) 3), some (68, true)⟩,
  ⟨some 74, (Op.move (Operand.tmp 2)), some (68, true)⟩,
  ⟨some 75, (Op.binOp BinOp.eql 3 (Operand.tmp 73) (Operand.tmp 74) 3), some (68, true)⟩,
  ⟨some 76, (Op.pick (Operand.tmp 68) (Operand.tmp 75) (Operand.const (Value.bool false))), some (64, false)⟩,
  ⟨some 77, (Op.pick (Operand.tmp 64) (Operand.const (Value.bool true)) (Operand.tmp 76)), some (54, true)⟩,
  ⟨some 78, (Op.pick (Operand.tmp 54) (Operand.tmp 77) (Operand.const (Value.bool false))), none⟩])
 (.cond (Operand.tmp 78) (.reg [⟨some 79, (Op.move (Operand.tmp 7)), none⟩,
  ⟨some 80, (Op.fieldAddr 113 (Operand.tmp 10) 3), none⟩,
  ⟨some 81, (Op.load 3 (Operand.tmp 80)), none⟩,
  ⟨some 82, (Op.indexAddr 133 (Operand.tmp 79) (Operand.tmp 81)), none⟩,
  ⟨none, (Op.store 4 (Operand.tmp 82) (Operand.const (Value.bool true))), none⟩]) .skip))))
 (.reg [⟨some 43, (Op.move (Operand.tmp 9)), none⟩,
  ⟨some 44, (Op.binOp BinOp.add 3 (Operand.tmp 43) (Operand.const (Value.int IntKind.i64 1)) 3), none⟩,
  ⟨some 9, (Op.assign (Operand.tmp 44)), none⟩]))))))
 (.seq (.dr [⟨0, .F, ⟨some 83, (Op.load 24 (Operand.tmp 3)), none⟩, [], false⟩,
  ⟨1, .F, ⟨some 84, (Op.move (Operand.tmp 7)), none⟩, [], false⟩,
  ⟨2, .E, ⟨some 85, (Op.call { callee := (Callee.value (Operand.func 81)), args := #[(Operand.tmp 84)], argTypes := #[133] }), none⟩, [], false⟩,
  ⟨3, .E, ⟨some 86, (Op.call { callee := (Callee.value (Operand.func 35)), args := #[(Operand.tmp 83), (Operand.tmp 85)], argTypes := #[24, 27] }), none⟩, [], false⟩,
  ⟨4, .F, ⟨some 6, (Op.assign (Operand.tmp 86)), none⟩, [], false⟩])
 .ret)))))
theorem fn64 : FnFact Tryd.prog 64 87 [(5, [(0, 0), (1, 3), (2, 2), (3, 0), (4, 0), (5, 3), (6, 0), (7, 0), (8, 0), (9, 3), (10, 2), (11, 0)], [[], [], [1], [0, 1, 2], [0, 1, 2, 3], [0, 1, 2, 3, 4], [0, 1, 2, 3, 4], [0, 1, 2, 3, 4], [0, 1, 2, 3, 4, 6, 7], [0, 1, 2, 3, 4, 6, 7, 8], [0, 1, 2, 3, 4, 5, 6, 7, 8, 9], [0, 1, 2, 3, 4, 5, 6, 7, 8, 9, 10]]), (13, [(0, 0), (1, 0), (2, 2), (3, 2), (4, 0)], [[], [], [1], [0, 1, 2], [0, 1, 2, 3]])] [(ResultVar.tmp 6)] cd64 := ⟨by kernel_rfl, ⟨Tryd.f64, Tryd.func64, by kernel_rfl, by rfl, Tryd.ntmps64, congrArg Array.toList Tryd.results64⟩⟩
/-- examiner/conform.spans -/
def cd66 : CC := (.seq (.reg [⟨some 6, (Op.assign (Operand.const (Value.bool false))), none⟩])
 (.seq (.reg [⟨some 7, (Op.move (Operand.tmp 1)), none⟩,
  ⟨some 8, (Op.move (Operand.tmp 0)), none⟩,
  ⟨some 9, (Op.binOp BinOp.leq 3 (Operand.tmp 7) (Operand.tmp 8) 3), none⟩,
  ⟨some 10, (Op.move (Operand.tmp 9)), none⟩,
  ⟨some 11, (Op.move (Operand.tmp 0)), some (10, true)⟩,
  ⟨some 12, (Op.move (Operand.tmp 2)), some (10, true)⟩,
  ⟨some 13, (Op.binOp BinOp.leq 3 (Operand.tmp 11) (Operand.tmp 12) 3), some (10, true)⟩,
  ⟨some 14, (Op.pick (Operand.tmp 10) (Operand.tmp 13) (Operand.const (Value.bool false))), none⟩,
  ⟨some 6, (Op.assign (Operand.tmp 14)), none⟩])
 .ret))
theorem fn66 : FnFact Tryd.prog 66 15 [] [(ResultVar.tmp 6)] cd66 := ⟨by kernel_rfl, ⟨Tryd.f66, Tryd.func66, by kernel_rfl, by rfl, Tryd.ntmps66, congrArg Array.toList Tryd.results66⟩⟩
/-- examiner/conform.compareMoves -/
def cd67 : CC := (.seq (.reg [⟨some 2, (Op.box 113 (Operand.tmp 0)), none⟩,
  ⟨some 3, (Op.box 113 (Operand.tmp 1)), none⟩,
  ⟨some 4, (Op.assign (Operand.const (Value.int IntKind.i64 0))), none⟩])
 (.seq (.dr [⟨0, .F, ⟨some 5, (Op.fieldAddr 113 (Operand.tmp 2) 0), none⟩, [], false⟩,
  ⟨1, .R, ⟨some 6, (Op.load 3 (Operand.tmp 5)), none⟩, [], false⟩,
  ⟨2, .F, ⟨some 7, (Op.fieldAddr 113 (Operand.tmp 3) 0), none⟩, [], false⟩,
  ⟨3, .R, ⟨some 8, (Op.load 3 (Operand.tmp 7)), none⟩, [], false⟩,
  ⟨5, .F, ⟨some 10, (Op.fieldAddr 113 (Operand.tmp 2) 1), none⟩, [], false⟩,
  ⟨6, .F, ⟨some 11, (Op.load 3 (Operand.tmp 10)), none⟩, [], false⟩,
  ⟨7, .F, ⟨some 12, (Op.fieldAddr 113 (Operand.tmp 3) 1), none⟩, [], false⟩,
  ⟨8, .F, ⟨some 13, (Op.load 3 (Operand.tmp 12)), none⟩, [], false⟩,
  ⟨10, .F, ⟨some 15, (Op.fieldAddr 113 (Operand.tmp 2) 2), none⟩, [], false⟩,
  ⟨11, .F, ⟨some 16, (Op.load 3 (Operand.tmp 15)), none⟩, [], false⟩,
  ⟨12, .F, ⟨some 17, (Op.fieldAddr 113 (Operand.tmp 3) 2), none⟩, [], false⟩,
  ⟨13, .F, ⟨some 18, (Op.load 3 (Operand.tmp 17)), none⟩, [], false⟩,
  ⟨15, .F, ⟨some 20, (Op.fieldAddr 113 (Operand.tmp 2) 3), none⟩, [], false⟩,
  ⟨16, .F, ⟨some 21, (Op.load 3 (Operand.tmp 20)), none⟩, [], false⟩,
  ⟨17, .F, ⟨some 22, (Op.fieldAddr 113 (Operand.tmp 3) 3), none⟩, [], false⟩,
  ⟨18, .F, ⟨some 23, (Op.load 3 (Operand.tmp 22)), none⟩, [], false⟩,
  ⟨4, .E, ⟨some 9, (Op.call { callee := (Callee.value (Operand.func 106)), args := #[(Operand.tmp 6), (Operand.tmp 8)], argTypes := #[3, 3] }), none⟩, [], false⟩,
  ⟨9, .E, ⟨some 14, (Op.call { callee := (Callee.value (Operand.func 106)), args := #[(Operand.tmp 11), (Operand.tmp 13)], argTypes := #[3, 3] }), none⟩, [], false⟩,
  ⟨14, .E, ⟨some 19, (Op.call { callee := (Callee.value (Operand.func 106)), args := #[(Operand.tmp 16), (Operand.tmp 18)], argTypes := #[3, 3] }), none⟩, [], false⟩,
  ⟨19, .E, ⟨some 24, (Op.call { callee := (Callee.value (Operand.func 106)), args := #[(Operand.tmp 21), (Operand.tmp 23)], argTypes := #[3, 3] }), none⟩, [], false⟩,
  ⟨20, .F, ⟨some 25, (Op.buildSlice 27 4 #[(0, (Operand.tmp 9)), (1, (Operand.tmp 14)), (2, (Operand.tmp 19)), (3, (Operand.tmp 24))]), none⟩, [], false⟩,
  ⟨21, .E, ⟨some 26, (Op.call { callee := (Callee.value (Operand.func 105)), args := #[(Operand.tmp 25)], argTypes := #[27] }), none⟩, [], false⟩,
  ⟨22, .F, ⟨some 4, (Op.assign (Operand.tmp 26)), none⟩, [], false⟩])
 .ret))
theorem fn67 : FnFact Tryd.prog 67 27 [(1, [(0, 0), (1, 3), (2, 0), (3, 3), (5, 0), (6, 0), (7, 0), (8, 0), (10, 0), (11, 0), (12, 0), (13, 0), (15, 0), (16, 0), (17, 0), (18, 0), (4, 2), (9, 2), (14, 2), (19, 2), (20, 0), (21, 2), (22, 0)], [[], [0], [], [2], [0, 1, 2, 3], [], [5], [], [7], [0, 1, 2, 3, 4, 5, 6, 7, 8], [], [10], [], [12], [0, 1, 2, 3, 4, 5, 6, 7, 8, 9, 10, 11, 12, 13], [], [15], [], [17], [0, 1, 2, 3, 4, 5, 6, 7, 8, 9, 10, 11, 12, 13, 14, 15, 16, 17, 18], [0, 1, 2, 3, 4, 5, 6, 7, 8, 9, 10, 11, 12, 13, 14, 15, 16, 17, 18, 19], [0, 1, 2, 3, 4, 5, 6, 7, 8, 9, 10, 11, 12, 13, 14, 15, 16, 17, 18, 19, 20], [0, 1, 2, 3, 4, 5, 6, 7, 8, 9, 10, 11, 12, 13, 14, 15, 16, 17, 18, 19, 20, 21]])] [(ResultVar.tmp 4)] cd67 := ⟨by kernel_rfl, ⟨Tryd.f67, Tryd.func67, by kernel_rfl, by rfl, Tryd.ntmps67, congrArg Array.toList Tryd.results67⟩⟩
/-- examiner/examinerbase.CompareInts -/
def cd68 : CC := (.seq (.reg [⟨some 4, (Op.assign (Operand.const (Value.int IntKind.i64 0))), none⟩])
 (.seq (.seq (.reg [⟨some 5, (Op.assign (Operand.const (Value.int IntKind.i64 0))), none⟩])
 (.block 0 (.loop (.seq (.seq (.reg [⟨some 6, (Op.move (Operand.tmp 5)), none⟩,
  ⟨some 7, (Op.move (Operand.tmp 0)), none⟩,
  ⟨some 8, (Op.call { callee := (Callee.builtin Builtin.len), args := #[(Operand.tmp 7)], argTypes := #[27] }), none⟩,
  ⟨some 9, (Op.binOp BinOp.lss 3 (Operand.tmp 6) (Operand.tmp 8) 3), none⟩,
  ⟨some 10, (Op.move (Operand.tmp 9)), none⟩,
  ⟨some 11, (Op.move (Operand.tmp 5)), some (10, true)⟩,
  ⟨some 12, (Op.move (Operand.tmp 1)), some (10, true)⟩,
  ⟨some 13, (Op.call { callee := (Callee.builtin Builtin.len), args := #[(Operand.tmp 12)], argTypes := #[27] }), some (10, true)⟩,
  ⟨some 14, (Op.binOp BinOp.lss 3 (Operand.tmp 11) (Operand.tmp 13) 3), some (10, true)⟩,
  ⟨some 15, (Op.pick (Operand.tmp 10) (Operand.tmp 14) (Operand.const (Value.bool false))), none⟩])
 (.cond (Operand.tmp 15) .skip (.exit 0)))
 (.seq (.block 1 (.seq (.dr [⟨0, .F, ⟨some 18, (Op.move (Operand.tmp 0)), none⟩, [], false⟩,
  ⟨1, .F, ⟨some 19, (Op.move (Operand.tmp 5)), none⟩, [], false⟩,
  ⟨2, .F, ⟨some 20, (Op.indexAddr 27 (Operand.tmp 18) (Operand.tmp 19)), none⟩, [], false⟩,
  ⟨3, .R, ⟨some 21, (Op.load 3 (Operand.tmp 20)), none⟩, [], false⟩,
  ⟨4, .F, ⟨some 22, (Op.move (Operand.tmp 1)), none⟩, [], false⟩,
  ⟨5, .F, ⟨some 23, (Op.move (Operand.tmp 5)), none⟩, [], false⟩,
  ⟨6, .F, ⟨some 24, (Op.indexAddr 27 (Operand.tmp 22) (Operand.tmp 23)), none⟩, [], false⟩,
  ⟨7, .R, ⟨some 25, (Op.load 3 (Operand.tmp 24)), none⟩, [], false⟩,
  ⟨8, .F, ⟨some 26, (Op.binOp BinOp.neq 3 (Operand.tmp 21) (Operand.tmp 25) 3), none⟩, [], false⟩])
 (.cond (Operand.tmp 26) (.seq (.dr [⟨0, .F, ⟨some 27, (Op.move (Operand.tmp 0)), none⟩, [], false⟩,
  ⟨1, .F, ⟨some 28, (Op.move (Operand.tmp 5)), none⟩, [], false⟩,
  ⟨2, .F, ⟨some 29, (Op.indexAddr 27 (Operand.tmp 27) (Operand.tmp 28)), none⟩, [], false⟩,
  ⟨3, .R, ⟨some 30, (Op.load 3 (Operand.tmp 29)), none⟩, [], false⟩,
  ⟨4, .F, ⟨some 31, (Op.move (Operand.tmp 1)), none⟩, [], false⟩,
  ⟨5, .F, ⟨some 32, (Op.move (Operand.tmp 5)), none⟩, [], false⟩,
  ⟨6, .F, ⟨some 33, (Op.indexAddr 27 (Operand.tmp 31) (Operand.tmp 32)), none⟩, [], false⟩,
  ⟨7, .R, ⟨some 34, (Op.load 3 (Operand.tmp 33)), none⟩, [], false⟩,
  ⟨8, .F, ⟨some 35, (Op.binOp BinOp.gtr 3 (Operand.tmp 30) (Operand.tmp 34) 3), none⟩, [], false⟩,
  ⟨9, .E, ⟨some 36, (Op.call { callee := (Callee.value (Operand.func 107)), args := #[(Operand.tmp 35)], argTypes := #[4] }), none⟩, [], false⟩,
  ⟨10, .F, ⟨some 37, (Op.binOp BinOp.mul 3 (Operand.const (Value.int IntKind.i64 2)) (Operand.tmp 36) 3), none⟩, [], false⟩,
  ⟨11, .F, ⟨some 38, (Op.binOp BinOp.sub 3 (Operand.tmp 37) (Operand.const (Value.int IntKind.i64 1)) 3), none⟩, [], false⟩,
  ⟨12, .F, ⟨some 4, (Op.assign (Operand.tmp 38)), none⟩, [], false⟩])
 .ret) .skip)))
 (.reg [⟨some 16, (Op.move (Operand.tmp 5)), none⟩,
  ⟨some 17, (Op.binOp BinOp.add 3 (Operand.tmp 16) (Operand.const (Value.int IntKind.i64 1)) 3), none⟩,
  ⟨some 5, (Op.assign (Operand.tmp 17)), none⟩]))))))
 (.seq (.reg [⟨some 39, (Op.move (Operand.tmp 0)), none⟩,
  ⟨some 40, (Op.call { callee := (Callee.builtin Builtin.len), args := #[(Operand.tmp 39)], argTypes := #[27] }), none⟩,
  ⟨some 41, (Op.move (Operand.tmp 1)), none⟩,
  ⟨some 42, (Op.call { callee := (Callee.builtin Builtin.len), args := #[(Operand.tmp 41)], argTypes := #[27] }), none⟩,
  ⟨some 43, (Op.binOp BinOp.gtr 3 (Operand.tmp 40) (Operand.tmp 42) 3), none⟩,
  ⟨some 44, (Op.call { callee := (Callee.value (Operand.func 107)), args := #[(Operand.tmp 43)], argTypes := #[4] }), none⟩,
  ⟨some 45, (Op.move (Operand.tmp 0)), none⟩,
  ⟨some 46, (Op.call { callee := (Callee.builtin Builtin.len), args := #[(Operand.tmp 45)], argTypes := #[27] }), none⟩,
  ⟨some 47, (Op.move (Operand.tmp 1)), none⟩,
  ⟨some 48, (Op.call { callee := (Callee.builtin Builtin.len), args := #[(Operand.tmp 47)], argTypes := #[27] }), none⟩,
  ⟨some 49, (Op.binOp BinOp.lss 3 (Operand.tmp 46) (Operand.tmp 48) 3), none⟩,
  ⟨some 50, (Op.call { callee := (Callee.value (Operand.func 107)), args := #[(Operand.tmp 49)], argTypes := #[4] }), none⟩,
  ⟨some 51, (Op.binOp BinOp.sub 3 (Operand.tmp 44) (Operand.tmp 50) 3), none⟩,
  ⟨some 4, (Op.assign (Operand.tmp 51)), none⟩])
 .ret)))
theorem fn68 : FnFact Tryd.prog 68 52 [(4, [(0, 0), (1, 0), (2, 0), (3, 3), (4, 0), (5, 0), (6, 0), (7, 3), (8, 0)], [[], [], [0, 1], [0, 1, 2], [], [], [4, 5], [4, 5, 6], [0, 1, 2, 3, 4, 5, 6, 7]]), (5, [(0, 0), (1, 0), (2, 0), (3, 3), (4, 0), (5, 0), (6, 0), (7, 3), (8, 0), (9, 2), (10, 0), (11, 0), (12, 0)], [[], [], [0, 1], [0, 1, 2], [], [], [4, 5], [4, 5, 6], [0, 1, 2, 3, 4, 5, 6, 7], [0, 1, 2, 3, 4, 5, 6, 7, 8], [0, 1, 2, 3, 4, 5, 6, 7, 8, 9], [0, 1, 2, 3, 4, 5, 6, 7, 8, 9, 10], [0, 1, 2, 3, 4, 5, 6, 7, 8, 9, 10, 11]])] [(ResultVar.tmp 4)] cd68 := ⟨by kernel_rfl, ⟨Tryd.f68, Tryd.func68, by kernel_rfl, by rfl, Tryd.ntmps68, congrArg Array.toList Tryd.results68⟩⟩
/-- examiner/examinerref42.list -/
def cd69 : CC := (.seq (.reg [⟨some 1, (Op.box 113 (Operand.tmp 0)), none⟩,
  ⟨some 2, (Op.assign (Operand.const (Value.slice none 0 0))), none⟩])
 (.seq (.reg [⟨some 3, (Op.fieldAddr 113 (Operand.tmp 1) 0), none⟩,
  ⟨some 4, (Op.load 3 (Operand.tmp 3)), none⟩,
  ⟨some 5, (Op.fieldAddr 113 (Operand.tmp 1) 1), none⟩,
  ⟨some 6, (Op.load 3 (Operand.tmp 5)), none⟩,
  ⟨some 7, (Op.fieldAddr 113 (Operand.tmp 1) 2), none⟩,
  ⟨some 8, (Op.load 3 (Operand.tmp 7)), none⟩,
  ⟨some 9, (Op.fieldAddr 113 (Operand.tmp 1) 3), none⟩,
  ⟨some 10, (Op.load 3 (Operand.tmp 9)), none⟩,
  ⟨some 11, (Op.buildSlice 27 4 #[(0, (Operand.tmp 4)), (1, (Operand.tmp 6)), (2, (Operand.tmp 8)), (3, (Operand.tmp 10))]), none⟩,
  ⟨some 2, (Op.assign (Operand.tmp 11)), none⟩])
 .ret))
theorem fn69 : FnFact Tryd.prog 69 12 [] [(ResultVar.tmp 2)] cd69 := ⟨by kernel_rfl, ⟨Tryd.f69, Tryd.func69, by kernel_rfl, by rfl, Tryd.ntmps69, congrArg Array.toList Tryd.results69⟩⟩
/-- examiner/conform.systemErr -/
def cd70 : CC := (.seq (.reg [⟨some 1, (Op.box 24 (Operand.tmp 0)), none⟩,
  ⟨some 2, (Op.assign (Operand.const (Value.int IntKind.i64 0))), none⟩])
 (.seq (.reg [⟨some 6, (Op.load 24 (Operand.tmp 1)), none⟩,
  ⟨some 7, (Op.call { callee := (Callee.value (Operand.func 23)), args := #[(Operand.tmp 6)], argTypes := #[24] }), none⟩,
  ⟨some 5, (Op.move (Operand.tmp 7)), none⟩,
  ⟨some 8, (Op.extract (Operand.tmp 5) 0), none⟩,
  ⟨some 9, (Op.extract (Operand.tmp 5) 1), none⟩,
  ⟨some 3, (Op.assign (Operand.tmp 8)), none⟩,
  ⟨some 4, (Op.assign (Operand.tmp 9)), none⟩])
 (.seq (.reg [⟨some 10, (Op.move (Operand.tmp 4)), none⟩,
  ⟨some 2, (Op.assign (Operand.tmp 10)), none⟩])
 .ret)))
theorem fn70 : FnFact Tryd.prog 70 11 [] [(ResultVar.tmp 2)] cd70 := ⟨by kernel_rfl, ⟨Tryd.f70, Tryd.func70, by kernel_rfl, by rfl, Tryd.ntmps70, congrArg Array.toList Tryd.results70⟩⟩
/-- examiner/conform.systemOf -/
def cd71 : CC := (.seq (.reg [⟨some 1, (Op.box 24 (Operand.tmp 0)), none⟩,
  ⟨some 2, (Op.assign (Operand.const (Value.pointer none))), none⟩])
 (.seq (.dr [⟨0, .R, ⟨some 7, (Op.load 24 (Operand.tmp 1)), none⟩, [], false⟩,
  ⟨1, .F, ⟨some 8, (Op.fieldAddr 24 (Operand.tmp 1) 0), none⟩, [], false⟩,
  ⟨2, .R, ⟨some 9, (Op.load 3 (Operand.tmp 8)), none⟩, [], false⟩,
  ⟨3, .A, ⟨some 10, (Op.makeSlice 123 (Operand.tmp 9) (Operand.tmp 9)), none⟩, [], false⟩,
  ⟨4, .F, ⟨some 11, (Op.build 125 #[(0, (Operand.tmp 7)), (2, (Operand.tmp 10))]), none⟩, [], false⟩,
  ⟨5, .A, ⟨some 12, (Op.box 125 (Operand.tmp 11)), none⟩, [], false⟩,
  ⟨6, .F, ⟨some 3, (Op.assign (Operand.tmp 12)), none⟩, [], false⟩])
 (.seq (.seq (.reg [⟨some 13, (Op.fieldAddr 24 (Operand.tmp 1) 0), none⟩,
  ⟨some 14, (Op.load 3 (Operand.tmp 13)), none⟩,
  ⟨some 15, (Op.move (Operand.const (Value.int IntKind.i64 0))), none⟩])
 (.block 0 (.loop (.seq (.reg [⟨some 16, (Op.binOp BinOp.lss 3 (Operand.tmp 15) (Operand.tmp 14) 3), none⟩])
 (.seq (.cond (Operand.tmp 16) .skip (.exit 0))
 (.seq (.block 1 (.dr [⟨0, .F, ⟨some 17, (Op.move (Operand.tmp 3)), none⟩, [], false⟩,
  ⟨1, .F, ⟨some 18, (Op.move (Operand.tmp 3)), none⟩, [], false⟩,
  ⟨2, .F, ⟨some 19, (Op.nilCheck (Operand.tmp 18)), none⟩, [], false⟩,
  ⟨3, .F, ⟨some 20, (Op.fieldAddr 125 (Operand.tmp 19) 1), none⟩, [], false⟩,
  ⟨4, .R, ⟨some 21, (Op.load 122 (Operand.tmp 20)), none⟩, [], false⟩,
  ⟨5, .F, ⟨some 22, (Op.fieldAddr 24 (Operand.tmp 1) 2), none⟩, [], false⟩,
  ⟨6, .R, ⟨some 23, (Op.load 3 (Operand.tmp 22)), none⟩, [], false⟩,
  ⟨7, .F, ⟨some 24, (Op.fieldAddr 24 (Operand.tmp 1) 3), none⟩, [], false⟩,
  ⟨8, .R, ⟨some 25, (Op.load 3 (Operand.tmp 24)), none⟩, [], false⟩,
  ⟨9, .F, ⟨some 26, (Op.binOp BinOp.add 3 (Operand.tmp 23) (Operand.tmp 25) 3), none⟩, [], false⟩,
  ⟨10, .A, ⟨some 27, (Op.makeSlice 123 (Operand.tmp 26) (Operand.tmp 26)), none⟩, [], false⟩,
  ⟨11, .F, ⟨some 28, (Op.buildSlice 122 1 #[(0, (Operand.tmp 27))]), none⟩, [], false⟩,
  ⟨12, .E, ⟨some 29, (Op.call { callee := (Callee.builtin Builtin.append), args := #[(Operand.tmp 21), (Operand.tmp 28)], argTypes := #[122, 122] }), none⟩, [10], false⟩,
  ⟨13, .F, ⟨some 30, (Op.nilCheck (Operand.tmp 17)), none⟩, [], false⟩,
  ⟨14, .F, ⟨some 31, (Op.fieldAddr 125 (Operand.tmp 30) 1), none⟩, [], false⟩,
  ⟨15, .E, ⟨none, (Op.store 122 (Operand.tmp 31) (Operand.tmp 29)), none⟩, [10], false⟩]))
 (.reg [⟨some 32, (Op.binOp BinOp.add 3 (Operand.tmp 15) (Operand.const (Value.int IntKind.i64 1)) 3), none⟩,
  ⟨some 15, (Op.move (Operand.tmp 32)), none⟩])))))))
 (.seq (.seq (.reg [⟨some 33, (Op.fieldAddr 24 (Operand.tmp 1) 4), none⟩,
  ⟨some 34, (Op.load 22 (Operand.tmp 33)), none⟩,
  ⟨some 35, (Op.call { callee := (Callee.builtin Builtin.len), args := #[(Operand.tmp 34)], argTypes := #[22] }), none⟩,
  ⟨some 36, (Op.move (Operand.const (Value.int IntKind.i64 0))), none⟩])
 (.block 2 (.loop (.seq (.reg [⟨some 37, (Op.binOp BinOp.lss 3 (Operand.tmp 36) (Operand.tmp 35) 3), none⟩])
 (.seq (.cond (Operand.tmp 37) .skip (.exit 2))
 (.seq (.block 3 (.seq (.reg [⟨some 38, (Op.indexAddr 22 (Operand.tmp 34) (Operand.tmp 36)), none⟩,
  ⟨some 39, (Op.load 113 (Operand.tmp 38)), none⟩,
  ⟨some 5, (Op.alloc 113), none⟩,
  ⟨none, (Op.store 113 (Operand.tmp 5) (Operand.tmp 39)), none⟩])
 (.seq (.reg [⟨some 40, (Op.fieldAddr 113 (Operand.tmp 5) 3), none⟩,
  ⟨some 41, (Op.load 3 (Operand.tmp 40)), none⟩,
  ⟨some 42, (Op.binOp BinOp.shl 105 (Operand.const (Value.int IntKind.u64 1)) (Operand.tmp 41) 3), none⟩,
  ⟨some 6, (Op.assign (Operand.tmp 42)), none⟩])
 (.seq (.reg [⟨some 43, (Op.fieldAddr 113 (Operand.tmp 5) 1), none⟩,
  ⟨some 44, (Op.load 3 (Operand.tmp 43)), none⟩])
 (.block 4 (.seq (.reg [⟨some 57, (Op.binOp BinOp.eql 3 (Operand.tmp 44) (Operand.const (Value.int IntKind.i64 0)) 3), none⟩,
  ⟨some 56, (Op.assign (Operand.tmp 57)), none⟩])
 (.cond (Operand.tmp 56) (.dr [⟨0, .F, ⟨some 58, (Op.move (Operand.tmp 3)), none⟩, [], false⟩,
  ⟨1, .F, ⟨some 59, (Op.nilCheck (Operand.tmp 58)), none⟩, [], false⟩,
  ⟨2, .F, ⟨some 60, (Op.fieldAddr 125 (Operand.tmp 59) 1), none⟩, [], false⟩,
  ⟨3, .R, ⟨some 61, (Op.load 122 (Operand.tmp 60)), none⟩, [], false⟩,
  ⟨4, .F, ⟨some 62, (Op.fieldAddr 113 (Operand.tmp 5) 0), none⟩, [], false⟩,
  ⟨5, .R, ⟨some 63, (Op.load 3 (Operand.tmp 62)), none⟩, [], false⟩,
  ⟨6, .F, ⟨some 64, (Op.indexAddr 122 (Operand.tmp 61) (Operand.tmp 63)), none⟩, [], false⟩,
  ⟨7, .R, ⟨some 65, (Op.load 123 (Operand.tmp 64)), none⟩, [], false⟩,
  ⟨8, .F, ⟨some 66, (Op.fieldAddr 113 (Operand.tmp 5) 2), none⟩, [], false⟩,
  ⟨9, .R, ⟨some 67, (Op.load 3 (Operand.tmp 66)), none⟩, [], false⟩,
  ⟨10, .F, ⟨some 68, (Op.indexAddr 123 (Operand.tmp 65) (Operand.tmp 67)), none⟩, [], false⟩,
  ⟨11, .R, ⟨some 69, (Op.load 105 (Operand.tmp 68)), none⟩, [], false⟩,
  ⟨12, .F, ⟨some 70, (Op.move (Operand.tmp 6)), none⟩, [], false⟩,
  ⟨13, .F, ⟨some 71, (Op.binOp BinOp.or 105 (Operand.tmp 69) (Operand.tmp 70) 105), none⟩, [], false⟩,
  ⟨14, .F, ⟨some 72, (Op.indexAddr 123 (Operand.tmp 65) (Operand.tmp 67)), none⟩, [], false⟩,
  ⟨15, .E, ⟨none, (Op.store 105 (Operand.tmp 72) (Operand.tmp 71)), none⟩, [], false⟩]) (.seq (.reg [⟨some 74, (Op.binOp BinOp.eql 3 (Operand.tmp 44) (Operand.const (Value.int IntKind.i64 1)) 3), none⟩,
  ⟨some 73, (Op.assign (Operand.tmp 74)), none⟩])
 (.cond (Operand.tmp 73) (.dr [⟨0, .F, ⟨some 75, (Op.move (Operand.tmp 3)), none⟩, [], false⟩,
  ⟨1, .F, ⟨some 76, (Op.nilCheck (Operand.tmp 75)), none⟩, [], false⟩,
  ⟨2, .F, ⟨some 77, (Op.fieldAddr 125 (Operand.tmp 76) 1), none⟩, [], false⟩,
  ⟨3, .R, ⟨some 78, (Op.load 122 (Operand.tmp 77)), none⟩, [], false⟩,
  ⟨4, .F, ⟨some 79, (Op.fieldAddr 113 (Operand.tmp 5) 0), none⟩, [], false⟩,
  ⟨5, .R, ⟨some 80, (Op.load 3 (Operand.tmp 79)), none⟩, [], false⟩,
  ⟨6, .F, ⟨some 81, (Op.indexAddr 122 (Operand.tmp 78) (Operand.tmp 80)), none⟩, [], false⟩,
  ⟨7, .R, ⟨some 82, (Op.load 123 (Operand.tmp 81)), none⟩, [], false⟩,
  ⟨8, .F, ⟨some 83, (Op.fieldAddr 24 (Operand.tmp 1) 2), none⟩, [], false⟩,
  ⟨9, .R, ⟨some 84, (Op.load 3 (Operand.tmp 83)), none⟩, [], false⟩,
  ⟨10, .F, ⟨some 85, (Op.fieldAddr 113 (Operand.tmp 5) 2), none⟩, [], false⟩,
  ⟨11, .R, ⟨some 86, (Op.load 3 (Operand.tmp 85)), none⟩, [], false⟩,
  ⟨12, .F, ⟨some 87, (Op.binOp BinOp.add 3 (Operand.tmp 84) (Operand.tmp 86) 3), none⟩, [], false⟩,
  ⟨13, .F, ⟨some 88, (Op.indexAddr 123 (Operand.tmp 82) (Operand.tmp 87)), none⟩, [], false⟩,
  ⟨14, .R, ⟨some 89, (Op.load 105 (Operand.tmp 88)), none⟩, [], false⟩,
  ⟨15, .F, ⟨some 90, (Op.move (Operand.tmp 6)), none⟩, [], false⟩,
  ⟨16, .F, ⟨some 91, (Op.binOp BinOp.or 105 (Operand.tmp 89) (Operand.tmp 90) 105), none⟩, [], false⟩,
  ⟨17, .F, ⟨some 92, (Op.indexAddr 123 (Operand.tmp 82) (Operand.tmp 87)), none⟩, [], false⟩,
  ⟨18, .E, ⟨none, (Op.store 105 (Operand.tmp 92) (Operand.tmp 91)), none⟩, [], false⟩]) (.dr [⟨0, .F, ⟨some 45, (Op.move (Operand.tmp 3)), none⟩, [], false⟩,
  ⟨1, .F, ⟨some 46, (Op.nilCheck (Operand.tmp 45)), none⟩, [], false⟩,
  ⟨2, .F, ⟨some 47, (Op.fieldAddr 125 (Operand.tmp 46) 2), none⟩, [], false⟩,
  ⟨3, .R, ⟨some 48, (Op.load 123 (Operand.tmp 47)), none⟩, [], false⟩,
  ⟨4, .F, ⟨some 49, (Op.fieldAddr 113 (Operand.tmp 5) 0), none⟩, [], false⟩,
  ⟨5, .R, ⟨some 50, (Op.load 3 (Operand.tmp 49)), none⟩, [], false⟩,
  ⟨6, .F, ⟨some 51, (Op.indexAddr 123 (Operand.tmp 48) (Operand.tmp 50)), none⟩, [], false⟩,
  ⟨7, .R, ⟨some 52, (Op.load 105 (Operand.tmp 51)), none⟩, [], false⟩,
  ⟨8, .F, ⟨some 53, (Op.move (Operand.tmp 6)), none⟩, [], false⟩,
  ⟨9, .F, ⟨some 54, (Op.binOp BinOp.or 105 (Operand.tmp 52) (Operand.tmp 53) 105), none⟩, [], false⟩,
  ⟨10, .F, ⟨some 55, (Op.indexAddr 123 (Operand.tmp 48) (Operand.tmp 50)), none⟩, [], false⟩,
  ⟨11, .E, ⟨none, (Op.store 105 (Operand.tmp 55) (Operand.tmp 54)), none⟩, [], false⟩]))))))))))
 (.reg [⟨some 93, (Op.binOp BinOp.add 3 (Operand.tmp 36) (Operand.const (Value.int IntKind.i64 1)) 3), none⟩,
  ⟨some 36, (Op.move (Operand.tmp 93)), none⟩])))))))
 (.seq (.reg [⟨some 94, (Op.move (Operand.tmp 3)), none⟩,
  ⟨some 2, (Op.assign (Operand.tmp 94)), none⟩])
 .ret)))))
theorem fn71 : FnFact Tryd.prog 71 95 [(1, [(0, 3), (1, 0), (2, 3), (3, 1), (4, 0), (5, 1), (6, 0)], [[], [], [1], [1, 2], [0, 1, 2, 3], [0, 1, 2, 3, 4], [0, 1, 2, 3, 4, 5]]), (4, [(0, 0), (1, 0), (2, 0), (3, 0), (4, 3), (5, 0), (6, 3), (7, 0), (8, 3), (9, 0), (10, 1), (11, 0), (12, 2), (13, 0), (14, 0), (15, 2)], [[], [], [1], [1, 2], [1, 2, 3], [], [5], [], [7], [5, 6, 7, 8], [5, 6, 7, 8, 9], [5, 6, 7, 8, 9, 10], [1, 2, 3, 4, 5, 6, 7, 8, 9, 10, 11], [0, 1, 2, 3, 4, 5, 6, 7, 8, 9, 10, 11, 12], [0, 1, 2, 3, 4, 5, 6, 7, 8, 9, 10, 11, 12, 13], [0, 1, 2, 3, 4, 5, 6, 7, 8, 9, 10, 11, 12, 13, 14]]), (13, [(0, 0), (1, 0), (2, 0), (3, 3), (4, 0), (5, 3), (6, 0), (7, 3), (8, 0), (9, 3), (10, 0), (11, 3), (12, 0), (13, 0), (14, 0), (15, 2)], [[], [0], [0, 1], [0, 1, 2], [], [4], [0, 1, 2, 3, 4, 5], [0, 1, 2, 3, 4, 5, 6], [], [8], [0, 1, 2, 3, 4, 5, 6, 7, 8, 9], [0, 1, 2, 3, 4, 5, 6, 7, 8, 9, 10], [], [0, 1, 2, 3, 4, 5, 6, 7, 8, 9, 10, 11, 12], [0, 1, 2, 3, 4, 5, 6, 7, 8, 9, 10, 11, 12, 13], [0, 1, 2, 3, 4, 5, 6, 7, 8, 9, 10, 11, 12, 13, 14]]), (15, [(0, 0), (1, 0), (2, 0), (3, 3), (4, 0), (5, 3), (6, 0), (7, 3), (8, 0), (9, 3), (10, 0), (11, 3), (12, 0), (13, 0), (14, 3), (15, 0), (16, 0), (17, 0), (18, 2)], [[], [0], [0, 1], [0, 1, 2], [], [4], [0, 1, 2, 3, 4, 5], [0, 1, 2, 3, 4, 5, 6], [], [8], [], [10], [8, 9, 10, 11], [0, 1, 2, 3, 4, 5, 6, 7, 8, 9, 10, 11, 12], [0, 1, 2, 3, 4, 5, 6, 7, 8, 9, 10, 11, 12, 13], [], [0, 1, 2, 3, 4, 5, 6, 7, 8, 9, 10, 11, 12, 13, 14, 15], [0, 1, 2, 3, 4, 5, 6, 7, 8, 9, 10, 11, 12, 13, 14, 15, 16], [0, 1, 2, 3, 4, 5, 6, 7, 8, 9, 10, 11, 12, 13, 14, 15, 16, 17]]), (11, [(0, 0), (1, 0), (2, 0), (3, 3), (4, 0), (5, 3), (6, 0), (7, 3), (8, 0), (9, 0), (10, 0), (11, 2)], [[], [0], [0, 1], [0, 1, 2], [], [4], [0, 1, 2, 3, 4, 5], [0, 1, 2, 3, 4, 5, 6], [], [0, 1, 2, 3, 4, 5, 6, 7, 8], [0, 1, 2, 3, 4, 5, 6, 7, 8, 9], [0, 1, 2, 3, 4, 5, 6, 7, 8, 9, 10]])] [(ResultVar.tmp 2)] cd71 := ⟨by kernel_rfl, ⟨Tryd.f71, Tryd.func71, by kernel_rfl, by rfl, Tryd.ntmps71, congrArg Array.toList Tryd.results71⟩⟩
/-- (*examiner/conform.system).first -/
def cd72 : CC := (.seq (.reg [⟨some 2, (Op.assign (Operand.const (Value.int IntKind.u64 0))), none⟩])
 (.seq (.reg [⟨some 3, (Op.move (Operand.tmp 0)), none⟩,
  ⟨some 4, (Op.move (Operand.tmp 0)), none⟩,
  ⟨some 5, (Op.nilCheck (Operand.tmp 4)), none⟩,
  ⟨some 6, (Op.fieldAddr 125 (Operand.tmp 5) 0), none⟩,
  ⟨some 7, (Op.fieldAddr 24 (Operand.tmp 6) 1), none⟩,
  ⟨some 8, (Op.load 3 (Operand.tmp 7)), none⟩,
  ⟨some 9, (Op.binOp BinOp.shl 105 (Operand.const (Value.int IntKind.u64 1)) (Operand.tmp 8) 3), none⟩,
  ⟨some 10, (Op.call { callee := (Callee.value (Operand.func 75)), args := #[(Operand.tmp 3), (Operand.tmp 9)], argTypes := #[99, 105] }), none⟩,
  ⟨some 2, (Op.assign (Operand.tmp 10)), none⟩])
 .ret))
theorem fn72 : FnFact Tryd.prog 72 11 [] [(ResultVar.tmp 2)] cd72 := ⟨by kernel_rfl, ⟨Tryd.f72, Tryd.func72, by kernel_rfl, by rfl, Tryd.ntmps72, congrArg Array.toList Tryd.results72⟩⟩
/-- (*examiner/conform.system).silence -/
def cd73 : CC := (.seq (.reg [⟨some 2, (Op.assign (Operand.const (Value.int IntKind.i64 0))), none⟩])
 (.seq (.dr [⟨0, .F, ⟨some 3, (Op.move (Operand.tmp 0)), none⟩, [], false⟩,
  ⟨1, .F, ⟨some 4, (Op.nilCheck (Operand.tmp 3)), none⟩, [], false⟩,
  ⟨2, .F, ⟨some 5, (Op.fieldAddr 125 (Operand.tmp 4) 0), none⟩, [], false⟩,
  ⟨3, .F, ⟨some 6, (Op.fieldAddr 24 (Operand.tmp 5) 2), none⟩, [], false⟩,
  ⟨4, .R, ⟨some 7, (Op.load 3 (Operand.tmp 6)), none⟩, [], false⟩,
  ⟨5, .F, ⟨some 8, (Op.move (Operand.tmp 0)), none⟩, [], false⟩,
  ⟨6, .F, ⟨some 9, (Op.nilCheck (Operand.tmp 8)), none⟩, [], false⟩,
  ⟨7, .F, ⟨some 10, (Op.fieldAddr 125 (Operand.tmp 9) 0), none⟩, [], false⟩,
  ⟨8, .F, ⟨some 11, (Op.fieldAddr 24 (Operand.tmp 10) 3), none⟩, [], false⟩,
  ⟨9, .R, ⟨some 12, (Op.load 3 (Operand.tmp 11)), none⟩, [], false⟩,
  ⟨10, .F, ⟨some 13, (Op.binOp BinOp.add 3 (Operand.tmp 7) (Operand.tmp 12) 3), none⟩, [], false⟩,
  ⟨11, .F, ⟨some 2, (Op.assign (Operand.tmp 13)), none⟩, [], false⟩])
 .ret))
theorem fn73 : FnFact Tryd.prog 73 14 [(1, [(0, 0), (1, 0), (2, 0), (3, 0), (4, 3), (5, 0), (6, 0), (7, 0), (8, 0), (9, 3), (10, 0), (11, 0)], [[], [0], [0, 1], [0, 1, 2], [0, 1, 2, 3], [], [5], [5, 6], [5, 6, 7], [5, 6, 7, 8], [0, 1, 2, 3, 4, 5, 6, 7, 8, 9], [0, 1, 2, 3, 4, 5, 6, 7, 8, 9, 10]])] [(ResultVar.tmp 2)] cd73 := ⟨by kernel_rfl, ⟨Tryd.f73, Tryd.func73, by kernel_rfl, by rfl, Tryd.ntmps73, congrArg Array.toList Tryd.results73⟩⟩
/-- (*examiner/conform.system).after -/
def cd74 : CC := (.seq (.reg [⟨some 6, (Op.assign (Operand.const (Value.int IntKind.u64 0))), none⟩])
 (.seq (.reg [⟨some 7, (Op.assign (Operand.const (Value.int IntKind.u64 0))), none⟩])
 (.seq (.seq (.reg [⟨some 10, (Op.move (Operand.tmp 1)), none⟩,
  ⟨some 11, (Op.call { callee := (Callee.value (Operand.func 62)), args := #[(Operand.tmp 10)], argTypes := #[105] }), none⟩,
  ⟨some 12, (Op.call { callee := (Callee.builtin Builtin.len), args := #[(Operand.tmp 11)], argTypes := #[27] }), none⟩,
  ⟨some 13, (Op.move (Operand.const (Value.int IntKind.i64 0))), none⟩])
 (.block 0 (.loop (.seq (.reg [⟨some 14, (Op.binOp BinOp.lss 3 (Operand.tmp 13) (Operand.tmp 12) 3), none⟩])
 (.seq (.cond (Operand.tmp 14) .skip (.exit 0))
 (.seq (.block 1 (.seq (.reg [⟨some 15, (Op.indexAddr 27 (Operand.tmp 11) (Operand.tmp 13)), none⟩,
  ⟨some 16, (Op.load 3 (Operand.tmp 15)), none⟩,
  ⟨some 9, (Op.assign (Operand.tmp 16)), none⟩])
 (.block 2 (.seq (.reg [⟨some 18, (Op.move (Operand.tmp 2)), none⟩,
  ⟨some 19, (Op.move (Operand.tmp 0)), none⟩,
  ⟨some 20, (Op.call { callee := (Callee.value (Operand.func 73)), args := #[(Operand.tmp 19)], argTypes := #[99] }), none⟩,
  ⟨some 21, (Op.binOp BinOp.lss 3 (Operand.tmp 18) (Operand.tmp 20) 3), none⟩,
  ⟨some 17, (Op.assign (Operand.tmp 21)), none⟩])
 (.cond (Operand.tmp 17) (.reg [⟨some 22, (Op.move (Operand.tmp 7)), none⟩,
  ⟨some 23, (Op.move (Operand.tmp 0)), none⟩,
  ⟨some 24, (Op.nilCheck (Operand.tmp 23)), none⟩,
  ⟨some 25, (Op.fieldAddr 125 (Operand.tmp 24) 1), none⟩,
  ⟨some 26, (Op.load 122 (Operand.tmp 25)), none⟩,
  ⟨some 27, (Op.move (Operand.tmp 9)), none⟩,
  ⟨some 28, (Op.indexAddr 122 (Operand.tmp 26) (Operand.tmp 27)), none⟩,
  ⟨some 29, (Op.load 123 (Operand.tmp 28)), none⟩,
  ⟨some 30, (Op.move (Operand.tmp 2)), none⟩,
  ⟨some 31, (Op.indexAddr 123 (Operand.tmp 29) (Operand.tmp 30)), none⟩,
  ⟨some 32, (Op.load 105 (Operand.tmp 31)), none⟩,
  ⟨some 33, (Op.binOp BinOp.or 105 (Operand.tmp 22) (Operand.tmp 32) 105), none⟩,
  ⟨some 7, (Op.assign (Operand.tmp 33)), none⟩]) (.seq (.reg [⟨some 35, (Op.move (Operand.tmp 0)), none⟩,
  ⟨some 36, (Op.move (Operand.tmp 9)), none⟩,
  ⟨some 37, (Op.call { callee := (Callee.value (Operand.func 108)), args := #[(Operand.tmp 35), (Operand.tmp 36)], argTypes := #[99, 3] }), none⟩,
  ⟨some 34, (Op.assign (Operand.tmp 37)), none⟩])
 (.cond (Operand.tmp 34) (.reg [⟨some 38, (Op.move (Operand.tmp 7)), none⟩,
  ⟨some 39, (Op.move (Operand.tmp 9)), none⟩,
  ⟨some 40, (Op.binOp BinOp.shl 105 (Operand.const (Value.int IntKind.u64 1)) (Operand.tmp 39) 3), none⟩,
  ⟨some 41, (Op.binOp BinOp.or 105 (Operand.tmp 38) (Operand.tmp 40) 105), none⟩,
  ⟨some 7, (Op.assign (Operand.tmp 41)), none⟩]) .skip)))))))
 (.reg [⟨some 42, (Op.binOp BinOp.add 3 (Operand.tmp 13) (Operand.const (Value.int IntKind.i64 1)) 3), none⟩,
  ⟨some 13, (Op.move (Operand.tmp 42)), none⟩])))))))
 (.seq (.reg [⟨some 43, (Op.move (Operand.tmp 0)), none⟩,
  ⟨some 44, (Op.move (Operand.tmp 7)), none⟩,
  ⟨some 45, (Op.call { callee := (Callee.value (Operand.func 75)), args := #[(Operand.tmp 43), (Operand.tmp 44)], argTypes := #[99, 105] }), none⟩,
  ⟨some 6, (Op.assign (Operand.tmp 45)), none⟩])
 .ret))))
theorem fn74 : FnFact Tryd.prog 74 46 [] [(ResultVar.tmp 6)] cd74 := ⟨by kernel_rfl, ⟨Tryd.f74, Tryd.func74, by kernel_rfl, by rfl, Tryd.ntmps74, congrArg Array.toList Tryd.results74⟩⟩
/-- (*examiner/conform.system).closed -/
def cd75 : CC := (.seq (.reg [⟨some 4, (Op.assign (Operand.const (Value.int IntKind.u64 0))), none⟩])
 (.block 0 (.loop (.block 1 (.seq (.reg [⟨some 8, (Op.move (Operand.tmp 1)), none⟩,
  ⟨some 5, (Op.assign (Operand.tmp 8)), none⟩])
 (.seq (.seq (.reg [⟨some 9, (Op.move (Operand.tmp 1)), none⟩,
  ⟨some 10, (Op.call { callee := (Callee.value (Operand.func 62)), args := #[(Operand.tmp 9)], argTypes := #[105] }), none⟩,
  ⟨some 11, (Op.call { callee := (Callee.builtin Builtin.len), args := #[(Operand.tmp 10)], argTypes := #[27] }), none⟩,
  ⟨some 12, (Op.move (Operand.const (Value.int IntKind.i64 0))), none⟩])
 (.block 2 (.loop (.seq (.reg [⟨some 13, (Op.binOp BinOp.lss 3 (Operand.tmp 12) (Operand.tmp 11) 3), none⟩])
 (.seq (.cond (Operand.tmp 13) .skip (.exit 2))
 (.seq (.block 3 (.seq (.reg [⟨some 14, (Op.indexAddr 27 (Operand.tmp 10) (Operand.tmp 12)), none⟩,
  ⟨some 15, (Op.load 3 (Operand.tmp 14)), none⟩,
  ⟨some 7, (Op.assign (Operand.tmp 15)), none⟩])
 (.reg [⟨some 16, (Op.move (Operand.tmp 5)), none⟩,
  ⟨some 17, (Op.move (Operand.tmp 0)), none⟩,
  ⟨some 18, (Op.nilCheck (Operand.tmp 17)), none⟩,
  ⟨some 19, (Op.fieldAddr 125 (Operand.tmp 18) 2), none⟩,
  ⟨some 20, (Op.load 123 (Operand.tmp 19)), none⟩,
  ⟨some 21, (Op.move (Operand.tmp 7)), none⟩,
  ⟨some 22, (Op.indexAddr 123 (Operand.tmp 20) (Operand.tmp 21)), none⟩,
  ⟨some 23, (Op.load 105 (Operand.tmp 22)), none⟩,
  ⟨some 24, (Op.binOp BinOp.or 105 (Operand.tmp 16) (Operand.tmp 23) 105), none⟩,
  ⟨some 5, (Op.assign (Operand.tmp 24)), none⟩])))
 (.reg [⟨some 25, (Op.binOp BinOp.add 3 (Operand.tmp 12) (Operand.const (Value.int IntKind.i64 1)) 3), none⟩,
  ⟨some 12, (Op.move (Operand.tmp 25)), none⟩])))))))
 (.seq (.seq (.reg [⟨some 26, (Op.move (Operand.tmp 5)), none⟩,
  ⟨some 27, (Op.move (Operand.tmp 1)), none⟩,
  ⟨some 28, (Op.binOp BinOp.eql 105 (Operand.tmp 26) (Operand.tmp 27) 105), none⟩])
 (.cond (Operand.tmp 28) (.seq (.reg [⟨some 29, (Op.move (Operand.tmp 1)), none⟩,
  ⟨some 4, (Op.assign (Operand.tmp 29)), none⟩])
 .ret) .skip))
 (.reg [⟨some 30, (Op.move (Operand.tmp 5)), none⟩,
  ⟨some 1, (Op.assign (Operand.tmp 30)), none⟩]))))))))
theorem fn75 : FnFact Tryd.prog 75 31 [] [(ResultVar.tmp 4)] cd75 := ⟨by kernel_rfl, ⟨Tryd.f75, Tryd.func75, by kernel_rfl, by rfl, Tryd.ntmps75, congrArg Array.toList Tryd.results75⟩⟩
/-- examiner/examinerbase.Has -/
def cd76 : CC := (.seq (.reg [⟨some 4, (Op.assign (Operand.const (Value.bool false))), none⟩])
 (.seq (.seq (.reg [⟨some 5, (Op.assign (Operand.const (Value.int IntKind.i64 0))), none⟩])
 (.block 0 (.loop (.seq (.seq (.reg [⟨some 6, (Op.move (Operand.tmp 5)), none⟩,
  ⟨some 7, (Op.move (Operand.tmp 0)), none⟩,
  ⟨some 8, (Op.call { callee := (Callee.builtin Builtin.len), args := #[(Operand.tmp 7)], argTypes := #[27] }), none⟩,
  ⟨some 9, (Op.binOp BinOp.lss 3 (Operand.tmp 6) (Operand.tmp 8) 3), none⟩])
 (.cond (Operand.tmp 9) .skip (.exit 0)))
 (.seq (.block 1 (.seq (.reg [⟨some 12, (Op.move (Operand.tmp 0)), none⟩,
  ⟨some 13, (Op.move (Operand.tmp 5)), none⟩,
  ⟨some 14, (Op.indexAddr 27 (Operand.tmp 12) (Operand.tmp 13)), none⟩,
  ⟨some 15, (Op.load 3 (Operand.tmp 14)), none⟩,
  ⟨some 16, (Op.move (Operand.tmp 1)), none⟩,
  ⟨some 17, (Op.binOp BinOp.eql 3 (Operand.tmp 15) (Operand.tmp 16) 3), none⟩])
 (.cond (Operand.tmp 17) (.seq (.reg [⟨some 4, (Op.assign (Operand.const (Value.bool true))), none⟩])
 .ret) .skip)))
 (.reg [⟨some 10, (Op.move (Operand.tmp 5)), none⟩,
  ⟨some 11, (Op.binOp BinOp.add 3 (Operand.tmp 10) (Operand.const (Value.int IntKind.i64 1)) 3), none⟩,
  ⟨some 5, (Op.assign (Operand.tmp 11)), none⟩]))))))
 (.seq (.reg [⟨some 4, (Op.assign (Operand.const (Value.bool false))), none⟩])
 .ret)))
theorem fn76 : FnFact Tryd.prog 76 18 [] [(ResultVar.tmp 4)] cd76 := ⟨by kernel_rfl, ⟨Tryd.f76, Tryd.func76, by kernel_rfl, by rfl, Tryd.ntmps76, congrArg Array.toList Tryd.results76⟩⟩
/-- examiner/conform.traceErr -/
def cd77 : CC := (.seq (.reg [⟨some 2, (Op.box 24 (Operand.tmp 0)), none⟩,
  ⟨some 4, (Op.assign (Operand.const (Value.int IntKind.i64 0))), none⟩])
 (.seq (.reg [⟨some 6, (Op.makeFunc (Fn.func 109) #[] #[(Operand.tmp 2)]), none⟩,
  ⟨some 5, (Op.assign (Operand.tmp 6)), none⟩])
 (.seq (.seq (.reg [⟨some 7, (Op.move (Operand.tmp 1)), none⟩,
  ⟨some 8, (Op.call { callee := (Callee.builtin Builtin.len), args := #[(Operand.tmp 7)], argTypes := #[27] }), none⟩,
  ⟨some 9, (Op.binOp BinOp.gtr 3 (Operand.tmp 8) (Operand.const (Value.int IntKind.i64 40)) 3), none⟩])
 (.cond (Operand.tmp 9) (.seq (.reg [⟨some 4, (Op.assign (Operand.const (Value.int IntKind.i64 2))), none⟩])
 .ret) .skip))
 (.seq (.reg [⟨some 10, (Op.move (Operand.tmp 1)), none⟩,
  ⟨some 11, (Op.move (Operand.tmp 5)), none⟩,
  ⟨some 12, (Op.call { callee := (Callee.value (Operand.func 110)), args := #[(Operand.tmp 10), (Operand.tmp 11)], argTypes := #[27, 156] }), none⟩,
  ⟨some 13, (Op.unOp UnOp.not 4 (Operand.tmp 12)), none⟩,
  ⟨some 14, (Op.call { callee := (Callee.value (Operand.func 61)), args := #[(Operand.tmp 13), (Operand.const (Value.int IntKind.i64 3))], argTypes := #[4, 28] }), none⟩,
  ⟨some 4, (Op.assign (Operand.tmp 14)), none⟩])
 .ret))))
theorem fn77 : FnFact Tryd.prog 77 15 [] [(ResultVar.tmp 4)] cd77 := ⟨by kernel_rfl, ⟨Tryd.f77, Tryd.func77, by kernel_rfl, by rfl, Tryd.ntmps77, congrArg Array.toList Tryd.results77⟩⟩
/-- (*examiner/conform.system).along -/
def cd78 : CC := (.seq (.reg [⟨some 4, (Op.assign (Operand.const (Value.int IntKind.u64 0))), none⟩])
 (.seq (.reg [⟨some 8, (Op.move (Operand.tmp 0)), none⟩,
  ⟨some 9, (Op.call { callee := (Callee.value (Operand.func 72)), args := #[(Operand.tmp 8)], argTypes := #[99] }), none⟩,
  ⟨some 5, (Op.assign (Operand.tmp 9)), none⟩])
 (.seq (.seq (.reg [⟨some 10, (Op.move (Operand.tmp 1)), none⟩,
  ⟨some 11, (Op.call { callee := (Callee.builtin Builtin.len), args := #[(Operand.tmp 10)], argTypes := #[27] }), none⟩,
  ⟨some 12, (Op.move (Operand.const (Value.int IntKind.i64 0))), none⟩])
 (.block 0 (.loop (.seq (.reg [⟨some 13, (Op.binOp BinOp.lss 3 (Operand.tmp 12) (Operand.tmp 11) 3), none⟩])
 (.seq (.cond (Operand.tmp 13) .skip (.exit 0))
 (.seq (.block 1 (.seq (.reg [⟨some 14, (Op.indexAddr 27 (Operand.tmp 10) (Operand.tmp 12)), none⟩,
  ⟨some 15, (Op.load 3 (Operand.tmp 14)), none⟩,
  ⟨some 7, (Op.assign (Operand.tmp 15)), none⟩])
 (.reg [⟨some 16, (Op.move (Operand.tmp 0)), none⟩,
  ⟨some 17, (Op.move (Operand.tmp 5)), none⟩,
  ⟨some 18, (Op.move (Operand.tmp 7)), none⟩,
  ⟨some 19, (Op.call { callee := (Callee.value (Operand.func 74)), args := #[(Operand.tmp 16), (Operand.tmp 17), (Operand.tmp 18)], argTypes := #[99, 105, 3] }), none⟩,
  ⟨some 5, (Op.assign (Operand.tmp 19)), none⟩])))
 (.reg [⟨some 20, (Op.binOp BinOp.add 3 (Operand.tmp 12) (Operand.const (Value.int IntKind.i64 1)) 3), none⟩,
  ⟨some 12, (Op.move (Operand.tmp 20)), none⟩])))))))
 (.seq (.reg [⟨some 21, (Op.move (Operand.tmp 5)), none⟩,
  ⟨some 4, (Op.assign (Operand.tmp 21)), none⟩])
 .ret))))
theorem fn78 : FnFact Tryd.prog 78 22 [] [(ResultVar.tmp 4)] cd78 := ⟨by kernel_rfl, ⟨Tryd.f78, Tryd.func78, by kernel_rfl, by rfl, Tryd.ntmps78, congrArg Array.toList Tryd.results78⟩⟩
/-- examiner/conform.setOf -/
def cd79 : CC := (.seq (.reg [⟨some 2, (Op.box 24 (Operand.tmp 0)), none⟩,
  ⟨some 4, (Op.assign (Operand.const (Value.int IntKind.u64 0))), none⟩,
  ⟨some 5, (Op.assign (Operand.const (Value.int IntKind.i64 0))), none⟩])
 (.seq (.reg [⟨some 6, (Op.assign (Operand.const (Value.int IntKind.u64 0))), none⟩])
 (.seq (.seq (.reg [⟨some 9, (Op.move (Operand.tmp 1)), none⟩,
  ⟨some 10, (Op.call { callee := (Callee.builtin Builtin.len), args := #[(Operand.tmp 9)], argTypes := #[27] }), none⟩,
  ⟨some 11, (Op.move (Operand.const (Value.int IntKind.i64 0))), none⟩])
 (.block 0 (.loop (.seq (.reg [⟨some 12, (Op.binOp BinOp.lss 3 (Operand.tmp 11) (Operand.tmp 10) 3), none⟩])
 (.seq (.cond (Operand.tmp 12) .skip (.exit 0))
 (.seq (.block 1 (.seq (.reg [⟨some 13, (Op.move (Operand.tmp 11)), none⟩,
  ⟨some 14, (Op.indexAddr 27 (Operand.tmp 9) (Operand.tmp 11)), none⟩,
  ⟨some 15, (Op.load 3 (Operand.tmp 14)), none⟩,
  ⟨some 7, (Op.assign (Operand.tmp 13)), none⟩,
  ⟨some 8, (Op.assign (Operand.tmp 15)), none⟩])
 (.seq (.seq (.reg [⟨some 16, (Op.move (Operand.tmp 8)), none⟩,
  ⟨some 17, (Op.fieldAddr 24 (Operand.tmp 2) 0), none⟩,
  ⟨some 18, (Op.load 3 (Operand.tmp 17)), none⟩,
  ⟨some 19, (Op.binOp BinOp.sub 3 (Operand.tmp 18) (Operand.const (Value.int IntKind.i64 1)) 3), none⟩,
  ⟨some 20, (Op.call { callee := (Callee.value (Operand.func 66)), args := #[(Operand.tmp 16), (Operand.const (Value.int IntKind.i64 0)), (Operand.tmp 19)], argTypes := #[3, 3, 3] }), none⟩,
  ⟨some 21, (Op.unOp UnOp.not 4 (Operand.tmp 20)), none⟩])
 (.cond (Operand.tmp 21) (.seq (.reg [⟨some 4, (Op.assign (Operand.const (Value.int IntKind.u64 0))), none⟩,
  ⟨some 5, (Op.assign (Operand.const (Value.int IntKind.i64 3))), none⟩])
 .ret) .skip))
 (.seq (.seq (.reg [⟨some 22, (Op.move (Operand.tmp 7)), none⟩,
  ⟨some 23, (Op.binOp BinOp.gtr 3 (Operand.tmp 22) (Operand.const (Value.int IntKind.i64 0)) 3), none⟩,
  ⟨some 24, (Op.move (Operand.tmp 23)), none⟩,
  ⟨some 25, (Op.move (Operand.tmp 8)), some (24, true)⟩,
  ⟨some 26, (Op.move (Operand.tmp 1)), some (24, true)⟩,
  ⟨some 27, (Op.move (Operand.tmp 7)), some (24, true)⟩,
  ⟨some 28, (Op.binOp BinOp.sub 3 (Operand.tmp 27) (Operand.const (Value.int IntKind.i64 1)) 3), some (24, true)⟩,
  ⟨some 29, (Op.indexAddr 27 (Operand.tmp 26) (Operand.tmp 28)), some (24, true)⟩,
  ⟨some 30, (Op.load 3 (Operand.tmp 29)), some (24, true)⟩,
  ⟨some 31, (Op.binOp BinOp.leq 3 (Operand.tmp 25) (Operand.tmp 30) 3), some (24, true)⟩,
  ⟨some 32, (Op.pick (Operand.tmp 24) (Operand.tmp 31) (Operand.const (Value.bool false))), none⟩])
 (.cond (Operand.tmp 32) (.seq (.reg [⟨some 4, (Op.assign (Operand.const (Value.int IntKind.u64 0))), none⟩,
  ⟨some 5, (Op.assign (Operand.const (Value.int IntKind.i64 14))), none⟩])
 .ret) .skip))
 (.reg [⟨some 33, (Op.move (Operand.tmp 6)), none⟩,
  ⟨some 34, (Op.move (Operand.tmp 8)), none⟩,
  ⟨some 35, (Op.binOp BinOp.shl 105 (Operand.const (Value.int IntKind.u64 1)) (Operand.tmp 34) 3), none⟩,
  ⟨some 36, (Op.binOp BinOp.or 105 (Operand.tmp 33) (Operand.tmp 35) 105), none⟩,
  ⟨some 6, (Op.assign (Operand.tmp 36)), none⟩])))))
 (.reg [⟨some 37, (Op.binOp BinOp.add 3 (Operand.tmp 11) (Operand.const (Value.int IntKind.i64 1)) 3), none⟩,
  ⟨some 11, (Op.move (Operand.tmp 37)), none⟩])))))))
 (.seq (.reg [⟨some 38, (Op.move (Operand.tmp 6)), none⟩,
  ⟨some 4, (Op.assign (Operand.tmp 38)), none⟩,
  ⟨some 5, (Op.assign (Operand.const (Value.int IntKind.i64 0))), none⟩])
 .ret))))
theorem fn79 : FnFact Tryd.prog 79 39 [] [(ResultVar.tmp 4), (ResultVar.tmp 5)] cd79 := ⟨by kernel_rfl, ⟨Tryd.f79, Tryd.func79, by kernel_rfl, by rfl, Tryd.ntmps79, congrArg Array.toList Tryd.results79⟩⟩
/-- (*examiner/conform.system).shows -/
def cd80 : CC := (.seq (.reg [⟨some 6, (Op.assign (Operand.const (Value.bool false))), none⟩])
 (.seq (.reg [⟨some 7, (Op.move (Operand.tmp 2)), none⟩,
  ⟨some 8, (Op.move (Operand.tmp 0)), none⟩,
  ⟨some 9, (Op.nilCheck (Operand.tmp 8)), none⟩,
  ⟨some 10, (Op.fieldAddr 125 (Operand.tmp 9) 0), none⟩,
  ⟨some 11, (Op.fieldAddr 24 (Operand.tmp 10) 2), none⟩,
  ⟨some 12, (Op.load 3 (Operand.tmp 11)), none⟩,
  ⟨some 13, (Op.binOp BinOp.geq 3 (Operand.tmp 7) (Operand.tmp 12) 3), none⟩,
  ⟨some 14, (Op.move (Operand.tmp 13)), none⟩,
  ⟨some 15, (Op.move (Operand.tmp 0)), some (14, true)⟩,
  ⟨some 16, (Op.move (Operand.tmp 1)), some (14, true)⟩,
  ⟨some 17, (Op.move (Operand.tmp 2)), some (14, true)⟩,
  ⟨some 18, (Op.call { callee := (Callee.value (Operand.func 74)), args := #[(Operand.tmp 15), (Operand.tmp 16), (Operand.tmp 17)], argTypes := #[99, 105, 3] }), some (14, true)⟩,
  ⟨some 19, (Op.binOp BinOp.neq 105 (Operand.tmp 18) (Operand.const (Value.int IntKind.u64 0)) 105), some (14, true)⟩,
  ⟨some 20, (Op.pick (Operand.tmp 14) (Operand.tmp 19) (Operand.const (Value.bool false))), none⟩,
  ⟨some 6, (Op.assign (Operand.tmp 20)), none⟩])
 .ret))
theorem fn80 : FnFact Tryd.prog 80 21 [] [(ResultVar.tmp 6)] cd80 := ⟨by kernel_rfl, ⟨Tryd.f80, Tryd.func80, by kernel_rfl, by rfl, Tryd.ntmps80, congrArg Array.toList Tryd.results80⟩⟩
/-- examiner/examinerref42.ascending -/
def cd81 : CC := (.seq (.reg [⟨some 2, (Op.assign (Operand.const (Value.slice none 0 0))), none⟩])
 (.seq (.reg [⟨some 3, (Op.assign (Operand.const (Value.slice none 0 0))), none⟩])
 (.seq (.seq (.reg [⟨some 4, (Op.assign (Operand.const (Value.int IntKind.i64 0))), none⟩])
 (.block 0 (.loop (.seq (.seq (.reg [⟨some 5, (Op.move (Operand.tmp 4)), none⟩,
  ⟨some 6, (Op.move (Operand.tmp 0)), none⟩,
  ⟨some 7, (Op.call { callee := (Callee.builtin Builtin.len), args := #[(Operand.tmp 6)], argTypes := #[133] }), none⟩,
  ⟨some 8, (Op.binOp BinOp.lss 3 (Operand.tmp 5) (Operand.tmp 7) 3), none⟩])
 (.cond (Operand.tmp 8) .skip (.exit 0)))
 (.seq (.block 1 (.seq (.reg [⟨some 11, (Op.move (Operand.tmp 0)), none⟩,
  ⟨some 12, (Op.move (Operand.tmp 4)), none⟩,
  ⟨some 13, (Op.indexAddr 133 (Operand.tmp 11) (Operand.tmp 12)), none⟩,
  ⟨some 14, (Op.load 4 (Operand.tmp 13)), none⟩])
 (.cond (Operand.tmp 14) (.reg [⟨some 15, (Op.move (Operand.tmp 3)), none⟩,
  ⟨some 16, (Op.move (Operand.tmp 4)), none⟩,
  ⟨some 17, (Op.buildSlice 27 1 #[(0, (Operand.tmp 16))]), none⟩,
  ⟨some 18, (Op.call { callee := (Callee.builtin Builtin.append), args := #[(Operand.tmp 15), (Operand.tmp 17)], argTypes := #[27, 27] }), none⟩,
  ⟨some 3, (Op.assign (Operand.tmp 18)), none⟩]) .skip)))
 (.reg [⟨some 9, (Op.move (Operand.tmp 4)), none⟩,
  ⟨some 10, (Op.binOp BinOp.add 3 (Operand.tmp 9) (Operand.const (Value.int IntKind.i64 1)) 3), none⟩,
  ⟨some 4, (Op.assign (Operand.tmp 10)), none⟩]))))))
 (.seq (.reg [⟨some 19, (Op.move (Operand.tmp 3)), none⟩,
  ⟨some 2, (Op.assign (Operand.tmp 19)), none⟩])
 .ret))))
theorem fn81 : FnFact Tryd.prog 81 20 [] [(ResultVar.tmp 2)] cd81 := ⟨by kernel_rfl, ⟨Tryd.f81, Tryd.func81, by kernel_rfl, by rfl, Tryd.ntmps81, congrArg Array.toList Tryd.results81⟩⟩
/-- cmp.Or[examiner/api.Errno] -/
def cd82 : CC := (.seq (.reg [⟨some 2, (Op.assign (Operand.const (Value.int IntKind.i64 0))), none⟩])
 (.seq (.reg [⟨some 3, (Op.assign (Operand.const (Value.int IntKind.i64 0))), none⟩])
 (.seq (.seq (.reg [⟨some 6, (Op.move (Operand.tmp 0)), none⟩,
  ⟨some 7, (Op.call { callee := (Callee.builtin Builtin.len), args := #[(Operand.tmp 6)], argTypes := #[165] }), none⟩,
  ⟨some 8, (Op.move (Operand.const (Value.int IntKind.i64 0))), none⟩])
 (.block 0 (.loop (.seq (.reg [⟨some 9, (Op.binOp BinOp.lss 3 (Operand.tmp 8) (Operand.tmp 7) 3), none⟩])
 (.seq (.cond (Operand.tmp 9) .skip (.exit 0))
 (.seq (.block 1 (.seq (.reg [⟨some 10, (Op.indexAddr 165 (Operand.tmp 6) (Operand.tmp 8)), none⟩,
  ⟨some 11, (Op.load 28 (Operand.tmp 10)), none⟩,
  ⟨some 5, (Op.assign (Operand.tmp 11)), none⟩])
 (.seq (.reg [⟨some 12, (Op.move (Operand.tmp 5)), none⟩,
  ⟨some 13, (Op.move (Operand.tmp 3)), none⟩,
  ⟨some 14, (Op.binOp BinOp.neq 28 (Operand.tmp 12) (Operand.tmp 13) 28), none⟩])
 (.cond (Operand.tmp 14) (.seq (.reg [⟨some 15, (Op.move (Operand.tmp 5)), none⟩,
  ⟨some 2, (Op.assign (Operand.tmp 15)), none⟩])
 .ret) .skip))))
 (.reg [⟨some 16, (Op.binOp BinOp.add 3 (Operand.tmp 8) (Operand.const (Value.int IntKind.i64 1)) 3), none⟩,
  ⟨some 8, (Op.move (Operand.tmp 16)), none⟩])))))))
 (.seq (.reg [⟨some 17, (Op.move (Operand.tmp 3)), none⟩,
  ⟨some 2, (Op.assign (Operand.tmp 17)), none⟩])
 .ret))))
theorem fn82 : FnFact Tryd.prog 82 18 [] [(ResultVar.tmp 2)] cd82 := ⟨by kernel_rfl, ⟨Tryd.f82, Tryd.func82, by kernel_rfl, by rfl, Tryd.ntmps82, congrArg Array.toList Tryd.results82⟩⟩
/-- (*examiner/conform.compared).fails -/
def cd87 : CC := (.seq (.reg [⟨some 3, (Op.box 107 (Operand.tmp 1)), none⟩,
  ⟨some 4, (Op.assign (Operand.const (Value.int IntKind.i64 0))), none⟩,
  ⟨some 5, (Op.assign (Operand.const (Value.bool false))), none⟩])
 (.seq (.seq (.reg [⟨some 7, (Op.move (Operand.tmp 0)), none⟩,
  ⟨some 8, (Op.nilCheck (Operand.tmp 7)), none⟩,
  ⟨some 9, (Op.fieldAddr 103 (Operand.tmp 8) 0), none⟩,
  ⟨some 10, (Op.load 99 (Operand.tmp 9)), none⟩,
  ⟨some 11, (Op.nilCheck (Operand.tmp 10)), none⟩,
  ⟨some 12, (Op.fieldAddr 125 (Operand.tmp 11) 0), none⟩,
  ⟨some 13, (Op.fieldAddr 24 (Operand.tmp 12) 2), none⟩,
  ⟨some 14, (Op.load 3 (Operand.tmp 13)), none⟩,
  ⟨some 6, (Op.assign (Operand.tmp 14)), none⟩])
 (.block 0 (.loop (.seq (.seq (.reg [⟨some 15, (Op.move (Operand.tmp 6)), none⟩,
  ⟨some 16, (Op.move (Operand.tmp 0)), none⟩,
  ⟨some 17, (Op.nilCheck (Operand.tmp 16)), none⟩,
  ⟨some 18, (Op.fieldAddr 103 (Operand.tmp 17) 0), none⟩,
  ⟨some 19, (Op.load 99 (Operand.tmp 18)), none⟩,
  ⟨some 20, (Op.call { callee := (Callee.value (Operand.func 73)), args := #[(Operand.tmp 19)], argTypes := #[99] }), none⟩,
  ⟨some 21, (Op.binOp BinOp.leq 3 (Operand.tmp 15) (Operand.tmp 20) 3), none⟩])
 (.cond (Operand.tmp 21) .skip (.exit 0)))
 (.seq (.block 1 (.seq (.dr [⟨0, .F, ⟨some 24, (Op.move (Operand.tmp 0)), none⟩, [], false⟩,
  ⟨1, .F, ⟨some 25, (Op.nilCheck (Operand.tmp 24)), none⟩, [], false⟩,
  ⟨2, .F, ⟨some 26, (Op.fieldAddr 103 (Operand.tmp 25) 0), none⟩, [], false⟩,
  ⟨3, .R, ⟨some 27, (Op.load 99 (Operand.tmp 26)), none⟩, [], false⟩,
  ⟨4, .F, ⟨some 28, (Op.fieldAddr 107 (Operand.tmp 3) 0), none⟩, [], false⟩,
  ⟨5, .R, ⟨some 29, (Op.load 105 (Operand.tmp 28)), none⟩, [], false⟩,
  ⟨6, .F, ⟨some 30, (Op.move (Operand.tmp 6)), none⟩, [], false⟩,
  ⟨7, .E, ⟨some 31, (Op.call { callee := (Callee.value (Operand.func 80)), args := #[(Operand.tmp 27), (Operand.tmp 29), (Operand.tmp 30)], argTypes := #[99, 105, 3] }), none⟩, [], false⟩,
  ⟨8, .F, ⟨some 32, (Op.move (Operand.tmp 31)), none⟩, [], false⟩,
  ⟨9, .F, ⟨some 33, (Op.move (Operand.tmp 0)), some (32, true)⟩, [], false⟩,
  ⟨10, .F, ⟨some 34, (Op.nilCheck (Operand.tmp 33)), some (32, true)⟩, [], false⟩,
  ⟨11, .F, ⟨some 35, (Op.fieldAddr 103 (Operand.tmp 34) 1), some (32, true)⟩, [], false⟩,
  ⟨12, .R, ⟨some 36, (Op.load 99 (Operand.tmp 35)), some (32, true)⟩, [], false⟩,
  ⟨13, .F, ⟨some 37, (Op.fieldAddr 107 (Operand.tmp 3) 1), some (32, true)⟩, [], false⟩,
  ⟨14, .R, ⟨some 38, (Op.load 105 (Operand.tmp 37)), some (32, true)⟩, [], false⟩,
  ⟨15, .F, ⟨some 39, (Op.move (Operand.tmp 6)), some (32, true)⟩, [], false⟩,
  ⟨16, .E, ⟨some 40, (Op.call { callee := (Callee.value (Operand.func 80)), args := #[(Operand.tmp 36), (Operand.tmp 38), (Operand.tmp 39)], argTypes := #[99, 105, 3] }), some (32, true)⟩, [], false⟩,
  ⟨17, .F, ⟨some 41, (Op.unOp UnOp.not 4 (Operand.tmp 40)), some (32, true)⟩, [], false⟩,
  ⟨18, .F, ⟨some 42, (Op.pick (Operand.tmp 32) (Operand.tmp 41) (Operand.const (Value.bool false))), none⟩, [], false⟩])
 (.cond (Operand.tmp 42) (.seq (.reg [⟨some 43, (Op.move (Operand.tmp 6)), none⟩,
  ⟨some 4, (Op.assign (Operand.tmp 43)), none⟩,
  ⟨some 5, (Op.assign (Operand.const (Value.bool true))), none⟩])
 .ret) .skip)))
 (.reg [⟨some 22, (Op.move (Operand.tmp 6)), none⟩,
  ⟨some 23, (Op.binOp BinOp.add 3 (Operand.tmp 22) (Operand.const (Value.int IntKind.i64 1)) 3), none⟩,
  ⟨some 6, (Op.assign (Operand.tmp 23)), none⟩]))))))
 (.seq (.reg [⟨some 4, (Op.assign (Operand.const (Value.int IntKind.i64 0))), none⟩,
  ⟨some 5, (Op.assign (Operand.const (Value.bool false))), none⟩])
 .ret)))
theorem fn87 : FnFact Tryd.prog 87 44 [(4, [(0, 0), (1, 0), (2, 0), (3, 3), (4, 0), (5, 3), (6, 0), (7, 2), (8, 0), (9, 0), (10, 0), (11, 0), (12, 3), (13, 0), (14, 3), (15, 0), (16, 2), (17, 0), (18, 0)], [[], [0], [0, 1], [0, 1, 2], [], [4], [], [0, 1, 2, 3, 4, 5, 6], [0, 1, 2, 3, 4, 5, 6, 7], [0, 1, 2, 3, 4, 5, 6, 7, 8], [0, 1, 2, 3, 4, 5, 6, 7, 8, 9], [0, 1, 2, 3, 4, 5, 6, 7, 8, 9, 10], [0, 1, 2, 3, 4, 5, 6, 7, 8, 9, 10, 11], [0, 1, 2, 3, 4, 5, 6, 7, 8], [0, 1, 2, 3, 4, 5, 6, 7, 8, 13], [0, 1, 2, 3, 4, 5, 6, 7, 8], [0, 1, 2, 3, 4, 5, 6, 7, 8, 9, 10, 11, 12, 13, 14, 15], [0, 1, 2, 3, 4, 5, 6, 7, 8, 9, 10, 11, 12, 13, 14, 15, 16], [0, 1, 2, 3, 4, 5, 6, 7, 8, 9, 10, 11, 12, 13, 14, 15, 16, 17]])] [(ResultVar.tmp 4), (ResultVar.tmp 5)] cd87 := ⟨by kernel_rfl, ⟨Tryd.f87, Tryd.func87, by kernel_rfl, by rfl, Tryd.ntmps87, congrArg Array.toList Tryd.results87⟩⟩
/-- examiner/examinerref42.hasPair -/
def cd88 : CC := (.seq (.reg [⟨some 6, (Op.assign (Operand.const (Value.bool false))), none⟩])
 (.seq (.seq (.reg [⟨some 7, (Op.assign (Operand.const (Value.int IntKind.i64 0))), none⟩])
 (.block 0 (.loop (.seq (.seq (.reg [⟨some 8, (Op.move (Operand.tmp 7)), none⟩,
  ⟨some 9, (Op.move (Operand.tmp 0)), none⟩,
  ⟨some 10, (Op.call { callee := (Callee.builtin Builtin.len), args := #[(Operand.tmp 9)], argTypes := #[32] }), none⟩,
  ⟨some 11, (Op.binOp BinOp.lss 3 (Operand.tmp 8) (Operand.tmp 10) 3), none⟩])
 (.cond (Operand.tmp 11) .skip (.exit 0)))
 (.seq (.block 1 (.seq (.reg [⟨some 14, (Op.move (Operand.tmp 0)), none⟩,
  ⟨some 15, (Op.move (Operand.tmp 7)), none⟩,
  ⟨some 16, (Op.indexAddr 32 (Operand.tmp 14) (Operand.tmp 15)), none⟩,
  ⟨some 17, (Op.fieldAddr 41 (Operand.tmp 16) 0), none⟩,
  ⟨some 18, (Op.load 27 (Operand.tmp 17)), none⟩,
  ⟨some 19, (Op.move (Operand.tmp 1)), none⟩,
  ⟨some 20, (Op.call { callee := (Callee.value (Operand.func 22)), args := #[(Operand.tmp 18), (Operand.tmp 19)], argTypes := #[27, 27] }), none⟩,
  ⟨some 21, (Op.move (Operand.tmp 20)), none⟩,
  ⟨some 22, (Op.move (Operand.tmp 0)), some (21, true)⟩,
  ⟨some 23, (Op.move (Operand.tmp 7)), some (21, true)⟩,
  ⟨some 24, (Op.indexAddr 32 (Operand.tmp 22) (Operand.tmp 23)), some (21, true)⟩,
  ⟨some 25, (Op.fieldAddr 41 (Operand.tmp 24) 1), some (21, true)⟩,
  ⟨some 26, (Op.load 27 (Operand.tmp 25)), some (21, true)⟩,
  ⟨some 27, (Op.move (Operand.tmp 2)), some (21, true)⟩,
  ⟨some 28, (Op.call { callee := (Callee.value (Operand.func 22)), args := #[(Operand.tmp 26), (Operand.tmp 27)], argTypes := #[27, 27] }), some (21, true)⟩,
  ⟨some 29, (Op.pick (Operand.tmp 21) (Operand.tmp 28) (Operand.const (Value.bool false))), none⟩])
 (.cond (Operand.tmp 29) (.seq (.reg [⟨some 6, (Op.assign (Operand.const (Value.bool true))), none⟩])
 .ret) .skip)))
 (.reg [⟨some 12, (Op.move (Operand.tmp 7)), none⟩,
  ⟨some 13, (Op.binOp BinOp.add 3 (Operand.tmp 12) (Operand.const (Value.int IntKind.i64 1)) 3), none⟩,
  ⟨some 7, (Op.assign (Operand.tmp 13)), none⟩]))))))
 (.seq (.reg [⟨some 6, (Op.assign (Operand.const (Value.bool false))), none⟩])
 .ret)))
theorem fn88 : FnFact Tryd.prog 88 30 [] [(ResultVar.tmp 6)] cd88 := ⟨by kernel_rfl, ⟨Tryd.f88, Tryd.func88, by kernel_rfl, by rfl, Tryd.ntmps88, congrArg Array.toList Tryd.results88⟩⟩
/-- (*examiner/conform.compared).add -/
def cd101 : CC := (.seq (.reg [⟨some 5, (Op.box 107 (Operand.tmp 1)), none⟩])
 (.seq (.dr [⟨0, .F, ⟨some 8, (Op.move (Operand.tmp 0)), none⟩, [], false⟩,
  ⟨1, .F, ⟨some 9, (Op.nilCheck (Operand.tmp 8)), none⟩, [], false⟩,
  ⟨2, .F, ⟨some 10, (Op.fieldAddr 103 (Operand.tmp 9) 5), none⟩, [], false⟩,
  ⟨3, .R, ⟨some 11, (Op.load 101 (Operand.tmp 10)), none⟩, [], false⟩,
  ⟨4, .R, ⟨some 12, (Op.load 107 (Operand.tmp 5)), none⟩, [], false⟩,
  ⟨5, .E, ⟨some 13, (Op.lookup 101 (Operand.tmp 11) (Operand.tmp 12) false), none⟩, [], false⟩,
  ⟨6, .F, ⟨some 14, (Op.unOp UnOp.not 4 (Operand.tmp 13)), none⟩, [], false⟩])
 (.cond (Operand.tmp 14) (.seq (.dr [⟨0, .F, ⟨some 15, (Op.move (Operand.tmp 0)), none⟩, [], false⟩,
  ⟨1, .F, ⟨some 16, (Op.nilCheck (Operand.tmp 15)), none⟩, [], false⟩,
  ⟨2, .F, ⟨some 17, (Op.fieldAddr 103 (Operand.tmp 16) 5), none⟩, [], false⟩,
  ⟨3, .R, ⟨some 18, (Op.load 101 (Operand.tmp 17)), none⟩, [], false⟩,
  ⟨4, .R, ⟨some 19, (Op.load 107 (Operand.tmp 5)), none⟩, [], false⟩,
  ⟨5, .E, ⟨none, (Op.mapUpdate 101 (Operand.tmp 18) (Operand.tmp 19) (Operand.const (Value.bool true))), none⟩, [], false⟩])
 (.dr [⟨0, .F, ⟨some 20, (Op.move (Operand.tmp 0)), none⟩, [], false⟩,
  ⟨1, .F, ⟨some 21, (Op.move (Operand.tmp 0)), none⟩, [], false⟩,
  ⟨2, .F, ⟨some 22, (Op.move (Operand.tmp 0)), none⟩, [], false⟩,
  ⟨3, .F, ⟨some 23, (Op.move (Operand.tmp 0)), none⟩, [], false⟩,
  ⟨4, .F, ⟨some 24, (Op.nilCheck (Operand.tmp 23)), none⟩, [], false⟩,
  ⟨5, .F, ⟨some 25, (Op.fieldAddr 103 (Operand.tmp 24) 2), none⟩, [], false⟩,
  ⟨6, .R, ⟨some 26, (Op.load 100 (Operand.tmp 25)), none⟩, [], false⟩,
  ⟨7, .R, ⟨some 27, (Op.load 107 (Operand.tmp 5)), none⟩, [], false⟩,
  ⟨8, .F, ⟨some 28, (Op.buildSlice 100 1 #[(0, (Operand.tmp 27))]), none⟩, [], false⟩,
  ⟨10, .F, ⟨some 30, (Op.move (Operand.tmp 0)), none⟩, [], false⟩,
  ⟨11, .F, ⟨some 31, (Op.nilCheck (Operand.tmp 30)), none⟩, [], false⟩,
  ⟨12, .F, ⟨some 32, (Op.fieldAddr 103 (Operand.tmp 31) 3), none⟩, [], false⟩,
  ⟨13, .R, ⟨some 33, (Op.load 27 (Operand.tmp 32)), none⟩, [], false⟩,
  ⟨14, .F, ⟨some 34, (Op.move (Operand.tmp 2)), none⟩, [], false⟩,
  ⟨15, .F, ⟨some 35, (Op.buildSlice 27 1 #[(0, (Operand.tmp 34))]), none⟩, [], false⟩,
  ⟨17, .F, ⟨some 37, (Op.move (Operand.tmp 0)), none⟩, [], false⟩,
  ⟨18, .F, ⟨some 38, (Op.nilCheck (Operand.tmp 37)), none⟩, [], false⟩,
  ⟨19, .F, ⟨some 39, (Op.fieldAddr 103 (Operand.tmp 38) 4), none⟩, [], false⟩,
  ⟨20, .R, ⟨some 40, (Op.load 27 (Operand.tmp 39)), none⟩, [], false⟩,
  ⟨21, .F, ⟨some 41, (Op.move (Operand.tmp 3)), none⟩, [], false⟩,
  ⟨22, .F, ⟨some 42, (Op.buildSlice 27 1 #[(0, (Operand.tmp 41))]), none⟩, [], false⟩,
  ⟨9, .E, ⟨some 29, (Op.call { callee := (Callee.builtin Builtin.append), args := #[(Operand.tmp 26), (Operand.tmp 28)], argTypes := #[100, 100] }), none⟩, [], true⟩,
  ⟨16, .E, ⟨some 36, (Op.call { callee := (Callee.builtin Builtin.append), args := #[(Operand.tmp 33), (Operand.tmp 35)], argTypes := #[27, 27] }), none⟩, [], true⟩,
  ⟨23, .E, ⟨some 43, (Op.call { callee := (Callee.builtin Builtin.append), args := #[(Operand.tmp 40), (Operand.tmp 42)], argTypes := #[27, 27] }), none⟩, [], false⟩,
  ⟨24, .F, ⟨some 44, (Op.nilCheck (Operand.tmp 20)), none⟩, [], false⟩,
  ⟨25, .F, ⟨some 45, (Op.fieldAddr 103 (Operand.tmp 44) 2), none⟩, [], false⟩,
  ⟨26, .E, ⟨none, (Op.store 100 (Operand.tmp 45) (Operand.tmp 29)), none⟩, [], false⟩,
  ⟨27, .F, ⟨some 46, (Op.nilCheck (Operand.tmp 21)), none⟩, [], false⟩,
  ⟨28, .F, ⟨some 47, (Op.fieldAddr 103 (Operand.tmp 46) 3), none⟩, [], false⟩,
  ⟨29, .E, ⟨none, (Op.store 27 (Operand.tmp 47) (Operand.tmp 36)), none⟩, [], false⟩,
  ⟨30, .F, ⟨some 48, (Op.nilCheck (Operand.tmp 22)), none⟩, [], false⟩,
  ⟨31, .F, ⟨some 49, (Op.fieldAddr 103 (Operand.tmp 48) 4), none⟩, [], false⟩,
  ⟨32, .E, ⟨none, (Op.store 27 (Operand.tmp 49) (Operand.tmp 43)), none⟩, [], false⟩])) .skip)))
theorem fn101 : FnFact Tryd.prog 101 50 [(1, [(0, 0), (1, 0), (2, 0), (3, 3), (4, 3), (5, 2), (6, 0)], [[], [0], [0, 1], [0, 1, 2], [], [0, 1, 2, 3, 4], [0, 1, 2, 3, 4, 5]]), (2, [(0, 0), (1, 0), (2, 0), (3, 3), (4, 3), (5, 2)], [[], [0], [0, 1], [0, 1, 2], [], [0, 1, 2, 3, 4]]), (3, [(0, 0), (1, 0), (2, 0), (3, 0), (4, 0), (5, 0), (6, 3), (7, 3), (8, 0), (10, 0), (11, 0), (12, 0), (13, 3), (14, 0), (15, 0), (17, 0), (18, 0), (19, 0), (20, 3), (21, 0), (22, 0), (9, 4), (16, 4), (23, 2), (24, 0), (25, 0), (26, 2), (27, 0), (28, 0), (29, 2), (30, 0), (31, 0), (32, 2)], [[], [], [], [], [3], [3, 4], [3, 4, 5], [], [7], [3, 4, 5, 6, 7, 8], [], [10], [10, 11], [10, 11, 12], [], [14], [3, 4, 5, 6, 7, 8, 9, 10, 11, 12, 13, 14, 15], [], [17], [17, 18], [17, 18, 19], [], [21], [3, 4, 5, 6, 7, 8, 9, 10, 11, 12, 13, 14, 15, 16, 17, 18, 19, 20, 21, 22], [0, 3, 4, 5, 6, 7, 8, 9, 10, 11, 12, 13, 14, 15, 16, 17, 18, 19, 20, 21, 22, 23], [0, 3, 4, 5, 6, 7, 8, 9, 10, 11, 12, 13, 14, 15, 16, 17, 18, 19, 20, 21, 22, 23, 24], [0, 3, 4, 5, 6, 7, 8, 9, 10, 11, 12, 13, 14, 15, 16, 17, 18, 19, 20, 21, 22, 23, 24, 25], [0, 1, 3, 4, 5, 6, 7, 8, 9, 10, 11, 12, 13, 14, 15, 16, 17, 18, 19, 20, 21, 22, 23, 24, 25, 26], [0, 1, 3, 4, 5, 6, 7, 8, 9, 10, 11, 12, 13, 14, 15, 16, 17, 18, 19, 20, 21, 22, 23, 24, 25, 26, 27], [0, 1, 3, 4, 5, 6, 7, 8, 9, 10, 11, 12, 13, 14, 15, 16, 17, 18, 19, 20, 21, 22, 23, 24, 25, 26, 27, 28], [0, 1, 2, 3, 4, 5, 6, 7, 8, 9, 10, 11, 12, 13, 14, 15, 16, 17, 18, 19, 20, 21, 22, 23, 24, 25, 26, 27, 28, 29], [0, 1, 2, 3, 4, 5, 6, 7, 8, 9, 10, 11, 12, 13, 14, 15, 16, 17, 18, 19, 20, 21, 22, 23, 24, 25, 26, 27, 28, 29, 30], [0, 1, 2, 3, 4, 5, 6, 7, 8, 9, 10, 11, 12, 13, 14, 15, 16, 17, 18, 19, 20, 21, 22, 23, 24, 25, 26, 27, 28, 29, 30, 31]])] [] cd101 := ⟨by kernel_rfl, ⟨Tryd.f101, Tryd.func101, by kernel_rfl, by rfl, Tryd.ntmps101, congrArg Array.toList Tryd.results101⟩⟩
/-- slices.Reverse[[]int,int] -/
def cd102 : CC := (.seq (.reg [⟨some 4, (Op.move (Operand.tmp 0)), none⟩,
  ⟨some 5, (Op.call { callee := (Callee.builtin Builtin.len), args := #[(Operand.tmp 4)], argTypes := #[27] }), none⟩,
  ⟨some 6, (Op.binOp BinOp.sub 3 (Operand.tmp 5) (Operand.const (Value.int IntKind.i64 1)) 3), none⟩,
  ⟨some 2, (Op.assign (Operand.const (Value.int IntKind.i64 0))), none⟩,
  ⟨some 3, (Op.assign (Operand.tmp 6)), none⟩])
 (.block 0 (.loop (.seq (.seq (.reg [⟨some 7, (Op.move (Operand.tmp 2)), none⟩,
  ⟨some 8, (Op.move (Operand.tmp 3)), none⟩,
  ⟨some 9, (Op.binOp BinOp.lss 3 (Operand.tmp 7) (Operand.tmp 8) 3), none⟩])
 (.cond (Operand.tmp 9) .skip (.exit 0)))
 (.seq (.block 1 (.dr [⟨0, .F, ⟨some 14, (Op.move (Operand.tmp 0)), none⟩, [], false⟩,
  ⟨1, .F, ⟨some 15, (Op.move (Operand.tmp 2)), none⟩, [], false⟩,
  ⟨2, .F, ⟨some 16, (Op.move (Operand.tmp 0)), none⟩, [], false⟩,
  ⟨3, .F, ⟨some 17, (Op.move (Operand.tmp 3)), none⟩, [], false⟩,
  ⟨4, .F, ⟨some 18, (Op.move (Operand.tmp 0)), none⟩, [], false⟩,
  ⟨5, .F, ⟨some 19, (Op.move (Operand.tmp 3)), none⟩, [], false⟩,
  ⟨6, .F, ⟨some 20, (Op.indexAddr 27 (Operand.tmp 18) (Operand.tmp 19)), none⟩, [], false⟩,
  ⟨7, .R, ⟨some 21, (Op.load 3 (Operand.tmp 20)), none⟩, [], false⟩,
  ⟨8, .F, ⟨some 22, (Op.move (Operand.tmp 0)), none⟩, [], false⟩,
  ⟨9, .F, ⟨some 23, (Op.move (Operand.tmp 2)), none⟩, [], false⟩,
  ⟨10, .F, ⟨some 24, (Op.indexAddr 27 (Operand.tmp 22) (Operand.tmp 23)), none⟩, [], false⟩,
  ⟨11, .R, ⟨some 25, (Op.load 3 (Operand.tmp 24)), none⟩, [], false⟩,
  ⟨12, .F, ⟨some 26, (Op.indexAddr 27 (Operand.tmp 14) (Operand.tmp 15)), none⟩, [], false⟩,
  ⟨13, .E, ⟨none, (Op.store 3 (Operand.tmp 26) (Operand.tmp 21)), none⟩, [], false⟩,
  ⟨14, .F, ⟨some 27, (Op.indexAddr 27 (Operand.tmp 16) (Operand.tmp 17)), none⟩, [], false⟩,
  ⟨15, .E, ⟨none, (Op.store 3 (Operand.tmp 27) (Operand.tmp 25)), none⟩, [], false⟩]))
 (.reg [⟨some 10, (Op.move (Operand.tmp 2)), none⟩,
  ⟨some 11, (Op.binOp BinOp.add 3 (Operand.tmp 10) (Operand.const (Value.int IntKind.i64 1)) 3), none⟩,
  ⟨some 12, (Op.move (Operand.tmp 3)), none⟩,
  ⟨some 13, (Op.binOp BinOp.sub 3 (Operand.tmp 12) (Operand.const (Value.int IntKind.i64 1)) 3), none⟩,
  ⟨some 2, (Op.assign (Operand.tmp 11)), none⟩,
  ⟨some 3, (Op.assign (Operand.tmp 13)), none⟩]))))))
theorem fn102 : FnFact Tryd.prog 102 28 [(3, [(0, 0), (1, 0), (2, 0), (3, 0), (4, 0), (5, 0), (6, 0), (7, 3), (8, 0), (9, 0), (10, 0), (11, 3), (12, 0), (13, 2), (14, 0), (15, 2)], [[], [], [], [], [], [], [4, 5], [4, 5, 6], [], [], [8, 9], [8, 9, 10], [0, 1, 4, 5, 6, 7, 8, 9, 10, 11], [0, 1, 4, 5, 6, 7, 8, 9, 10, 11, 12], [0, 1, 2, 3, 4, 5, 6, 7, 8, 9, 10, 11, 12, 13], [0, 1, 2, 3, 4, 5, 6, 7, 8, 9, 10, 11, 12, 13, 14]])] [] cd102 := ⟨by kernel_rfl, ⟨Tryd.f102, Tryd.func102, by kernel_rfl, by rfl, Tryd.ntmps102, congrArg Array.toList Tryd.results102⟩⟩
/-- math/bits.TrailingZeros -/
def cd103 : CC := (.seq (.reg [⟨some 2, (Op.assign (Operand.const (Value.int IntKind.i64 0))), none⟩])
 (.seq (.cond (Operand.const (Value.bool false)) (.seq (.reg [⟨some 3, (Op.move (Operand.tmp 0)), none⟩,
  ⟨some 4, (Op.convert 104 174 (Operand.tmp 3)), none⟩,
  ⟨some 5, (Op.call { callee := (Callee.value (Operand.func 120)), args := #[(Operand.tmp 4)], argTypes := #[174] }), none⟩,
  ⟨some 2, (Op.assign (Operand.tmp 5)), none⟩])
 .ret) .skip)
 (.seq (.reg [⟨some 6, (Op.move (Operand.tmp 0)), none⟩,
  ⟨some 7, (Op.call { callee := (Callee.value (Operand.func 121)), args := #[(Operand.tmp 6)], argTypes := #[176] }), none⟩,
  ⟨some 2, (Op.assign (Operand.tmp 7)), none⟩])
 .ret)))
theorem fn103 : FnFact Tryd.prog 103 8 [] [(ResultVar.tmp 2)] cd103 := ⟨by kernel_rfl, ⟨Tryd.f103, Tryd.func103, by kernel_rfl, by rfl, Tryd.ntmps103, congrArg Array.toList Tryd.results103⟩⟩
/-- examiner/examinerref42.IsQuiet -/
def cd104 : CC := (.seq (.reg [⟨some 2, (Op.box 24 (Operand.tmp 0)), none⟩,
  ⟨some 4, (Op.assign (Operand.const (Value.bool false))), none⟩])
 (.seq (.seq (.reg [⟨some 5, (Op.assign (Operand.const (Value.int IntKind.i64 0))), none⟩])
 (.block 0 (.loop (.seq (.seq (.reg [⟨some 6, (Op.move (Operand.tmp 5)), none⟩,
  ⟨some 7, (Op.fieldAddr 24 (Operand.tmp 2) 4), none⟩,
  ⟨some 8, (Op.load 22 (Operand.tmp 7)), none⟩,
  ⟨some 9, (Op.call { callee := (Callee.builtin Builtin.len), args := #[(Operand.tmp 8)], argTypes := #[22] }), none⟩,
  ⟨some 10, (Op.binOp BinOp.lss 3 (Operand.tmp 6) (Operand.tmp 9) 3), none⟩])
 (.cond (Operand.tmp 10) .skip (.exit 0)))
 (.seq (.block 1 (.seq (.reg [⟨some 13, (Op.fieldAddr 24 (Operand.tmp 2) 4), none⟩,
  ⟨some 14, (Op.load 22 (Operand.tmp 13)), none⟩,
  ⟨some 15, (Op.move (Operand.tmp 5)), none⟩,
  ⟨some 16, (Op.indexAddr 22 (Operand.tmp 14) (Operand.tmp 15)), none⟩,
  ⟨some 17, (Op.fieldAddr 113 (Operand.tmp 16) 0), none⟩,
  ⟨some 18, (Op.load 3 (Operand.tmp 17)), none⟩,
  ⟨some 19, (Op.move (Operand.tmp 1)), none⟩,
  ⟨some 20, (Op.binOp BinOp.eql 3 (Operand.tmp 18) (Operand.tmp 19) 3), none⟩,
  ⟨some 21, (Op.move (Operand.tmp 20)), none⟩,
  ⟨some 22, (Op.fieldAddr 24 (Operand.tmp 2) 4), some (21, true)⟩,
  ⟨some 23, (Op.load 22 (Operand.tmp 22)), some (21, true)⟩,
  ⟨some 24, (Op.move (Operand.tmp 5)), some (21, true)⟩,
  ⟨some 25, (Op.indexAddr 22 (Operand.tmp 23) (Operand.tmp 24)), some (21, true)⟩,
  ⟨some 26, (Op.fieldAddr 113 (Operand.tmp 25) 1), some (21, true)⟩,
  ⟨some 27, (Op.load 3 (Operand.tmp 26)), some (21, true)⟩,
  ⟨some 28, (Op.binOp BinOp.neq 3 (Operand.tmp 27) (Operand.const (Value.int IntKind.i64 0)) 3), some (21, true)⟩,
  ⟨some 29, (Op.pick (Operand.tmp 21) (Operand.tmp 28) (Operand.const (Value.bool false))), none⟩])
 (.cond (Operand.tmp 29) (.seq (.reg [⟨some 4, (Op.assign (Operand.const (Value.bool false))), none⟩])
 .ret) .skip)))
 (.reg [⟨some 11, (Op.move (Operand.tmp 5)), none⟩,
  ⟨some 12, (Op.binOp BinOp.add 3 (Operand.tmp 11) (Operand.const (Value.int IntKind.i64 1)) 3), none⟩,
  ⟨some 5, (Op.assign (Operand.tmp 12)), none⟩]))))))
 (.seq (.reg [⟨some 4, (Op.assign (Operand.const (Value.bool true))), none⟩])
 .ret)))
theorem fn104 : FnFact Tryd.prog 104 30 [] [(ResultVar.tmp 4)] cd104 := ⟨by kernel_rfl, ⟨Tryd.f104, Tryd.func104, by kernel_rfl, by rfl, Tryd.ntmps104, congrArg Array.toList Tryd.results104⟩⟩
/-- cmp.Or[int] -/
def cd105 : CC := (.seq (.reg [⟨some 2, (Op.assign (Operand.const (Value.int IntKind.i64 0))), none⟩])
 (.seq (.reg [⟨some 3, (Op.assign (Operand.const (Value.int IntKind.i64 0))), none⟩])
 (.seq (.seq (.reg [⟨some 6, (Op.move (Operand.tmp 0)), none⟩,
  ⟨some 7, (Op.call { callee := (Callee.builtin Builtin.len), args := #[(Operand.tmp 6)], argTypes := #[27] }), none⟩,
  ⟨some 8, (Op.move (Operand.const (Value.int IntKind.i64 0))), none⟩])
 (.block 0 (.loop (.seq (.reg [⟨some 9, (Op.binOp BinOp.lss 3 (Operand.tmp 8) (Operand.tmp 7) 3), none⟩])
 (.seq (.cond (Operand.tmp 9) .skip (.exit 0))
 (.seq (.block 1 (.seq (.reg [⟨some 10, (Op.indexAddr 27 (Operand.tmp 6) (Operand.tmp 8)), none⟩,
  ⟨some 11, (Op.load 3 (Operand.tmp 10)), none⟩,
  ⟨some 5, (Op.assign (Operand.tmp 11)), none⟩])
 (.seq (.reg [⟨some 12, (Op.move (Operand.tmp 5)), none⟩,
  ⟨some 13, (Op.move (Operand.tmp 3)), none⟩,
  ⟨some 14, (Op.binOp BinOp.neq 3 (Operand.tmp 12) (Operand.tmp 13) 3), none⟩])
 (.cond (Operand.tmp 14) (.seq (.reg [⟨some 15, (Op.move (Operand.tmp 5)), none⟩,
  ⟨some 2, (Op.assign (Operand.tmp 15)), none⟩])
 .ret) .skip))))
 (.reg [⟨some 16, (Op.binOp BinOp.add 3 (Operand.tmp 8) (Operand.const (Value.int IntKind.i64 1)) 3), none⟩,
  ⟨some 8, (Op.move (Operand.tmp 16)), none⟩])))))))
 (.seq (.reg [⟨some 17, (Op.move (Operand.tmp 3)), none⟩,
  ⟨some 2, (Op.assign (Operand.tmp 17)), none⟩])
 .ret))))
theorem fn105 : FnFact Tryd.prog 105 18 [] [(ResultVar.tmp 2)] cd105 := ⟨by kernel_rfl, ⟨Tryd.f105, Tryd.func105, by kernel_rfl, by rfl, Tryd.ntmps105, congrArg Array.toList Tryd.results105⟩⟩
/-- cmp.Compare[int] -/
def cd106 : CC := (.seq (.reg [⟨some 4, (Op.assign (Operand.const (Value.int IntKind.i64 0))), none⟩])
 (.seq (.reg [⟨some 7, (Op.move (Operand.tmp 0)), none⟩,
  ⟨some 8, (Op.call { callee := (Callee.value (Operand.func 122)), args := #[(Operand.tmp 7)], argTypes := #[3] }), none⟩,
  ⟨some 5, (Op.assign (Operand.tmp 8)), none⟩])
 (.seq (.reg [⟨some 9, (Op.move (Operand.tmp 1)), none⟩,
  ⟨some 10, (Op.call { callee := (Callee.value (Operand.func 122)), args := #[(Operand.tmp 9)], argTypes := #[3] }), none⟩,
  ⟨some 6, (Op.assign (Operand.tmp 10)), none⟩])
 (.seq (.seq (.reg [⟨some 11, (Op.move (Operand.tmp 5)), none⟩])
 (.cond (Operand.tmp 11) (.seq (.seq (.reg [⟨some 12, (Op.move (Operand.tmp 6)), none⟩])
 (.cond (Operand.tmp 12) (.seq (.reg [⟨some 4, (Op.assign (Operand.const (Value.int IntKind.i64 0))), none⟩])
 .ret) .skip))
 (.seq (.reg [⟨some 4, (Op.assign (Operand.const (Value.int IntKind.i64 (-1)))), none⟩])
 .ret)) .skip))
 (.seq (.seq (.reg [⟨some 13, (Op.move (Operand.tmp 6)), none⟩])
 (.cond (Operand.tmp 13) (.seq (.reg [⟨some 4, (Op.assign (Operand.const (Value.int IntKind.i64 1))), none⟩])
 .ret) .skip))
 (.seq (.seq (.reg [⟨some 14, (Op.move (Operand.tmp 0)), none⟩,
  ⟨some 15, (Op.move (Operand.tmp 1)), none⟩,
  ⟨some 16, (Op.binOp BinOp.lss 3 (Operand.tmp 14) (Operand.tmp 15) 3), none⟩])
 (.cond (Operand.tmp 16) (.seq (.reg [⟨some 4, (Op.assign (Operand.const (Value.int IntKind.i64 (-1)))), none⟩])
 .ret) .skip))
 (.seq (.seq (.reg [⟨some 17, (Op.move (Operand.tmp 0)), none⟩,
  ⟨some 18, (Op.move (Operand.tmp 1)), none⟩,
  ⟨some 19, (Op.binOp BinOp.gtr 3 (Operand.tmp 17) (Operand.tmp 18) 3), none⟩])
 (.cond (Operand.tmp 19) (.seq (.reg [⟨some 4, (Op.assign (Operand.const (Value.int IntKind.i64 1))), none⟩])
 .ret) .skip))
 (.seq (.reg [⟨some 4, (Op.assign (Operand.const (Value.int IntKind.i64 0))), none⟩])
 .ret))))))))
theorem fn106 : FnFact Tryd.prog 106 20 [] [(ResultVar.tmp 4)] cd106 := ⟨by kernel_rfl, ⟨Tryd.f106, Tryd.func106, by kernel_rfl, by rfl, Tryd.ntmps106, congrArg Array.toList Tryd.results106⟩⟩
/-- examiner/examinerbase.Count -/
def cd107 : CC := (.seq (.reg [⟨some 2, (Op.assign (Operand.const (Value.int IntKind.i64 0))), none⟩])
 (.seq (.seq (.reg [⟨some 3, (Op.move (Operand.tmp 0)), none⟩])
 (.cond (Operand.tmp 3) (.seq (.reg [⟨some 2, (Op.assign (Operand.const (Value.int IntKind.i64 1))), none⟩])
 .ret) .skip))
 (.seq (.reg [⟨some 2, (Op.assign (Operand.const (Value.int IntKind.i64 0))), none⟩])
 .ret)))
theorem fn107 : FnFact Tryd.prog 107 4 [] [(ResultVar.tmp 2)] cd107 := ⟨by kernel_rfl, ⟨Tryd.f107, Tryd.func107, by kernel_rfl, by rfl, Tryd.ntmps107, congrArg Array.toList Tryd.results107⟩⟩
/-- (*examiner/conform.system).isQuiet -/
def cd108 : CC := (.seq (.reg [⟨some 4, (Op.assign (Operand.const (Value.bool false))), none⟩])
 (.seq (.seq (.reg [⟨some 6, (Op.move (Operand.tmp 0)), none⟩,
  ⟨some 7, (Op.nilCheck (Operand.tmp 6)), none⟩,
  ⟨some 8, (Op.fieldAddr 125 (Operand.tmp 7) 0), none⟩,
  ⟨some 9, (Op.fieldAddr 24 (Operand.tmp 8) 3), none⟩,
  ⟨some 10, (Op.load 3 (Operand.tmp 9)), none⟩,
  ⟨some 11, (Op.move (Operand.const (Value.int IntKind.i64 0))), none⟩])
 (.block 0 (.loop (.seq (.reg [⟨some 12, (Op.binOp BinOp.lss 3 (Operand.tmp 11) (Operand.tmp 10) 3), none⟩])
 (.seq (.cond (Operand.tmp 12) .skip (.exit 0))
 (.seq (.block 1 (.seq (.reg [⟨some 13, (Op.move (Operand.tmp 11)), none⟩,
  ⟨some 5, (Op.assign (Operand.tmp 13)), none⟩])
 (.seq (.dr [⟨0, .F, ⟨some 14, (Op.move (Operand.tmp 0)), none⟩, [], false⟩,
  ⟨1, .F, ⟨some 15, (Op.nilCheck (Operand.tmp 14)), none⟩, [], false⟩,
  ⟨2, .F, ⟨some 16, (Op.fieldAddr 125 (Operand.tmp 15) 1), none⟩, [], false⟩,
  ⟨3, .R, ⟨some 17, (Op.load 122 (Operand.tmp 16)), none⟩, [], false⟩,
  ⟨4, .F, ⟨some 18, (Op.move (Operand.tmp 1)), none⟩, [], false⟩,
  ⟨5, .F, ⟨some 19, (Op.indexAddr 122 (Operand.tmp 17) (Operand.tmp 18)), none⟩, [], false⟩,
  ⟨6, .R, ⟨some 20, (Op.load 123 (Operand.tmp 19)), none⟩, [], false⟩,
  ⟨7, .F, ⟨some 21, (Op.move (Operand.tmp 0)), none⟩, [], false⟩,
  ⟨8, .F, ⟨some 22, (Op.nilCheck (Operand.tmp 21)), none⟩, [], false⟩,
  ⟨9, .F, ⟨some 23, (Op.fieldAddr 125 (Operand.tmp 22) 0), none⟩, [], false⟩,
  ⟨10, .F, ⟨some 24, (Op.fieldAddr 24 (Operand.tmp 23) 2), none⟩, [], false⟩,
  ⟨11, .R, ⟨some 25, (Op.load 3 (Operand.tmp 24)), none⟩, [], false⟩,
  ⟨12, .F, ⟨some 26, (Op.move (Operand.tmp 5)), none⟩, [], false⟩,
  ⟨13, .F, ⟨some 27, (Op.binOp BinOp.add 3 (Operand.tmp 25) (Operand.tmp 26) 3), none⟩, [], false⟩,
  ⟨14, .F, ⟨some 28, (Op.indexAddr 123 (Operand.tmp 20) (Operand.tmp 27)), none⟩, [], false⟩,
  ⟨15, .R, ⟨some 29, (Op.load 105 (Operand.tmp 28)), none⟩, [], false⟩,
  ⟨16, .F, ⟨some 30, (Op.binOp BinOp.neq 105 (Operand.tmp 29) (Operand.const (Value.int IntKind.u64 0)) 105), none⟩, [], false⟩])
 (.cond (Operand.tmp 30) (.seq (.reg [⟨some 4, (Op.assign (Operand.const (Value.bool false))), none⟩])
 .ret) .skip))))
 (.reg [⟨some 31, (Op.binOp BinOp.add 3 (Operand.tmp 11) (Operand.const (Value.int IntKind.i64 1)) 3), none⟩,
  ⟨some 11, (Op.move (Operand.tmp 31)), none⟩])))))))
 (.seq (.reg [⟨some 32, (Op.move (Operand.tmp 0)), none⟩,
  ⟨some 33, (Op.nilCheck (Operand.tmp 32)), none⟩,
  ⟨some 34, (Op.fieldAddr 125 (Operand.tmp 33) 2), none⟩,
  ⟨some 35, (Op.load 123 (Operand.tmp 34)), none⟩,
  ⟨some 36, (Op.move (Operand.tmp 1)), none⟩,
  ⟨some 37, (Op.indexAddr 123 (Operand.tmp 35) (Operand.tmp 36)), none⟩,
  ⟨some 38, (Op.load 105 (Operand.tmp 37)), none⟩,
  ⟨some 39, (Op.binOp BinOp.eql 105 (Operand.tmp 38) (Operand.const (Value.int IntKind.u64 0)) 105), none⟩,
  ⟨some 4, (Op.assign (Operand.tmp 39)), none⟩])
 .ret)))
theorem fn108 : FnFact Tryd.prog 108 40 [(4, [(0, 0), (1, 0), (2, 0), (3, 3), (4, 0), (5, 0), (6, 3), (7, 0), (8, 0), (9, 0), (10, 0), (11, 3), (12, 0), (13, 0), (14, 0), (15, 3), (16, 0)], [[], [0], [0, 1], [0, 1, 2], [], [0, 1, 2, 3, 4], [0, 1, 2, 3, 4, 5], [], [7], [7, 8], [7, 8, 9], [7, 8, 9, 10], [], [7, 8, 9, 10, 11, 12], [0, 1, 2, 3, 4, 5, 6, 7, 8, 9, 10, 11, 12, 13], [0, 1, 2, 3, 4, 5, 6, 7, 8, 9, 10, 11, 12, 13, 14], [0, 1, 2, 3, 4, 5, 6, 7, 8, 9, 10, 11, 12, 13, 14, 15]])] [(ResultVar.tmp 4)] cd108 := ⟨by kernel_rfl, ⟨Tryd.f108, Tryd.func108, by kernel_rfl, by rfl, Tryd.ntmps108, congrArg Array.toList Tryd.results108⟩⟩
/-- examiner/conform.traceErr$1 -/
def cd109 : CC := (.seq (.reg [⟨some 3, (Op.assign (Operand.const (Value.bool false))), none⟩])
 (.seq (.reg [⟨some 4, (Op.move (Operand.tmp 0)), none⟩,
  ⟨some 5, (Op.fieldAddr 24 (Operand.tmp 1) 2), none⟩,
  ⟨some 6, (Op.load 3 (Operand.tmp 5)), none⟩,
  ⟨some 7, (Op.fieldAddr 24 (Operand.tmp 1) 3), none⟩,
  ⟨some 8, (Op.load 3 (Operand.tmp 7)), none⟩,
  ⟨some 9, (Op.binOp BinOp.add 3 (Operand.tmp 6) (Operand.tmp 8) 3), none⟩,
  ⟨some 10, (Op.call { callee := (Callee.value (Operand.func 66)), args := #[(Operand.tmp 4), (Operand.const (Value.int IntKind.i64 0)), (Operand.tmp 9)], argTypes := #[3, 3, 3] }), none⟩,
  ⟨some 11, (Op.unOp UnOp.not 4 (Operand.tmp 10)), none⟩,
  ⟨some 3, (Op.assign (Operand.tmp 11)), none⟩])
 .ret))
theorem fn109 : FnFact Tryd.prog 109 12 [] [(ResultVar.tmp 3)] cd109 := ⟨by kernel_rfl, ⟨Tryd.f109, Tryd.func109, by kernel_rfl, by rfl, Tryd.ntmps109, congrArg Array.toList Tryd.results109⟩⟩
/-- slices.ContainsFunc[[]int,int] -/
def cd110 : CC := (.seq (.reg [⟨some 4, (Op.assign (Operand.const (Value.bool false))), none⟩])
 (.seq (.reg [⟨some 5, (Op.move (Operand.tmp 0)), none⟩,
  ⟨some 6, (Op.move (Operand.tmp 1)), none⟩,
  ⟨some 7, (Op.call { callee := (Callee.value (Operand.func 123)), args := #[(Operand.tmp 5), (Operand.tmp 6)], argTypes := #[27, 156] }), none⟩,
  ⟨some 8, (Op.binOp BinOp.geq 3 (Operand.tmp 7) (Operand.const (Value.int IntKind.i64 0)) 3), none⟩,
  ⟨some 4, (Op.assign (Operand.tmp 8)), none⟩])
 .ret))
theorem fn110 : FnFact Tryd.prog 110 9 [] [(ResultVar.tmp 4)] cd110 := ⟨by kernel_rfl, ⟨Tryd.f110, Tryd.func110, by kernel_rfl, by rfl, Tryd.ntmps110, congrArg Array.toList Tryd.results110⟩⟩
/-- math/bits.TrailingZeros64 -/
def cd121 : CC := (.seq (.reg [⟨some 2, (Op.assign (Operand.const (Value.int IntKind.i64 0))), none⟩])
 (.seq (.seq (.reg [⟨some 3, (Op.move (Operand.tmp 0)), none⟩,
  ⟨some 4, (Op.binOp BinOp.eql 176 (Operand.tmp 3) (Operand.const (Value.int IntKind.u64 0)) 176), none⟩])
 (.cond (Operand.tmp 4) (.seq (.reg [⟨some 2, (Op.assign (Operand.const (Value.int IntKind.i64 64))), none⟩])
 .ret) .skip))
 (.seq (.reg [⟨some 5, (Op.move (Operand.tmp 0)), none⟩,
  ⟨some 6, (Op.move (Operand.tmp 0)), none⟩,
  ⟨some 7, (Op.unOp UnOp.neg 176 (Operand.tmp 6)), none⟩,
  ⟨some 8, (Op.binOp BinOp.and 176 (Operand.tmp 5) (Operand.tmp 7) 176), none⟩,
  ⟨some 9, (Op.binOp BinOp.mul 176 (Operand.tmp 8) (Operand.const (Value.int IntKind.u64 285870213051353865)) 176), none⟩,
  ⟨some 10, (Op.binOp BinOp.shr 176 (Operand.tmp 9) (Operand.const (Value.int IntKind.u64 58)) 104), none⟩,
  ⟨some 11, (Op.indexAddr 180 (Operand.global 1) (Operand.tmp 10)), none⟩,
  ⟨some 12, (Op.load 5 (Operand.tmp 11)), none⟩,
  ⟨some 13, (Op.convert 5 3 (Operand.tmp 12)), none⟩,
  ⟨some 2, (Op.assign (Operand.tmp 13)), none⟩])
 .ret)))
theorem fn121 : FnFact Tryd.prog 121 14 [] [(ResultVar.tmp 2)] cd121 := ⟨by kernel_rfl, ⟨Tryd.f121, Tryd.func121, by kernel_rfl, by rfl, Tryd.ntmps121, congrArg Array.toList Tryd.results121⟩⟩
/-- cmp.isNaN[int] -/
def cd122 : CC := (.seq (.reg [⟨some 2, (Op.assign (Operand.const (Value.bool false))), none⟩])
 (.seq (.reg [⟨some 3, (Op.move (Operand.tmp 0)), none⟩,
  ⟨some 4, (Op.move (Operand.tmp 0)), none⟩,
  ⟨some 5, (Op.binOp BinOp.neq 3 (Operand.tmp 3) (Operand.tmp 4) 3), none⟩,
  ⟨some 2, (Op.assign (Operand.tmp 5)), none⟩])
 .ret))
theorem fn122 : FnFact Tryd.prog 122 6 [] [(ResultVar.tmp 2)] cd122 := ⟨by kernel_rfl, ⟨Tryd.f122, Tryd.func122, by kernel_rfl, by rfl, Tryd.ntmps122, congrArg Array.toList Tryd.results122⟩⟩
/-- slices.IndexFunc[[]int,int] -/
def cd123 : CC := (.seq (.reg [⟨some 4, (Op.assign (Operand.const (Value.int IntKind.i64 0))), none⟩])
 (.seq (.seq (.reg [⟨some 6, (Op.move (Operand.tmp 0)), none⟩,
  ⟨some 7, (Op.call { callee := (Callee.builtin Builtin.len), args := #[(Operand.tmp 6)], argTypes := #[27] }), none⟩,
  ⟨some 8, (Op.move (Operand.const (Value.int IntKind.i64 0))), none⟩])
 (.block 0 (.loop (.seq (.reg [⟨some 9, (Op.binOp BinOp.lss 3 (Operand.tmp 8) (Operand.tmp 7) 3), none⟩])
 (.seq (.cond (Operand.tmp 9) .skip (.exit 0))
 (.seq (.block 1 (.seq (.reg [⟨some 10, (Op.move (Operand.tmp 8)), none⟩,
  ⟨some 5, (Op.assign (Operand.tmp 10)), none⟩])
 (.seq (.reg [⟨some 11, (Op.move (Operand.tmp 1)), none⟩,
  ⟨some 12, (Op.move (Operand.tmp 0)), none⟩,
  ⟨some 13, (Op.move (Operand.tmp 5)), none⟩,
  ⟨some 14, (Op.indexAddr 27 (Operand.tmp 12) (Operand.tmp 13)), none⟩,
  ⟨some 15, (Op.load 3 (Operand.tmp 14)), none⟩,
  ⟨some 16, (Op.call { callee := (Callee.value (Operand.tmp 11)), args := #[(Operand.tmp 15)], argTypes := #[3] }), none⟩])
 (.cond (Operand.tmp 16) (.seq (.reg [⟨some 17, (Op.move (Operand.tmp 5)), none⟩,
  ⟨some 4, (Op.assign (Operand.tmp 17)), none⟩])
 .ret) .skip))))
 (.reg [⟨some 18, (Op.binOp BinOp.add 3 (Operand.tmp 8) (Operand.const (Value.int IntKind.i64 1)) 3), none⟩,
  ⟨some 8, (Op.move (Operand.tmp 18)), none⟩])))))))
 (.seq (.reg [⟨some 4, (Op.assign (Operand.const (Value.int IntKind.i64 (-1)))), none⟩])
 .ret)))
theorem fn123 : FnFact Tryd.prog 123 19 [] [(ResultVar.tmp 4)] cd123 := ⟨by kernel_rfl, ⟨Tryd.f123, Tryd.func123, by kernel_rfl, by rfl, Tryd.ntmps123, congrArg Array.toList Tryd.results123⟩⟩
end Cd
end Go.Proofs.YtchpcjmgifnmdaaDoor

/- The code of functions without what an evaluation has no need of, by program. -/
namespace Go.Proofs.YtchpcjmgifnmdaaDoor
open Go Go.Proofs.YtchpcjmgifnmdaaDoor.Ab
namespace Cd
/-- examiner/examinerlaw42.ConformRelations -/
def cd9 : CC := (.seq (.reg [⟨some 3, (Op.box 24 (Operand.tmp 0)), none⟩,
  ⟨some 4, (Op.box 24 (Operand.tmp 1)), none⟩,
  ⟨some 6, (Op.assign (Operand.const (Value.bool false))), none⟩])
 (.seq (.seq (.reg [⟨some 12, (Op.call { callee := (Callee.value (Operand.func 15)), args := #[], argTypes := #[] }), none⟩,
  ⟨some 13, (Op.unOp UnOp.not 4 (Operand.tmp 12)), none⟩])
 (.cond (Operand.tmp 13) (.seq (.reg [⟨some 6, (Op.assign (Operand.const (Value.bool false))), none⟩])
 .ret) .skip))
 (.seq (.reg [⟨some 14, (Op.load 24 (Operand.tmp 3)), none⟩,
  ⟨some 15, (Op.load 24 (Operand.tmp 4)), none⟩,
  ⟨some 16, (Op.call { callee := (Callee.value (Operand.func 20)), args := #[(Operand.tmp 14), (Operand.tmp 15)], argTypes := #[24, 24] }), none⟩,
  ⟨some 7, (Op.assign (Operand.tmp 16)), none⟩])
 (.seq (.seq (.reg [⟨some 17, (Op.move (Operand.tmp 7)), none⟩,
  ⟨some 18, (Op.binOp BinOp.eql 3 (Operand.tmp 17) (Operand.const (Value.int IntKind.i64 0)) 3), none⟩,
  ⟨some 19, (Op.move (Operand.tmp 18)), none⟩,
  ⟨some 20, (Op.move (Operand.tmp 2)), some (19, true)⟩,
  ⟨some 21, (Op.call { callee := (Callee.builtin Builtin.len), args := #[(Operand.tmp 20)], argTypes := #[32] }), some (19, true)⟩,
  ⟨some 22, (Op.binOp BinOp.gtr 3 (Operand.tmp 21) (Operand.const (Value.int IntKind.i64 60)) 3), some (19, true)⟩,
  ⟨some 23, (Op.pick (Operand.tmp 19) (Operand.tmp 22) (Operand.const (Value.bool false))), none⟩,
  ⟨some 24, (Op.move (Operand.tmp 23)), none⟩,
  ⟨some 25, (Op.move (Operand.tmp 2)), some (24, true)⟩,
  ⟨some 26, (Op.call { callee := (Callee.builtin Builtin.len), args := #[(Operand.tmp 25)], argTypes := #[32] }), some (24, true)⟩,
  ⟨some 27, (Op.binOp BinOp.leq 3 (Operand.tmp 26) (Operand.const (Value.int IntKind.i64 300)) 3), some (24, true)⟩,
  ⟨some 28, (Op.pick (Operand.tmp 24) (Operand.tmp 27) (Operand.const (Value.bool false))), none⟩])
 (.cond (Operand.tmp 28) (.seq (.reg [⟨some 6, (Op.assign (Operand.const (Value.bool true))), none⟩])
 .ret) .skip))
 (.seq (.seq (.reg [⟨some 8, (Op.assign (Operand.const (Value.int IntKind.i64 0))), none⟩])
 (.block 0 (.loop (.seq (.seq (.reg [⟨some 29, (Op.move (Operand.tmp 8)), none⟩,
  ⟨some 30, (Op.move (Operand.tmp 2)), none⟩,
  ⟨some 31, (Op.call { callee := (Callee.builtin Builtin.len), args := #[(Operand.tmp 30)], argTypes := #[32] }), none⟩,
  ⟨some 32, (Op.binOp BinOp.lss 3 (Operand.tmp 29) (Operand.tmp 31) 3), none⟩])
 (.cond (Operand.tmp 32) .skip (.exit 0)))
 (.seq (.block 1 (.seq (.reg [⟨some 35, (Op.move (Operand.tmp 2)), none⟩,
  ⟨some 36, (Op.call { callee := (Callee.builtin Builtin.len), args := #[(Operand.tmp 35)], argTypes := #[32] }), none⟩,
  ⟨some 37, (Op.binOp BinOp.leq 3 (Operand.tmp 36) (Operand.const (Value.int IntKind.i64 300)) 3), none⟩,
  ⟨some 38, (Op.move (Operand.tmp 37)), none⟩,
  ⟨some 39, (Op.move (Operand.tmp 2)), some (38, true)⟩,
  ⟨some 40, (Op.move (Operand.tmp 8)), some (38, true)⟩,
  ⟨some 41, (Op.indexAddr 32 (Operand.tmp 39) (Operand.tmp 40)), some (38, true)⟩,
  ⟨some 42, (Op.fieldAddr 41 (Operand.tmp 41) 0), some (38, true)⟩,
  ⟨some 43, (Op.load 27 (Operand.tmp 42)), some (38, true)⟩,
  ⟨some 44, (Op.call { callee := (Callee.builtin Builtin.len), args := #[(Operand.tmp 43)], argTypes := #[27] }), some (38, true)⟩,
  ⟨some 45, (Op.binOp BinOp.gtr 3 (Operand.tmp 44) (Operand.const (Value.int IntKind.i64 100)) 3), some (38, true)⟩,
  ⟨some 46, (Op.move (Operand.tmp 45)), some (38, true)⟩,
  ⟨some 47, (Op.move (Operand.tmp 2)), some (46, false)⟩,
  ⟨some 48, (Op.move (Operand.tmp 8)), some (46, false)⟩,
  ⟨some 49, (Op.indexAddr 32 (Operand.tmp 47) (Operand.tmp 48)), some (46, false)⟩,
  ⟨some 50, (Op.fieldAddr 41 (Operand.tmp 49) 1), some (46, false)⟩,
  ⟨some 51, (Op.load 27 (Operand.tmp 50)), some (46, false)⟩,
  ⟨some 52, (Op.call { callee := (Callee.builtin Builtin.len), args := #[(Operand.tmp 51)], argTypes := #[27] }), some (46, false)⟩,
  ⟨some 53, (Op.binOp BinOp.gtr 3 (Operand.tmp 52) (Operand.const (Value.int IntKind.i64 100)) 3), some (46, false)⟩,
  ⟨some 54, (Op.pick (Operand.tmp 46) (Operand.const (Value.bool true)) (Operand.tmp 53)), some (38, true)⟩,
  ⟨some 55, (Op.pick (Operand.tmp 38) (Operand.tmp 54) (Operand.const (Value.bool false))), none⟩])
 (.cond (Operand.tmp 55) (.seq (.reg [⟨some 6, (Op.assign (Operand.const (Value.bool true))), none⟩])
 .ret) .skip)))
 (.reg [⟨some 33, (Op.move (Operand.tmp 8)), none⟩,
  ⟨some 34, (Op.binOp BinOp.add 3 (Operand.tmp 33) (Operand.const (Value.int IntKind.i64 1)) 3), none⟩,
  ⟨some 8, (Op.assign (Operand.tmp 34)), none⟩]))))))
 (.seq (.dr [⟨0, .R, ⟨some 57, (Op.load 24 (Operand.tmp 3)), none⟩, [], false⟩,
  ⟨2, .F, ⟨some 59, (Op.load 24 (Operand.tmp 4)), none⟩, [], false⟩,
  ⟨4, .F, ⟨some 61, (Op.move (Operand.tmp 2)), none⟩, [], false⟩,
  ⟨1, .E, ⟨some 58, (Op.call { callee := (Callee.value (Operand.func 18)), args := #[(Operand.tmp 57)], argTypes := #[24] }), none⟩, [], false⟩,
  ⟨3, .E, ⟨some 60, (Op.call { callee := (Callee.value (Operand.func 18)), args := #[(Operand.tmp 59)], argTypes := #[24] }), none⟩, [], false⟩,
  ⟨5, .E, ⟨some 62, (Op.call { callee := (Callee.value (Operand.func 44)), args := #[(Operand.tmp 61)], argTypes := #[32] }), none⟩, [], false⟩,
  ⟨6, .E, ⟨some 63, (Op.call { callee := (Callee.value (Operand.func 43)), args := #[(Operand.tmp 58), (Operand.tmp 60), (Operand.tmp 62)], argTypes := #[24, 24, 32] }), none⟩, [], false⟩,
  ⟨7, .F, ⟨some 56, (Op.move (Operand.tmp 63)), none⟩, [], false⟩,
  ⟨8, .F, ⟨some 64, (Op.extract (Operand.tmp 56) 0), none⟩, [], false⟩,
  ⟨9, .F, ⟨some 65, (Op.extract (Operand.tmp 56) 1), none⟩, [], false⟩,
  ⟨10, .F, ⟨some 9, (Op.assign (Operand.tmp 64)), none⟩, [], false⟩,
  ⟨11, .F, ⟨some 10, (Op.assign (Operand.tmp 65)), none⟩, [], false⟩])
 (.seq (.reg [⟨some 11, (Op.assign (Operand.const (Value.int IntKind.i64 0))), none⟩])
 (.seq (.seq (.reg [⟨some 66, (Op.move (Operand.tmp 7)), none⟩,
  ⟨some 67, (Op.binOp BinOp.eql 3 (Operand.tmp 66) (Operand.const (Value.int IntKind.i64 0)) 3), none⟩])
 (.cond (Operand.tmp 67) (.reg [⟨some 69, (Op.load 24 (Operand.tmp 3)), none⟩,
  ⟨some 70, (Op.load 24 (Operand.tmp 4)), none⟩,
  ⟨some 71, (Op.move (Operand.tmp 2)), none⟩,
  ⟨some 72, (Op.call { callee := (Callee.value (Operand.func 45)), args := #[(Operand.tmp 69), (Operand.tmp 70), (Operand.tmp 71)], argTypes := #[24, 24, 32] }), none⟩,
  ⟨some 68, (Op.move (Operand.tmp 72)), none⟩,
  ⟨some 73, (Op.extract (Operand.tmp 68) 0), none⟩,
  ⟨some 74, (Op.extract (Operand.tmp 68) 1), none⟩,
  ⟨some 11, (Op.assign (Operand.tmp 73)), none⟩,
  ⟨some 7, (Op.assign (Operand.tmp 74)), none⟩]) .skip))
 (.seq (.reg [⟨some 75, (Op.move (Operand.tmp 10)), none⟩,
  ⟨some 76, (Op.move (Operand.tmp 7)), none⟩,
  ⟨some 77, (Op.binOp BinOp.eql 3 (Operand.tmp 75) (Operand.tmp 76) 3), none⟩,
  ⟨some 78, (Op.move (Operand.tmp 77)), none⟩,
  ⟨some 79, (Op.move (Operand.tmp 9)), some (78, true)⟩,
  ⟨some 80, (Op.move (Operand.tmp 11)), some (78, true)⟩,
  ⟨some 81, (Op.binOp BinOp.eql 3 (Operand.tmp 79) (Operand.tmp 80) 3), some (78, true)⟩,
  ⟨some 82, (Op.pick (Operand.tmp 78) (Operand.tmp 81) (Operand.const (Value.bool false))), none⟩,
  ⟨some 6, (Op.assign (Operand.tmp 82)), none⟩])
 .ret)))))))))
theorem fn9 : FnFact Tryd.prog 9 83 [(11, [(0, 3), (2, 0), (4, 0), (1, 2), (3, 2), (5, 2), (6, 2), (7, 0), (8, 0), (9, 0), (10, 0), (11, 0)], [[], [0], [], [0, 1, 2], [], [0, 1, 2, 3, 4], [0, 1, 2, 3, 4, 5], [0, 1, 2, 3, 4, 5, 6], [0, 1, 2, 3, 4, 5, 6, 7], [0, 1, 2, 3, 4, 5, 6, 7], [0, 1, 2, 3, 4, 5, 6, 7, 8], [0, 1, 2, 3, 4, 5, 6, 7, 8, 9, 10]])] [(ResultVar.tmp 6)] cd9 := ⟨by kernel_rfl, ⟨Tryd.f9, Tryd.func9, by kernel_rfl, by rfl, Tryd.ntmps9, congrArg Array.toList Tryd.results9⟩⟩
/-- examiner/examinerlaw42.awake -/
def cd15 : CC := (.seq (.reg [⟨some 0, (Op.assign (Operand.const (Value.bool false))), none⟩])
 (.seq (.reg [⟨some 6, (Op.call { callee := (Callee.value (Operand.func 56)), args := #[], argTypes := #[] }), none⟩,
  ⟨some 7, (Op.call { callee := (Callee.value (Operand.func 57)), args := #[], argTypes := #[] }), none⟩,
  ⟨some 8, (Op.call { callee := (Callee.value (Operand.func 17)), args := #[(Operand.tmp 6), (Operand.tmp 7)], argTypes := #[24, 24] }), none⟩,
  ⟨some 5, (Op.move (Operand.tmp 8)), none⟩,
  ⟨some 9, (Op.extract (Operand.tmp 5) 0), none⟩,
  ⟨some 10, (Op.extract (Operand.tmp 5) 1), none⟩,
  ⟨some 1, (Op.assign (Operand.tmp 9)), none⟩,
  ⟨some 2, (Op.assign (Operand.tmp 10)), none⟩])
 (.seq (.reg [⟨some 12, (Op.call { callee := (Callee.value (Operand.func 57)), args := #[], argTypes := #[] }), none⟩,
  ⟨some 13, (Op.buildSlice 27 2 #[(0, (Operand.const (Value.int IntKind.i64 0))), (1, (Operand.const (Value.int IntKind.i64 1)))]), none⟩,
  ⟨some 14, (Op.call { callee := (Callee.value (Operand.func 29)), args := #[(Operand.tmp 12), (Operand.tmp 13)], argTypes := #[24, 27] }), none⟩,
  ⟨some 11, (Op.move (Operand.tmp 14)), none⟩,
  ⟨some 15, (Op.extract (Operand.tmp 11) 0), none⟩,
  ⟨some 16, (Op.extract (Operand.tmp 11) 1), none⟩,
  ⟨some 3, (Op.assign (Operand.tmp 15)), none⟩,
  ⟨some 4, (Op.assign (Operand.tmp 16)), none⟩])
 (.seq (.reg [⟨some 17, (Op.move (Operand.tmp 2)), none⟩,
  ⟨some 18, (Op.binOp BinOp.eql 28 (Operand.tmp 17) (Operand.const (Value.int IntKind.i64 29)) 28), none⟩,
  ⟨some 19, (Op.move (Operand.tmp 18)), none⟩,
  ⟨some 20, (Op.move (Operand.tmp 1)), some (19, true)⟩,
  ⟨some 21, (Op.buildSlice 27 2 #[(0, (Operand.const (Value.int IntKind.i64 0))), (1, (Operand.const (Value.int IntKind.i64 2)))]), some (19, true)⟩,
  ⟨some 22, (Op.call { callee := (Callee.value (Operand.func 22)), args := #[(Operand.tmp 20), (Operand.tmp 21)], argTypes := #[27, 27] }), some (19, true)⟩,
  ⟨some 23, (Op.pick (Operand.tmp 19) (Operand.tmp 22) (Operand.const (Value.bool false))), none⟩,
  ⟨some 24, (Op.move (Operand.tmp 23)), none⟩,
  ⟨some 25, (Op.move (Operand.tmp 4)), some (24, true)⟩,
  ⟨some 26, (Op.binOp BinOp.eql 28 (Operand.tmp 25) (Operand.const (Value.int IntKind.i64 0)) 28), some (24, true)⟩,
  ⟨some 27, (Op.pick (Operand.tmp 24) (Operand.tmp 26) (Operand.const (Value.bool false))), none⟩,
  ⟨some 28, (Op.move (Operand.tmp 27)), none⟩,
  ⟨some 29, (Op.move (Operand.tmp 3)), some (28, true)⟩,
  ⟨some 30, (Op.buildSlice 27 1 #[(0, (Operand.const (Value.int IntKind.i64 2)))]), some (28, true)⟩,
  ⟨some 31, (Op.call { callee := (Callee.value (Operand.func 22)), args := #[(Operand.tmp 29), (Operand.tmp 30)], argTypes := #[27, 27] }), some (28, true)⟩,
  ⟨some 32, (Op.pick (Operand.tmp 28) (Operand.tmp 31) (Operand.const (Value.bool false))), none⟩,
  ⟨some 0, (Op.assign (Operand.tmp 32)), none⟩])
 .ret))))
theorem fn15 : FnFact Tryd.prog 15 33 [] [(ResultVar.tmp 0)] cd15 := ⟨by kernel_rfl, ⟨Tryd.f15, Tryd.func15, by kernel_rfl, by rfl, Tryd.ntmps15, congrArg Array.toList Tryd.results15⟩⟩
/-- examiner/conform.Conforms -/
def cd17 : CC := (.seq (.reg [⟨some 2, (Op.box 24 (Operand.tmp 0)), none⟩,
  ⟨some 3, (Op.box 24 (Operand.tmp 1)), none⟩,
  ⟨some 4, (Op.assign (Operand.const (Value.slice none 0 0))), none⟩,
  ⟨some 5, (Op.assign (Operand.const (Value.int IntKind.i64 0))), none⟩])
 (.seq (.seq (.reg [⟨some 9, (Op.load 24 (Operand.tmp 2)), none⟩,
  ⟨some 10, (Op.load 24 (Operand.tmp 3)), none⟩,
  ⟨some 11, (Op.call { callee := (Callee.value (Operand.func 58)), args := #[(Operand.tmp 9), (Operand.tmp 10)], argTypes := #[24, 24] }), none⟩,
  ⟨some 6, (Op.assign (Operand.tmp 11)), none⟩])
 (.seq (.reg [⟨some 12, (Op.move (Operand.tmp 6)), none⟩,
  ⟨some 13, (Op.binOp BinOp.neq 28 (Operand.tmp 12) (Operand.const (Value.int IntKind.i64 0)) 28), none⟩])
 (.cond (Operand.tmp 13) (.seq (.reg [⟨some 14, (Op.move (Operand.tmp 6)), none⟩,
  ⟨some 4, (Op.assign (Operand.const (Value.slice none 0 0))), none⟩,
  ⟨some 5, (Op.assign (Operand.tmp 14)), none⟩])
 .ret) .skip)))
 (.seq (.reg [⟨some 16, (Op.load 24 (Operand.tmp 2)), none⟩,
  ⟨some 17, (Op.load 24 (Operand.tmp 3)), none⟩,
  ⟨some 18, (Op.call { callee := (Callee.value (Operand.func 59)), args := #[(Operand.tmp 16), (Operand.tmp 17)], argTypes := #[24, 24] }), none⟩,
  ⟨some 19, (Op.call { callee := (Callee.value (Operand.func 60)), args := #[(Operand.tmp 18)], argTypes := #[95] }), none⟩,
  ⟨some 15, (Op.move (Operand.tmp 19)), none⟩,
  ⟨some 20, (Op.extract (Operand.tmp 15) 0), none⟩,
  ⟨some 21, (Op.extract (Operand.tmp 15) 1), none⟩,
  ⟨some 7, (Op.assign (Operand.tmp 20)), none⟩,
  ⟨some 8, (Op.assign (Operand.tmp 21)), none⟩])
 (.seq (.reg [⟨some 22, (Op.move (Operand.tmp 7)), none⟩,
  ⟨some 23, (Op.move (Operand.tmp 8)), none⟩,
  ⟨some 24, (Op.unOp UnOp.not 4 (Operand.tmp 23)), none⟩,
  ⟨some 25, (Op.call { callee := (Callee.value (Operand.func 61)), args := #[(Operand.tmp 24), (Operand.const (Value.int IntKind.i64 29))], argTypes := #[4, 28] }), none⟩,
  ⟨some 4, (Op.assign (Operand.tmp 22)), none⟩,
  ⟨some 5, (Op.assign (Operand.tmp 25)), none⟩])
 .ret))))
theorem fn17 : FnFact Tryd.prog 17 26 [] [(ResultVar.tmp 4), (ResultVar.tmp 5)] cd17 := ⟨by kernel_rfl, ⟨Tryd.f17, Tryd.func17, by kernel_rfl, by rfl, Tryd.ntmps17, congrArg Array.toList Tryd.results17⟩⟩
/-- examiner/examinerref42.Own -/
def cd18 : CC := (.seq (.reg [⟨some 1, (Op.box 24 (Operand.tmp 0)), none⟩,
  ⟨some 2, (Op.alloc 24), none⟩])
 (.seq (.reg [⟨some 3, (Op.buildSlice 22 0 #[]), none⟩,
  ⟨some 4, (Op.fieldAddr 24 (Operand.tmp 1) 4), none⟩,
  ⟨some 5, (Op.load 22 (Operand.tmp 4)), none⟩,
  ⟨some 6, (Op.call { callee := (Callee.builtin Builtin.append), args := #[(Operand.tmp 3), (Operand.tmp 5)], argTypes := #[22, 22] }), none⟩,
  ⟨some 7, (Op.fieldAddr 24 (Operand.tmp 1) 4), none⟩,
  ⟨none, (Op.store 22 (Operand.tmp 7) (Operand.tmp 6)), none⟩])
 (.seq (.reg [⟨some 8, (Op.load 24 (Operand.tmp 1)), none⟩,
  ⟨none, (Op.store 24 (Operand.tmp 2) (Operand.tmp 8)), none⟩])
 .ret)))
theorem fn18 : FnFact Tryd.prog 18 9 [] [(ResultVar.cell 2 24)] cd18 := ⟨by kernel_rfl, ⟨Tryd.f18, Tryd.func18, by kernel_rfl, by rfl, Tryd.ntmps18, congrArg Array.toList Tryd.results18⟩⟩
/-- examiner/examinerref42.TwoErr -/
def cd20 : CC := (.seq (.reg [⟨some 2, (Op.box 24 (Operand.tmp 0)), none⟩,
  ⟨some 3, (Op.box 24 (Operand.tmp 1)), none⟩,
  ⟨some 4, (Op.assign (Operand.const (Value.int IntKind.i64 0))), none⟩])
 (.seq (.seq (.reg [⟨some 7, (Op.load 24 (Operand.tmp 2)), none⟩,
  ⟨some 8, (Op.call { callee := (Callee.value (Operand.func 27)), args := #[(Operand.tmp 7)], argTypes := #[24] }), none⟩,
  ⟨some 5, (Op.assign (Operand.tmp 8)), none⟩])
 (.seq (.reg [⟨some 9, (Op.move (Operand.tmp 5)), none⟩,
  ⟨some 10, (Op.binOp BinOp.neq 3 (Operand.tmp 9) (Operand.const (Value.int IntKind.i64 0)) 3), none⟩])
 (.cond (Operand.tmp 10) (.seq (.reg [⟨some 11, (Op.move (Operand.tmp 5)), none⟩,
  ⟨some 4, (Op.assign (Operand.tmp 11)), none⟩])
 .ret) .skip)))
 (.seq (.seq (.reg [⟨some 12, (Op.load 24 (Operand.tmp 3)), none⟩,
  ⟨some 13, (Op.call { callee := (Callee.value (Operand.func 27)), args := #[(Operand.tmp 12)], argTypes := #[24] }), none⟩,
  ⟨some 6, (Op.assign (Operand.tmp 13)), none⟩])
 (.seq (.reg [⟨some 14, (Op.move (Operand.tmp 6)), none⟩,
  ⟨some 15, (Op.binOp BinOp.neq 3 (Operand.tmp 14) (Operand.const (Value.int IntKind.i64 0)) 3), none⟩])
 (.cond (Operand.tmp 15) (.seq (.reg [⟨some 16, (Op.move (Operand.tmp 6)), none⟩,
  ⟨some 4, (Op.assign (Operand.tmp 16)), none⟩])
 .ret) .skip)))
 (.seq (.seq (.reg [⟨some 17, (Op.fieldAddr 24 (Operand.tmp 2) 2), none⟩,
  ⟨some 18, (Op.load 3 (Operand.tmp 17)), none⟩,
  ⟨some 19, (Op.fieldAddr 24 (Operand.tmp 3) 2), none⟩,
  ⟨some 20, (Op.load 3 (Operand.tmp 19)), none⟩,
  ⟨some 21, (Op.binOp BinOp.neq 3 (Operand.tmp 18) (Operand.tmp 20) 3), none⟩,
  ⟨some 22, (Op.move (Operand.tmp 21)), none⟩,
  ⟨some 23, (Op.fieldAddr 24 (Operand.tmp 2) 3), some (22, false)⟩,
  ⟨some 24, (Op.load 3 (Operand.tmp 23)), some (22, false)⟩,
  ⟨some 25, (Op.fieldAddr 24 (Operand.tmp 3) 3), some (22, false)⟩,
  ⟨some 26, (Op.load 3 (Operand.tmp 25)), some (22, false)⟩,
  ⟨some 27, (Op.binOp BinOp.neq 3 (Operand.tmp 24) (Operand.tmp 26) 3), some (22, false)⟩,
  ⟨some 28, (Op.pick (Operand.tmp 22) (Operand.const (Value.bool true)) (Operand.tmp 27)), none⟩])
 (.cond (Operand.tmp 28) (.seq (.reg [⟨some 4, (Op.assign (Operand.const (Value.int IntKind.i64 6))), none⟩])
 .ret) .skip))
 (.seq (.reg [⟨some 4, (Op.assign (Operand.const (Value.int IntKind.i64 0))), none⟩])
 .ret)))))
theorem fn20 : FnFact Tryd.prog 20 29 [] [(ResultVar.tmp 4)] cd20 := ⟨by kernel_rfl, ⟨Tryd.f20, Tryd.func20, by kernel_rfl, by rfl, Tryd.ntmps20, congrArg Array.toList Tryd.results20⟩⟩
/-- examiner/examinerbase.SameInts -/
def cd22 : CC := (.seq (.reg [⟨some 4, (Op.assign (Operand.const (Value.bool false))), none⟩])
 (.seq (.seq (.reg [⟨some 6, (Op.move (Operand.tmp 0)), none⟩,
  ⟨some 7, (Op.call { callee := (Callee.builtin Builtin.len), args := #[(Operand.tmp 6)], argTypes := #[27] }), none⟩,
  ⟨some 8, (Op.move (Operand.tmp 1)), none⟩,
  ⟨some 9, (Op.call { callee := (Callee.builtin Builtin.len), args := #[(Operand.tmp 8)], argTypes := #[27] }), none⟩,
  ⟨some 10, (Op.binOp BinOp.neq 3 (Operand.tmp 7) (Operand.tmp 9) 3), none⟩])
 (.cond (Operand.tmp 10) (.seq (.reg [⟨some 4, (Op.assign (Operand.const (Value.bool false))), none⟩])
 .ret) .skip))
 (.seq (.seq (.reg [⟨some 5, (Op.assign (Operand.const (Value.int IntKind.i64 0))), none⟩])
 (.block 0 (.loop (.seq (.seq (.reg [⟨some 11, (Op.move (Operand.tmp 5)), none⟩,
  ⟨some 12, (Op.move (Operand.tmp 0)), none⟩,
  ⟨some 13, (Op.call { callee := (Callee.builtin Builtin.len), args := #[(Operand.tmp 12)], argTypes := #[27] }), none⟩,
  ⟨some 14, (Op.binOp BinOp.lss 3 (Operand.tmp 11) (Operand.tmp 13) 3), none⟩])
 (.cond (Operand.tmp 14) .skip (.exit 0)))
 (.seq (.block 1 (.seq (.dr [⟨0, .F, ⟨some 17, (Op.move (Operand.tmp 0)), none⟩, [], false⟩,
  ⟨1, .F, ⟨some 18, (Op.move (Operand.tmp 5)), none⟩, [], false⟩,
  ⟨2, .F, ⟨some 19, (Op.indexAddr 27 (Operand.tmp 17) (Operand.tmp 18)), none⟩, [], false⟩,
  ⟨3, .R, ⟨some 20, (Op.load 3 (Operand.tmp 19)), none⟩, [], false⟩,
  ⟨4, .F, ⟨some 21, (Op.move (Operand.tmp 1)), none⟩, [], false⟩,
  ⟨5, .F, ⟨some 22, (Op.move (Operand.tmp 5)), none⟩, [], false⟩,
  ⟨6, .F, ⟨some 23, (Op.indexAddr 27 (Operand.tmp 21) (Operand.tmp 22)), none⟩, [], false⟩,
  ⟨7, .R, ⟨some 24, (Op.load 3 (Operand.tmp 23)), none⟩, [], false⟩,
  ⟨8, .F, ⟨some 25, (Op.binOp BinOp.neq 3 (Operand.tmp 20) (Operand.tmp 24) 3), none⟩, [], false⟩])
 (.cond (Operand.tmp 25) (.seq (.reg [⟨some 4, (Op.assign (Operand.const (Value.bool false))), none⟩])
 .ret) .skip)))
 (.reg [⟨some 15, (Op.move (Operand.tmp 5)), none⟩,
  ⟨some 16, (Op.binOp BinOp.add 3 (Operand.tmp 15) (Operand.const (Value.int IntKind.i64 1)) 3), none⟩,
  ⟨some 5, (Op.assign (Operand.tmp 16)), none⟩]))))))
 (.seq (.reg [⟨some 4, (Op.assign (Operand.const (Value.bool true))), none⟩])
 .ret))))
theorem fn22 : FnFact Tryd.prog 22 26 [(6, [(0, 0), (1, 0), (2, 0), (3, 3), (4, 0), (5, 0), (6, 0), (7, 3), (8, 0)], [[], [], [0, 1], [0, 1, 2], [], [], [4, 5], [4, 5, 6], [0, 1, 2, 3, 4, 5, 6, 7]])] [(ResultVar.tmp 4)] cd22 := ⟨by kernel_rfl, ⟨Tryd.f22, Tryd.func22, by kernel_rfl, by rfl, Tryd.ntmps22, congrArg Array.toList Tryd.results22⟩⟩
/-- examiner/conform.CheckReactive -/
def cd23 : CC := (.seq (.reg [⟨some 1, (Op.box 24 (Operand.tmp 0)), none⟩,
  ⟨some 2, (Op.assign (Operand.const (Value.int IntKind.i64 0))), none⟩,
  ⟨some 3, (Op.assign (Operand.const (Value.int IntKind.i64 0))), none⟩])
 (.seq (.seq (.reg [⟨some 7, (Op.fieldAddr 24 (Operand.tmp 1) 0), none⟩,
  ⟨some 8, (Op.load 3 (Operand.tmp 7)), none⟩,
  ⟨some 9, (Op.call { callee := (Callee.value (Operand.func 66)), args := #[(Operand.tmp 8), (Operand.const (Value.int IntKind.i64 1)), (Operand.const (Value.int IntKind.i64 10))], argTypes := #[3, 3, 3] }), none⟩,
  ⟨some 10, (Op.unOp UnOp.not 4 (Operand.tmp 9)), none⟩,
  ⟨some 11, (Op.move (Operand.tmp 10)), none⟩,
  ⟨some 12, (Op.fieldAddr 24 (Operand.tmp 1) 1), some (11, false)⟩,
  ⟨some 13, (Op.load 3 (Operand.tmp 12)), some (11, false)⟩,
  ⟨some 14, (Op.fieldAddr 24 (Operand.tmp 1) 0), some (11, false)⟩,
  ⟨some 15, (Op.load 3 (Operand.tmp 14)), some (11, false)⟩,
  ⟨some 16, (Op.binOp BinOp.sub 3 (Operand.tmp 15) (Operand.const (Value.int IntKind.i64 1)) 3), some (11, false)⟩,
  ⟨some 17, (Op.call { callee := (Callee.value (Operand.func 66)), args := #[(Operand.tmp 13), (Operand.const (Value.int IntKind.i64 0)), (Operand.tmp 16)], argTypes := #[3, 3, 3] }), some (11, false)⟩,
  ⟨some 18, (Op.unOp UnOp.not 4 (Operand.tmp 17)), some (11, false)⟩,
  ⟨some 19, (Op.pick (Operand.tmp 11) (Operand.const (Value.bool true)) (Operand.tmp 18)), none⟩,
  ⟨some 20, (Op.move (Operand.tmp 19)), none⟩,
  ⟨some 21, (Op.fieldAddr 24 (Operand.tmp 1) 2), some (20, false)⟩,
  ⟨some 22, (Op.load 3 (Operand.tmp 21)), some (20, false)⟩,
  ⟨some 23, (Op.call { callee := (Callee.value (Operand.func 66)), args := #[(Operand.tmp 22), (Operand.const (Value.int IntKind.i64 0)), (Operand.const (Value.int IntKind.i64 4))], argTypes := #[3, 3, 3] }), some (20, false)⟩,
  ⟨some 24, (Op.unOp UnOp.not 4 (Operand.tmp 23)), some (20, false)⟩,
  ⟨some 25, (Op.pick (Operand.tmp 20) (Operand.const (Value.bool true)) (Operand.tmp 24)), none⟩,
  ⟨some 26, (Op.move (Operand.tmp 25)), none⟩,
  ⟨some 27, (Op.fieldAddr 24 (Operand.tmp 1) 3), some (26, false)⟩,
  ⟨some 28, (Op.load 3 (Operand.tmp 27)), some (26, false)⟩,
  ⟨some 29, (Op.call { callee := (Callee.value (Operand.func 66)), args := #[(Operand.tmp 28), (Operand.const (Value.int IntKind.i64 0)), (Operand.const (Value.int IntKind.i64 4))], argTypes := #[3, 3, 3] }), some (26, false)⟩,
  ⟨some 30, (Op.unOp UnOp.not 4 (Operand.tmp 29)), some (26, false)⟩,
  ⟨some 31, (Op.pick (Operand.tmp 26) (Operand.const (Value.bool true)) (Operand.tmp 30)), none⟩])
 (.cond (Operand.tmp 31) (.seq (.reg [⟨some 2, (Op.assign (Operand.const (Value.int IntKind.i64 0))), none⟩,
  ⟨some 3, (Op.assign (Operand.const (Value.int IntKind.i64 3))), none⟩])
 .ret) .skip))
 (.seq (.seq (.reg [⟨some 32, (Op.fieldAddr 24 (Operand.tmp 1) 4), none⟩,
  ⟨some 33, (Op.load 22 (Operand.tmp 32)), none⟩,
  ⟨some 34, (Op.call { callee := (Callee.builtin Builtin.len), args := #[(Operand.tmp 33)], argTypes := #[22] }), none⟩,
  ⟨some 35, (Op.binOp BinOp.gtr 3 (Operand.tmp 34) (Operand.const (Value.int IntKind.i64 80)) 3), none⟩])
 (.cond (Operand.tmp 35) (.seq (.reg [⟨some 2, (Op.assign (Operand.const (Value.int IntKind.i64 0))), none⟩,
  ⟨some 3, (Op.assign (Operand.const (Value.int IntKind.i64 2))), none⟩])
 .ret) .skip))
 (.seq (.seq (.reg [⟨some 36, (Op.fieldAddr 24 (Operand.tmp 1) 4), none⟩,
  ⟨some 37, (Op.load 22 (Operand.tmp 36)), none⟩,
  ⟨some 38, (Op.call { callee := (Callee.builtin Builtin.len), args := #[(Operand.tmp 37)], argTypes := #[22] }), none⟩,
  ⟨some 39, (Op.move (Operand.const (Value.int IntKind.i64 0))), none⟩])
 (.block 0 (.loop (.seq (.reg [⟨some 40, (Op.binOp BinOp.lss 3 (Operand.tmp 39) (Operand.tmp 38) 3), none⟩])
 (.seq (.cond (Operand.tmp 40) .skip (.exit 0))
 (.seq (.block 1 (.seq (.reg [⟨some 41, (Op.move (Operand.tmp 39)), none⟩,
  ⟨some 42, (Op.indexAddr 22 (Operand.tmp 37) (Operand.tmp 39)), none⟩,
  ⟨some 43, (Op.load 113 (Operand.tmp 42)), none⟩,
  ⟨some 5, (Op.alloc 113), none⟩,
  ⟨some 4, (Op.assign (Operand.tmp 41)), none⟩,
  ⟨none, (Op.store 113 (Operand.tmp 5) (Operand.tmp 43)), none⟩])
 (.seq (.reg [⟨some 6, (Op.assign (Operand.const (Value.int IntKind.i64 1))), none⟩])
 (.seq (.seq (.reg [⟨some 44, (Op.fieldAddr 113 (Operand.tmp 5) 1), none⟩,
  ⟨some 45, (Op.load 3 (Operand.tmp 44)), none⟩])
 (.block 2 (.seq (.reg [⟨some 48, (Op.binOp BinOp.eql 3 (Operand.tmp 45) (Operand.const (Value.int IntKind.i64 0)) 3), none⟩,
  ⟨some 47, (Op.assign (Operand.tmp 48)), none⟩])
 (.cond (Operand.tmp 47) (.reg [⟨some 49, (Op.fieldAddr 24 (Operand.tmp 1) 2), none⟩,
  ⟨some 50, (Op.load 3 (Operand.tmp 49)), none⟩,
  ⟨some 6, (Op.assign (Operand.tmp 50)), none⟩]) (.seq (.reg [⟨some 52, (Op.binOp BinOp.eql 3 (Operand.tmp 45) (Operand.const (Value.int IntKind.i64 1)) 3), none⟩,
  ⟨some 51, (Op.assign (Operand.tmp 52)), none⟩])
 (.cond (Operand.tmp 51) (.reg [⟨some 53, (Op.fieldAddr 24 (Operand.tmp 1) 3), none⟩,
  ⟨some 54, (Op.load 3 (Operand.tmp 53)), none⟩,
  ⟨some 6, (Op.assign (Operand.tmp 54)), none⟩]) (.seq (.reg [⟨some 56, (Op.binOp BinOp.eql 3 (Operand.tmp 45) (Operand.const (Value.int IntKind.i64 2)) 3), none⟩,
  ⟨some 55, (Op.assign (Operand.tmp 56)), none⟩])
 (.cond (Operand.tmp 55) .skip (.seq (.reg [⟨some 46, (Op.move (Operand.tmp 4)), none⟩,
  ⟨some 2, (Op.assign (Operand.tmp 46)), none⟩,
  ⟨some 3, (Op.assign (Operand.const (Value.int IntKind.i64 4))), none⟩])
 .ret)))))))))
 (.seq (.seq (.reg [⟨some 57, (Op.fieldAddr 113 (Operand.tmp 5) 0), none⟩,
  ⟨some 58, (Op.load 3 (Operand.tmp 57)), none⟩,
  ⟨some 59, (Op.fieldAddr 24 (Operand.tmp 1) 0), none⟩,
  ⟨some 60, (Op.load 3 (Operand.tmp 59)), none⟩,
  ⟨some 61, (Op.binOp BinOp.sub 3 (Operand.tmp 60) (Operand.const (Value.int IntKind.i64 1)) 3), none⟩,
  ⟨some 62, (Op.call { callee := (Callee.value (Operand.func 66)), args := #[(Operand.tmp 58), (Operand.const (Value.int IntKind.i64 0)), (Operand.tmp 61)], argTypes := #[3, 3, 3] }), none⟩,
  ⟨some 63, (Op.unOp UnOp.not 4 (Operand.tmp 62)), none⟩,
  ⟨some 64, (Op.move (Operand.tmp 63)), none⟩,
  ⟨some 65, (Op.fieldAddr 113 (Operand.tmp 5) 3), some (64, false)⟩,
  ⟨some 66, (Op.load 3 (Operand.tmp 65)), some (64, false)⟩,
  ⟨some 67, (Op.fieldAddr 24 (Operand.tmp 1) 0), some (64, false)⟩,
  ⟨some 68, (Op.load 3 (Operand.tmp 67)), some (64, false)⟩,
  ⟨some 69, (Op.binOp BinOp.sub 3 (Operand.tmp 68) (Operand.const (Value.int IntKind.i64 1)) 3), some (64, false)⟩,
  ⟨some 70, (Op.call { callee := (Callee.value (Operand.func 66)), args := #[(Operand.tmp 66), (Operand.const (Value.int IntKind.i64 0)), (Operand.tmp 69)], argTypes := #[3, 3, 3] }), some (64, false)⟩,
  ⟨some 71, (Op.unOp UnOp.not 4 (Operand.tmp 70)), some (64, false)⟩,
  ⟨some 72, (Op.pick (Operand.tmp 64) (Operand.const (Value.bool true)) (Operand.tmp 71)), none⟩,
  ⟨some 73, (Op.move (Operand.tmp 72)), none⟩,
  ⟨some 74, (Op.fieldAddr 113 (Operand.tmp 5) 2), some (73, false)⟩,
  ⟨some 75, (Op.load 3 (Operand.tmp 74)), some (73, false)⟩,
  ⟨some 76, (Op.move (Operand.tmp 6)), some (73, false)⟩,
  ⟨some 77, (Op.binOp BinOp.sub 3 (Operand.tmp 76) (Operand.const (Value.int IntKind.i64 1)) 3), some (73, false)⟩,
  ⟨some 78, (Op.call { callee := (Callee.value (Operand.func 66)), args := #[(Operand.tmp 75), (Operand.const (Value.int IntKind.i64 0)), (Operand.tmp 77)], argTypes := #[3, 3, 3] }), some (73, false)⟩,
  ⟨some 79, (Op.unOp UnOp.not 4 (Operand.tmp 78)), some (73, false)⟩,
  ⟨some 80, (Op.pick (Operand.tmp 73) (Operand.const (Value.bool true)) (Operand.tmp 79)), none⟩])
 (.cond (Operand.tmp 80) (.seq (.reg [⟨some 81, (Op.move (Operand.tmp 4)), none⟩,
  ⟨some 2, (Op.assign (Operand.tmp 81)), none⟩,
  ⟨some 3, (Op.assign (Operand.const (Value.int IntKind.i64 3))), none⟩])
 .ret) .skip))
 (.seq (.dr [⟨0, .F, ⟨some 82, (Op.move (Operand.tmp 4)), none⟩, [], false⟩,
  ⟨1, .F, ⟨some 83, (Op.binOp BinOp.gtr 3 (Operand.tmp 82) (Operand.const (Value.int IntKind.i64 0)) 3), none⟩, [], false⟩,
  ⟨2, .F, ⟨some 84, (Op.move (Operand.tmp 83)), none⟩, [], false⟩,
  ⟨3, .F, ⟨some 85, (Op.fieldAddr 24 (Operand.tmp 1) 4), some (84, true)⟩, [], false⟩,
  ⟨4, .R, ⟨some 86, (Op.load 22 (Operand.tmp 85)), some (84, true)⟩, [], false⟩,
  ⟨5, .F, ⟨some 87, (Op.move (Operand.tmp 4)), some (84, true)⟩, [], false⟩,
  ⟨6, .F, ⟨some 88, (Op.binOp BinOp.sub 3 (Operand.tmp 87) (Operand.const (Value.int IntKind.i64 1)) 3), some (84, true)⟩, [], false⟩,
  ⟨7, .F, ⟨some 89, (Op.indexAddr 22 (Operand.tmp 86) (Operand.tmp 88)), some (84, true)⟩, [], false⟩,
  ⟨8, .R, ⟨some 90, (Op.load 113 (Operand.tmp 89)), some (84, true)⟩, [], false⟩,
  ⟨9, .R, ⟨some 91, (Op.load 113 (Operand.tmp 5)), some (84, true)⟩, [], false⟩,
  ⟨10, .E, ⟨some 92, (Op.call { callee := (Callee.value (Operand.func 67)), args := #[(Operand.tmp 90), (Operand.tmp 91)], argTypes := #[113, 113] }), some (84, true)⟩, [], false⟩,
  ⟨11, .F, ⟨some 93, (Op.binOp BinOp.geq 3 (Operand.tmp 92) (Operand.const (Value.int IntKind.i64 0)) 3), some (84, true)⟩, [], false⟩,
  ⟨12, .F, ⟨some 94, (Op.pick (Operand.tmp 84) (Operand.tmp 93) (Operand.const (Value.bool false))), none⟩, [], false⟩])
 (.cond (Operand.tmp 94) (.seq (.reg [⟨some 95, (Op.move (Operand.tmp 4)), none⟩,
  ⟨some 2, (Op.assign (Operand.tmp 95)), none⟩,
  ⟨some 3, (Op.assign (Operand.const (Value.int IntKind.i64 14))), none⟩])
 .ret) .skip)))))))
 (.reg [⟨some 96, (Op.binOp BinOp.add 3 (Operand.tmp 39) (Operand.const (Value.int IntKind.i64 1)) 3), none⟩,
  ⟨some 39, (Op.move (Operand.tmp 96)), none⟩])))))))
 (.seq (.reg [⟨some 2, (Op.assign (Operand.const (Value.int IntKind.i64 0))), none⟩,
  ⟨some 3, (Op.assign (Operand.const (Value.int IntKind.i64 0))), none⟩])
 .ret)))))
theorem fn23 : FnFact Tryd.prog 23 97 [(18, [(0, 0), (1, 0), (2, 0), (3, 0), (4, 3), (5, 0), (6, 0), (7, 0), (8, 3), (9, 3), (10, 2), (11, 0), (12, 0)], [[], [0], [0, 1], [0, 1, 2], [0, 1, 2, 3], [0, 1, 2], [0, 1, 2, 5], [0, 1, 2, 3, 4, 5, 6], [0, 1, 2, 3, 4, 5, 6, 7], [0, 1, 2], [0, 1, 2, 3, 4, 5, 6, 7, 8, 9], [0, 1, 2, 3, 4, 5, 6, 7, 8, 9, 10], [0, 1, 2, 3, 4, 5, 6, 7, 8, 9, 10, 11]])] [(ResultVar.tmp 2), (ResultVar.tmp 3)] cd23 := ⟨by kernel_rfl, ⟨Tryd.f23, Tryd.func23, by kernel_rfl, by rfl, Tryd.ntmps23, congrArg Array.toList Tryd.results23⟩⟩
/-- examiner/examinerref42.ReactErr -/
def cd24 : CC := (.seq (.reg [⟨some 1, (Op.box 24 (Operand.tmp 0)), none⟩,
  ⟨some 2, (Op.assign (Operand.const (Value.int IntKind.i64 0))), none⟩,
  ⟨some 3, (Op.assign (Operand.const (Value.int IntKind.i64 0))), none⟩])
 (.seq (.seq (.reg [⟨some 7, (Op.fieldAddr 24 (Operand.tmp 1) 0), none⟩,
  ⟨some 8, (Op.load 3 (Operand.tmp 7)), none⟩,
  ⟨some 9, (Op.call { callee := (Callee.value (Operand.func 36)), args := #[(Operand.tmp 8), (Operand.const (Value.int IntKind.i64 1)), (Operand.const (Value.int IntKind.i64 10))], argTypes := #[3, 3, 3] }), none⟩,
  ⟨some 10, (Op.unOp UnOp.not 4 (Operand.tmp 9)), none⟩,
  ⟨some 11, (Op.move (Operand.tmp 10)), none⟩,
  ⟨some 12, (Op.fieldAddr 24 (Operand.tmp 1) 1), some (11, false)⟩,
  ⟨some 13, (Op.load 3 (Operand.tmp 12)), some (11, false)⟩,
  ⟨some 14, (Op.fieldAddr 24 (Operand.tmp 1) 0), some (11, false)⟩,
  ⟨some 15, (Op.load 3 (Operand.tmp 14)), some (11, false)⟩,
  ⟨some 16, (Op.binOp BinOp.sub 3 (Operand.tmp 15) (Operand.const (Value.int IntKind.i64 1)) 3), some (11, false)⟩,
  ⟨some 17, (Op.call { callee := (Callee.value (Operand.func 36)), args := #[(Operand.tmp 13), (Operand.const (Value.int IntKind.i64 0)), (Operand.tmp 16)], argTypes := #[3, 3, 3] }), some (11, false)⟩,
  ⟨some 18, (Op.unOp UnOp.not 4 (Operand.tmp 17)), some (11, false)⟩,
  ⟨some 19, (Op.pick (Operand.tmp 11) (Operand.const (Value.bool true)) (Operand.tmp 18)), none⟩,
  ⟨some 20, (Op.move (Operand.tmp 19)), none⟩,
  ⟨some 21, (Op.fieldAddr 24 (Operand.tmp 1) 2), some (20, false)⟩,
  ⟨some 22, (Op.load 3 (Operand.tmp 21)), some (20, false)⟩,
  ⟨some 23, (Op.call { callee := (Callee.value (Operand.func 36)), args := #[(Operand.tmp 22), (Operand.const (Value.int IntKind.i64 0)), (Operand.const (Value.int IntKind.i64 4))], argTypes := #[3, 3, 3] }), some (20, false)⟩,
  ⟨some 24, (Op.unOp UnOp.not 4 (Operand.tmp 23)), some (20, false)⟩,
  ⟨some 25, (Op.pick (Operand.tmp 20) (Operand.const (Value.bool true)) (Operand.tmp 24)), none⟩,
  ⟨some 26, (Op.move (Operand.tmp 25)), none⟩,
  ⟨some 27, (Op.fieldAddr 24 (Operand.tmp 1) 3), some (26, false)⟩,
  ⟨some 28, (Op.load 3 (Operand.tmp 27)), some (26, false)⟩,
  ⟨some 29, (Op.call { callee := (Callee.value (Operand.func 36)), args := #[(Operand.tmp 28), (Operand.const (Value.int IntKind.i64 0)), (Operand.const (Value.int IntKind.i64 4))], argTypes := #[3, 3, 3] }), some (26, false)⟩,
  ⟨some 30, (Op.unOp UnOp.not 4 (Operand.tmp 29)), some (26, false)⟩,
  ⟨some 31, (Op.pick (Operand.tmp 26) (Operand.const (Value.bool true)) (Operand.tmp 30)), none⟩])
 (.cond (Operand.tmp 31) (.seq (.reg [⟨some 2, (Op.assign (Operand.const (Value.int IntKind.i64 0))), none⟩,
  ⟨some 3, (Op.assign (Operand.const (Value.int IntKind.i64 3))), none⟩])
 .ret) .skip))
 (.seq (.seq (.reg [⟨some 32, (Op.fieldAddr 24 (Operand.tmp 1) 4), none⟩,
  ⟨some 33, (Op.load 22 (Operand.tmp 32)), none⟩,
  ⟨some 34, (Op.call { callee := (Callee.builtin Builtin.len), args := #[(Operand.tmp 33)], argTypes := #[22] }), none⟩,
  ⟨some 35, (Op.binOp BinOp.gtr 3 (Operand.tmp 34) (Operand.const (Value.int IntKind.i64 80)) 3), none⟩])
 (.cond (Operand.tmp 35) (.seq (.reg [⟨some 2, (Op.assign (Operand.const (Value.int IntKind.i64 0))), none⟩,
  ⟨some 3, (Op.assign (Operand.const (Value.int IntKind.i64 2))), none⟩])
 .ret) .skip))
 (.seq (.seq (.reg [⟨some 4, (Op.assign (Operand.const (Value.int IntKind.i64 0))), none⟩])
 (.block 0 (.loop (.seq (.seq (.reg [⟨some 36, (Op.move (Operand.tmp 4)), none⟩,
  ⟨some 37, (Op.fieldAddr 24 (Operand.tmp 1) 4), none⟩,
  ⟨some 38, (Op.load 22 (Operand.tmp 37)), none⟩,
  ⟨some 39, (Op.call { callee := (Callee.builtin Builtin.len), args := #[(Operand.tmp 38)], argTypes := #[22] }), none⟩,
  ⟨some 40, (Op.binOp BinOp.lss 3 (Operand.tmp 36) (Operand.tmp 39) 3), none⟩])
 (.cond (Operand.tmp 40) .skip (.exit 0)))
 (.seq (.block 1 (.seq (.reg [⟨some 43, (Op.fieldAddr 24 (Operand.tmp 1) 4), none⟩,
  ⟨some 44, (Op.load 22 (Operand.tmp 43)), none⟩,
  ⟨some 45, (Op.move (Operand.tmp 4)), none⟩,
  ⟨some 46, (Op.indexAddr 22 (Operand.tmp 44) (Operand.tmp 45)), none⟩,
  ⟨some 47, (Op.load 113 (Operand.tmp 46)), none⟩,
  ⟨some 5, (Op.alloc 113), none⟩,
  ⟨none, (Op.store 113 (Operand.tmp 5) (Operand.tmp 47)), none⟩])
 (.seq (.seq (.reg [⟨some 48, (Op.fieldAddr 113 (Operand.tmp 5) 1), none⟩,
  ⟨some 49, (Op.load 3 (Operand.tmp 48)), none⟩,
  ⟨some 50, (Op.call { callee := (Callee.value (Operand.func 36)), args := #[(Operand.tmp 49), (Operand.const (Value.int IntKind.i64 0)), (Operand.const (Value.int IntKind.i64 2))], argTypes := #[3, 3, 3] }), none⟩,
  ⟨some 51, (Op.unOp UnOp.not 4 (Operand.tmp 50)), none⟩])
 (.cond (Operand.tmp 51) (.seq (.reg [⟨some 52, (Op.move (Operand.tmp 4)), none⟩,
  ⟨some 2, (Op.assign (Operand.tmp 52)), none⟩,
  ⟨some 3, (Op.assign (Operand.const (Value.int IntKind.i64 4))), none⟩])
 .ret) .skip))
 (.seq (.reg [⟨some 6, (Op.assign (Operand.const (Value.int IntKind.i64 0))), none⟩])
 (.seq (.seq (.reg [⟨some 53, (Op.fieldAddr 113 (Operand.tmp 5) 1), none⟩,
  ⟨some 54, (Op.load 3 (Operand.tmp 53)), none⟩,
  ⟨some 55, (Op.binOp BinOp.eql 3 (Operand.tmp 54) (Operand.const (Value.int IntKind.i64 0)) 3), none⟩])
 (.cond (Operand.tmp 55) (.reg [⟨some 56, (Op.fieldAddr 24 (Operand.tmp 1) 2), none⟩,
  ⟨some 57, (Op.load 3 (Operand.tmp 56)), none⟩,
  ⟨some 58, (Op.binOp BinOp.sub 3 (Operand.tmp 57) (Operand.const (Value.int IntKind.i64 1)) 3), none⟩,
  ⟨some 6, (Op.assign (Operand.tmp 58)), none⟩]) .skip))
 (.seq (.seq (.reg [⟨some 59, (Op.fieldAddr 113 (Operand.tmp 5) 1), none⟩,
  ⟨some 60, (Op.load 3 (Operand.tmp 59)), none⟩,
  ⟨some 61, (Op.binOp BinOp.eql 3 (Operand.tmp 60) (Operand.const (Value.int IntKind.i64 1)) 3), none⟩])
 (.cond (Operand.tmp 61) (.reg [⟨some 62, (Op.fieldAddr 24 (Operand.tmp 1) 3), none⟩,
  ⟨some 63, (Op.load 3 (Operand.tmp 62)), none⟩,
  ⟨some 64, (Op.binOp BinOp.sub 3 (Operand.tmp 63) (Operand.const (Value.int IntKind.i64 1)) 3), none⟩,
  ⟨some 6, (Op.assign (Operand.tmp 64)), none⟩]) .skip))
 (.seq (.seq (.reg [⟨some 65, (Op.fieldAddr 113 (Operand.tmp 5) 0), none⟩,
  ⟨some 66, (Op.load 3 (Operand.tmp 65)), none⟩,
  ⟨some 67, (Op.fieldAddr 24 (Operand.tmp 1) 0), none⟩,
  ⟨some 68, (Op.load 3 (Operand.tmp 67)), none⟩,
  ⟨some 69, (Op.binOp BinOp.sub 3 (Operand.tmp 68) (Operand.const (Value.int IntKind.i64 1)) 3), none⟩,
  ⟨some 70, (Op.call { callee := (Callee.value (Operand.func 36)), args := #[(Operand.tmp 66), (Operand.const (Value.int IntKind.i64 0)), (Operand.tmp 69)], argTypes := #[3, 3, 3] }), none⟩,
  ⟨some 71, (Op.unOp UnOp.not 4 (Operand.tmp 70)), none⟩,
  ⟨some 72, (Op.move (Operand.tmp 71)), none⟩,
  ⟨some 73, (Op.fieldAddr 113 (Operand.tmp 5) 3), some (72, false)⟩,
  ⟨some 74, (Op.load 3 (Operand.tmp 73)), some (72, false)⟩,
  ⟨some 75, (Op.fieldAddr 24 (Operand.tmp 1) 0), some (72, false)⟩,
  ⟨some 76, (Op.load 3 (Operand.tmp 75)), some (72, false)⟩,
  ⟨some 77, (Op.binOp BinOp.sub 3 (Operand.tmp 76) (Operand.const (Value.int IntKind.i64 1)) 3), some (72, false)⟩,
  ⟨some 78, (Op.call { callee := (Callee.value (Operand.func 36)), args := #[(Operand.tmp 74), (Operand.const (Value.int IntKind.i64 0)), (Operand.tmp 77)], argTypes := #[3, 3, 3] }), some (72, false)⟩,
  ⟨some 79, (Op.unOp UnOp.not 4 (Operand.tmp 78)), some (72, false)⟩,
  ⟨some 80, (Op.pick (Operand.tmp 72) (Operand.const (Value.bool true)) (Operand.tmp 79)), none⟩,
  ⟨some 81, (Op.move (Operand.tmp 80)), none⟩,
  ⟨some 82, (Op.fieldAddr 113 (Operand.tmp 5) 2), some (81, false)⟩,
  ⟨some 83, (Op.load 3 (Operand.tmp 82)), some (81, false)⟩,
  ⟨some 84, (Op.move (Operand.tmp 6)), some (81, false)⟩,
  ⟨some 85, (Op.call { callee := (Callee.value (Operand.func 36)), args := #[(Operand.tmp 83), (Operand.const (Value.int IntKind.i64 0)), (Operand.tmp 84)], argTypes := #[3, 3, 3] }), some (81, false)⟩,
  ⟨some 86, (Op.unOp UnOp.not 4 (Operand.tmp 85)), some (81, false)⟩,
  ⟨some 87, (Op.pick (Operand.tmp 81) (Operand.const (Value.bool true)) (Operand.tmp 86)), none⟩])
 (.cond (Operand.tmp 87) (.seq (.reg [⟨some 88, (Op.move (Operand.tmp 4)), none⟩,
  ⟨some 2, (Op.assign (Operand.tmp 88)), none⟩,
  ⟨some 3, (Op.assign (Operand.const (Value.int IntKind.i64 3))), none⟩])
 .ret) .skip))
 (.seq (.dr [⟨0, .F, ⟨some 89, (Op.move (Operand.tmp 4)), none⟩, [], false⟩,
  ⟨1, .F, ⟨some 90, (Op.binOp BinOp.gtr 3 (Operand.tmp 89) (Operand.const (Value.int IntKind.i64 0)) 3), none⟩, [], false⟩,
  ⟨2, .F, ⟨some 91, (Op.move (Operand.tmp 90)), none⟩, [], false⟩,
  ⟨3, .F, ⟨some 92, (Op.fieldAddr 24 (Operand.tmp 1) 4), some (91, true)⟩, [], false⟩,
  ⟨4, .R, ⟨some 93, (Op.load 22 (Operand.tmp 92)), some (91, true)⟩, [], false⟩,
  ⟨5, .F, ⟨some 94, (Op.move (Operand.tmp 4)), some (91, true)⟩, [], false⟩,
  ⟨6, .F, ⟨some 95, (Op.binOp BinOp.sub 3 (Operand.tmp 94) (Operand.const (Value.int IntKind.i64 1)) 3), some (91, true)⟩, [], false⟩,
  ⟨7, .F, ⟨some 96, (Op.indexAddr 22 (Operand.tmp 93) (Operand.tmp 95)), some (91, true)⟩, [], false⟩,
  ⟨8, .R, ⟨some 97, (Op.load 113 (Operand.tmp 96)), some (91, true)⟩, [], false⟩,
  ⟨10, .R, ⟨some 99, (Op.load 113 (Operand.tmp 5)), some (91, true)⟩, [], false⟩,
  ⟨9, .E, ⟨some 98, (Op.call { callee := (Callee.value (Operand.func 69)), args := #[(Operand.tmp 97)], argTypes := #[113] }), some (91, true)⟩, [], true⟩,
  ⟨11, .E, ⟨some 100, (Op.call { callee := (Callee.value (Operand.func 69)), args := #[(Operand.tmp 99)], argTypes := #[113] }), some (91, true)⟩, [], false⟩,
  ⟨12, .E, ⟨some 101, (Op.call { callee := (Callee.value (Operand.func 68)), args := #[(Operand.tmp 98), (Operand.tmp 100)], argTypes := #[27, 27] }), some (91, true)⟩, [], false⟩,
  ⟨13, .F, ⟨some 102, (Op.binOp BinOp.geq 3 (Operand.tmp 101) (Operand.const (Value.int IntKind.i64 0)) 3), some (91, true)⟩, [], false⟩,
  ⟨14, .F, ⟨some 103, (Op.pick (Operand.tmp 91) (Operand.tmp 102) (Operand.const (Value.bool false))), none⟩, [], false⟩])
 (.cond (Operand.tmp 103) (.seq (.reg [⟨some 104, (Op.move (Operand.tmp 4)), none⟩,
  ⟨some 2, (Op.assign (Operand.tmp 104)), none⟩,
  ⟨some 3, (Op.assign (Operand.const (Value.int IntKind.i64 14))), none⟩])
 .ret) .skip)))))))))
 (.reg [⟨some 41, (Op.move (Operand.tmp 4)), none⟩,
  ⟨some 42, (Op.binOp BinOp.add 3 (Operand.tmp 41) (Operand.const (Value.int IntKind.i64 1)) 3), none⟩,
  ⟨some 4, (Op.assign (Operand.tmp 42)), none⟩]))))))
 (.seq (.reg [⟨some 2, (Op.assign (Operand.const (Value.int IntKind.i64 0))), none⟩,
  ⟨some 3, (Op.assign (Operand.const (Value.int IntKind.i64 0))), none⟩])
 .ret)))))
theorem fn24 : FnFact Tryd.prog 24 105 [(18, [(0, 0), (1, 0), (2, 0), (3, 0), (4, 3), (5, 0), (6, 0), (7, 0), (8, 3), (10, 3), (9, 4), (11, 2), (12, 2), (13, 0), (14, 0)], [[], [0], [0, 1], [0, 1, 2], [0, 1, 2, 3], [0, 1, 2], [0, 1, 2, 5], [0, 1, 2, 3, 4, 5, 6], [0, 1, 2, 3, 4, 5, 6, 7], [0, 1, 2, 3, 4, 5, 6, 7, 8], [0, 1, 2], [0, 1, 2, 3, 4, 5, 6, 7, 8, 9, 10], [0, 1, 2, 3, 4, 5, 6, 7, 8, 9, 10, 11], [0, 1, 2, 3, 4, 5, 6, 7, 8, 9, 10, 11, 12], [0, 1, 2, 3, 4, 5, 6, 7, 8, 9, 10, 11, 12, 13]])] [(ResultVar.tmp 2), (ResultVar.tmp 3)] cd24 := ⟨by kernel_rfl, ⟨Tryd.f24, Tryd.func24, by kernel_rfl, by rfl, Tryd.ntmps24, congrArg Array.toList Tryd.results24⟩⟩
/-- examiner/examinerref42.Err -/
def cd27 : CC := (.seq (.reg [⟨some 1, (Op.box 24 (Operand.tmp 0)), none⟩,
  ⟨some 2, (Op.assign (Operand.const (Value.int IntKind.i64 0))), none⟩])
 (.seq (.reg [⟨some 6, (Op.load 24 (Operand.tmp 1)), none⟩,
  ⟨some 7, (Op.call { callee := (Callee.value (Operand.func 24)), args := #[(Operand.tmp 6)], argTypes := #[24] }), none⟩,
  ⟨some 5, (Op.move (Operand.tmp 7)), none⟩,
  ⟨some 8, (Op.extract (Operand.tmp 5) 0), none⟩,
  ⟨some 9, (Op.extract (Operand.tmp 5) 1), none⟩,
  ⟨some 3, (Op.assign (Operand.tmp 8)), none⟩,
  ⟨some 4, (Op.assign (Operand.tmp 9)), none⟩])
 (.seq (.reg [⟨some 10, (Op.move (Operand.tmp 4)), none⟩,
  ⟨some 2, (Op.assign (Operand.tmp 10)), none⟩])
 .ret)))
theorem fn27 : FnFact Tryd.prog 27 11 [] [(ResultVar.tmp 2)] cd27 := ⟨by kernel_rfl, ⟨Tryd.f27, Tryd.func27, by kernel_rfl, by rfl, Tryd.ntmps27, congrArg Array.toList Tryd.results27⟩⟩
/-- examiner/conform.AfterTrace -/
def cd29 : CC := (.seq (.reg [⟨some 2, (Op.box 24 (Operand.tmp 0)), none⟩,
  ⟨some 4, (Op.assign (Operand.const (Value.slice none 0 0))), none⟩,
  ⟨some 5, (Op.assign (Operand.const (Value.int IntKind.i64 0))), none⟩])
 (.seq (.seq (.reg [⟨some 8, (Op.load 24 (Operand.tmp 2)), none⟩,
  ⟨some 9, (Op.call { callee := (Callee.value (Operand.func 70)), args := #[(Operand.tmp 8)], argTypes := #[24] }), none⟩,
  ⟨some 6, (Op.assign (Operand.tmp 9)), none⟩])
 (.seq (.reg [⟨some 10, (Op.move (Operand.tmp 6)), none⟩,
  ⟨some 11, (Op.binOp BinOp.neq 28 (Operand.tmp 10) (Operand.const (Value.int IntKind.i64 0)) 28), none⟩])
 (.cond (Operand.tmp 11) (.seq (.reg [⟨some 12, (Op.move (Operand.tmp 6)), none⟩,
  ⟨some 4, (Op.assign (Operand.const (Value.slice none 0 0))), none⟩,
  ⟨some 5, (Op.assign (Operand.tmp 12)), none⟩])
 .ret) .skip)))
 (.seq (.seq (.reg [⟨some 13, (Op.load 24 (Operand.tmp 2)), none⟩,
  ⟨some 14, (Op.move (Operand.tmp 1)), none⟩,
  ⟨some 15, (Op.call { callee := (Callee.value (Operand.func 77)), args := #[(Operand.tmp 13), (Operand.tmp 14)], argTypes := #[24, 27] }), none⟩,
  ⟨some 7, (Op.assign (Operand.tmp 15)), none⟩])
 (.seq (.reg [⟨some 16, (Op.move (Operand.tmp 7)), none⟩,
  ⟨some 17, (Op.binOp BinOp.neq 28 (Operand.tmp 16) (Operand.const (Value.int IntKind.i64 0)) 28), none⟩])
 (.cond (Operand.tmp 17) (.seq (.reg [⟨some 18, (Op.move (Operand.tmp 7)), none⟩,
  ⟨some 4, (Op.assign (Operand.const (Value.slice none 0 0))), none⟩,
  ⟨some 5, (Op.assign (Operand.tmp 18)), none⟩])
 .ret) .skip)))
 (.seq (.reg [⟨some 19, (Op.load 24 (Operand.tmp 2)), none⟩,
  ⟨some 20, (Op.call { callee := (Callee.value (Operand.func 71)), args := #[(Operand.tmp 19)], argTypes := #[24] }), none⟩,
  ⟨some 21, (Op.move (Operand.tmp 1)), none⟩,
  ⟨some 22, (Op.call { callee := (Callee.value (Operand.func 78)), args := #[(Operand.tmp 20), (Operand.tmp 21)], argTypes := #[99, 27] }), none⟩,
  ⟨some 23, (Op.call { callee := (Callee.value (Operand.func 62)), args := #[(Operand.tmp 22)], argTypes := #[105] }), none⟩,
  ⟨some 4, (Op.assign (Operand.tmp 23)), none⟩,
  ⟨some 5, (Op.assign (Operand.const (Value.int IntKind.i64 0))), none⟩])
 .ret))))
theorem fn29 : FnFact Tryd.prog 29 24 [] [(ResultVar.tmp 4), (ResultVar.tmp 5)] cd29 := ⟨by kernel_rfl, ⟨Tryd.f29, Tryd.func29, by kernel_rfl, by rfl, Tryd.ntmps29, congrArg Array.toList Tryd.results29⟩⟩
/-- examiner/examinerbase.OwnInts -/
def cd30 : CC := (.seq (.reg [⟨some 2, (Op.assign (Operand.const (Value.slice none 0 0))), none⟩])
 (.seq (.reg [⟨some 3, (Op.buildSlice 27 0 #[]), none⟩,
  ⟨some 4, (Op.move (Operand.tmp 0)), none⟩,
  ⟨some 5, (Op.call { callee := (Callee.builtin Builtin.append), args := #[(Operand.tmp 3), (Operand.tmp 4)], argTypes := #[27, 27] }), none⟩,
  ⟨some 2, (Op.assign (Operand.tmp 5)), none⟩])
 .ret))
theorem fn30 : FnFact Tryd.prog 30 6 [] [(ResultVar.tmp 2)] cd30 := ⟨by kernel_rfl, ⟨Tryd.f30, Tryd.func30, by kernel_rfl, by rfl, Tryd.ntmps30, congrArg Array.toList Tryd.results30⟩⟩
/-- examiner/examinerref42.SetErr -/
def cd32 : CC := (.seq (.reg [⟨some 2, (Op.box 24 (Operand.tmp 0)), none⟩,
  ⟨some 4, (Op.assign (Operand.const (Value.int IntKind.i64 0))), none⟩])
 (.seq (.seq (.reg [⟨some 5, (Op.assign (Operand.const (Value.int IntKind.i64 0))), none⟩])
 (.block 0 (.loop (.seq (.seq (.reg [⟨some 6, (Op.move (Operand.tmp 5)), none⟩,
  ⟨some 7, (Op.move (Operand.tmp 1)), none⟩,
  ⟨some 8, (Op.call { callee := (Callee.builtin Builtin.len), args := #[(Operand.tmp 7)], argTypes := #[27] }), none⟩,
  ⟨some 9, (Op.binOp BinOp.lss 3 (Operand.tmp 6) (Operand.tmp 8) 3), none⟩])
 (.cond (Operand.tmp 9) .skip (.exit 0)))
 (.seq (.block 1 (.seq (.seq (.dr [⟨0, .F, ⟨some 12, (Op.move (Operand.tmp 1)), none⟩, [], false⟩,
  ⟨1, .F, ⟨some 13, (Op.move (Operand.tmp 5)), none⟩, [], false⟩,
  ⟨2, .F, ⟨some 14, (Op.indexAddr 27 (Operand.tmp 12) (Operand.tmp 13)), none⟩, [], false⟩,
  ⟨3, .R, ⟨some 15, (Op.load 3 (Operand.tmp 14)), none⟩, [], false⟩,
  ⟨4, .F, ⟨some 16, (Op.fieldAddr 24 (Operand.tmp 2) 0), none⟩, [], false⟩,
  ⟨5, .R, ⟨some 17, (Op.load 3 (Operand.tmp 16)), none⟩, [], false⟩,
  ⟨6, .F, ⟨some 18, (Op.binOp BinOp.sub 3 (Operand.tmp 17) (Operand.const (Value.int IntKind.i64 1)) 3), none⟩, [], false⟩,
  ⟨7, .E, ⟨some 19, (Op.call { callee := (Callee.value (Operand.func 36)), args := #[(Operand.tmp 15), (Operand.const (Value.int IntKind.i64 0)), (Operand.tmp 18)], argTypes := #[3, 3, 3] }), none⟩, [], false⟩,
  ⟨8, .F, ⟨some 20, (Op.unOp UnOp.not 4 (Operand.tmp 19)), none⟩, [], false⟩])
 (.cond (Operand.tmp 20) (.seq (.reg [⟨some 4, (Op.assign (Operand.const (Value.int IntKind.i64 3))), none⟩])
 .ret) .skip))
 (.seq (.dr [⟨0, .F, ⟨some 21, (Op.move (Operand.tmp 5)), none⟩, [], false⟩,
  ⟨1, .F, ⟨some 22, (Op.binOp BinOp.gtr 3 (Operand.tmp 21) (Operand.const (Value.int IntKind.i64 0)) 3), none⟩, [], false⟩,
  ⟨2, .F, ⟨some 23, (Op.move (Operand.tmp 22)), none⟩, [], false⟩,
  ⟨3, .F, ⟨some 24, (Op.move (Operand.tmp 1)), some (23, true)⟩, [], false⟩,
  ⟨4, .F, ⟨some 25, (Op.move (Operand.tmp 5)), some (23, true)⟩, [], false⟩,
  ⟨5, .F, ⟨some 26, (Op.binOp BinOp.sub 3 (Operand.tmp 25) (Operand.const (Value.int IntKind.i64 1)) 3), some (23, true)⟩, [], false⟩,
  ⟨6, .F, ⟨some 27, (Op.indexAddr 27 (Operand.tmp 24) (Operand.tmp 26)), some (23, true)⟩, [], false⟩,
  ⟨7, .R, ⟨some 28, (Op.load 3 (Operand.tmp 27)), some (23, true)⟩, [], false⟩,
  ⟨8, .F, ⟨some 29, (Op.move (Operand.tmp 1)), some (23, true)⟩, [], false⟩,
  ⟨9, .F, ⟨some 30, (Op.move (Operand.tmp 5)), some (23, true)⟩, [], false⟩,
  ⟨10, .F, ⟨some 31, (Op.indexAddr 27 (Operand.tmp 29) (Operand.tmp 30)), some (23, true)⟩, [], false⟩,
  ⟨11, .R, ⟨some 32, (Op.load 3 (Operand.tmp 31)), some (23, true)⟩, [], false⟩,
  ⟨12, .F, ⟨some 33, (Op.binOp BinOp.geq 3 (Operand.tmp 28) (Operand.tmp 32) 3), some (23, true)⟩, [], false⟩,
  ⟨13, .F, ⟨some 34, (Op.pick (Operand.tmp 23) (Operand.tmp 33) (Operand.const (Value.bool false))), none⟩, [], false⟩])
 (.cond (Operand.tmp 34) (.seq (.reg [⟨some 4, (Op.assign (Operand.const (Value.int IntKind.i64 14))), none⟩])
 .ret) .skip))))
 (.reg [⟨some 10, (Op.move (Operand.tmp 5)), none⟩,
  ⟨some 11, (Op.binOp BinOp.add 3 (Operand.tmp 10) (Operand.const (Value.int IntKind.i64 1)) 3), none⟩,
  ⟨some 5, (Op.assign (Operand.tmp 11)), none⟩]))))))
 (.seq (.reg [⟨some 4, (Op.assign (Operand.const (Value.int IntKind.i64 0))), none⟩])
 .ret)))
theorem fn32 : FnFact Tryd.prog 32 35 [(4, [(0, 0), (1, 0), (2, 0), (3, 3), (4, 0), (5, 3), (6, 0), (7, 2), (8, 0)], [[], [], [0, 1], [0, 1, 2], [], [4], [4, 5], [0, 1, 2, 3, 4, 5, 6], [0, 1, 2, 3, 4, 5, 6, 7]]), (6, [(0, 0), (1, 0), (2, 0), (3, 0), (4, 0), (5, 0), (6, 0), (7, 3), (8, 0), (9, 0), (10, 0), (11, 3), (12, 0), (13, 0)], [[], [0], [0, 1], [0, 1, 2], [0, 1, 2], [0, 1, 2, 4], [0, 1, 2, 3, 4, 5], [0, 1, 2, 3, 4, 5, 6], [0, 1, 2], [0, 1, 2], [0, 1, 2, 8, 9], [0, 1, 2, 8, 9, 10], [0, 1, 2, 3, 4, 5, 6, 7, 8, 9, 10, 11], [0, 1, 2, 3, 4, 5, 6, 7, 8, 9, 10, 11, 12]])] [(ResultVar.tmp 4)] cd32 := ⟨by kernel_rfl, ⟨Tryd.f32, Tryd.func32, by kernel_rfl, by rfl, Tryd.ntmps32, congrArg Array.toList Tryd.results32⟩⟩
/-- examiner/examinerref42.Closed -/
def cd35 : CC := (.seq (.reg [⟨some 2, (Op.box 24 (Operand.tmp 0)), none⟩,
  ⟨some 4, (Op.assign (Operand.const (Value.slice none 0 0))), none⟩])
 (.seq (.reg [⟨some 9, (Op.fieldAddr 24 (Operand.tmp 2) 0), none⟩,
  ⟨some 10, (Op.load 3 (Operand.tmp 9)), none⟩,
  ⟨some 11, (Op.makeSlice 133 (Operand.tmp 10) (Operand.tmp 10)), none⟩,
  ⟨some 5, (Op.assign (Operand.tmp 11)), none⟩])
 (.seq (.reg [⟨some 12, (Op.move (Operand.tmp 1)), none⟩,
  ⟨some 13, (Op.call { callee := (Callee.value (Operand.func 30)), args := #[(Operand.tmp 12)], argTypes := #[27] }), none⟩,
  ⟨some 6, (Op.assign (Operand.tmp 13)), none⟩])
 (.seq (.seq (.reg [⟨some 7, (Op.assign (Operand.const (Value.int IntKind.i64 0))), none⟩])
 (.block 0 (.loop (.seq (.seq (.reg [⟨some 14, (Op.move (Operand.tmp 7)), none⟩,
  ⟨some 15, (Op.move (Operand.tmp 6)), none⟩,
  ⟨some 16, (Op.call { callee := (Callee.builtin Builtin.len), args := #[(Operand.tmp 15)], argTypes := #[27] }), none⟩,
  ⟨some 17, (Op.binOp BinOp.lss 3 (Operand.tmp 14) (Operand.tmp 16) 3), none⟩])
 (.cond (Operand.tmp 17) .skip (.exit 0)))
 (.seq (.block 1 (.seq (.reg [⟨some 20, (Op.move (Operand.tmp 5)), none⟩,
  ⟨some 21, (Op.move (Operand.tmp 6)), none⟩,
  ⟨some 22, (Op.move (Operand.tmp 7)), none⟩,
  ⟨some 23, (Op.indexAddr 27 (Operand.tmp 21) (Operand.tmp 22)), none⟩,
  ⟨some 24, (Op.load 3 (Operand.tmp 23)), none⟩,
  ⟨some 25, (Op.indexAddr 133 (Operand.tmp 20) (Operand.tmp 24)), none⟩,
  ⟨none, (Op.store 4 (Operand.tmp 25) (Operand.const (Value.bool true))), none⟩])
 (.seq (.reg [⟨some 8, (Op.assign (Operand.const (Value.int IntKind.i64 0))), none⟩])
 (.block 2 (.loop (.seq (.seq (.reg [⟨some 26, (Op.move (Operand.tmp 8)), none⟩,
  ⟨some 27, (Op.fieldAddr 24 (Operand.tmp 2) 4), none⟩,
  ⟨some 28, (Op.load 22 (Operand.tmp 27)), none⟩,
  ⟨some 29, (Op.call { callee := (Callee.builtin Builtin.len), args := #[(Operand.tmp 28)], argTypes := #[22] }), none⟩,
  ⟨some 30, (Op.binOp BinOp.lss 3 (Operand.tmp 26) (Operand.tmp 29) 3), none⟩])
 (.cond (Operand.tmp 30) .skip (.exit 2)))
 (.seq (.block 3 (.seq (.dr [⟨0, .F, ⟨some 33, (Op.fieldAddr 24 (Operand.tmp 2) 4), none⟩, [], false⟩,
  ⟨1, .R, ⟨some 34, (Op.load 22 (Operand.tmp 33)), none⟩, [], false⟩,
  ⟨2, .F, ⟨some 35, (Op.move (Operand.tmp 8)), none⟩, [], false⟩,
  ⟨3, .F, ⟨some 36, (Op.indexAddr 22 (Operand.tmp 34) (Operand.tmp 35)), none⟩, [], false⟩,
  ⟨4, .F, ⟨some 37, (Op.fieldAddr 113 (Operand.tmp 36) 0), none⟩, [], false⟩,
  ⟨5, .R, ⟨some 38, (Op.load 3 (Operand.tmp 37)), none⟩, [], false⟩,
  ⟨6, .F, ⟨some 39, (Op.move (Operand.tmp 6)), none⟩, [], false⟩,
  ⟨7, .F, ⟨some 40, (Op.move (Operand.tmp 7)), none⟩, [], false⟩,
  ⟨8, .F, ⟨some 41, (Op.indexAddr 27 (Operand.tmp 39) (Operand.tmp 40)), none⟩, [], false⟩,
  ⟨9, .R, ⟨some 42, (Op.load 3 (Operand.tmp 41)), none⟩, [], false⟩,
  ⟨10, .F, ⟨some 43, (Op.binOp BinOp.eql 3 (Operand.tmp 38) (Operand.tmp 42) 3), none⟩, [], false⟩,
  ⟨11, .F, ⟨some 44, (Op.move (Operand.tmp 43)), none⟩, [], false⟩,
  ⟨12, .F, ⟨some 45, (Op.fieldAddr 24 (Operand.tmp 2) 4), some (44, true)⟩, [], false⟩,
  ⟨13, .R, ⟨some 46, (Op.load 22 (Operand.tmp 45)), some (44, true)⟩, [], false⟩,
  ⟨14, .F, ⟨some 47, (Op.move (Operand.tmp 8)), some (44, true)⟩, [], false⟩,
  ⟨15, .F, ⟨some 48, (Op.indexAddr 22 (Operand.tmp 46) (Operand.tmp 47)), some (44, true)⟩, [], false⟩,
  ⟨16, .F, ⟨some 49, (Op.fieldAddr 113 (Operand.tmp 48) 1), some (44, true)⟩, [], false⟩,
  ⟨17, .R, ⟨some 50, (Op.load 3 (Operand.tmp 49)), some (44, true)⟩, [], false⟩,
  ⟨18, .F, ⟨some 51, (Op.binOp BinOp.eql 3 (Operand.tmp 50) (Operand.const (Value.int IntKind.i64 2)) 3), some (44, true)⟩, [], false⟩,
  ⟨19, .F, ⟨some 52, (Op.pick (Operand.tmp 44) (Operand.tmp 51) (Operand.const (Value.bool false))), none⟩, [], false⟩,
  ⟨20, .F, ⟨some 53, (Op.move (Operand.tmp 52)), none⟩, [], false⟩,
  ⟨21, .F, ⟨some 54, (Op.move (Operand.tmp 6)), some (53, true)⟩, [], false⟩,
  ⟨22, .F, ⟨some 55, (Op.fieldAddr 24 (Operand.tmp 2) 4), some (53, true)⟩, [], false⟩,
  ⟨23, .R, ⟨some 56, (Op.load 22 (Operand.tmp 55)), some (53, true)⟩, [], false⟩,
  ⟨24, .F, ⟨some 57, (Op.move (Operand.tmp 8)), some (53, true)⟩, [], false⟩,
  ⟨25, .F, ⟨some 58, (Op.indexAddr 22 (Operand.tmp 56) (Operand.tmp 57)), some (53, true)⟩, [], false⟩,
  ⟨26, .F, ⟨some 59, (Op.fieldAddr 113 (Operand.tmp 58) 3), some (53, true)⟩, [], false⟩,
  ⟨27, .R, ⟨some 60, (Op.load 3 (Operand.tmp 59)), some (53, true)⟩, [], false⟩,
  ⟨28, .E, ⟨some 61, (Op.call { callee := (Callee.value (Operand.func 76)), args := #[(Operand.tmp 54), (Operand.tmp 60)], argTypes := #[27, 3] }), some (53, true)⟩, [], false⟩,
  ⟨29, .F, ⟨some 62, (Op.unOp UnOp.not 4 (Operand.tmp 61)), some (53, true)⟩, [], false⟩,
  ⟨30, .F, ⟨some 63, (Op.pick (Operand.tmp 53) (Operand.tmp 62) (Operand.const (Value.bool false))), none⟩, [], false⟩])
 (.cond (Operand.tmp 63) (.reg [⟨some 64, (Op.move (Operand.tmp 6)), none⟩,
  ⟨some 65, (Op.fieldAddr 24 (Operand.tmp 2) 4), none⟩,
  ⟨some 66, (Op.load 22 (Operand.tmp 65)), none⟩,
  ⟨some 67, (Op.move (Operand.tmp 8)), none⟩,
  ⟨some 68, (Op.indexAddr 22 (Operand.tmp 66) (Operand.tmp 67)), none⟩,
  ⟨some 69, (Op.fieldAddr 113 (Operand.tmp 68) 3), none⟩,
  ⟨some 70, (Op.load 3 (Operand.tmp 69)), none⟩,
  ⟨some 71, (Op.buildSlice 27 1 #[(0, (Operand.tmp 70))]), none⟩,
  ⟨some 72, (Op.call { callee := (Callee.builtin Builtin.append), args := #[(Operand.tmp 64), (Operand.tmp 71)], argTypes := #[27, 27] }), none⟩,
  ⟨some 6, (Op.assign (Operand.tmp 72)), none⟩]) .skip)))
 (.reg [⟨some 31, (Op.move (Operand.tmp 8)), none⟩,
  ⟨some 32, (Op.binOp BinOp.add 3 (Operand.tmp 31) (Operand.const (Value.int IntKind.i64 1)) 3), none⟩,
  ⟨some 8, (Op.assign (Operand.tmp 32)), none⟩]))))))))
 (.reg [⟨some 18, (Op.move (Operand.tmp 7)), none⟩,
  ⟨some 19, (Op.binOp BinOp.add 3 (Operand.tmp 18) (Operand.const (Value.int IntKind.i64 1)) 3), none⟩,
  ⟨some 7, (Op.assign (Operand.tmp 19)), none⟩]))))))
 (.seq (.reg [⟨some 73, (Op.move (Operand.tmp 5)), none⟩,
  ⟨some 74, (Op.call { callee := (Callee.value (Operand.func 81)), args := #[(Operand.tmp 73)], argTypes := #[133] }), none⟩,
  ⟨some 4, (Op.assign (Operand.tmp 74)), none⟩])
 .ret)))))
theorem fn35 : FnFact Tryd.prog 35 75 [(10, [(0, 0), (1, 3), (2, 0), (3, 0), (4, 0), (5, 3), (6, 0), (7, 0), (8, 0), (9, 3), (10, 0), (11, 0), (12, 0), (13, 3), (14, 0), (15, 0), (16, 0), (17, 3), (18, 0), (19, 0), (20, 0), (21, 0), (22, 0), (23, 3), (24, 0), (25, 0), (26, 0), (27, 3), (28, 2), (29, 0), (30, 0)], [[], [0], [], [0, 1, 2], [0, 1, 2, 3], [0, 1, 2, 3, 4], [], [], [6, 7], [6, 7, 8], [0, 1, 2, 3, 4, 5, 6, 7, 8, 9], [0, 1, 2, 3, 4, 5, 6, 7, 8, 9, 10], [0, 1, 2, 3, 4, 5, 6, 7, 8, 9, 10, 11], [0, 1, 2, 3, 4, 5, 6, 7, 8, 9, 10, 11, 12], [0, 1, 2, 3, 4, 5, 6, 7, 8, 9, 10, 11], [0, 1, 2, 3, 4, 5, 6, 7, 8, 9, 10, 11, 12, 13, 14], [0, 1, 2, 3, 4, 5, 6, 7, 8, 9, 10, 11, 12, 13, 14, 15], [0, 1, 2, 3, 4, 5, 6, 7, 8, 9, 10, 11, 12, 13, 14, 15, 16], [0, 1, 2, 3, 4, 5, 6, 7, 8, 9, 10, 11, 12, 13, 14, 15, 16, 17], [0, 1, 2, 3, 4, 5, 6, 7, 8, 9, 10, 11, 12, 13, 14, 15, 16, 17, 18], [0, 1, 2, 3, 4, 5, 6, 7, 8, 9, 10, 11, 12, 13, 14, 15, 16, 17, 18, 19], [0, 1, 2, 3, 4, 5, 6, 7, 8, 9, 10, 11, 12, 13, 14, 15, 16, 17, 18, 19, 20], [0, 1, 2, 3, 4, 5, 6, 7, 8, 9, 10, 11, 12, 13, 14, 15, 16, 17, 18, 19, 20], [0, 1, 2, 3, 4, 5, 6, 7, 8, 9, 10, 11, 12, 13, 14, 15, 16, 17, 18, 19, 20, 22], [0, 1, 2, 3, 4, 5, 6, 7, 8, 9, 10, 11, 12, 13, 14, 15, 16, 17, 18, 19, 20], [0, 1, 2, 3, 4, 5, 6, 7, 8, 9, 10, 11, 12, 13, 14, 15, 16, 17, 18, 19, 20, 22, 23, 24], [0, 1, 2, 3, 4, 5, 6, 7, 8, 9, 10, 11, 12, 13, 14, 15, 16, 17, 18, 19, 20, 22, 23, 24, 25], [0, 1, 2, 3, 4, 5, 6, 7, 8, 9, 10, 11, 12, 13, 14, 15, 16, 17, 18, 19, 20, 22, 23, 24, 25, 26], [0, 1, 2, 3, 4, 5, 6, 7, 8, 9, 10, 11, 12, 13, 14, 15, 16, 17, 18, 19, 20, 21, 22, 23, 24, 25, 26, 27], [0, 1, 2, 3, 4, 5, 6, 7, 8, 9, 10, 11, 12, 13, 14, 15, 16, 17, 18, 19, 20, 21, 22, 23, 24, 25, 26, 27, 28], [0, 1, 2, 3, 4, 5, 6, 7, 8, 9, 10, 11, 12, 13, 14, 15, 16, 17, 18, 19, 20, 21, 22, 23, 24, 25, 26, 27, 28, 29]])] [(ResultVar.tmp 4)] cd35 := ⟨by kernel_rfl, ⟨Tryd.f35, Tryd.func35, by kernel_rfl, by rfl, Tryd.ntmps35, congrArg Array.toList Tryd.results35⟩⟩
/-- examiner/examinerbase.Within -/
def cd36 : CC := (.seq (.reg [⟨some 6, (Op.assign (Operand.const (Value.bool false))), none⟩])
 (.seq (.reg [⟨some 7, (Op.move (Operand.tmp 1)), none⟩,
  ⟨some 8, (Op.move (Operand.tmp 0)), none⟩,
  ⟨some 9, (Op.binOp BinOp.leq 3 (Operand.tmp 7) (Operand.tmp 8) 3), none⟩,
  ⟨some 10, (Op.move (Operand.tmp 9)), none⟩,
  ⟨some 11, (Op.move (Operand.tmp 0)), some (10, true)⟩,
  ⟨some 12, (Op.move (Operand.tmp 2)), some (10, true)⟩,
  ⟨some 13, (Op.binOp BinOp.leq 3 (Operand.tmp 11) (Operand.tmp 12) 3), some (10, true)⟩,
  ⟨some 14, (Op.pick (Operand.tmp 10) (Operand.tmp 13) (Operand.const (Value.bool false))), none⟩,
  ⟨some 6, (Op.assign (Operand.tmp 14)), none⟩])
 .ret))
theorem fn36 : FnFact Tryd.prog 36 15 [] [(ResultVar.tmp 6)] cd36 := ⟨by kernel_rfl, ⟨Tryd.f36, Tryd.func36, by kernel_rfl, by rfl, Tryd.ntmps36, congrArg Array.toList Tryd.results36⟩⟩
/-- examiner/examinerref42.Silence -/
def cd41 : CC := (.seq (.reg [⟨some 1, (Op.box 24 (Operand.tmp 0)), none⟩,
  ⟨some 2, (Op.assign (Operand.const (Value.int IntKind.i64 0))), none⟩])
 (.seq (.reg [⟨some 3, (Op.fieldAddr 24 (Operand.tmp 1) 2), none⟩,
  ⟨some 4, (Op.load 3 (Operand.tmp 3)), none⟩,
  ⟨some 5, (Op.fieldAddr 24 (Operand.tmp 1) 3), none⟩,
  ⟨some 6, (Op.load 3 (Operand.tmp 5)), none⟩,
  ⟨some 7, (Op.binOp BinOp.add 3 (Operand.tmp 4) (Operand.tmp 6) 3), none⟩,
  ⟨some 2, (Op.assign (Operand.tmp 7)), none⟩])
 .ret))
theorem fn41 : FnFact Tryd.prog 41 8 [] [(ResultVar.tmp 2)] cd41 := ⟨by kernel_rfl, ⟨Tryd.f41, Tryd.func41, by kernel_rfl, by rfl, Tryd.ntmps41, congrArg Array.toList Tryd.results41⟩⟩
/-- examiner/conform.CheckRelation -/
def cd43 : CC := (.seq (.reg [⟨some 3, (Op.box 24 (Operand.tmp 0)), none⟩,
  ⟨some 4, (Op.box 24 (Operand.tmp 1)), none⟩,
  ⟨some 6, (Op.assign (Operand.const (Value.int IntKind.i64 0))), none⟩,
  ⟨some 7, (Op.assign (Operand.const (Value.int IntKind.i64 0))), none⟩])
 (.seq (.seq (.reg [⟨some 26, (Op.load 24 (Operand.tmp 3)), none⟩,
  ⟨some 27, (Op.load 24 (Operand.tmp 4)), none⟩,
  ⟨some 28, (Op.call { callee := (Callee.value (Operand.func 58)), args := #[(Operand.tmp 26), (Operand.tmp 27)], argTypes := #[24, 24] }), none⟩,
  ⟨some 29, (Op.move (Operand.tmp 2)), none⟩,
  ⟨some 30, (Op.call { callee := (Callee.builtin Builtin.len), args := #[(Operand.tmp 29)], argTypes := #[32] }), none⟩,
  ⟨some 31, (Op.binOp BinOp.leq 3 (Operand.tmp 30) (Operand.const (Value.int IntKind.i64 300)) 3), none⟩,
  ⟨some 32, (Op.call { callee := (Callee.value (Operand.func 61)), args := #[(Operand.tmp 31), (Operand.const (Value.int IntKind.i64 2))], argTypes := #[4, 28] }), none⟩,
  ⟨some 33, (Op.buildSlice 165 2 #[(0, (Operand.tmp 28)), (1, (Operand.tmp 32))]), none⟩,
  ⟨some 34, (Op.call { callee := (Callee.value (Operand.func 82)), args := #[(Operand.tmp 33)], argTypes := #[165] }), none⟩,
  ⟨some 8, (Op.assign (Operand.tmp 34)), none⟩])
 (.seq (.reg [⟨some 35, (Op.move (Operand.tmp 8)), none⟩,
  ⟨some 36, (Op.binOp BinOp.neq 28 (Operand.tmp 35) (Operand.const (Value.int IntKind.i64 0)) 28), none⟩])
 (.cond (Operand.tmp 36) (.seq (.reg [⟨some 37, (Op.move (Operand.tmp 8)), none⟩,
  ⟨some 6, (Op.assign (Operand.const (Value.int IntKind.i64 0))), none⟩,
  ⟨some 7, (Op.assign (Operand.tmp 37)), none⟩])
 .ret) .skip)))
 (.seq (.reg [⟨some 38, (Op.load 24 (Operand.tmp 3)), none⟩,
  ⟨some 39, (Op.load 24 (Operand.tmp 4)), none⟩,
  ⟨some 40, (Op.call { callee := (Callee.value (Operand.func 59)), args := #[(Operand.tmp 38), (Operand.tmp 39)], argTypes := #[24, 24] }), none⟩,
  ⟨some 9, (Op.assign (Operand.tmp 40)), none⟩])
 (.seq (.reg [⟨some 41, (Op.move (Operand.tmp 9)), none⟩,
  ⟨some 42, (Op.nilCheck (Operand.tmp 41)), none⟩,
  ⟨some 43, (Op.fieldAddr 103 (Operand.tmp 42) 2), none⟩,
  ⟨some 44, (Op.load 100 (Operand.tmp 43)), none⟩,
  ⟨some 45, (Op.indexAddr 100 (Operand.tmp 44) (Operand.const (Value.int IntKind.i64 0))), none⟩,
  ⟨some 46, (Op.load 107 (Operand.tmp 45)), none⟩,
  ⟨some 10, (Op.alloc 107), none⟩,
  ⟨none, (Op.store 107 (Operand.tmp 10) (Operand.tmp 46)), none⟩])
 (.seq (.reg [⟨some 11, (Op.assign (Operand.const (Value.slice none 0 0))), none⟩])
 (.seq (.reg [⟨some 47, (Op.makeMap 101 none), none⟩,
  ⟨some 12, (Op.assign (Operand.tmp 47)), none⟩])
 (.seq (.seq (.reg [⟨some 48, (Op.move (Operand.tmp 2)), none⟩,
  ⟨some 49, (Op.call { callee := (Callee.builtin Builtin.len), args := #[(Operand.tmp 48)], argTypes := #[32] }), none⟩,
  ⟨some 50, (Op.move (Operand.const (Value.int IntKind.i64 0))), none⟩])
 (.block 0 (.loop (.seq (.reg [⟨some 51, (Op.binOp BinOp.lss 3 (Operand.tmp 50) (Operand.tmp 49) 3), none⟩])
 (.seq (.cond (Operand.tmp 51) .skip (.exit 0))
 (.seq (.block 1 (.seq (.reg [⟨some 52, (Op.move (Operand.tmp 50)), none⟩,
  ⟨some 53, (Op.indexAddr 32 (Operand.tmp 48) (Operand.tmp 50)), none⟩,
  ⟨some 54, (Op.load 41 (Operand.tmp 53)), none⟩,
  ⟨some 14, (Op.alloc 41), none⟩,
  ⟨some 13, (Op.assign (Operand.tmp 52)), none⟩,
  ⟨none, (Op.store 41 (Operand.tmp 14) (Operand.tmp 54)), none⟩])
 (.seq (.reg [⟨some 56, (Op.load 24 (Operand.tmp 3)), none⟩,
  ⟨some 57, (Op.fieldAddr 41 (Operand.tmp 14) 0), none⟩,
  ⟨some 58, (Op.load 27 (Operand.tmp 57)), none⟩,
  ⟨some 59, (Op.call { callee := (Callee.value (Operand.func 79)), args := #[(Operand.tmp 56), (Operand.tmp 58)], argTypes := #[24, 27] }), none⟩,
  ⟨some 55, (Op.move (Operand.tmp 59)), none⟩,
  ⟨some 60, (Op.extract (Operand.tmp 55) 0), none⟩,
  ⟨some 61, (Op.extract (Operand.tmp 55) 1), none⟩,
  ⟨some 15, (Op.assign (Operand.tmp 60)), none⟩,
  ⟨some 16, (Op.assign (Operand.tmp 61)), none⟩])
 (.seq (.reg [⟨some 63, (Op.load 24 (Operand.tmp 4)), none⟩,
  ⟨some 64, (Op.fieldAddr 41 (Operand.tmp 14) 1), none⟩,
  ⟨some 65, (Op.load 27 (Operand.tmp 64)), none⟩,
  ⟨some 66, (Op.call { callee := (Callee.value (Operand.func 79)), args := #[(Operand.tmp 63), (Operand.tmp 65)], argTypes := #[24, 27] }), none⟩,
  ⟨some 62, (Op.move (Operand.tmp 66)), none⟩,
  ⟨some 67, (Op.extract (Operand.tmp 62) 0), none⟩,
  ⟨some 68, (Op.extract (Operand.tmp 62) 1), none⟩,
  ⟨some 17, (Op.assign (Operand.tmp 67)), none⟩,
  ⟨some 18, (Op.assign (Operand.tmp 68)), none⟩])
 (.seq (.seq (.reg [⟨some 69, (Op.move (Operand.tmp 16)), none⟩,
  ⟨some 70, (Op.move (Operand.tmp 18)), none⟩,
  ⟨some 71, (Op.buildSlice 165 2 #[(0, (Operand.tmp 69)), (1, (Operand.tmp 70))]), none⟩,
  ⟨some 72, (Op.call { callee := (Callee.value (Operand.func 82)), args := #[(Operand.tmp 71)], argTypes := #[165] }), none⟩,
  ⟨some 16, (Op.assign (Operand.tmp 72)), none⟩])
 (.seq (.reg [⟨some 73, (Op.move (Operand.tmp 16)), none⟩,
  ⟨some 74, (Op.binOp BinOp.neq 28 (Operand.tmp 73) (Operand.const (Value.int IntKind.i64 0)) 28), none⟩])
 (.cond (Operand.tmp 74) (.seq (.reg [⟨some 75, (Op.move (Operand.tmp 13)), none⟩,
  ⟨some 76, (Op.move (Operand.tmp 16)), none⟩,
  ⟨some 6, (Op.assign (Operand.tmp 75)), none⟩,
  ⟨some 7, (Op.assign (Operand.tmp 76)), none⟩])
 .ret) .skip)))
 (.seq (.reg [⟨some 77, (Op.move (Operand.tmp 11)), none⟩,
  ⟨some 78, (Op.move (Operand.tmp 15)), none⟩,
  ⟨some 79, (Op.move (Operand.tmp 17)), none⟩,
  ⟨some 80, (Op.build 107 #[(0, (Operand.tmp 78)), (1, (Operand.tmp 79))]), none⟩,
  ⟨some 81, (Op.buildSlice 100 1 #[(0, (Operand.tmp 80))]), none⟩,
  ⟨some 82, (Op.call { callee := (Callee.builtin Builtin.append), args := #[(Operand.tmp 77), (Operand.tmp 81)], argTypes := #[100, 100] }), none⟩,
  ⟨some 11, (Op.assign (Operand.tmp 82)), none⟩])
 (.reg [⟨some 83, (Op.move (Operand.tmp 12)), none⟩,
  ⟨some 84, (Op.move (Operand.tmp 15)), none⟩,
  ⟨some 85, (Op.move (Operand.tmp 17)), none⟩,
  ⟨some 86, (Op.build 107 #[(0, (Operand.tmp 84)), (1, (Operand.tmp 85))]), none⟩,
  ⟨none, (Op.mapUpdate 101 (Operand.tmp 83) (Operand.tmp 86) (Operand.const (Value.bool true))), none⟩])))))))
 (.reg [⟨some 87, (Op.binOp BinOp.add 3 (Operand.tmp 50) (Operand.const (Value.int IntKind.i64 1)) 3), none⟩,
  ⟨some 50, (Op.move (Operand.tmp 87)), none⟩])))))))
 (.seq (.seq (.reg [⟨some 88, (Op.move (Operand.tmp 12)), none⟩,
  ⟨some 89, (Op.load 107 (Operand.tmp 10)), none⟩,
  ⟨some 90, (Op.lookup 101 (Operand.tmp 88) (Operand.tmp 89) false), none⟩,
  ⟨some 91, (Op.unOp UnOp.not 4 (Operand.tmp 90)), none⟩])
 (.cond (Operand.tmp 91) (.seq (.reg [⟨some 6, (Op.assign (Operand.const (Value.int IntKind.i64 0))), none⟩,
  ⟨some 7, (Op.assign (Operand.const (Value.int IntKind.i64 11))), none⟩])
 .ret) .skip))
 (.seq (.seq (.reg [⟨some 92, (Op.move (Operand.tmp 11)), none⟩,
  ⟨some 93, (Op.call { callee := (Callee.builtin Builtin.len), args := #[(Operand.tmp 92)], argTypes := #[100] }), none⟩,
  ⟨some 94, (Op.move (Operand.const (Value.int IntKind.i64 0))), none⟩])
 (.block 2 (.loop (.seq (.reg [⟨some 95, (Op.binOp BinOp.lss 3 (Operand.tmp 94) (Operand.tmp 93) 3), none⟩])
 (.seq (.cond (Operand.tmp 95) .skip (.exit 2))
 (.seq (.block 3 (.seq (.reg [⟨some 96, (Op.move (Operand.tmp 94)), none⟩,
  ⟨some 97, (Op.indexAddr 100 (Operand.tmp 92) (Operand.tmp 94)), none⟩,
  ⟨some 98, (Op.load 107 (Operand.tmp 97)), none⟩,
  ⟨some 20, (Op.alloc 107), none⟩,
  ⟨some 19, (Op.assign (Operand.tmp 96)), none⟩,
  ⟨none, (Op.store 107 (Operand.tmp 20) (Operand.tmp 98)), none⟩])
 (.seq (.dr [⟨0, .F, ⟨some 99, (Op.move (Operand.tmp 9)), none⟩, [], false⟩,
  ⟨1, .F, ⟨some 100, (Op.nilCheck (Operand.tmp 99)), none⟩, [], false⟩,
  ⟨2, .F, ⟨some 101, (Op.fieldAddr 103 (Operand.tmp 100) 0), none⟩, [], false⟩,
  ⟨3, .R, ⟨some 102, (Op.load 99 (Operand.tmp 101)), none⟩, [], false⟩,
  ⟨4, .F, ⟨some 103, (Op.fieldAddr 107 (Operand.tmp 20) 0), none⟩, [], false⟩,
  ⟨5, .R, ⟨some 104, (Op.load 105 (Operand.tmp 103)), none⟩, [], false⟩,
  ⟨7, .F, ⟨some 106, (Op.move (Operand.tmp 9)), none⟩, [], false⟩,
  ⟨8, .F, ⟨some 107, (Op.nilCheck (Operand.tmp 106)), none⟩, [], false⟩,
  ⟨9, .F, ⟨some 108, (Op.fieldAddr 103 (Operand.tmp 107) 1), none⟩, [], false⟩,
  ⟨10, .R, ⟨some 109, (Op.load 99 (Operand.tmp 108)), none⟩, [], false⟩,
  ⟨11, .F, ⟨some 110, (Op.fieldAddr 107 (Operand.tmp 20) 1), none⟩, [], false⟩,
  ⟨12, .R, ⟨some 111, (Op.load 105 (Operand.tmp 110)), none⟩, [], false⟩,
  ⟨15, .A, ⟨some 21, (Op.alloc 107), none⟩, [], false⟩,
  ⟨6, .E, ⟨some 105, (Op.call { callee := (Callee.value (Operand.func 75)), args := #[(Operand.tmp 102), (Operand.tmp 104)], argTypes := #[99, 105] }), none⟩, [], true⟩,
  ⟨13, .E, ⟨some 112, (Op.call { callee := (Callee.value (Operand.func 75)), args := #[(Operand.tmp 109), (Operand.tmp 111)], argTypes := #[99, 105] }), none⟩, [], false⟩,
  ⟨14, .F, ⟨some 113, (Op.build 107 #[(0, (Operand.tmp 105)), (1, (Operand.tmp 112))]), none⟩, [], false⟩,
  ⟨16, .E, ⟨none, (Op.store 107 (Operand.tmp 21) (Operand.tmp 113)), none⟩, [15], false⟩])
 (.seq (.seq (.reg [⟨some 115, (Op.move (Operand.tmp 9)), none⟩,
  ⟨some 116, (Op.load 107 (Operand.tmp 21)), none⟩,
  ⟨some 117, (Op.call { callee := (Callee.value (Operand.func 87)), args := #[(Operand.tmp 115), (Operand.tmp 116)], argTypes := #[95, 107] }), none⟩,
  ⟨some 114, (Op.move (Operand.tmp 117)), none⟩,
  ⟨some 118, (Op.extract (Operand.tmp 114) 0), none⟩,
  ⟨some 119, (Op.extract (Operand.tmp 114) 1), none⟩,
  ⟨some 22, (Op.assign (Operand.tmp 118)), none⟩,
  ⟨some 23, (Op.assign (Operand.tmp 119)), none⟩])
 (.seq (.reg [⟨some 120, (Op.move (Operand.tmp 23)), none⟩])
 (.cond (Operand.tmp 120) (.seq (.reg [⟨some 121, (Op.move (Operand.tmp 19)), none⟩,
  ⟨some 6, (Op.assign (Operand.tmp 121)), none⟩,
  ⟨some 7, (Op.assign (Operand.const (Value.int IntKind.i64 30))), none⟩])
 .ret) .skip)))
 (.seq (.reg [⟨some 122, (Op.move (Operand.tmp 9)), none⟩,
  ⟨some 123, (Op.nilCheck (Operand.tmp 122)), none⟩,
  ⟨some 124, (Op.fieldAddr 103 (Operand.tmp 123) 0), none⟩,
  ⟨some 125, (Op.load 99 (Operand.tmp 124)), none⟩,
  ⟨some 126, (Op.call { callee := (Callee.value (Operand.func 73)), args := #[(Operand.tmp 125)], argTypes := #[99] }), none⟩,
  ⟨some 127, (Op.binOp BinOp.add 3 (Operand.tmp 126) (Operand.const (Value.int IntKind.i64 1)) 3), none⟩,
  ⟨some 128, (Op.move (Operand.const (Value.int IntKind.i64 0))), none⟩])
 (.block 4 (.loop (.seq (.reg [⟨some 129, (Op.binOp BinOp.lss 3 (Operand.tmp 128) (Operand.tmp 127) 3), none⟩])
 (.seq (.cond (Operand.tmp 129) .skip (.exit 4))
 (.seq (.block 5 (.seq (.reg [⟨some 130, (Op.move (Operand.tmp 128)), none⟩,
  ⟨some 24, (Op.assign (Operand.tmp 130)), none⟩])
 (.seq (.dr [⟨0, .F, ⟨some 131, (Op.move (Operand.tmp 9)), none⟩, [], false⟩,
  ⟨1, .F, ⟨some 132, (Op.nilCheck (Operand.tmp 131)), none⟩, [], false⟩,
  ⟨2, .F, ⟨some 133, (Op.fieldAddr 103 (Operand.tmp 132) 1), none⟩, [], false⟩,
  ⟨3, .R, ⟨some 134, (Op.load 99 (Operand.tmp 133)), none⟩, [], false⟩,
  ⟨4, .F, ⟨some 135, (Op.fieldAddr 107 (Operand.tmp 21) 1), none⟩, [], false⟩,
  ⟨5, .R, ⟨some 136, (Op.load 105 (Operand.tmp 135)), none⟩, [], false⟩,
  ⟨6, .F, ⟨some 137, (Op.move (Operand.tmp 24)), none⟩, [], false⟩,
  ⟨7, .E, ⟨some 138, (Op.call { callee := (Callee.value (Operand.func 74)), args := #[(Operand.tmp 134), (Operand.tmp 136), (Operand.tmp 137)], argTypes := #[99, 105, 3] }), none⟩, [], false⟩,
  ⟨8, .F, ⟨some 25, (Op.assign (Operand.tmp 138)), none⟩, [], false⟩])
 (.seq (.dr [⟨0, .F, ⟨some 139, (Op.move (Operand.tmp 25)), none⟩, [], false⟩,
  ⟨1, .F, ⟨some 140, (Op.binOp BinOp.neq 105 (Operand.tmp 139) (Operand.const (Value.int IntKind.u64 0)) 105), none⟩, [], false⟩,
  ⟨2, .F, ⟨some 141, (Op.move (Operand.tmp 140)), none⟩, [], false⟩,
  ⟨3, .F, ⟨some 142, (Op.move (Operand.tmp 12)), some (141, true)⟩, [], false⟩,
  ⟨4, .F, ⟨some 143, (Op.move (Operand.tmp 9)), some (141, true)⟩, [], false⟩,
  ⟨5, .F, ⟨some 144, (Op.nilCheck (Operand.tmp 143)), some (141, true)⟩, [], false⟩,
  ⟨6, .F, ⟨some 145, (Op.fieldAddr 103 (Operand.tmp 144) 0), some (141, true)⟩, [], false⟩,
  ⟨7, .R, ⟨some 146, (Op.load 99 (Operand.tmp 145)), some (141, true)⟩, [], false⟩,
  ⟨8, .F, ⟨some 147, (Op.fieldAddr 107 (Operand.tmp 21) 0), some (141, true)⟩, [], false⟩,
  ⟨9, .R, ⟨some 148, (Op.load 105 (Operand.tmp 147)), some (141, true)⟩, [], false⟩,
  ⟨10, .F, ⟨some 149, (Op.move (Operand.tmp 24)), some (141, true)⟩, [], false⟩,
  ⟨12, .F, ⟨some 151, (Op.move (Operand.tmp 25)), some (141, true)⟩, [], false⟩,
  ⟨11, .E, ⟨some 150, (Op.call { callee := (Callee.value (Operand.func 74)), args := #[(Operand.tmp 146), (Operand.tmp 148), (Operand.tmp 149)], argTypes := #[99, 105, 3] }), some (141, true)⟩, [], false⟩,
  ⟨13, .F, ⟨some 152, (Op.build 107 #[(0, (Operand.tmp 150)), (1, (Operand.tmp 151))]), some (141, true)⟩, [], false⟩,
  ⟨14, .E, ⟨some 153, (Op.lookup 101 (Operand.tmp 142) (Operand.tmp 152) false), some (141, true)⟩, [], false⟩,
  ⟨15, .F, ⟨some 154, (Op.unOp UnOp.not 4 (Operand.tmp 153)), some (141, true)⟩, [], false⟩,
  ⟨16, .F, ⟨some 155, (Op.pick (Operand.tmp 141) (Operand.tmp 154) (Operand.const (Value.bool false))), none⟩, [], false⟩])
 (.cond (Operand.tmp 155) (.seq (.reg [⟨some 156, (Op.move (Operand.tmp 19)), none⟩,
  ⟨some 6, (Op.assign (Operand.tmp 156)), none⟩,
  ⟨some 7, (Op.assign (Operand.const (Value.int IntKind.i64 30))), none⟩])
 .ret) .skip)))))
 (.reg [⟨some 157, (Op.binOp BinOp.add 3 (Operand.tmp 128) (Operand.const (Value.int IntKind.i64 1)) 3), none⟩,
  ⟨some 128, (Op.move (Operand.tmp 157)), none⟩])))))))))))
 (.reg [⟨some 158, (Op.binOp BinOp.add 3 (Operand.tmp 94) (Operand.const (Value.int IntKind.i64 1)) 3), none⟩,
  ⟨some 94, (Op.move (Operand.tmp 158)), none⟩])))))))
 (.seq (.reg [⟨some 159, (Op.move (Operand.tmp 2)), none⟩,
  ⟨some 160, (Op.call { callee := (Callee.builtin Builtin.len), args := #[(Operand.tmp 159)], argTypes := #[32] }), none⟩,
  ⟨some 6, (Op.assign (Operand.tmp 160)), none⟩,
  ⟨some 7, (Op.assign (Operand.const (Value.int IntKind.i64 0))), none⟩])
 .ret))))))))))
theorem fn43 : FnFact Tryd.prog 43 161 [(24, [(0, 0), (1, 0), (2, 0), (3, 3), (4, 0), (5, 3), (7, 0), (8, 0), (9, 0), (10, 3), (11, 0), (12, 3), (15, 1), (6, 4), (13, 2), (14, 0), (16, 2)], [[], [0], [0, 1], [0, 1, 2], [], [4], [0, 1, 2, 3, 4, 5], [], [7], [7, 8], [7, 8, 9], [], [11], [0, 1, 2, 3, 4, 5, 6, 7, 8, 9, 10, 11, 12], [0, 1, 2, 3, 4, 5, 6, 7, 8, 9, 10, 11, 12, 13], [], [0, 1, 2, 3, 4, 5, 6, 7, 8, 9, 10, 11, 12, 13, 14, 15]]), (31, [(0, 0), (1, 0), (2, 0), (3, 3), (4, 0), (5, 3), (6, 0), (7, 2), (8, 0)], [[], [0], [0, 1], [0, 1, 2], [], [4], [], [0, 1, 2, 3, 4, 5, 6], [0, 1, 2, 3, 4, 5, 6, 7]]), (32, [(0, 0), (1, 0), (2, 0), (3, 0), (4, 0), (5, 0), (6, 0), (7, 3), (8, 0), (9, 3), (10, 0), (12, 0), (11, 2), (13, 0), (14, 2), (15, 0), (16, 0)], [[], [0], [0, 1], [0, 1, 2], [0, 1, 2], [0, 1, 2, 4], [0, 1, 2, 4, 5], [0, 1, 2, 4, 5, 6], [0, 1, 2], [0, 1, 2, 8], [0, 1, 2], [0, 1, 2, 4, 5, 6, 7, 8, 9, 10], [0, 1, 2], [0, 1, 2, 4, 5, 6, 7, 8, 9, 10, 11, 12], [0, 1, 2, 3, 4, 5, 6, 7, 8, 9, 10, 11, 12, 13], [0, 1, 2, 3, 4, 5, 6, 7, 8, 9, 10, 11, 12, 13, 14], [0, 1, 2, 3, 4, 5, 6, 7, 8, 9, 10, 11, 12, 13, 14, 15]])] [(ResultVar.tmp 6), (ResultVar.tmp 7)] cd43 := ⟨by kernel_rfl, ⟨Tryd.f43, Tryd.func43, by kernel_rfl, by rfl, Tryd.ntmps43, congrArg Array.toList Tryd.results43⟩⟩
/-- examiner/examinerlaw42.ownPairs -/
def cd44 : CC := (.seq (.reg [⟨some 2, (Op.assign (Operand.const (Value.slice none 0 0))), none⟩])
 (.seq (.reg [⟨some 3, (Op.assign (Operand.const (Value.slice none 0 0))), none⟩])
 (.seq (.seq (.reg [⟨some 4, (Op.assign (Operand.const (Value.int IntKind.i64 0))), none⟩])
 (.block 0 (.loop (.seq (.seq (.reg [⟨some 5, (Op.move (Operand.tmp 4)), none⟩,
  ⟨some 6, (Op.move (Operand.tmp 0)), none⟩,
  ⟨some 7, (Op.call { callee := (Callee.builtin Builtin.len), args := #[(Operand.tmp 6)], argTypes := #[32] }), none⟩,
  ⟨some 8, (Op.binOp BinOp.lss 3 (Operand.tmp 5) (Operand.tmp 7) 3), none⟩])
 (.cond (Operand.tmp 8) .skip (.exit 0)))
 (.seq (.block 1 (.dr [⟨0, .F, ⟨some 11, (Op.move (Operand.tmp 3)), none⟩, [], false⟩,
  ⟨1, .F, ⟨some 12, (Op.move (Operand.tmp 0)), none⟩, [], false⟩,
  ⟨2, .F, ⟨some 13, (Op.move (Operand.tmp 4)), none⟩, [], false⟩,
  ⟨3, .F, ⟨some 14, (Op.indexAddr 32 (Operand.tmp 12) (Operand.tmp 13)), none⟩, [], false⟩,
  ⟨4, .F, ⟨some 15, (Op.fieldAddr 41 (Operand.tmp 14) 0), none⟩, [], false⟩,
  ⟨5, .R, ⟨some 16, (Op.load 27 (Operand.tmp 15)), none⟩, [], false⟩,
  ⟨7, .F, ⟨some 18, (Op.move (Operand.tmp 0)), none⟩, [], false⟩,
  ⟨8, .F, ⟨some 19, (Op.move (Operand.tmp 4)), none⟩, [], false⟩,
  ⟨9, .F, ⟨some 20, (Op.indexAddr 32 (Operand.tmp 18) (Operand.tmp 19)), none⟩, [], false⟩,
  ⟨10, .F, ⟨some 21, (Op.fieldAddr 41 (Operand.tmp 20) 1), none⟩, [], false⟩,
  ⟨11, .R, ⟨some 22, (Op.load 27 (Operand.tmp 21)), none⟩, [], false⟩,
  ⟨6, .E, ⟨some 17, (Op.call { callee := (Callee.value (Operand.func 30)), args := #[(Operand.tmp 16)], argTypes := #[27] }), none⟩, [], true⟩,
  ⟨12, .E, ⟨some 23, (Op.call { callee := (Callee.value (Operand.func 30)), args := #[(Operand.tmp 22)], argTypes := #[27] }), none⟩, [], false⟩,
  ⟨13, .F, ⟨some 24, (Op.build 41 #[(0, (Operand.tmp 17)), (1, (Operand.tmp 23))]), none⟩, [], false⟩,
  ⟨14, .F, ⟨some 25, (Op.buildSlice 32 1 #[(0, (Operand.tmp 24))]), none⟩, [], false⟩,
  ⟨15, .E, ⟨some 26, (Op.call { callee := (Callee.builtin Builtin.append), args := #[(Operand.tmp 11), (Operand.tmp 25)], argTypes := #[32, 32] }), none⟩, [], false⟩,
  ⟨16, .F, ⟨some 3, (Op.assign (Operand.tmp 26)), none⟩, [], false⟩]))
 (.reg [⟨some 9, (Op.move (Operand.tmp 4)), none⟩,
  ⟨some 10, (Op.binOp BinOp.add 3 (Operand.tmp 9) (Operand.const (Value.int IntKind.i64 1)) 3), none⟩,
  ⟨some 4, (Op.assign (Operand.tmp 10)), none⟩]))))))
 (.seq (.reg [⟨some 27, (Op.move (Operand.tmp 3)), none⟩,
  ⟨some 2, (Op.assign (Operand.tmp 27)), none⟩])
 .ret))))
theorem fn44 : FnFact Tryd.prog 44 28 [(5, [(0, 0), (1, 0), (2, 0), (3, 0), (4, 0), (5, 3), (7, 0), (8, 0), (9, 0), (10, 0), (11, 3), (6, 4), (12, 2), (13, 0), (14, 0), (15, 2), (16, 0)], [[], [], [], [1, 2], [1, 2, 3], [1, 2, 3, 4], [1, 2, 3, 4, 5], [], [], [7, 8], [7, 8, 9], [7, 8, 9, 10], [1, 2, 3, 4, 5, 6, 7, 8, 9, 10, 11], [1, 2, 3, 4, 5, 6, 7, 8, 9, 10, 11, 12], [1, 2, 3, 4, 5, 6, 7, 8, 9, 10, 11, 12, 13], [0, 1, 2, 3, 4, 5, 6, 7, 8, 9, 10, 11, 12, 13, 14], [0, 1, 2, 3, 4, 5, 6, 7, 8, 9, 10, 11, 12, 13, 14, 15]])] [(ResultVar.tmp 2)] cd44 := ⟨by kernel_rfl, ⟨Tryd.f44, Tryd.func44, by kernel_rfl, by rfl, Tryd.ntmps44, congrArg Array.toList Tryd.results44⟩⟩
/-- examiner/examinerref42.RelationErr -/
def cd45 : CC := (.seq (.reg [⟨some 3, (Op.box 24 (Operand.tmp 0)), none⟩,
  ⟨some 4, (Op.box 24 (Operand.tmp 1)), none⟩,
  ⟨some 6, (Op.assign (Operand.const (Value.int IntKind.i64 0))), none⟩,
  ⟨some 7, (Op.assign (Operand.const (Value.int IntKind.i64 0))), none⟩])
 (.seq (.seq (.reg [⟨some 15, (Op.move (Operand.tmp 2)), none⟩,
  ⟨some 16, (Op.call { callee := (Callee.builtin Builtin.len), args := #[(Operand.tmp 15)], argTypes := #[32] }), none⟩,
  ⟨some 17, (Op.binOp BinOp.gtr 3 (Operand.tmp 16) (Operand.const (Value.int IntKind.i64 300)) 3), none⟩])
 (.cond (Operand.tmp 17) (.seq (.reg [⟨some 6, (Op.assign (Operand.const (Value.int IntKind.i64 0))), none⟩,
  ⟨some 7, (Op.assign (Operand.const (Value.int IntKind.i64 2))), none⟩])
 .ret) .skip))
 (.seq (.seq (.reg [⟨some 8, (Op.assign (Operand.const (Value.int IntKind.i64 0))), none⟩])
 (.block 0 (.loop (.seq (.seq (.reg [⟨some 18, (Op.move (Operand.tmp 8)), none⟩,
  ⟨some 19, (Op.move (Operand.tmp 2)), none⟩,
  ⟨some 20, (Op.call { callee := (Callee.builtin Builtin.len), args := #[(Operand.tmp 19)], argTypes := #[32] }), none⟩,
  ⟨some 21, (Op.binOp BinOp.lss 3 (Operand.tmp 18) (Operand.tmp 20) 3), none⟩])
 (.cond (Operand.tmp 21) .skip (.exit 0)))
 (.seq (.block 1 (.seq (.seq (.dr [⟨0, .R, ⟨some 24, (Op.load 24 (Operand.tmp 3)), none⟩, [], false⟩,
  ⟨1, .F, ⟨some 25, (Op.move (Operand.tmp 2)), none⟩, [], false⟩,
  ⟨2, .F, ⟨some 26, (Op.move (Operand.tmp 8)), none⟩, [], false⟩,
  ⟨3, .F, ⟨some 27, (Op.indexAddr 32 (Operand.tmp 25) (Operand.tmp 26)), none⟩, [], false⟩,
  ⟨4, .F, ⟨some 28, (Op.fieldAddr 41 (Operand.tmp 27) 0), none⟩, [], false⟩,
  ⟨5, .R, ⟨some 29, (Op.load 27 (Operand.tmp 28)), none⟩, [], false⟩,
  ⟨6, .E, ⟨some 30, (Op.call { callee := (Callee.value (Operand.func 32)), args := #[(Operand.tmp 24), (Operand.tmp 29)], argTypes := #[24, 27] }), none⟩, [], false⟩,
  ⟨7, .F, ⟨some 9, (Op.assign (Operand.tmp 30)), none⟩, [], false⟩])
 (.seq (.reg [⟨some 31, (Op.move (Operand.tmp 9)), none⟩,
  ⟨some 32, (Op.binOp BinOp.neq 3 (Operand.tmp 31) (Operand.const (Value.int IntKind.i64 0)) 3), none⟩])
 (.cond (Operand.tmp 32) (.seq (.reg [⟨some 33, (Op.move (Operand.tmp 8)), none⟩,
  ⟨some 34, (Op.move (Operand.tmp 9)), none⟩,
  ⟨some 6, (Op.assign (Operand.tmp 33)), none⟩,
  ⟨some 7, (Op.assign (Operand.tmp 34)), none⟩])
 .ret) .skip)))
 (.seq (.dr [⟨0, .R, ⟨some 35, (Op.load 24 (Operand.tmp 4)), none⟩, [], false⟩,
  ⟨1, .F, ⟨some 36, (Op.move (Operand.tmp 2)), none⟩, [], false⟩,
  ⟨2, .F, ⟨some 37, (Op.move (Operand.tmp 8)), none⟩, [], false⟩,
  ⟨3, .F, ⟨some 38, (Op.indexAddr 32 (Operand.tmp 36) (Operand.tmp 37)), none⟩, [], false⟩,
  ⟨4, .F, ⟨some 39, (Op.fieldAddr 41 (Operand.tmp 38) 1), none⟩, [], false⟩,
  ⟨5, .R, ⟨some 40, (Op.load 27 (Operand.tmp 39)), none⟩, [], false⟩,
  ⟨6, .E, ⟨some 41, (Op.call { callee := (Callee.value (Operand.func 32)), args := #[(Operand.tmp 35), (Operand.tmp 40)], argTypes := #[24, 27] }), none⟩, [], false⟩,
  ⟨7, .F, ⟨some 10, (Op.assign (Operand.tmp 41)), none⟩, [], false⟩])
 (.seq (.reg [⟨some 42, (Op.move (Operand.tmp 10)), none⟩,
  ⟨some 43, (Op.binOp BinOp.neq 3 (Operand.tmp 42) (Operand.const (Value.int IntKind.i64 0)) 3), none⟩])
 (.cond (Operand.tmp 43) (.seq (.reg [⟨some 44, (Op.move (Operand.tmp 8)), none⟩,
  ⟨some 45, (Op.move (Operand.tmp 10)), none⟩,
  ⟨some 6, (Op.assign (Operand.tmp 44)), none⟩,
  ⟨some 7, (Op.assign (Operand.tmp 45)), none⟩])
 .ret) .skip)))))
 (.reg [⟨some 22, (Op.move (Operand.tmp 8)), none⟩,
  ⟨some 23, (Op.binOp BinOp.add 3 (Operand.tmp 22) (Operand.const (Value.int IntKind.i64 1)) 3), none⟩,
  ⟨some 8, (Op.assign (Operand.tmp 23)), none⟩]))))))
 (.seq (.seq (.dr [⟨0, .F, ⟨some 46, (Op.move (Operand.tmp 2)), none⟩, [], false⟩,
  ⟨1, .R, ⟨some 47, (Op.load 24 (Operand.tmp 3)), none⟩, [], false⟩,
  ⟨3, .F, ⟨some 49, (Op.load 24 (Operand.tmp 4)), none⟩, [], false⟩,
  ⟨2, .E, ⟨some 48, (Op.call { callee := (Callee.value (Operand.func 63)), args := #[(Operand.tmp 47)], argTypes := #[24] }), none⟩, [], false⟩,
  ⟨4, .E, ⟨some 50, (Op.call { callee := (Callee.value (Operand.func 63)), args := #[(Operand.tmp 49)], argTypes := #[24] }), none⟩, [], false⟩,
  ⟨5, .E, ⟨some 51, (Op.call { callee := (Callee.value (Operand.func 88)), args := #[(Operand.tmp 46), (Operand.tmp 48), (Operand.tmp 50)], argTypes := #[32, 27, 27] }), none⟩, [], false⟩,
  ⟨6, .F, ⟨some 52, (Op.unOp UnOp.not 4 (Operand.tmp 51)), none⟩, [], false⟩])
 (.cond (Operand.tmp 52) (.seq (.reg [⟨some 6, (Op.assign (Operand.const (Value.int IntKind.i64 0))), none⟩,
  ⟨some 7, (Op.assign (Operand.const (Value.int IntKind.i64 11))), none⟩])
 .ret) .skip))
 (.seq (.seq (.reg [⟨some 11, (Op.assign (Operand.const (Value.int IntKind.i64 0))), none⟩])
 (.block 2 (.loop (.seq (.seq (.reg [⟨some 53, (Op.move (Operand.tmp 11)), none⟩,
  ⟨some 54, (Op.move (Operand.tmp 2)), none⟩,
  ⟨some 55, (Op.call { callee := (Callee.builtin Builtin.len), args := #[(Operand.tmp 54)], argTypes := #[32] }), none⟩,
  ⟨some 56, (Op.binOp BinOp.lss 3 (Operand.tmp 53) (Operand.tmp 55) 3), none⟩])
 (.cond (Operand.tmp 56) .skip (.exit 2)))
 (.seq (.block 3 (.seq (.reg [⟨some 12, (Op.assign (Operand.const (Value.int IntKind.i64 0))), none⟩])
 (.block 4 (.loop (.seq (.seq (.reg [⟨some 59, (Op.move (Operand.tmp 12)), none⟩,
  ⟨some 60, (Op.load 24 (Operand.tmp 3)), none⟩,
  ⟨some 61, (Op.call { callee := (Callee.value (Operand.func 41)), args := #[(Operand.tmp 60)], argTypes := #[24] }), none⟩,
  ⟨some 62, (Op.binOp BinOp.leq 3 (Operand.tmp 59) (Operand.tmp 61) 3), none⟩])
 (.cond (Operand.tmp 62) .skip (.exit 4)))
 (.seq (.block 5 (.seq (.dr [⟨0, .F, ⟨some 65, (Op.load 24 (Operand.tmp 3)), none⟩, [], false⟩,
  ⟨1, .R, ⟨some 66, (Op.load 24 (Operand.tmp 3)), none⟩, [], false⟩,
  ⟨2, .F, ⟨some 67, (Op.move (Operand.tmp 2)), none⟩, [], false⟩,
  ⟨3, .F, ⟨some 68, (Op.move (Operand.tmp 11)), none⟩, [], false⟩,
  ⟨4, .F, ⟨some 69, (Op.indexAddr 32 (Operand.tmp 67) (Operand.tmp 68)), none⟩, [], false⟩,
  ⟨5, .F, ⟨some 70, (Op.fieldAddr 41 (Operand.tmp 69) 0), none⟩, [], false⟩,
  ⟨6, .R, ⟨some 71, (Op.load 27 (Operand.tmp 70)), none⟩, [], false⟩,
  ⟨8, .F, ⟨some 73, (Op.move (Operand.tmp 12)), none⟩, [], false⟩,
  ⟨10, .F, ⟨some 75, (Op.load 24 (Operand.tmp 4)), none⟩, [], false⟩,
  ⟨11, .F, ⟨some 76, (Op.load 24 (Operand.tmp 4)), none⟩, [], false⟩,
  ⟨12, .F, ⟨some 77, (Op.move (Operand.tmp 2)), none⟩, [], false⟩,
  ⟨13, .F, ⟨some 78, (Op.move (Operand.tmp 11)), none⟩, [], false⟩,
  ⟨14, .F, ⟨some 79, (Op.indexAddr 32 (Operand.tmp 77) (Operand.tmp 78)), none⟩, [], false⟩,
  ⟨15, .F, ⟨some 80, (Op.fieldAddr 41 (Operand.tmp 79) 1), none⟩, [], false⟩,
  ⟨16, .R, ⟨some 81, (Op.load 27 (Operand.tmp 80)), none⟩, [], false⟩,
  ⟨18, .F, ⟨some 83, (Op.move (Operand.tmp 12)), none⟩, [], false⟩,
  ⟨7, .E, ⟨some 72, (Op.call { callee := (Callee.value (Operand.func 35)), args := #[(Operand.tmp 66), (Operand.tmp 71)], argTypes := #[24, 27] }), none⟩, [], true⟩,
  ⟨9, .E, ⟨some 74, (Op.call { callee := (Callee.value (Operand.func 64)), args := #[(Operand.tmp 65), (Operand.tmp 72), (Operand.tmp 73)], argTypes := #[24, 27, 3] }), none⟩, [], true⟩,
  ⟨17, .E, ⟨some 82, (Op.call { callee := (Callee.value (Operand.func 35)), args := #[(Operand.tmp 76), (Operand.tmp 81)], argTypes := #[24, 27] }), none⟩, [], false⟩,
  ⟨19, .E, ⟨some 84, (Op.call { callee := (Callee.value (Operand.func 64)), args := #[(Operand.tmp 75), (Operand.tmp 82), (Operand.tmp 83)], argTypes := #[24, 27, 3] }), none⟩, [], false⟩,
  ⟨20, .F, ⟨some 13, (Op.assign (Operand.tmp 74)), none⟩, [], false⟩,
  ⟨21, .F, ⟨some 14, (Op.assign (Operand.tmp 84)), none⟩, [], false⟩])
 (.seq (.reg [⟨some 85, (Op.move (Operand.tmp 14)), none⟩,
  ⟨some 86, (Op.call { callee := (Callee.builtin Builtin.len), args := #[(Operand.tmp 85)], argTypes := #[27] }), none⟩,
  ⟨some 87, (Op.binOp BinOp.eql 3 (Operand.tmp 86) (Operand.const (Value.int IntKind.i64 0)) 3), none⟩,
  ⟨some 88, (Op.move (Operand.tmp 87)), none⟩,
  ⟨some 89, (Op.move (Operand.tmp 12)), some (88, true)⟩,
  ⟨some 90, (Op.fieldAddr 24 (Operand.tmp 3) 2), some (88, true)⟩,
  ⟨some 91, (Op.load 3 (Operand.tmp 90)), some (88, true)⟩,
  ⟨some 92, (Op.binOp BinOp.geq 3 (Operand.tmp 89) (Operand.tmp 91) 3), some (88, true)⟩,
  ⟨some 93, (Op.pick (Operand.tmp 88) (Operand.tmp 92) (Operand.const (Value.bool false))), none⟩,
  ⟨some 94, (Op.move (Operand.tmp 93)), none⟩,
  ⟨some 95, (Op.move (Operand.tmp 13)), some (94, true)⟩,
  ⟨some 96, (Op.call { callee := (Callee.builtin Builtin.len), args := #[(Operand.tmp 95)], argTypes := #[27] }), some (94, true)⟩,
  ⟨some 97, (Op.binOp BinOp.gtr 3 (Operand.tmp 96) (Operand.const (Value.int IntKind.i64 0)) 3), some (94, true)⟩,
  ⟨some 98, (Op.pick (Operand.tmp 94) (Operand.tmp 97) (Operand.const (Value.bool false))), none⟩,
  ⟨some 99, (Op.move (Operand.tmp 98)), none⟩,
  ⟨some 100, (Op.move (Operand.tmp 14)), some (99, false)⟩,
  ⟨some 101, (Op.call { callee := (Callee.builtin Builtin.len), args := #[(Operand.tmp 100)], argTypes := #[27] }), some (99, false)⟩,
  ⟨some 102, (Op.binOp BinOp.gtr 3 (Operand.tmp 101) (Operand.const (Value.int IntKind.i64 0)) 3), some (99, false)⟩,
  ⟨some 103, (Op.move (Operand.tmp 102)), some (99, false)⟩,
  ⟨some 104, (Op.move (Operand.tmp 2)), some (103, true)⟩,
  ⟨some 105, (Op.move (Operand.tmp 13)), some (103, true)⟩,
  ⟨some 106, (Op.move (Operand.tmp 14)), some (103, true)⟩,
  ⟨some 107, (Op.call { callee := (Callee.value (Operand.func 88)), args := #[(Operand.tmp 104), (Operand.tmp 105), (Operand.tmp 106)], argTypes := #[32, 27, 27] }), some (103, true)⟩,
  ⟨some 108, (Op.unOp UnOp.not 4 (Operand.tmp 107)), some (103, true)⟩,
  ⟨some 109, (Op.pick (Operand.tmp 103) (Operand.tmp 108) (Operand.const (Value.bool false))), some (99, false)⟩,
  ⟨some 110, (Op.pick (Operand.tmp 99) (Operand.const (Value.bool true)) (Operand.tmp 109)), none⟩])
 (.cond (Operand.tmp 110) (.seq (.reg [⟨some 111, (Op.move (Operand.tmp 11)), none⟩,
  ⟨some 6, (Op.assign (Operand.tmp 111)), none⟩,
  ⟨some 7, (Op.assign (Operand.const (Value.int IntKind.i64 30))), none⟩])
 .ret) .skip))))
 (.reg [⟨some 63, (Op.move (Operand.tmp 12)), none⟩,
  ⟨some 64, (Op.binOp BinOp.add 3 (Operand.tmp 63) (Operand.const (Value.int IntKind.i64 1)) 3), none⟩,
  ⟨some 12, (Op.assign (Operand.tmp 64)), none⟩])))))))
 (.reg [⟨some 57, (Op.move (Operand.tmp 11)), none⟩,
  ⟨some 58, (Op.binOp BinOp.add 3 (Operand.tmp 57) (Operand.const (Value.int IntKind.i64 1)) 3), none⟩,
  ⟨some 11, (Op.assign (Operand.tmp 58)), none⟩]))))))
 (.seq (.reg [⟨some 112, (Op.move (Operand.tmp 2)), none⟩,
  ⟨some 113, (Op.call { callee := (Callee.builtin Builtin.len), args := #[(Operand.tmp 112)], argTypes := #[32] }), none⟩,
  ⟨some 6, (Op.assign (Operand.tmp 113)), none⟩,
  ⟨some 7, (Op.assign (Operand.const (Value.int IntKind.i64 0))), none⟩])
 .ret))))))
theorem fn45 : FnFact Tryd.prog 45 114 [(6, [(0, 3), (1, 0), (2, 0), (3, 0), (4, 0), (5, 3), (6, 2), (7, 0)], [[], [], [], [1, 2], [1, 2, 3], [1, 2, 3, 4], [0, 1, 2, 3, 4, 5], [0, 1, 2, 3, 4, 5, 6]]), (9, [(0, 3), (1, 0), (2, 0), (3, 0), (4, 0), (5, 3), (6, 2), (7, 0)], [[], [], [], [1, 2], [1, 2, 3], [1, 2, 3, 4], [0, 1, 2, 3, 4, 5], [0, 1, 2, 3, 4, 5, 6]]), (12, [(0, 0), (1, 3), (3, 0), (2, 2), (4, 2), (5, 2), (6, 0)], [[], [], [1], [], [1, 2, 3], [0, 1, 2, 3, 4], [0, 1, 2, 3, 4, 5]]), (20, [(0, 0), (1, 3), (2, 0), (3, 0), (4, 0), (5, 0), (6, 3), (8, 0), (10, 0), (11, 0), (12, 0), (13, 0), (14, 0), (15, 0), (16, 3), (18, 0), (7, 4), (9, 4), (17, 2), (19, 2), (20, 0), (21, 0)], [[], [], [], [], [2, 3], [2, 3, 4], [2, 3, 4, 5], [1, 2, 3, 4, 5, 6], [], [0, 1, 2, 3, 4, 5, 6, 7, 8], [], [], [], [], [12, 13], [12, 13, 14], [12, 13, 14, 15], [0, 1, 2, 3, 4, 5, 6, 7, 8, 9, 11, 12, 13, 14, 15, 16], [], [0, 1, 2, 3, 4, 5, 6, 7, 8, 9, 10, 11, 12, 13, 14, 15, 16, 17, 18], [0, 1, 2, 3, 4, 5, 6, 7, 8, 9, 10, 11, 12, 13, 14, 15, 16, 17, 18, 19], [0, 1, 2, 3, 4, 5, 6, 7, 8, 9, 10, 11, 12, 13, 14, 15, 16, 17, 18, 19, 20]])] [(ResultVar.tmp 6), (ResultVar.tmp 7)] cd45 := ⟨by kernel_rfl, ⟨Tryd.f45, Tryd.func45, by kernel_rfl, by rfl, Tryd.ntmps45, congrArg Array.toList Tryd.results45⟩⟩
end Cd
end Go.Proofs.YtchpcjmgifnmdaaDoor
